/- DiskKeeps: the plain law. -/
import Derived.Test.YtbdcgchgpdclaaaDisk11
namespace Go.Proofs.Ytbdcgchgpdclaaa
open Go Go.AM

def Keep (b : List UInt8) (m : Dk) : Prop := Good m ∧ (b.length : Int) ≤ m.dur ∧ m.data.take b.length = b

theorem take_of_take {b d : List UInt8} {n : Nat} (h : d.take b.length = b) (hn : b.length ≤ n) : (d.take n).take b.length = b := by
  rw [List.take_take, Nat.min_eq_left hn, h]
theorem take_append_of {b d e : List UInt8} (h : d.take b.length = b) : (d ++ e).take b.length = b := by
  have hl : b.length ≤ d.length := by
    have := congrArg List.length h
    rw [List.length_take] at this
    omega
  rw [List.take_append_of_le_length hl, h]

theorem keep_append {b : List UInt8} {m : Dk} {x : List UInt8} (hk : Keep b m) (hd : m.down = false) (h : (dappend m x).2 = 0 ∨ (dappend m x).2 = 19) : Keep b (dappend m x).1 := by
  refine ⟨(append_ok hk.1 hd h).1, ?_⟩
  obtain ⟨hg, h1, h2⟩ := hk
  have hb := (good_iff m).2 hg
  unfold dappend at h ⊢
  rw [hb, hd] at h ⊢
  simp only [cond_false] at h ⊢
  cases g1 : decide ((m.data.length : Int) + x.length > m.size) <;> rw [g1] at h <;> simp only [cond_true, cond_false] at h ⊢
  · cases g2 : decide (m.left ≥ 0) && decide (m.left < x.length) <;> simp only [cond_true, cond_false]
    · exact ⟨h1, take_append_of h2⟩
    · exact ⟨h1, take_append_of h2⟩
  · rcases h with h | h <;> cases h

theorem keep_sync {b : List UInt8} {m : Dk} (hk : Keep b m) (hd : m.down = false) : Keep b (dsync m).1 := by
  refine ⟨(sync_ok hk.1 hd).1, ?_⟩
  obtain ⟨hg, h1, h2⟩ := hk
  have hb := (good_iff m).2 hg
  unfold dsync
  rw [hb, hd]
  simp only [cond_false]
  cases g2 : m.left == 0 <;> simp only [cond_true, cond_false]
  · refine ⟨?_, h2⟩
    unfold Good at hg
    omega
  · exact ⟨h1, h2⟩

theorem keep_arm {b : List UInt8} {m : Dk} {n : Int} (hk : Keep b m) (hd : m.down = false) (h : (darm m n).2 = 0 ∨ (darm m n).2 = 19) : Keep b (darm m n).1 := by
  refine ⟨(arm_ok hk.1 hd h).1, ?_⟩
  obtain ⟨hg, h1, h2⟩ := hk
  have hb := (good_iff m).2 hg
  unfold darm at h ⊢
  rw [hb, hd] at h ⊢
  simp only [cond_false] at h ⊢
  cases g1 : decide (n < 0) || decide (n > 1048576) <;> rw [g1] at h <;> simp only [cond_true, cond_false] at h ⊢
  · exact ⟨h1, h2⟩
  · rcases h with h | h <;> cases h

theorem keep_crash {b : List UInt8} {m : Dk} {n : Int} (hk : Keep b m) : Keep b (dcrash m n) := by
  refine ⟨(crash_ok hk.1).1, ?_⟩
  obtain ⟨hg, h1, h2⟩ := hk
  have hb := (good_iff m).2 hg
  unfold dcrash
  rw [hb]
  simp only [cond_false, mm_min, mm_max]
  unfold Good at hg
  refine ⟨by omega, take_of_take h2 (by omega)⟩

theorem keep_act {b : List UInt8} {m : Dk} {o : Opn} (hk : Keep b m) (h5 : (o.kind == 5) = false) (h : (dact m o).2 = 0 ∨ (dact m o).2 = 19) : Keep b (dact m o).1 := by
  have hb := (good_iff m).2 hk.1
  by_cases h7 : (o.kind == 7) = true
  · have h7' := eq_of_beq h7
    unfold dact at h ⊢
    rw [h7'] at h ⊢
    exact keep_crash hk
  · have h7 : (o.kind == 7) = false := by simpa using h7
    cases hd : m.down
    · unfold dact at h ⊢
      rw [h7, h5] at h ⊢
      cases h1 : (o.kind == 3 || o.kind == 4) <;> rw [h1] at h <;> simp only [cond_true, cond_false] at h ⊢
      · cases h3 : (o.kind == 6) <;> rw [h3] at h <;> simp only [cond_true, cond_false] at h ⊢
        · exact keep_append hk hd h
        · exact keep_arm hk hd h
      · exact keep_sync hk hd
    · rw [down_act hb hd h7]
      exact hk

theorem keep_start {b : List UInt8} (hb : b.length ≤ 100) : dnew 1000 = (⟨1000, [], 0, -1, false⟩, 0) ∧ dappend ⟨1000, [], 0, -1, false⟩ b = (⟨1000, b, 0, -1, false⟩, 0) ∧
    dsync ⟨1000, b, 0, -1, false⟩ = (⟨1000, b, b.length, -1, false⟩, 0) ∧ Keep b ⟨1000, b, b.length, -1, false⟩ := by
  have g0 : Good ⟨1000, [], 0, -1, false⟩ := by unfold Good; simp
  have g1 : Good ⟨1000, b, 0, -1, false⟩ := by unfold Good; simp; omega
  refine ⟨rfl, ?_, ?_, ?_, Int.le_refl _, List.take_length⟩
  · unfold dappend
    rw [(good_iff _).2 g0]
    simp only [cond_false]
    have : decide ((([] : List UInt8).length : Int) + b.length > 1000) = false := decide_eq_false (by simp; omega)
    rw [this]
    rfl
  · unfold dsync
    rw [(good_iff _).2 g1]
    rfl
  · unfold Good; simp; omega
end Go.Proofs.Ytbdcgchgpdclaaa
