/- DiskPrefix: the plain law. -/
import Derived.Test.YtbdcgchgpdclaaaDisk11
namespace Go.Proofs.Ytbdcgchgpdclaaa
open Go Go.AM

/-- What holds between two operations: what was written is what the disk holds; du bytes of it are durable. -/
def Pre (m : Dk) (du : Int) : Prop := Good m ∧ du ≤ m.dur ∧ 0 ≤ du

/-- An append to a disk that is up. -/
theorem pre_append {m : Dk} {du : Int} {x : List UInt8} (hp : Pre m du) (hd : m.down = false) :
    ((dappend m x).2 = 0 ∧ Pre (dappend m x).1 du ∧ (dappend m x).1.down = false ∧ (dappend m x).1.data = m.data ++ x) ∨
    ((dappend m x).2 = 19 ∧ Pre (dappend m x).1 du ∧ (dappend m x).1.down = true ∧ ∃ k, (dappend m x).1.data = m.data ++ x.take k) ∨
    ((dappend m x).2 ≠ 0 ∧ (dappend m x).2 ≠ 19) := by
  by_cases h : (dappend m x).2 = 0 ∨ (dappend m x).2 = 19
  · have hok := append_ok hp.1 hd h
    obtain ⟨hg, h1, h2⟩ := hp
    have hb := (good_iff m).2 hg
    unfold dappend at h hok ⊢
    rw [hb, hd] at h hok ⊢
    simp only [cond_false] at h hok ⊢
    cases g1 : decide ((m.data.length : Int) + x.length > m.size) <;> rw [g1] at h hok <;> simp only [cond_true, cond_false] at h hok ⊢
    · cases g2 : decide (m.left ≥ 0) && decide (m.left < x.length) <;> rw [g2] at h hok <;> simp only [cond_true, cond_false] at h hok ⊢
      · exact .inl ⟨trivial, ⟨hok.1, h1, h2⟩, trivial, trivial⟩
      · exact .inr (.inl ⟨trivial, ⟨hok.1, h1, h2⟩, trivial, _, rfl⟩)
    · rcases h with h | h <;> cases h
  · exact .inr (.inr ⟨fun e => h (.inl e), fun e => h (.inr e)⟩)

theorem pre_sync {m : Dk} {du : Int} (hp : Pre m du) (hd : m.down = false) :
    ((dsync m).2 = 0 ∧ Pre (dsync m).1 m.data.length ∧ (dsync m).1.down = false ∧ (dsync m).1.data = m.data) ∨ ((dsync m).2 = 19 ∧ Pre (dsync m).1 du ∧ (dsync m).1.down = true ∧ (dsync m).1.data = m.data) := by
  have hok := sync_ok hp.1 hd
  obtain ⟨hg, h1, h2⟩ := hp
  have hb := (good_iff m).2 hg
  unfold dsync at hok ⊢
  rw [hb, hd] at hok ⊢
  simp only [cond_false] at hok ⊢
  cases g2 : m.left == 0 <;> rw [g2] at hok <;> simp only [cond_true, cond_false] at hok ⊢
  · exact .inl ⟨trivial, ⟨hok.1, Int.le_refl _, by omega⟩, trivial, trivial⟩
  · exact .inr ⟨trivial, ⟨hok.1, h1, h2⟩, trivial, trivial⟩

theorem pre_trunc {m : Dk} {du n : Int} (hp : Pre m du) (hd : m.down = false) :
    ((dtrunc m n).2 = 0 ∧ 0 ≤ n ∧ n ≤ m.data.length ∧ Pre (dtrunc m n).1 (mmI false du n) ∧ (dtrunc m n).1.down = false ∧ (dtrunc m n).1.data = m.data.take n.toNat) ∨ ((dtrunc m n).2 ≠ 0 ∧ (dtrunc m n).2 ≠ 19) := by
  by_cases h : (dtrunc m n).2 = 0 ∨ (dtrunc m n).2 = 19
  · have hok := trunc_ok hp.1 hd h
    obtain ⟨hg, h1, h2⟩ := hp
    have hb := (good_iff m).2 hg
    unfold dtrunc at h hok ⊢
    rw [hb, hd] at h hok ⊢
    simp only [cond_false] at h hok ⊢
    cases g1 : decide (n < 0) || decide (n > m.data.length) <;> rw [g1] at h hok <;> simp only [cond_true, cond_false] at h hok ⊢
    · simp only [Bool.or_eq_false_iff, decide_eq_false_iff_not] at g1
      refine .inl ⟨trivial, by omega, by omega, ⟨hok.1, ?_, ?_⟩, trivial, trivial⟩
      · simp only [mm_min]; omega
      · simp only [mm_min]; omega
    · rcases h with h | h <;> cases h
  · exact .inr ⟨fun e => h (.inl e), fun e => h (.inr e)⟩

theorem pre_arm {m : Dk} {du n : Int} (hp : Pre m du) (hd : m.down = false) :
    ((darm m n).2 = 0 ∧ Pre (darm m n).1 du ∧ (darm m n).1.down = false ∧ (darm m n).1.data = m.data) ∨ ((darm m n).2 ≠ 0 ∧ (darm m n).2 ≠ 19) := by
  by_cases h : (darm m n).2 = 0 ∨ (darm m n).2 = 19
  · have hok := arm_ok hp.1 hd h
    obtain ⟨hg, h1, h2⟩ := hp
    have hb := (good_iff m).2 hg
    unfold darm at h hok ⊢
    rw [hb, hd] at h hok ⊢
    simp only [cond_false] at h hok ⊢
    cases g1 : decide (n < 0) || decide (n > 1048576) <;> rw [g1] at h hok <;> simp only [cond_true, cond_false] at h hok ⊢
    · exact .inl ⟨trivial, ⟨hok.1, h1, h2⟩, trivial, trivial⟩
    · rcases h with h | h <;> cases h
  · exact .inr ⟨fun e => h (.inl e), fun e => h (.inr e)⟩

theorem pre_crash {m : Dk} {du k : Int} (hp : Pre m du) : Pre (dcrash m k) (dcrash m k).data.length ∧ (dcrash m k).down = false ∧ (dcrash m k).left = -1 ∧ (dcrash m k).dur = (dcrash m k).data.length ∧
    (dcrash m k).data.length ≤ m.data.length ∧ (dcrash m k).data = m.data.take (dcrash m k).data.length ∧ du ≤ (dcrash m k).data.length := by
  have hok := crash_ok (n := k) hp.1
  obtain ⟨hg, h1, h2⟩ := hp
  have hb := (good_iff m).2 hg
  unfold dcrash at hok ⊢
  rw [hb] at hok ⊢
  simp only [cond_false, mm_min, mm_max] at hok ⊢
  unfold Good at hg
  have hn : (m.dur + max 0 (min k (↑m.data.length - m.dur))).toNat ≤ m.data.length := by omega
  have hl : (m.data.take (m.dur + max 0 (min k (↑m.data.length - m.dur))).toNat).length = (m.dur + max 0 (min k (↑m.data.length - m.dur))).toNat := by rw [List.length_take]; omega
  refine ⟨⟨hok.1, ?_, by omega⟩, trivial, trivial, ?_, ?_, ?_, ?_⟩
  · simp only [hl]; omega
  · rw [hl]; omega
  · rw [hl]; exact hn
  · rw [hl]
  · rw [hl]; omega
end Go.Proofs.Ytbdcgchgpdclaaa
