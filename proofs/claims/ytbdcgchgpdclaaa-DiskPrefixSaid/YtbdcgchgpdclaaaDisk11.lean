/- DiskPlays, on the machine. -/
import Derived.Test.YtbdcgchgpdclaaaDisk9
namespace Go.Proofs.Ytbdcgchgpdclaaa
open Go Go.AM
attribute [local irreducible] Sat
set_option maxRecDepth 100000

def Good (m : Dk) : Prop := 1 ≤ m.size ∧ m.size ≤ 1048576 ∧ (m.data.length : Int) ≤ m.size ∧ 0 ≤ m.dur ∧ m.dur ≤ m.data.length ∧ -1 ≤ m.left ∧ m.left ≤ 1048576
theorem good_iff (m : Dk) : m.bad = false ↔ Good m := by
  unfold Good
  simp only [Dk.bad, Bool.or_eq_false_iff, decide_eq_false_iff_not]
  omega

theorem mm_min (a b : Int) : mmI false a b = min a b := by
  unfold mmI; simp only [cond_false]; split <;> omega
theorem mm_max (a b : Int) : mmI true a b = max a b := by
  unfold mmI; simp only [cond_true]; split <;> omega

/-- What an operation on a valid disk that is up may do. -/
theorem append_ok {m : Dk} {b : List UInt8} (hg : Good m) (hd : m.down = false) (h : (dappend m b).2 = 0 ∨ (dappend m b).2 = 19) :
    Good (dappend m b).1 ∧ (dappend m b).1.down = ((dappend m b).2 == 19) := by
  have hb := (good_iff m).2 hg
  unfold dappend at h ⊢
  rw [hb, hd] at h ⊢
  simp only [cond_false] at h ⊢
  cases h1 : decide ((m.data.length : Int) + b.length > m.size) <;> rw [h1] at h <;> simp only [cond_true, cond_false] at h ⊢
  · have h1 := of_decide_eq_false h1
    cases h2 : decide (m.left ≥ 0) && decide (m.left < b.length) <;> rw [h2] at h <;> simp only [cond_true, cond_false] at h ⊢
    · refine ⟨?_, rfl⟩
      unfold Good at hg ⊢
      simp only [List.length_append]
      cases h3 : decide (m.left ≥ 0) <;> simp only [cond_true, cond_false]
      · omega
      · rw [h3] at h2
        have := of_decide_eq_false (by simpa using h2 : decide (m.left < b.length) = false)
        have := of_decide_eq_true h3
        omega
    · refine ⟨?_, rfl⟩
      unfold Good at hg ⊢
      simp only [List.length_append, List.length_take]
      omega
  · rcases h with h | h <;> cases h

theorem sync_ok {m : Dk} (hg : Good m) (hd : m.down = false) : Good (dsync m).1 ∧ (dsync m).1.down = ((dsync m).2 == 19) := by
  have hb := (good_iff m).2 hg
  unfold dsync
  rw [hb, hd]
  simp only [cond_false]
  cases h2 : m.left == 0 <;> simp only [cond_true, cond_false]
  · refine ⟨?_, rfl⟩
    unfold Good at hg ⊢
    simp only
    omega
  · exact ⟨hg, rfl⟩

theorem trunc_ok {m : Dk} {n : Int} (hg : Good m) (hd : m.down = false) (h : (dtrunc m n).2 = 0 ∨ (dtrunc m n).2 = 19) : Good (dtrunc m n).1 ∧ (dtrunc m n).1.down = ((dtrunc m n).2 == 19) := by
  have hb := (good_iff m).2 hg
  unfold dtrunc at h ⊢
  rw [hb, hd] at h ⊢
  simp only [cond_false] at h ⊢
  cases h1 : decide (n < 0) || decide (n > m.data.length) <;> rw [h1] at h <;> simp only [cond_true, cond_false] at h ⊢
  · simp only [Bool.or_eq_false_iff, decide_eq_false_iff_not] at h1
    refine ⟨?_, rfl⟩
    unfold Good at hg ⊢
    simp only [List.length_take, mm_min]
    omega
  · rcases h with h | h <;> cases h

theorem arm_ok {m : Dk} {n : Int} (hg : Good m) (hd : m.down = false) (h : (darm m n).2 = 0 ∨ (darm m n).2 = 19) : Good (darm m n).1 ∧ (darm m n).1.down = ((darm m n).2 == 19) := by
  have hb := (good_iff m).2 hg
  unfold darm at h ⊢
  rw [hb, hd] at h ⊢
  simp only [cond_false] at h ⊢
  cases h1 : decide (n < 0) || decide (n > 1048576) <;> rw [h1] at h <;> simp only [cond_true, cond_false] at h ⊢
  · simp only [Bool.or_eq_false_iff, decide_eq_false_iff_not] at h1
    refine ⟨?_, rfl⟩
    unfold Good at hg ⊢
    simp only
    omega
  · rcases h with h | h <;> cases h

theorem crash_ok {m : Dk} {n : Int} (hg : Good m) : Good (dcrash m n) ∧ (dcrash m n).down = false := by
  have hb := (good_iff m).2 hg
  unfold dcrash
  rw [hb]
  simp only [cond_false]
  refine ⟨?_, trivial⟩
  unfold Good at hg ⊢
  simp only [List.length_take, mm_min, mm_max]
  omega

theorem act_ok {m : Dk} {o : Opn} (hg : Good m) (h : (dact m o).2 = 0 ∨ (dact m o).2 = 19) : Good (dact m o).1 ∧ (dact m o).1.down = ((dact m o).2 == 19) := by
  have hb := (good_iff m).2 hg
  by_cases h7 : (o.kind == 7) = true
  · have h7' := eq_of_beq h7
    unfold dact at h ⊢
    rw [h7'] at h ⊢
    exact ⟨(crash_ok hg).1, (crash_ok hg).2⟩
  · have h7 : (o.kind == 7) = false := by simpa using h7
    cases hd : m.down
    · unfold dact at h ⊢
      rw [h7] at h ⊢
      cases h1 : (o.kind == 3 || o.kind == 4) <;> rw [h1] at h <;> simp only [cond_true, cond_false] at h ⊢
      · cases h2 : (o.kind == 5) <;> rw [h2] at h <;> simp only [cond_true, cond_false] at h ⊢
        · cases h3 : (o.kind == 6) <;> rw [h3] at h <;> simp only [cond_true, cond_false] at h ⊢
          · exact append_ok hg hd h
          · exact arm_ok hg hd h
        · exact trunc_ok hg hd h
      · exact sync_ok hg hd
    · rw [down_act hb hd h7]
      exact ⟨hg, hd⟩
end Go.Proofs.Ytbdcgchgpdclaaa
