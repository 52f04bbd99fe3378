/- The examples; two laws on the machine. -/
import Derived.Test.YtbdcgchgpdclaaaDisk7
namespace Go.Proofs.Ytbdcgchgpdclaaa
open Go Go.AM
attribute [local irreducible] Sat
set_option maxRecDepth 100000

theorem same_refl (a : Dk) : same a a = true := by simp [same]

/-- DiskChecks, on the machine. -/
theorem sat_checks (m : Dk) (o : Opn) : Sat Try.prog 4 [m.w, o.w] (fun r => r = oneB true) := by
  refine Sat_of_awpF F4_ok (by kernel_rfl) ?_
  obtain ⟨k, n, b⟩ := o
  refine Sat.mono sat_awake ?_
  rintro _ rfl
  obtain ⟨s, d, u, l, dn⟩ := m
  conv => whnf
  refine cond_i (fun h => ?_) (fun h => ?_)
  · refine Sat.mono sat_awake ?_
    rintro _ rfl
    rfl
  · conv => whnf
    refine cond_i (fun h2 => ?_) (fun h2 => ?_)
    · refine Sat.mono sat_awake ?_
      rintro _ rfl
      rfl
    · have h2 := of_decide_eq_false h2
      have hb : b.length ≤ 1048576 := by
        have h2 : ¬ ((enc b).length : Int) > 100 := h2
        rw [enc_length] at h2; omega
      refine Sat.mono (sat_act ⟨s, d, u, l, dn⟩ ⟨k, n, b⟩ hb) ?_
      rintro _ rfl
      refine Sat.mono (sat_expected ⟨s, d, u, l, dn⟩ ⟨k, n, b⟩ hb) ?_
      rintro _ rfl
      refine Sat.mono (sat_check ⟨s, d, u, l, dn⟩) ?_
      rintro _ rfl
      refine Sat.mono (sat_rcheck ⟨s, d, u, l, dn⟩) ?_
      rintro _ rfl
      generalize dact ⟨s, d, u, l, dn⟩ ⟨k, n, b⟩ = X
      generalize Dk.check ⟨s, d, u, l, dn⟩ = Y
      obtain ⟨X, e⟩ := X
      conv => whnf
      refine cond_i (fun _ => ?_) (fun h => ?_)
      · conv => whnf
        refine cond_i (fun _ => ?_) (fun h => ?_)
        · refine Sat.mono (sat_same X X) ?_
          rintro _ rfl
          rw [same_refl]
          rfl
        · simp at h
      · simp at h
end Go.Proofs.Ytbdcgchgpdclaaa
