/- DiskDown, on the machine. -/
import Derived.Test.YtbdcgchgpdclaaaDisk8
namespace Go.Proofs.Ytbdcgchgpdclaaa
open Go Go.AM
attribute [local irreducible] Sat
set_option maxRecDepth 100000

theorem down_act {m : Dk} {o : Opn} (hb : m.bad = false) (hd : m.down = true) (h7 : (o.kind == 7) = false) : dact m o = (m, 19) := by
  unfold dact
  rw [h7]
  cases (o.kind == 3 || o.kind == 4) <;> cases (o.kind == 5) <;> cases (o.kind == 6) <;> simp only [cond_true, cond_false, dsync, dtrunc, darm, dappend, hb, hd]

theorem sat_down (m : Dk) (o : Opn) : Sat Try.prog 6 [m.w, o.w] (fun r => r = oneB true) := by
  refine Sat_of_awpF F6_ok (by kernel_rfl) ?_
  obtain ⟨k, n, b⟩ := o
  refine Sat.mono sat_awake ?_
  rintro _ rfl
  obtain ⟨s, d, u, l, dn⟩ := m
  conv => whnf
  refine cond_i (fun h => ?_) (fun h => ?_)
  · refine Sat.mono sat_awake ?_
    rintro _ rfl
    rfl
  · conv => whnf
    refine cond_i (fun h2 => ?_) (fun h2 => ?_)
    · refine Sat.mono sat_awake ?_
      rintro _ rfl
      rfl
    · have h2 := of_decide_eq_false h2
      have hb : b.length ≤ 1048576 := by
        have h2 : ¬ ((enc b).length : Int) > 100 := h2
        rw [enc_length] at h2; omega
      conv => whnf
      refine cond_i (fun h3 => ?_) (fun h3 => ?_)
      · refine Sat.mono sat_awake ?_
        rintro _ rfl
        rfl
      · refine Sat.mono (sat_check ⟨s, d, u, l, true⟩) ?_
        intro r hr
        simp only [Dk.check] at hr
        cases hbad : Dk.bad ⟨s, d, u, l, true⟩ <;> rw [hbad] at hr <;> simp only [cond_true, cond_false] at hr <;> subst hr
        · refine Sat.mono (sat_act ⟨s, d, u, l, true⟩ ⟨k, n, b⟩ hb) ?_
          rw [down_act hbad rfl h3]
          rintro _ rfl
          refine Sat.mono (sat_same ⟨s, d, u, l, true⟩ ⟨s, d, u, l, true⟩) ?_
          rintro _ rfl
          rw [same_refl]
          rfl
        · rfl
end Go.Proofs.Ytbdcgchgpdclaaa
