/- DiskKeeps, on the machine. -/
import Derived.Test.YtbdcgchgpdclaaaDisk12
import Derived.Test.YtbdcgchgpdclaaaDisk13
namespace Go.Proofs.Ytbdcgchgpdclaaa
open Go Go.AM
attribute [local irreducible] Sat
set_option maxRecDepth 100000

set_option maxHeartbeats 4000000 in
theorem sat_keeps (b : List UInt8) (os : List Opn) (k : Int) : Sat Try.prog 7 [.c (.d (.sl (enc b))), .c (opsC os), .c (int k)] (fun r => r = oneB true) := by
  refine Sat_of_awpF F7_ok (by kernel_rfl) ?_
  refine Sat.mono sat_awake ?_
  rintro _ rfl
  refine Sat.mono (sat_few os) ?_
  rintro _ rfl
  cases hf : few os
  · refine Sat.mono sat_awake ?_
    rintro _ rfl
    rfl
  · obtain ⟨hl, hall⟩ := few_len hf
    conv => whnf
    refine cond_i (fun h => ?_) (fun h => ?_)
    · refine Sat.mono sat_awake ?_
      rintro _ rfl
      rfl
    · have hb : b.length ≤ 100 := by
        have h : ¬ ((enc b).length : Int) > 100 := of_decide_eq_false h
        rw [enc_length] at h; omega
      obtain ⟨s1, s2, s3, hk0⟩ := keep_start hb
      refine Sat.mono (sat_new 1000) ?_
      rw [s1]
      rintro _ rfl
      refine Sat.mono (sat_append ⟨1000, [], 0, -1, false⟩ b (by omega)) ?_
      rw [s2]
      rintro _ rfl
      refine Sat.mono (sat_sync ⟨1000, b, 0, -1, false⟩) ?_
      rw [s3]
      rintro _ rfl
      refine ⟨fun s => ∃ (i : Nat) (m : Dk), s = ⟨[(0, .w (.c (.d (.sl (enc b))))), (1, .w (.c (opsC os))), (2, .w (.c (int k))), (7, cV (.ptr 7 0)), (11, intV i)], [(7, .box m.cells)]⟩ ∧ i ≤ os.length ∧ Keep b m,
        fun s => match litInt (s.tmp 11) with | some i => (os.length - i.toNat) | none => 0, ?_, ?_⟩
      · conv => whnf
        exact ⟨0, ⟨1000, b, b.length, -1, false⟩, rfl, Nat.zero_le _, hk0⟩
      · rintro _ ⟨i, m, rfl, hi, hk⟩
        conv => whnf
        refine cond_i (fun h1 => ?_) (fun h1 => ?_)
        · have h1 : (i : Int) < ((os.map Opn.d).length : Int) := of_decide_eq_true h1
          rw [List.length_map] at h1
          have hlt : i < os.length := by omega
          obtain ⟨o, ho⟩ : ∃ o, os[i]? = some o := ⟨os[i], List.getElem?_eq_getElem hlt⟩
          have hod := hall o (List.mem_of_getElem? ho)
          have hok := keep_act (o := o) hk
          refine ⟨by omega, o.d, ?_, rfl, ?_⟩
          · rw [Int.toNat_natCast, List.getElem?_map, ho]; rfl
          · refine Sat.mono (sat_act m o hod) ?_
            rintro _ rfl
            refine ⟨by omega, o.d, ?_, rfl, ?_⟩
            · rw [Int.toNat_natCast, List.getElem?_map, ho]; rfl
            · generalize dact m o = Y at hok
              obtain ⟨m', e⟩ := Y
              have hstep : ∀ m'' : Dk, Keep b m'' → ∃ (j : Nat) (m1 : Dk), (⟨[(0, .w (.c (.d (.sl (enc b))))), (1, .w (.c (opsC os))), (2, .w (.c (int k))), (7, cV (.ptr 7 0)), (11, intV (IntKind.i64.wrap ((i : Int) + 1)))], [(7, .box m''.cells)]⟩ : S) = ⟨[(0, .w (.c (.d (.sl (enc b))))), (1, .w (.c (opsC os))), (2, .w (.c (int k))), (7, cV (.ptr 7 0)), (11, intV j)], [(7, .box m1.cells)]⟩ ∧ j ≤ os.length ∧ Keep b m1 := by
                intro m'' hg''
                have hw : IntKind.i64.wrap ((i : Int) + 1) = ((i + 1 : Nat) : Int) := by rw [wrap64 (by omega) (by omega)]; omega
                exact ⟨i + 1, m'', by rw [hw], by omega, hg''⟩
              have hμ : os.length - (IntKind.i64.wrap ((i : Int) + 1)).toNat < os.length - ((i : Int)).toNat := by
                rw [wrap64 (by omega) (by omega)]; omega
              conv => whnf
              refine cond_i (fun h2 => ?_) (fun h2 => ?_)
              · have h2 : (o.kind == 5) = false := by
                  have h2 : (o.kind != 5) = true := h2
                  simpa [bne] using h2
                have hok := hok h2
                conv => whnf
                refine cond_i (fun h3 => ?_) (fun h3 => ?_)
                · have h3' : e = 0 := by simpa using h3
                  subst h3'
                  conv => whnf
                  exact ⟨hstep _ (hok (Or.inl rfl)), hμ⟩
                · conv => whnf
                  refine cond_i (fun h4 => ?_) (fun h4 => ?_)
                  · have h4' : e = 19 := by simpa using h4
                    subst h4'
                    conv => whnf
                    exact ⟨hstep _ (hok (Or.inr rfl)), hμ⟩
                  · conv => whnf
                    exact ⟨hstep _ hk, hμ⟩
              · conv => whnf
                exact ⟨hstep _ hk, hμ⟩
        · refine Sat.mono (sat_crash m k) ?_
          have hc := keep_crash (n := k) hk
          rintro _ rfl
          generalize dcrash m k = c at hc
          obtain ⟨hg, hd, ht⟩ := hc
          have hg := hg
          unfold Good at hg
          conv => whnf
          refine cond_i (fun h2 => ?_) (fun h2 => ?_)
          · have h2 : ((enc c.data).length : Int) ≥ ((enc b).length : Int) := of_decide_eq_true h2
            rw [enc_length, enc_length] at h2
            refine ⟨?_, ?_, ?_⟩
            · show (0 : Int) ≤ ((enc b).length : Int)
              omega
            · show ((enc b).length : Int) ≤ ((enc c.data).length : Int)
              rw [enc_length, enc_length]; omega
            · have ht' : (enc c.data).take (((enc b).length : Int)).toNat = enc b := by
                rw [Int.toNat_natCast, enc_length, enc_take, ht]
              refine ⟨bytes b, ht'.trans (enc_bytes b), bytes b, enc_bytes b, ?_⟩
              refine Eq.trans (b := oneB ((bytes b).toList == (bytes b).toList)) rfl ?_
              rw [bytes_eq, beq_self_eq_true]
          · have h2 : ¬ ((enc c.data).length : Int) ≥ ((enc b).length : Int) := of_decide_eq_false h2
            rw [enc_length, enc_length] at h2
            exact absurd hg (by omega)
end Go.Proofs.Ytbdcgchgpdclaaa
