/- DiskPlays, on the machine. -/
import Derived.Test.YtbdcgchgpdclaaaDisk11
namespace Go.Proofs.Ytbdcgchgpdclaaa
open Go Go.AM
attribute [local irreducible] Sat
set_option maxRecDepth 100000

def Dk.cells (m : Dk) : List C := [int m.size, .d (.sl (enc m.data)), int m.dur, int m.left, bool m.down]
theorem new_ok {n : Int} (h : (dnew n).2 = 0) : Good (dnew n).1 := by
  unfold dnew at h ⊢
  cases h1 : (decide (n < 1) || decide (n > 1048576)) <;> rw [h1] at h <;> simp only [cond_true, cond_false] at h ⊢
  · simp only [Bool.or_eq_false_iff, decide_eq_false_iff_not] at h1
    unfold Good
    simp only [List.length_nil]
    omega
  · cases h
theorem few_len {os : List Opn} (h : few os = true) : os.length ≤ 40 ∧ ∀ o ∈ os, o.data.length ≤ 1048576 := by
  unfold few at h
  rw [Bool.and_eq_true, List.all_eq_true] at h
  refine ⟨?_, fun o ho => ?_⟩
  · have := h.1
    simp at this
    exact this
  · have := h.2 o ho
    simp at this
    omega
theorem ne_self (e : Int) : (e != e) = false := by simp

set_option maxHeartbeats 4000000 in
theorem sat_plays (n : Int) (os : List Opn) : Sat Try.prog 3 [.c (int n), .c (opsC os)] (fun r => r = oneB true) := by
  refine Sat_of_awpF F3_ok (by kernel_rfl) ?_
  refine Sat.mono sat_awake ?_
  rintro _ rfl
  refine Sat.mono (sat_few os) ?_
  rintro _ rfl
  cases hf : few os
  · refine Sat.mono sat_awake ?_
    rintro _ rfl
    rfl
  · obtain ⟨hl, hall⟩ := few_len hf
    refine Sat.mono (sat_new n) ?_
    rintro _ rfl
    refine Sat.mono (sat_rnew n) ?_
    rintro _ rfl
    have hg0 : (dnew n).2 = 0 → Good (dnew n).1 := new_ok
    generalize dnew n = X at hg0
    obtain ⟨m0, e0⟩ := X
    conv => whnf
    rw [ne_self]
    conv => whnf
    refine Sat.mono (sat_same m0 m0) ?_
    rintro _ rfl
    rw [same_refl]
    conv => whnf
    refine cond_i (fun h => ?_) (fun h => ?_)
    · rfl
    · have h0 : e0 = 0 := by simpa using h
      subst h0
      have hg0 := hg0 rfl
      refine ⟨fun s => ∃ (i : Nat) (m : Dk), s = ⟨[(1, .w (.c (opsC os))), (5, cV (.ptr 5 0)), (7, cV (.ptr 7 0)), (9, intV i)], [(5, .box m.cells), (7, .box m.cells)]⟩ ∧ i ≤ os.length ∧ Good m,
        fun s => match litInt (s.tmp 9) with | some i => (os.length - i.toNat) | none => 0, ?_, ?_⟩
      · conv => whnf
        exact ⟨0, m0, rfl, Nat.zero_le _, hg0⟩
      · rintro _ ⟨i, m, rfl, hi, hg⟩
        conv => whnf
        refine cond_i (fun h1 => ?_) (fun h1 => ?_)
        · have h1 : (i : Int) < ((os.map Opn.d).length : Int) := of_decide_eq_true h1
          rw [List.length_map] at h1
          have hlt : i < os.length := by omega
          obtain ⟨o, ho⟩ : ∃ o, os[i]? = some o := ⟨os[i], List.getElem?_eq_getElem hlt⟩
          have hod := hall o (List.mem_of_getElem? ho)
          have hok := act_ok (o := o) hg
          refine ⟨by omega, o.d, ?_, rfl, ?_⟩
          · rw [Int.toNat_natCast, List.getElem?_map, ho]; rfl
          · refine Sat.mono (sat_act m o hod) ?_
            rintro _ rfl
            refine ⟨by omega, o.d, ?_, rfl, ?_⟩
            · rw [Int.toNat_natCast, List.getElem?_map, ho]; rfl
            · refine Sat.mono (sat_expected m o hod) ?_
              rintro _ rfl
              generalize dact m o = Y at hok
              obtain ⟨m', e⟩ := Y
              conv => whnf
              rw [ne_self]
              conv => whnf
              refine Sat.mono (sat_same m' m') ?_
              rintro _ rfl
              rw [same_refl]
              conv => whnf
              have hstep : ∀ m'' : Dk, Good m'' → ∃ (j : Nat) (m1 : Dk), (⟨[(1, .w (.c (opsC os))), (5, cV (.ptr 5 0)), (7, cV (.ptr 7 0)), (9, intV (IntKind.i64.wrap ((i : Int) + 1)))], [(5, .box m''.cells), (7, .box m''.cells)]⟩ : S) = ⟨[(1, .w (.c (opsC os))), (5, cV (.ptr 5 0)), (7, cV (.ptr 7 0)), (9, intV j)], [(5, .box m1.cells), (7, .box m1.cells)]⟩ ∧ j ≤ os.length ∧ Good m1 := by
                intro m'' hg''
                have hw : IntKind.i64.wrap ((i : Int) + 1) = ((i + 1 : Nat) : Int) := by rw [wrap64 (by omega) (by omega)]; omega
                exact ⟨i + 1, m'', by rw [hw], by omega, hg''⟩
              have hμ : os.length - (IntKind.i64.wrap ((i : Int) + 1)).toNat < os.length - ((i : Int)).toNat := by
                rw [wrap64 (by omega) (by omega)]; omega
              refine cond_i (fun h2 => ?_) (fun h2 => ?_)
              · have h2' : e = 0 := by simpa using h2
                subst h2'
                obtain ⟨hg', hd'⟩ := hok (Or.inl rfl)
                refine Sat.mono (sat_check m') ?_
                rintro _ rfl
                have hck : m'.check = 0 := by unfold Dk.check; rw [(good_iff m').2 hg']; rfl
                rw [hck]
                obtain ⟨a1, a2, a3, a4, a5⟩ := m'
                have hd' : a5 = false := hd'
                subst hd'
                conv => whnf
                exact ⟨hstep _ hg', hμ⟩
              · conv => whnf
                refine cond_i (fun h3 => ?_) (fun h3 => ?_)
                · have h3' : e = 19 := by simpa using h3
                  subst h3'
                  obtain ⟨hg', hd'⟩ := hok (Or.inr rfl)
                  refine Sat.mono (sat_check m') ?_
                  rintro _ rfl
                  have hck : m'.check = 0 := by unfold Dk.check; rw [(good_iff m').2 hg']; rfl
                  rw [hck]
                  obtain ⟨a1, a2, a3, a4, a5⟩ := m'
                  have hd' : a5 = true := hd'
                  subst hd'
                  conv => whnf
                  exact ⟨hstep _ hg', hμ⟩
                · conv => whnf
                  exact ⟨hstep _ hg, hμ⟩
        · rfl
end Go.Proofs.Ytbdcgchgpdclaaa
