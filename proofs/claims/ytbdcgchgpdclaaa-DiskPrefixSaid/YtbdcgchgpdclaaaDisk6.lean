/- The laws' own helpers: Same, few. -/
import Derived.Test.YtbdcgchgpdclaaaDisk5
namespace Go.Proofs.Ytbdcgchgpdclaaa
open Go Go.AM
attribute [local irreducible] Sat
set_option maxRecDepth 100000

def oneB (b : Bool) : Res := ⟨.w (.c (bool b)), []⟩
def same (a b : Dk) : Bool := a.size == b.size && a.data == b.data && a.dur == b.dur && a.left == b.left && a.down == b.down

theorem bytes_eq (a b : List UInt8) : ((bytes a).toList == (bytes b).toList) = (a == b) := by
  rw [ByteArray.toList_eq, ByteArray.toList_eq]; rfl

theorem sat_same (a b : Dk) : Sat Try.prog 12 [a.w, b.w] (fun r => r = oneB (same a b)) := by
  refine Sat_of_awpF F12_ok (by kernel_rfl) ?_
  obtain ⟨s1, d1, u1, l1, dn1⟩ := a
  obtain ⟨s2, d2, u2, l2, dn2⟩ := b
  unfold same
  conv => whnf
  refine cond_i (fun h => ?_) (fun h => ?_)
  · simp only [h, Bool.true_and]
    refine ⟨bytes d1, enc_bytes d1, ?_⟩
    refine ⟨bytes d2, enc_bytes d2, ?_⟩
    conv => whnf
    refine cond_i (fun h2 => ?_) (fun h2 => ?_)
    · rw [bytes_eq] at h2
      simp only [h2, Bool.true_and]
      conv => whnf
      refine cond_i (fun h3 => ?_) (fun h3 => ?_)
      · simp only [h3, Bool.true_and]
        conv => whnf
        refine cond_i (fun h4 => ?_) (fun h4 => ?_)
        · simp only [h4, Bool.true_and]
          cases dn1 <;> cases dn2 <;> rfl
        · simp only [h4, Bool.false_and]
          rfl
      · simp only [h3, Bool.false_and]
        rfl
    · rw [bytes_eq] at h2
      simp only [h2, Bool.false_and]
      rfl
  · simp only [h, Bool.false_and]
    rfl

def Opn.d (o : Opn) : List D := [.lit (.int .i64 o.kind), .lit (.int .i64 o.n), .sl (enc o.data)]
def opsC (os : List Opn) : C := .d (.sl (os.map Opn.d))
def few (os : List Opn) : Bool := !decide (os.length > 40) && os.all fun o => !decide ((o.data.length : Int) > 100)

theorem sat_few (os : List Opn) : Sat Try.prog 9 [.c (opsC os)] (fun r => r = oneB (few os)) := by
  refine Sat_of_awpF F9_ok (by kernel_rfl) ?_
  generalize hR : few os = R
  unfold few at hR
  conv => whnf
  refine cond_i (fun h => ?_) (fun h => ?_)
  · have h : ((os.map Opn.d).length : Int) > 40 := of_decide_eq_true h
    rw [List.length_map] at h
    have h40 : decide (os.length > 40) = true := decide_eq_true (by omega)
    rw [h40] at hR
    simp only [Bool.not_true, Bool.false_and] at hR
    subst hR
    rfl
  · have h : ¬ ((os.map Opn.d).length : Int) > 40 := of_decide_eq_false h
    rw [List.length_map] at h
    have h40 : decide (os.length > 40) = false := decide_eq_false (by omega)
    rw [h40] at hR
    simp only [Bool.not_false, Bool.true_and] at hR
    refine ⟨fun s => ∃ i : Nat, s = ⟨[(0, .w (.c (opsC os))), (3, intV i)], []⟩ ∧ i ≤ os.length ∧ ∀ o ∈ os.take i, ¬ ((o.data.length : Int) > 100), fun s => match litInt (s.tmp 3) with | some i => (os.length - i.toNat) | none => 0, ?_, ?_⟩
    · refine ⟨0, rfl, Nat.zero_le _, ?_⟩
      intro o ho
      cases ho
    · rintro _ ⟨i, rfl, hi, hall⟩
      conv => whnf
      refine cond_i (fun h1 => ?_) (fun h1 => ?_)
      · have h1 : (i : Int) < ((os.map Opn.d).length : Int) := of_decide_eq_true h1
        rw [List.length_map] at h1
        have hlt : i < os.length := by omega
        obtain ⟨o, ho⟩ : ∃ o, os[i]? = some o := ⟨os[i], List.getElem?_eq_getElem hlt⟩
        refine ⟨by omega, o.d, ?_, rfl, ?_⟩
        · rw [Int.toNat_natCast, List.getElem?_map, ho]; rfl
        · conv => whnf
          refine cond_i (fun h2 => ?_) (fun h2 => ?_)
          · have h2 : ((enc o.data).length : Int) > 100 := of_decide_eq_true h2
            rw [enc_length] at h2
            have : R = false := by
              rw [← hR]
              rw [List.all_eq_false]
              exact ⟨o, List.mem_of_getElem? ho, by simpa using h2⟩
            subst this
            rfl
          · have h2 : ¬ ((enc o.data).length : Int) > 100 := of_decide_eq_false h2
            rw [enc_length] at h2
            have hw : IntKind.i64.wrap ((i : Int) + 1) = ((i + 1 : Nat) : Int) := by rw [wrap64 (by omega) (by omega)]; omega
            refine ⟨⟨i + 1, ?_, hlt, ?_⟩, ?_⟩
            · show (⟨[(0, .w (.c (opsC os))), (3, intV (IntKind.i64.wrap ((i : Int) + 1)))], []⟩ : S) = _
              rw [hw]
            · intro o' ho'
              rw [List.take_add_one, ho] at ho'
              rcases List.mem_append.1 ho' with h | h
              · exact hall o' h
              · simp at h; subst h; exact h2
            · show os.length - (IntKind.i64.wrap ((i : Int) + 1)).toNat < os.length - ((i : Int)).toNat
              rw [hw]; omega
      · have h1 : ¬ (i : Int) < ((os.map Opn.d).length : Int) := of_decide_eq_false h1
        rw [List.length_map] at h1
        have hie : i = os.length := by omega
        have : R = true := by
          rw [← hR, List.all_eq_true]
          intro o ho
          have := hall o (by rw [hie, List.take_length]; exact ho)
          simpa using this
        subst this
        rfl
end Go.Proofs.Ytbdcgchgpdclaaa
