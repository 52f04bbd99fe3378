/- The disk: what its functions compute, cuts. -/
import Derived.Test.YtbdcgchgpdclaaaDisk2
namespace Go.Proofs.Ytbdcgchgpdclaaa
open Go Go.AM
attribute [local irreducible] Sat
set_option maxRecDepth 100000

def dtrunc (m : Dk) (n : Int) : Dk × Int :=
  bif m.bad then (zeroDk, 2) else bif m.down then (m, 19) else
  bif n < 0 || n > m.data.length then (zeroDk, 2) else (⟨m.size, m.data.take n.toNat, mmI false m.dur n, m.left, false⟩, 0)

theorem sat_rtrunc (m : Dk) (n : Int) : Sat Try.prog 23 [m.w, .c (int n)] (fun r => r = res2 (dtrunc m n)) := by
  refine sat_dq (Sat_of_awpF F23_ok (by kernel_rfl) ?_)
  obtain ⟨s, d, u, l, dn⟩ := m
  refine Sat.mono (sat_ready _) ?_
  intro r hr
  simp only [dup] at hr
  unfold dtrunc
  cases hb : Dk.bad ⟨s, d, u, l, dn⟩ <;> rw [hb] at hr <;> simp only [cond_true, cond_false] at hr ⊢
  · cases dn <;> simp only [cond_true, cond_false] at hr ⊢ <;> subst hr
    · conv => whnf
      refine cond_i (fun h => ?_) (fun h => ?_)
      · simp only [h, Bool.true_or, cond_true]
        exact ⟨rfl, rfl⟩
      · conv => whnf
        refine cond_i (fun h2 => ?_) (fun h2 => ?_)
        · have h2 : decide (n > d.length) = true := by rw [enc_length] at h2; exact h2
          simp only [h2, Bool.or_true, cond_true]
          exact ⟨rfl, rfl⟩
        · have h2 : decide (n > d.length) = false := by rw [enc_length] at h2; exact h2
          simp only [h, h2, Bool.or_false, cond_false]
          have g1 := of_decide_eq_false h
          have g2 := of_decide_eq_false h2
          have hl := (bad_len hb).1
          simp only at hl
          refine ⟨by simp only [orI]; omega, by show n ≤ ((enc d).length : Int); rw [enc_length]; omega, ?_⟩
          have ht : (enc d).take (orI (some n) ↑(enc d).length).toNat = enc (d.take n.toNat) := enc_take d n.toNat
          have hlt : (d.take n.toNat).length ≤ 1048576 := Nat.le_trans (List.length_take_le' _ _) hl
          rw [ht]
          refine ⟨enc_one _, fits_one ?_, ?_, ?_⟩
          · show 0 + (enc (d.take n.toNat)).length ≤ _; rw [enc_length]; omega
          · show 0 + (enc (d.take n.toNat)).length ≤ _; rw [enc_length]; omega
          · refine ⟨rfl, ?_⟩
            refine Eq.trans (b := res2c ⟨s, [], mmI false u n, l, false⟩ (.d (.sl (([] ++ enc (d.take n.toNat)).take (0 + (enc (d.take n.toNat)).length)))) 0 []) rfl ?_
            rw [List.nil_append, Nat.zero_add, enc_all]; rfl
    · exact ⟨rfl, rfl⟩
  · subst hr; exact ⟨rfl, rfl⟩

theorem sat_trunc (m : Dk) (n : Int) : Sat Try.prog 21 [m.w, .c (int n)] (fun r => r = res2 (dtrunc m n)) := by
  refine sat_dq (Sat_of_awpF F21_ok (by kernel_rfl) ?_)
  obtain ⟨s, d, u, l, dn⟩ := m
  refine Sat.mono (sat_up _) ?_
  rintro r (⟨h1, rfl⟩ | ⟨h1, h2, rfl⟩ | ⟨h1, h2, h3⟩)
  · refine ⟨rfl, ?_⟩
    simp only [dtrunc, h1, cond_true]
    rfl
  · cases h2
    refine ⟨rfl, ?_⟩
    simp only [dtrunc, h1, cond_true, cond_false]
    rfl
  · cases h2
    simp only [dtrunc, h1, cond_false]
    rcases h3 with ⟨h3, rfl⟩ | rfl
    · have h3 : d = [] := h3
      subst h3
      conv => whnf
      refine cond_i (fun h => ?_) (fun h => ?_)
      · simp only [h, Bool.true_or, cond_true]
        exact ⟨rfl, rfl⟩
      · conv => whnf
        refine cond_i (fun h2 => ?_) (fun h2 => ?_)
        · have h2 : decide (n > (([] : List UInt8).length : Int)) = true := h2
          simp only [h2, Bool.or_true, cond_true]
          exact ⟨rfl, rfl⟩
        · have h2 : decide (n > (([] : List UInt8).length : Int)) = false := h2
          simp only [h, h2, Bool.or_false, cond_false]
          have g1 := of_decide_eq_false h
          have g2 : ¬ n > 0 := of_decide_eq_false h2
          have hn : n = 0 := by omega
          subst hn
          refine ⟨Int.le_refl _, Int.le_refl _, Int.le_refl _, ?_⟩
          exact ⟨rfl, rfl⟩
    · conv => whnf
      refine cond_i (fun h => ?_) (fun h => ?_)
      · simp only [h, Bool.true_or, cond_true]
        exact ⟨rfl, rfl⟩
      · conv => whnf
        refine cond_i (fun h2 => ?_) (fun h2 => ?_)
        · have h2 : decide (n > d.length) = true := h2
          simp only [h2, Bool.or_true, cond_true]
          exact ⟨rfl, rfl⟩
        · have h2 : decide (n > d.length) = false := h2
          simp only [h, h2, Bool.or_false, cond_false]
          have g1 := of_decide_eq_false h
          have g2 := of_decide_eq_false h2
          refine ⟨by simp only [orI]; omega, by show n ≤ (d.length : Int); omega, ?_⟩
          refine ⟨rfl, ?_⟩
          refine Eq.trans (b := res2c ⟨s, [], mmI false u n, l, false⟩ (.d (.sl ((enc d).take n.toNat))) 0 []) rfl ?_
          rw [enc_take]; rfl

def dcrash (m : Dk) (k : Int) : Dk :=
  bif m.bad then m else
  ⟨m.size, m.data.take (m.dur + mmI true 0 (mmI false k (m.data.length - m.dur))).toNat, m.dur + mmI true 0 (mmI false k (m.data.length - m.dur)), -1, false⟩
def res1 (m : Dk) : Res := ⟨.w m.w, []⟩
def res1c (m : Dk) (c : C) : Res := ⟨.w (m.c c), []⟩

theorem sat_rcrash (m : Dk) (k : Int) : Sat Try.prog 25 [m.w, .c (int k)] (fun r => r = res1 (dcrash m k)) := by
  refine sat_dq (Sat_of_awpF F25_ok (by kernel_rfl) ?_)
  obtain ⟨s, d, u, l, dn⟩ := m
  refine Sat.mono (sat_rcheck _) ?_
  intro r hr
  simp only [Dk.check] at hr
  unfold dcrash
  cases hb : Dk.bad ⟨s, d, u, l, dn⟩ <;> rw [hb] at hr <;> simp only [cond_true, cond_false] at hr ⊢ <;> subst hr
  · obtain ⟨hl, _, _, _, hu1, hu2, _⟩ := bad_len hb
    simp only at hl hu1 hu2
    have hw1 : IntKind.i64.wrap (((enc d).length : Int) - u) = d.length - u := by rw [enc_length]; exact wrap64 (by omega) (by omega)
    have hx : 0 ≤ mmI true 0 (mmI false k (d.length - u)) ∧ u + mmI true 0 (mmI false k (d.length - u)) ≤ d.length := by
      simp only [mmI, cond_true, cond_false]
      constructor <;> (repeat' split) <;> omega
    generalize hX : mmI true 0 (mmI false k (d.length - u)) = X at *
    have hw2 : IntKind.i64.wrap (u + mmI true 0 (mmI false k (IntKind.i64.wrap (((enc d).length : Int) - u)))) = u + X := by rw [hw1, hX]; exact wrap64 (by omega) (by omega)
    conv => whnf
    simp only [orI]
    rw [hw2]
    refine ⟨by omega, by rw [enc_length]; omega, ?_⟩
    rw [enc_take]
    have hlt : (d.take (u + X).toNat).length ≤ 1048576 := Nat.le_trans (List.length_take_le' _ _) hl
    refine ⟨enc_one _, fits_one ?_, ?_, ?_⟩
    · show 0 + (enc (d.take (u + X).toNat)).length ≤ _; rw [enc_length]; omega
    · show 0 + (enc (d.take (u + X).toNat)).length ≤ _; rw [enc_length]; omega
    · refine ⟨rfl, ?_⟩
      refine Eq.trans (b := res1c ⟨s, [], u + X, -1, false⟩ (.d (.sl (([] ++ enc (d.take (u + X).toNat)).take (0 + (enc (d.take (u + X).toNat)).length))))) rfl ?_
      rw [List.nil_append, Nat.zero_add, enc_all]; rfl
  · exact ⟨rfl, rfl⟩
end Go.Proofs.Ytbdcgchgpdclaaa
