/- The disk: what its functions compute, the last ones. -/
import Derived.Test.YtbdcgchgpdclaaaDisk3
namespace Go.Proofs.Ytbdcgchgpdclaaa
open Go Go.AM
attribute [local irreducible] Sat
set_option maxRecDepth 100000

theorem sat_rappend (m : Dk) (b : List UInt8) (hb : b.length ≤ 1048576) : Sat Try.prog 26 [m.w, .c (.d (.sl (enc b)))] (fun r => r = res2 (dappend m b)) := by
  refine sat_dq (Sat_of_awpF F26_ok (by kernel_rfl) ?_)
  obtain ⟨s, d, u, l, dn⟩ := m
  refine Sat.mono (sat_ready _) ?_
  intro r hr
  simp only [dup] at hr
  unfold dappend
  cases h1 : Dk.bad ⟨s, d, u, l, dn⟩ <;> rw [h1] at hr <;> simp only [cond_true, cond_false] at hr ⊢
  · cases dn <;> simp only [cond_true, cond_false] at hr ⊢ <;> subst hr
    · have hl := (bad_len h1).1
      have hll : l ≤ 1048576 := (bad_len h1).2.2.2.2.2.2.2
      simp only at hl
      have hw : IntKind.i64.wrap (d.length + b.length) = d.length + b.length := wrap64 (by omega) (by omega)
      conv => whnf
      refine cond_i (fun h => ?_) (fun h => ?_)
      · have h : decide ((d.length : Int) + b.length > s) = true := by rw [enc_length, enc_length] at h; rw [← hw]; exact h
        simp only [h, cond_true]
        exact ⟨rfl, rfl⟩
      · have h : decide ((d.length : Int) + b.length > s) = false := by rw [enc_length, enc_length] at h; rw [← hw]; exact h
        simp only [h, cond_false]
        conv => whnf
        have hlen : ∀ c : List UInt8, c.length ≤ 1048576 → (0 + (enc d).length + (enc c).length) ≤ 4194304 := fun c hc => by rw [enc_length, enc_length]; omega
        have hd1 : 0 + (enc d).length ≤ 4194304 := by rw [enc_length]; omega
        refine cond_i (fun h2 => ?_) (fun h2 => ?_)
        · have g2 := of_decide_eq_true h2
          conv => whnf
          refine cond_i (fun h3 => ?_) (fun h3 => ?_)
          · rw [enc_length] at h3
            simp only [h2, h3, Bool.and_true, cond_true]
            have g3 := of_decide_eq_true h3
            refine ⟨g2, by rw [enc_length]; exact Int.le_of_lt g3, ?_⟩
            have ht : (enc b).take (orI (some l) ↑(enc b).length).toNat = enc (b.take l.toNat) := enc_take b l.toNat
            have hlt : (b.take l.toNat).length ≤ 1048576 := Nat.le_trans (List.length_take_le' _ _) hb
            have hll0 : IntKind.i64.wrap (l - ((enc (b.take l.toNat)).length : Int)) = 0 := by
              rw [enc_length, List.length_take, Nat.min_eq_left (by omega)]
              rw [show l - ((l.toNat : Nat) : Int) = 0 by omega]; rfl
            rw [ht]
            refine ⟨enc_one _, fits_one (Nat.le_trans hd1 (by decide)), Nat.le_trans hd1 (by decide), ?_⟩
            refine ⟨enc_one _, fits_one (Nat.le_trans (hlen _ hlt) (by decide)), Nat.le_trans (hlen _ hlt) (by decide), ?_⟩
            conv => whnf
            refine cond_i (fun _ => ?_) (fun h4 => by rw [h2] at h4; cases h4)
            conv => whnf
            refine cond_i (fun _ => ?_) (fun h5 => by rw [enc_length, h3] at h5; cases h5)
            refine ⟨rfl, ?_⟩
            refine Eq.trans (b := res2c ⟨s, [], u, IntKind.i64.wrap (l - ((enc (b.take l.toNat)).length : Int)), true⟩ (.d (.sl ((([] ++ enc d).take (0 + (enc d).length) ++ enc (b.take l.toNat)).take (0 + (enc d).length + (enc (b.take l.toNat)).length)))) 19 []) rfl ?_
            rw [hll0, List.nil_append, Nat.zero_add, enc_length d, enc_app]; rfl
          · rw [enc_length] at h3
            simp only [h2, h3, Bool.and_false, cond_false, cond_true]
            refine ⟨enc_one _, fits_one (Nat.le_trans hd1 (by decide)), Nat.le_trans hd1 (by decide), ?_⟩
            refine ⟨enc_one _, fits_one (Nat.le_trans (hlen _ hb) (by decide)), Nat.le_trans (hlen _ hb) (by decide), ?_⟩
            conv => whnf
            refine cond_i (fun _ => ?_) (fun h4 => by rw [h2] at h4; cases h4)
            conv => whnf
            refine cond_i (fun h5 => by rw [enc_length, h3] at h5; cases h5) (fun _ => ?_)
            refine ⟨rfl, ?_⟩
            have hw2 : IntKind.i64.wrap (l - ↑(enc b).length) = l - b.length := by rw [enc_length]; exact wrap64 (by omega) (by omega)
            refine Eq.trans (b := res2c ⟨s, [], u, IntKind.i64.wrap (l - ((enc b).length : Int)), false⟩ (.d (.sl ((([] ++ enc d).take (0 + (enc d).length) ++ enc b).take (0 + (enc d).length + (enc b).length)))) 0 []) rfl ?_
            rw [hw2, List.nil_append, Nat.zero_add, enc_length d, enc_app]; rfl
        · simp only [h2, Bool.false_and, cond_false]
          refine ⟨enc_one _, fits_one (Nat.le_trans hd1 (by decide)), Nat.le_trans hd1 (by decide), ?_⟩
          refine ⟨enc_one _, fits_one (Nat.le_trans (hlen _ hb) (by decide)), Nat.le_trans (hlen _ hb) (by decide), ?_⟩
          conv => whnf
          refine cond_i (fun h4 => by rw [h2] at h4; cases h4) (fun _ => ?_)
          refine ⟨rfl, ?_⟩
          refine Eq.trans (b := res2c ⟨s, [], u, l, false⟩ (.d (.sl ((([] ++ enc d).take (0 + (enc d).length) ++ enc b).take (0 + (enc d).length + (enc b).length)))) 0 []) rfl ?_
          rw [List.nil_append, Nat.zero_add, enc_length d, enc_app]; rfl
    · exact ⟨rfl, rfl⟩
  · subst hr; exact ⟨rfl, rfl⟩

theorem crash_at {u k : Int} {n : Nat} (h1 : u ≤ n) : (bif decide (k < n - u) then u + mmI true k 0 else (n : Int)) = u + mmI true 0 (mmI false k (n - u)) := by
  simp only [mmI, cond_true, cond_false]
  cases h : decide (k < n - u)
  · have := of_decide_eq_false h
    simp only [cond_false]
    (repeat' split) <;> omega
  · have := of_decide_eq_true h
    simp only [cond_true]
    (repeat' split) <;> omega

theorem sat_crash (m : Dk) (k : Int) : Sat Try.prog 17 [m.w, .c (int k)] (fun r => r = res1 (dcrash m k)) := by
  refine sat_dq (Sat_of_awpF F17_ok (by kernel_rfl) ?_)
  obtain ⟨s, d, u, l, dn⟩ := m
  refine Sat.mono (sat_check _) ?_
  intro r hr
  simp only [Dk.check] at hr
  unfold dcrash
  cases hb : Dk.bad ⟨s, d, u, l, dn⟩ <;> rw [hb] at hr <;> simp only [cond_true, cond_false] at hr ⊢ <;> subst hr
  · obtain ⟨hl, _, _, _, hu1, hu2, _⟩ := bad_len hb
    simp only at hl hu1 hu2
    have hw1 : IntKind.i64.wrap (((enc d).length : Int) - u) = d.length - u := by rw [enc_length]; exact wrap64 (by omega) (by omega)
    have hx : 0 ≤ mmI true 0 (mmI false k (d.length - u)) ∧ u + mmI true 0 (mmI false k (d.length - u)) ≤ d.length := by
      simp only [mmI, cond_true, cond_false]
      constructor <;> (repeat' split) <;> omega
    have hat := crash_at (k := k) hu2
    generalize hX : mmI true 0 (mmI false k (d.length - u)) = X at *
    have fin : ∀ (c : Res), (d.take (u + X).toNat = [] ∧ c = res1c ⟨s, [], u + X, -1, false⟩ .nil) ∨ c = ⟨.w (Dk.c ⟨s, [], u + X, -1, false⟩ (.own 0 1 (d.take (u + X).toNat).length)), [.arr 1 (enc (d.take (u + X).toNat)) false]⟩ →
        DQ (res1 ⟨s, d.take (u + X).toNat, u + X, -1, false⟩) c := by
      rintro c (⟨h, rfl⟩ | rfl)
      · rw [h]; exact ⟨rfl, rfl⟩
      · refine ⟨rfl, ?_⟩
        refine Eq.trans (b := res1c ⟨s, [], u + X, -1, false⟩ (.d (.sl ((enc (d.take (u + X).toNat)).take (d.take (u + X).toNat).length)))) rfl ?_
        rw [enc_full]; rfl
    have hlt : (d.take (u + X).toNat).length ≤ 1048576 := Nat.le_trans (List.length_take_le' _ _) hl
    conv => whnf
    refine cond_i (fun h => ?_) (fun h => ?_)
    · rw [show IntKind.i64.wrap (((enc d).length : Int) - u) = d.length - u from hw1] at h
      rw [h, cond_true] at hat
      have hw2 : IntKind.i64.wrap (u + mmI true k 0) = u + X := by rw [hat]; exact wrap64 (by omega) (by omega)
      conv => whnf
      simp only [orI]
      rw [hw2]
      refine ⟨by omega, by rw [enc_length]; omega, ?_⟩
      rw [enc_take]
      refine Sat.mono (sat_clone _ hlt) ?_
      rintro r (⟨hn, rfl⟩ | rfl)
      · exact fin _ (.inl ⟨hn, rfl⟩)
      · exact fin _ (.inr rfl)
    · rw [show IntKind.i64.wrap (((enc d).length : Int) - u) = d.length - u from hw1] at h
      rw [h, cond_false] at hat
      have e2 : ((enc d).length : Int) = u + X := by rw [enc_length]; exact hat
      conv => whnf
      simp only [orI]
      rw [e2]
      refine ⟨by omega, by omega, ?_⟩
      rw [enc_take]
      refine Sat.mono (sat_clone _ hlt) ?_
      rintro r (⟨hn, rfl⟩ | rfl)
      · exact fin _ (.inl ⟨hn, rfl⟩)
      · exact fin _ (.inr rfl)
  · exact ⟨rfl, rfl⟩
end Go.Proofs.Ytbdcgchgpdclaaa
