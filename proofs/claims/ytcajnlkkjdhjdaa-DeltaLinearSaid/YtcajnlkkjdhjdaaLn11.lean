/- Merged from the texts: Dyx Dzl -/
import Derived.Test.YtcajnlkkjdhjdaaLn10
set_option linter.unusedSimpArgs false
set_option linter.unusedVariables false
namespace Go.Proofs.Ytcajnlkkjdhjdaa
open Go Go.AM
attribute [local irreducible] Sat SatH LoopP
set_option maxRecDepth 100000
set_option maxHeartbeats 1000000

mutual
def Ex.deep : Ex → Int → Int → Int
  | .mk _ nm v ks, lv, lf => bif ((decide (lv < 1) || decide (lf - 1 < 0)) || decide ((nm.size : Int) > 300)) || decide ((v.s.size : Int) > 300) then -1 else deepL ks (lv - 1) (lf - 1)
def deepL : List Ex → Int → Int → Int
  | [], _, lf => lf
  | k :: r, lv, lf => bif decide (k.deep lv lf < 0) then -1 else deepL r lv (k.deep lv lf)
end
theorem deepL_le : ∀ (ks : List Ex) (lv lf : Int), -1 ≤ lf → (∀ k ∈ ks, ∀ lv lf : Int, 0 ≤ lf → -1 ≤ k.deep lv lf ∧ k.deep lv lf ≤ lf) → 0 ≤ lf → -1 ≤ deepL ks lv lf ∧ deepL ks lv lf ≤ lf
  | [], _, lf, h, _, _ => by simp only [deepL]; omega
  | k :: r, lv, lf, h, hk, h0 => by
    simp only [deepL]
    have h1 := hk k (List.mem_cons_self ..) lv lf h0
    by_cases e : k.deep lv lf < 0
    · rw [decide_eq_true e, cond_true]; omega
    · rw [decide_eq_false e, cond_false]
      have := deepL_le r lv (k.deep lv lf) (by omega) (fun x hx => hk x (List.mem_cons_of_mem _ hx)) (by omega)
      omega
theorem deep_le : ∀ (e : Ex) (lv lf : Int), 0 ≤ lf → -1 ≤ e.deep lv lf ∧ e.deep lv lf ≤ lf
  | .mk op nm v ks, lv, lf, h0 => by
    simp only [Ex.deep]
    cases hb : (((decide (lv < 1) || decide (lf - 1 < 0)) || decide ((nm.size : Int) > 300)) || decide ((v.s.size : Int) > 300))
    · rw [cond_false]
      simp only [Bool.or_eq_false_iff, decide_eq_false_iff_not] at hb
      have := deepL_le ks (lv - 1) (lf - 1) (by omega) (fun k hk lv lf h => deep_le k lv lf h) (by omega)
      omega
    · rw [cond_true]; omega
theorem deepL_step {ks : List Ex} {i : Nat} (h : i < ks.length) (lv lf : Int) : deepL (ks.drop i) lv lf = bif decide (ks[i].deep lv lf < 0) then -1 else deepL (ks.drop (i + 1)) lv (ks[i].deep lv lf) := by
  rw [drop_cons h]; rfl
theorem sat_Deep (e : Ex) (lv lf : Int) (h1 : 0 ≤ lv) (h2 : lv ≤ 40) (h3 : 0 ≤ lf) (h4 : lf ≤ 300) : Sat Pg k_ref36_Deep [e.w, .c (int lv), .c (int lf)] (fun r => r = rI (e.deep lv lf)) := by
  obtain ⟨op, nm, v, ks⟩ := e
  have ih : ∀ k ∈ ks, ∀ lv lf : Int, 0 ≤ lv → lv ≤ 40 → 0 ≤ lf → lf ≤ 300 → Sat Pg k_ref36_Deep [k.w, .c (int lv), .c (int lf)] (fun r => r = rI (k.deep lv lf)) := fun k hk lv lf a b c d => sat_Deep k lv lf a b c d
  refine sat_bnd (by kernel_rfl) fun hb => ?_
  have hlen := exs_bnd (hb _ (List.mem_cons_self ..))
  clear hb
  simp only [Ex.deep]
  have w1 : IntKind.i64.wrap (lf - 1) = lf - 1 := wrapI (by omega) (by omega)
  rw [← w1]
  refine Sat_of T5 c_ref36_Deep_ok (by kernel_rfl) ?_
  conv => whnf
  refine cond_i (fun k1 => ?_) (fun k1 => ?_)
  · have k1 : (((decide (lv < 1) || decide (IntKind.i64.wrap (lf - 1) < 0)) || decide ((nm.size : Int) > 300)) || decide ((v.s.size : Int) > 300)) = true := k1
    rw [k1, cond_true]
    conv => whnf
    rfl
  · have k1 : (((decide (lv < 1) || decide (IntKind.i64.wrap (lf - 1) < 0)) || decide ((nm.size : Int) > 300)) || decide ((v.s.size : Int) > 300)) = false := k1
    rw [k1, cond_false]
    rw [w1] at k1 ⊢
    simp only [Bool.or_eq_false_iff, decide_eq_false_iff_not] at k1
    have w2 : IntKind.i64.wrap (lv - 1) = lv - 1 := wrapI (by omega) (by omega)
    conv => whnf
    refine loopF (P := Pg) (f := T5.f) (body := c_ref36_Deep_L0) (fun x : Nat × Int => ⟨[(1, intV lv), (2, intV x.2), (3, cV (.ptr 3 0)), (7, intV x.1)], [(3, .box [int op, str nm, int v.k, int v.n, str v.s, .d (.sl (exsD ks))])]⟩) (fun x => ks.length - x.1) (fun x => x.1 ≤ ks.length ∧ 0 ≤ x.2 ∧ x.2 ≤ 300 ∧ deepL ks (lv - 1) (lf - 1) = deepL (ks.drop x.1) (lv - 1) x.2) ⟨(0, lf - 1), ⟨Nat.zero_le _, by show 0 ≤ lf - 1; omega, by show lf - 1 ≤ 300; omega, rfl⟩, normW_of ?_⟩ ?_
    · conv => whnf
      rw [← w1]
      rfl
    · rintro ⟨i, l1⟩ hx
      obtain ⟨hi, hl0, hl1, hR⟩ : i ≤ ks.length ∧ 0 ≤ l1 ∧ l1 ≤ 300 ∧ deepL ks (lv - 1) (lf - 1) = deepL (ks.drop i) (lv - 1) l1 := hx
      have wi : i < ks.length → IntKind.i64.wrap ((i : Int) + 1) = ((i + 1 : Nat) : Int) := fun h => wrapS h (by omega)
      conv => whnf
      refine cond_i (fun k2 => ?_) (fun k2 => ?_)
      · have hlt : i < ks.length := by have k2 : decide ((i : Int) < ((exsD ks).length : Int)) = true := k2; have := of_decide_eq_true k2; rw [exsD_len] at this; omega
        rw [deepL_step hlt] at hR
        have hg : (exsD ks)[((i : Int)).toNat]? = some (ks[i]).ds := exsD_get hlt
        have hm : ks[i] ∈ ks := List.getElem_mem hlt
        generalize ks[i] = k at *
        have ihk := ih k hm (lv - 1) l1 (by omega) (by omega) hl0 hl1
        have hkl := deep_le k (lv - 1) l1 hl0
        rw [← w2] at ihk
        rw [← w2] at hR hkl
        obtain ⟨op1, nm1, v1, ks1⟩ := k
        conv => whnf
        refine ⟨by omega, _, hg, rfl, ?_⟩
        conv => whnf
        refine Sat.mono (ihk) ?_
        rintro _ rfl
        conv => whnf
        generalize (Ex.deep (.mk op1 nm1 v1 ks1) (IntKind.i64.wrap (lv - 1)) l1) = x at *
        refine cond_i (fun k3 => ?_) (fun k3 => ?_)
        · have k3 : decide (x < 0) = true := k3
          rw [k3, cond_true] at hR
          conv => whnf
          rw [← w2, hR]; rfl
        · have k3 : decide (x < 0) = false := k3
          rw [k3, cond_false] at hR
          have k3 := of_decide_eq_false k3
          rw [w2] at hR
          conv => whnf
          refine ⟨(i + 1, x), ⟨⟨hlt, by show 0 ≤ x; omega, by show x ≤ 300; omega, hR⟩, by show ks.length - (i + 1) < ks.length - i; omega⟩, normW_of ?_⟩
          conv => whnf
          rw [wi hlt]
          rfl
      · have hge : ks.length ≤ i := by have k2 : decide ((i : Int) < ((exsD ks).length : Int)) = false := k2; have := of_decide_eq_false k2; rw [exsD_len] at this; omega
        rw [List.drop_eq_nil_of_le hge] at hR
        rw [hR]
        conv => whnf
        rfl
termination_by SizeOf.sizeOf e
decreasing_by
  simp_wf
  have := List.sizeOf_lt_of_mem hk
  omega

def Ex.small (e : Ex) : Bool := decide (e.deep 40 300 ≥ 0)
theorem sat_Small (e : Ex) : Sat Pg k_ref36_Small [e.w] (fun r => r = rB e.small) := by
  have h := sat_Deep e 40 300 (by omega) (by omega) (by omega) (by omega)
  unfold Ex.small
  generalize e.deep 40 300 = x at *
  obtain ⟨op, nm, v, ks⟩ := e
  refine Sat_of T5 c_ref36_Small_ok (by kernel_rfl) ?_
  conv => whnf
  refine Sat.mono (h) ?_
  rintro _ rfl
  rfl

def itmFew (x : Itm) : Bool := !(!x.e.small || decide ((x.nm.size : Int) > 300))
def aggFew (x : Agg) : Bool := !(decide ((x.col.size : Int) > 300) || decide ((x.nm.size : Int) > 300))
def strFew (x : ByteArray) : Bool := !decide ((x.size : Int) > 300)
def Stp.few (s : Stp) : Bool :=
  bif ((((!s.cond.small || decide ((s.items.length : Int) > 30)) || decide ((s.cols.length : Int) > 30)) || decide ((s.aggs.length : Int) > 30)) || decide ((s.sorts.length : Int) > 30)) || decide ((s.table.size : Int) > 300) then false else
  bif !allB itmFew s.items then false else bif !allB strFew s.cols then false else allB aggFew s.aggs
def fsS (cs : List C) (k : Nat) (i : Nat) : S := ⟨[(1, cV (.ptr 1 0)), (k, intV i)], [(1, .box cs)]⟩
theorem sat_FewStep (s : Stp) : Sat Pg k_ref36_FewStep [s.w] (fun r => r = rB s.few) := by
  have hc := sat_Small s.cond
  obtain ⟨op, ⟨eo, nm, ⟨vk, vn, vs⟩, ks⟩, items, cols, aggs, sorts, n, tb⟩ := s
  have hc : Sat Pg k_ref36_Small [Ex.w ⟨eo, nm, ⟨vk, vn, vs⟩, ks⟩] (fun r => r = rB (Ex.small ⟨eo, nm, ⟨vk, vn, vs⟩, ks⟩)) := hc
  unfold Stp.few
  simp only
  generalize (Ex.small ⟨eo, nm, ⟨vk, vn, vs⟩, ks⟩) = b0 at *
  rw [← itmsD_len, ← strsD_len, ← aggD_len, ← srtD_len]
  obtain ⟨cs, hcs⟩ : ∃ cs, cs = [int op, int eo, str nm, int vk, int vn, str vs, .d (.sl (exsD ks)), .d (.sl (itmsD items)), .d (.sl (strsD cols)), .d (.sl (aggD aggs)), .d (.sl (srtD sorts)), int n, str tb] := ⟨_, rfl⟩
  refine Sat_of T5 c_ref36_FewStep_ok (by kernel_rfl) ?_
  conv => whnf
  refine Sat.mono (hc) ?_
  rintro _ rfl
  conv => whnf
  refine cond_i (fun h1 => ?_) (fun h1 => ?_)
  · have h1 : (((((!b0 || decide (((itmsD items).length : Int) > 30)) || decide (((strsD cols).length : Int) > 30)) || decide (((aggD aggs).length : Int) > 30)) || decide (((srtD sorts).length : Int) > 30)) || decide ((tb.size : Int) > 300)) = true := h1
    rw [h1, cond_true]
    conv => whnf
    rfl
  · have h1 : (((((!b0 || decide (((itmsD items).length : Int) > 30)) || decide (((strsD cols).length : Int) > 30)) || decide (((aggD aggs).length : Int) > 30)) || decide (((srtD sorts).length : Int) > 30)) || decide ((tb.size : Int) > 300)) = false := h1
    rw [h1, cond_false]
    simp only [Bool.or_eq_false_iff, decide_eq_false_iff_not, itmsD_len, strsD_len, aggD_len, srtD_len] at h1
    conv => whnf
    refine loopI (P := Pg) (f := T5.f) (body := c_ref36_FewStep_L0) items.length (fun i => fsS [int op, int eo, str nm, int vk, int vn, str vs, .d (.sl (exsD ks)), .d (.sl (itmsD items)), .d (.sl (strsD cols)), .d (.sl (aggD aggs)), .d (.sl (srtD sorts)), int n, str tb] 3 i) (fun i => allB itmFew items = allB itmFew (items.drop i)) ⟨rfl, normW_of ?_⟩ ?_
    · conv => whnf
      rfl
    · intro i hi hR
      conv => whnf
      refine cond_i (fun k1 => ?_) (fun k1 => ?_)
      · have hlt : i < items.length := by have := of_decide_eq_true k1; rw [itmsD_len] at this; omega
        rw [drop_cons hlt] at hR
        have hg := itmsD_get hlt
        simp only [allB] at hR
        generalize items[i] = x at *
        have hsx := sat_Small x.e
        unfold itmFew at hR
        obtain ⟨⟨op1, nm1, v1, ks1⟩, s⟩ := x
        have hsx : Sat Pg k_ref36_Small [Ex.w ⟨op1, nm1, v1, ks1⟩] (fun r => r = rB (Ex.small ⟨op1, nm1, v1, ks1⟩)) := hsx
        simp only at hR
        generalize (Ex.small ⟨op1, nm1, v1, ks1⟩) = b1 at *
        conv => whnf
        refine ⟨by omega, _, hg, rfl, ?_⟩
        conv => whnf
        refine Sat.mono (hsx) ?_
        rintro _ rfl
        conv => whnf
        cases b1 with
        | false =>
          conv => whnf
          simp only [cond_true, cond_false, Bool.true_or, Bool.false_or, Bool.or_true, Bool.or_false, Bool.and_true, Bool.and_false, Bool.true_and, Bool.false_and, Bool.not_true, Bool.not_false, bne_self_eq_false, beq_self_eq_true, Bool.false_eq_true, Bool.true_eq_false, reduceCtorEq] at hR
          rw [show allB itmFew items = false from hR]
          rfl
        | true =>
          conv => whnf
          refine ⟨by omega, _, hg, rfl, ?_⟩
          conv => whnf
          refine cond_i (fun k2 => ?_) (fun k2 => ?_)
          · have k2 : decide ((s.size : Int) > 300) = true := k2
            rw [k2] at hR
            simp only [cond_true, cond_false, Bool.true_or, Bool.false_or, Bool.or_true, Bool.or_false, Bool.and_true, Bool.and_false, Bool.true_and, Bool.false_and, Bool.not_true, Bool.not_false, bne_self_eq_false, beq_self_eq_true, Bool.false_eq_true, Bool.true_eq_false, reduceCtorEq] at hR
            conv => whnf
            rw [show allB itmFew items = false from hR]
            rfl
          · have k2 : decide ((s.size : Int) > 300) = false := k2
            rw [k2] at hR
            simp only [cond_true, cond_false, Bool.true_or, Bool.false_or, Bool.or_true, Bool.or_false, Bool.and_true, Bool.and_false, Bool.true_and, Bool.false_and, Bool.not_true, Bool.not_false, bne_self_eq_false, beq_self_eq_true, Bool.false_eq_true, Bool.true_eq_false, reduceCtorEq] at hR
            conv => whnf
            refine ⟨hlt, hR, normW_of ?_⟩
            conv => whnf
            rw [wrapS hlt (by omega)]
            rfl
      · have hge : items.length ≤ i := by have := of_decide_eq_false k1; rw [itmsD_len] at this; omega
        rw [List.drop_eq_nil_of_le hge] at hR
        have hR : allB itmFew items = true := hR
        rw [hR, Bool.not_true, cond_false]
        conv => whnf
        refine loopI (P := Pg) (f := T5.f) (body := c_ref36_FewStep_L1) cols.length (fun i => fsS [int op, int eo, str nm, int vk, int vn, str vs, .d (.sl (exsD ks)), .d (.sl (itmsD items)), .d (.sl (strsD cols)), .d (.sl (aggD aggs)), .d (.sl (srtD sorts)), int n, str tb] 4 i) (fun i => allB strFew cols = allB strFew (cols.drop i)) ⟨rfl, normW_of ?_⟩ ?_
        · conv => whnf
          rfl
        · intro i hi hR
          conv => whnf
          refine cond_i (fun k1 => ?_) (fun k1 => ?_)
          · have hlt : i < cols.length := by have := of_decide_eq_true k1; rw [strsD_len] at this; omega
            rw [drop_cons hlt] at hR
            have hg := strsD_get hlt
            simp only [allB] at hR
            generalize cols[i] = s at *
            unfold strFew at hR
            conv => whnf
            refine ⟨by omega, _, hg, rfl, ?_⟩
            conv => whnf
            refine cond_i (fun k2 => ?_) (fun k2 => ?_)
            · have k2 : decide ((s.size : Int) > 300) = true := k2
              rw [k2] at hR
              simp only [cond_true, cond_false, Bool.true_or, Bool.false_or, Bool.or_true, Bool.or_false, Bool.and_true, Bool.and_false, Bool.true_and, Bool.false_and, Bool.not_true, Bool.not_false, bne_self_eq_false, beq_self_eq_true, Bool.false_eq_true, Bool.true_eq_false, reduceCtorEq] at hR
              conv => whnf
              rw [show allB strFew cols = false from hR]
              rfl
            · have k2 : decide ((s.size : Int) > 300) = false := k2
              rw [k2] at hR
              simp only [cond_true, cond_false, Bool.true_or, Bool.false_or, Bool.or_true, Bool.or_false, Bool.and_true, Bool.and_false, Bool.true_and, Bool.false_and, Bool.not_true, Bool.not_false, bne_self_eq_false, beq_self_eq_true, Bool.false_eq_true, Bool.true_eq_false, reduceCtorEq] at hR
              conv => whnf
              refine ⟨hlt, hR, normW_of ?_⟩
              conv => whnf
              rw [wrapS hlt (by omega)]
              rfl
          · have hge : cols.length ≤ i := by have := of_decide_eq_false k1; rw [strsD_len] at this; omega
            rw [List.drop_eq_nil_of_le hge] at hR
            have hR : allB strFew cols = true := hR
            rw [hR, Bool.not_true, cond_false]
            conv => whnf
            refine loopI (P := Pg) (f := T5.f) (body := c_ref36_FewStep_L2) aggs.length (fun i => fsS [int op, int eo, str nm, int vk, int vn, str vs, .d (.sl (exsD ks)), .d (.sl (itmsD items)), .d (.sl (strsD cols)), .d (.sl (aggD aggs)), .d (.sl (srtD sorts)), int n, str tb] 5 i) (fun i => allB aggFew aggs = allB aggFew (aggs.drop i)) ⟨rfl, normW_of ?_⟩ ?_
            · conv => whnf
              rfl
            · intro i hi hR
              conv => whnf
              refine cond_i (fun k1 => ?_) (fun k1 => ?_)
              · have hlt : i < aggs.length := by have := of_decide_eq_true k1; rw [aggD_len] at this; omega
                rw [drop_cons hlt] at hR
                have hg := aggD_get hlt
                simp only [allB] at hR
                generalize aggs[i] = x at *
                unfold aggFew at hR
                obtain ⟨fn, col, s⟩ := x
                simp only at hR
                conv => whnf
                refine ⟨by omega, _, hg, rfl, ?_⟩
                conv => whnf
                refine cond_i (fun k2 => ?_) (fun k2 => ?_)
                · have k2 : decide ((col.size : Int) > 300) = true := k2
                  rw [k2] at hR
                  simp only [cond_true, cond_false, Bool.true_or, Bool.false_or, Bool.or_true, Bool.or_false, Bool.and_true, Bool.and_false, Bool.true_and, Bool.false_and, Bool.not_true, Bool.not_false, bne_self_eq_false, beq_self_eq_true, Bool.false_eq_true, Bool.true_eq_false, reduceCtorEq] at hR
                  conv => whnf
                  rw [show allB aggFew aggs = false from hR]
                  rfl
                · have k2 : decide ((col.size : Int) > 300) = false := k2
                  rw [k2] at hR
                  simp only [cond_true, cond_false, Bool.true_or, Bool.false_or, Bool.or_true, Bool.or_false, Bool.and_true, Bool.and_false, Bool.true_and, Bool.false_and, Bool.not_true, Bool.not_false, bne_self_eq_false, beq_self_eq_true, Bool.false_eq_true, Bool.true_eq_false, reduceCtorEq] at hR
                  conv => whnf
                  refine ⟨by omega, _, hg, rfl, ?_⟩
                  conv => whnf
                  refine cond_i (fun k3 => ?_) (fun k3 => ?_)
                  · have k3 : decide ((s.size : Int) > 300) = true := k3
                    rw [k3] at hR
                    simp only [cond_true, cond_false, Bool.true_or, Bool.false_or, Bool.or_true, Bool.or_false, Bool.and_true, Bool.and_false, Bool.true_and, Bool.false_and, Bool.not_true, Bool.not_false, bne_self_eq_false, beq_self_eq_true, Bool.false_eq_true, Bool.true_eq_false, reduceCtorEq] at hR
                    conv => whnf
                    rw [show allB aggFew aggs = false from hR]
                    rfl
                  · have k3 : decide ((s.size : Int) > 300) = false := k3
                    rw [k3] at hR
                    simp only [cond_true, cond_false, Bool.true_or, Bool.false_or, Bool.or_true, Bool.or_false, Bool.and_true, Bool.and_false, Bool.true_and, Bool.false_and, Bool.not_true, Bool.not_false, bne_self_eq_false, beq_self_eq_true, Bool.false_eq_true, Bool.true_eq_false, reduceCtorEq] at hR
                    conv => whnf
                    refine ⟨hlt, hR, normW_of ?_⟩
                    conv => whnf
                    rw [wrapS hlt (by omega)]
                    rfl
              · have hge : aggs.length ≤ i := by have := of_decide_eq_false k1; rw [aggD_len] at this; omega
                rw [List.drop_eq_nil_of_le hge] at hR
                have hR : allB aggFew aggs = true := hR
                rw [hR]
                conv => whnf
                rfl

def Qry.few (q : Qry) : Bool := bif decide ((q.steps.length : Int) > 30) || decide ((q.src.size : Int) > 300) then false else allB Stp.few q.steps
theorem sat_Few (q : Qry) : Sat Pg k_ref36_Few [q.w] (fun r => r = rB q.few) := by
  obtain ⟨src, l⟩ := q
  unfold Qry.few
  simp only
  rw [← stpD_len]
  refine Sat_of T5 c_ref36_Few_ok (by kernel_rfl) ?_
  conv => whnf
  refine cond_i (fun h1 => ?_) (fun h1 => ?_)
  · have h1 : (decide (((stpD l).length : Int) > 30) || decide ((src.size : Int) > 300)) = true := h1
    rw [h1, cond_true]
    conv => whnf
    rfl
  · have h1 : (decide (((stpD l).length : Int) > 30) || decide ((src.size : Int) > 300)) = false := h1
    rw [h1, cond_false]
    simp only [Bool.or_eq_false_iff, decide_eq_false_iff_not, stpD_len] at h1
    conv => whnf
    refine loopI (P := Pg) (f := T5.f) (body := c_ref36_Few_L0) l.length (fun i => ⟨[(1, cV (.ptr 1 0)), (3, intV i)], [(1, .box [str src, .d (.sl (stpD l))])]⟩) (fun i => allB Stp.few l = allB Stp.few (l.drop i)) ⟨rfl, normW_of ?_⟩ ?_
    · conv => whnf
      rfl
    · intro i hi hR
      conv => whnf
      refine cond_i (fun k1 => ?_) (fun k1 => ?_)
      · have hlt : i < l.length := by have := of_decide_eq_true k1; rw [stpD_len] at this; omega
        rw [drop_cons hlt] at hR
        have hg := stpD_get hlt
        simp only [allB] at hR
        generalize l[i] = s at *
        have hst := sat_FewStep s
        generalize s.few = b at *
        obtain ⟨op, ⟨eo, nm, ⟨vk, vn, vs⟩, ks⟩, items, cols, aggs, sorts, n, tb⟩ := s
        conv => whnf
        refine ⟨by omega, _, hg, rfl, ?_⟩
        conv => whnf
        refine Sat.mono (hst) ?_
        rintro _ rfl
        conv => whnf
        cases b with
        | false =>
          conv => whnf
          rw [show allB Stp.few l = false from hR]
          rfl
        | true =>
          conv => whnf
          refine ⟨hlt, hR, normW_of ?_⟩
          conv => whnf
          rw [wrapS hlt (by omega)]
          rfl
      · have hge : l.length ≤ i := by have := of_decide_eq_false k1; rw [stpD_len] at this; omega
        rw [List.drop_eq_nil_of_le hge] at hR
        have hR : allB Stp.few l = true := hR
        rw [hR]
        conv => whnf
        rfl
end Go.Proofs.Ytcajnlkkjdhjdaa

namespace Go.Proofs.Ytcajnlkkjdhjdaa
open Go Go.AM
attribute [local irreducible] Sat SatH LoopP
set_option maxRecDepth 100000
set_option maxHeartbeats 1000000

theorem stepsErr_all : ∀ l : List Stp, (stepsErr l != 0) = !l.all fun s => s.err == 0
  | [] => rfl
  | s :: r => by
    simp only [stepsErr, List.all_cons]
    have ih := stepsErr_all r
    by_cases h : s.err = 0
    · rw [h]; simpa using ih
    · have h1 : (s.err != 0) = true := by simpa using h
      have h2 : (s.err == 0) = false := by simpa using h
      rw [h1, h2, cond_true, h1]; rfl
theorem linB_eq (src name : ByteArray) (l : List Stp) : linB ⟨src, l⟩ name = (identB src && (decide (l.length ≤ 16) && ((l.all fun s => s.err == 0) && (beqS src name && l.all fun s => !linBad s name)))) := by
  unfold linB Qry.err
  simp only
  cases h1 : identB src
  · rfl
  · have e16 : decide ((l.length : Int) > 16) = !decide (l.length ≤ 16) := by
      by_cases h : l.length ≤ 16
      · rw [decide_eq_true h, decide_eq_false (by omega)]; rfl
      · rw [decide_eq_false h, decide_eq_true (by omega)]; rfl
    rw [e16]
    cases h2 : decide (l.length ≤ 16)
    · rfl
    · simp only [cond_true, cond_false, Bool.true_or, Bool.false_or, Bool.or_true, Bool.or_false, Bool.and_true, Bool.and_false, Bool.true_and, Bool.false_and, Bool.not_true, Bool.not_false, bne_self_eq_false, beq_self_eq_true, Bool.false_eq_true, Bool.true_eq_false, reduceCtorEq]
      rw [stepsErr_all]
      cases h3 : l.all fun s => s.err == 0
      · rfl
      · cases h4 : beqS src name
        · rfl
        · simp only [cond_true, cond_false, Bool.true_or, Bool.false_or, Bool.or_true, Bool.or_false, Bool.and_true, Bool.and_false, Bool.true_and, Bool.false_and, Bool.not_true, Bool.not_false, bne_self_eq_false, beq_self_eq_true, Bool.false_eq_true, Bool.true_eq_false, reduceCtorEq]
          rw [List.not_any_eq_all_not]
/-- What the law reckons, up to step i. -/
def linA (src name : ByteArray) (l : List Stp) (i : Nat) : Bool := ((beqS src name && decide ((l.length : Int) ≤ 16)) && linB ⟨src, []⟩ name) && (l.take i).all fun s => linB ⟨src, [s]⟩ name
theorem linA_end (src name : ByteArray) (l : List Stp) {i : Nat} (hi : l.length ≤ i) : linA src name l i = linB ⟨src, l⟩ name := by
  unfold linA
  rw [List.take_of_length_le hi, linB_eq src name l, linB_eq src name []]
  have e16 : decide ((l.length : Int) ≤ 16) = decide (l.length ≤ 16) := by
    by_cases h : l.length ≤ 16
    · rw [decide_eq_true h, decide_eq_true (by omega)]
    · rw [decide_eq_false h, decide_eq_false (by omega)]
  rw [e16]
  cases h1 : beqS src name
  · simp
  · cases h2 : identB src
    · simp
    · cases h3 : decide (l.length ≤ 16)
      · simp
      · simp only [List.length_nil, List.all_nil, cond_true, cond_false, Bool.true_or, Bool.false_or, Bool.or_true, Bool.or_false, Bool.and_true, Bool.and_false, Bool.true_and, Bool.false_and, Bool.not_true, Bool.not_false, bne_self_eq_false, beq_self_eq_true, Bool.false_eq_true, Bool.true_eq_false, reduceCtorEq, show decide (0 ≤ 16) = true from rfl]
        have : ∀ s : Stp, linB ⟨src, [s]⟩ name = (s.err == 0 && !linBad s name) := fun s => by
          rw [linB_eq, h1, h2]
          simp
        simp only [this]
        clear h3 e16 this hi
        induction l with
        | nil => rfl
        | cons s r ih =>
          simp only [List.all_cons, ih]
          cases (s.err == 0) <;> cases linBad s name <;> simp
theorem linA_step (src name : ByteArray) (l : List Stp) {i : Nat} (hi : i < l.length) : linA src name l (i + 1) = (linA src name l i && linB ⟨src, [l[i]]⟩ name) := by
  unfold linA
  rw [take_snoc hi, List.all_append, List.all_cons, List.all_nil, Bool.and_true]
  simp only [Bool.and_assoc]
theorem stpD_app (a b : List Stp) : stpD (a ++ b) = stpD a ++ stpD b := by simp [stpD]
theorem stpD_sz (l : List Stp) : ∀ y ∈ stpD l, y.length = 13 := by
  intro y hy
  obtain ⟨⟨op, ⟨eo, nm, ⟨vk, vn, vs⟩, ks⟩, items, cols, aggs, sorts, n, tb⟩, _, rfl⟩ := List.mem_map.1 hy
  rfl
theorem few_sorts {q : Qry} (h : q.few = true) : q.steps.length ≤ 30 ∧ ∀ s ∈ q.steps, s.sorts.length ≤ 1000000 := by
  unfold Qry.few at h
  cases h1 : (decide ((q.steps.length : Int) > 30) || decide ((q.src.size : Int) > 300))
  · rw [h1, cond_false] at h
    simp only [Bool.or_eq_false_iff, decide_eq_false_iff_not] at h1
    refine ⟨by omega, ?_⟩
    have : ∀ l : List Stp, allB Stp.few l = true → ∀ s ∈ l, s.sorts.length ≤ 1000000 := by
      intro l
      induction l with
      | nil => intro _ s hs; cases hs
      | cons x r ih =>
        intro h s hs
        simp only [allB] at h
        cases hx : x.few
        · rw [hx] at h; cases h
        · rw [hx, cond_true] at h
          rcases List.mem_cons.1 hs with rfl | hs
          · unfold Stp.few at hx
            cases hb : (((((!s.cond.small || decide ((s.items.length : Int) > 30)) || decide ((s.cols.length : Int) > 30)) || decide ((s.aggs.length : Int) > 30)) || decide ((s.sorts.length : Int) > 30)) || decide ((s.table.size : Int) > 300))
            · simp only [Bool.or_eq_false_iff, decide_eq_false_iff_not] at hb
              omega
            · rw [hb] at hx; cases hx
          · exact ih h s hs
    exact this _ h
  · rw [h1] at h; cases h
def lnS (src name : ByteArray) (l : List Stp) (i : Nat) : S := ⟨[(1, .w (.c (str name))), (2, cV (.ptr 2 0)), (5, boolV (linA src name l i)), (6, intV i)], [(2, .box [str src, .d (.sl (stpD l))])]⟩
theorem lin_loop (src name : ByteArray) (l : List Stp) (hl : l.length ≤ 30) (hs : ∀ s ∈ l, s.sorts.length ≤ 1000000) (s : S) (h0 : normW s [1, 2, 5, 6] (· = lnS src name l 0)) :
    LoopP (mwpR Pg T5.f c_law45_DeltaLinear_L0) [1, 2, 5, 6] (blockK 0 (seqK (mwpR Pg T5.f (.seq (.reg [⟨(some 58), none, false, .ld true 2 (.t 2), [2, 6]⟩,
 ⟨(some 59), none, false, .mov (.t 1), [1]⟩,
 ⟨(some 60), none, false, .call 12 [(.t 58), (.t 59)], [58, 59]⟩,
 ⟨(some 61), none, false, .mov (.t 5), [5]⟩,
 ⟨(some 62), none, false, .beq false (.t 60) (.t 61), [60, 61]⟩,
 ⟨(some 4), none, false, .mov (.t 62), [62]⟩]) .ret)) (endK c_law45_DeltaLinear.res [] fun r => r = rB true))) s := by
  have l1 := fun (s : Stp) (hm : s ∈ l) => sat_Linear ⟨src, [s]⟩ name (fun x hx => by rw [List.mem_singleton.1 hx]; exact hs s hm)
  have lq := sat_Linear ⟨src, l⟩ name hs
  have hend := @linA_end src name l
  have hstep := @linA_step src name l
  generalize linB ⟨src, l⟩ name = bq at *
  refine loopI (P := Pg) (f := T5.f) (body := c_law45_DeltaLinear_L0) l.length (fun i => lnS src name l i) (fun _ => True) ⟨trivial, h0⟩ ?_
  intro i hi _
  have hend := @hend i
  have hstep := @hstep i
  unfold lnS
  generalize linA src name l i = b at *
  conv => whnf
  refine cond_i (fun k1 => ?_) (fun k1 => ?_)
  · have hlt : i < l.length := by have := of_decide_eq_true k1; rw [stpD_len] at this; omega
    have hstep := hstep hlt
    have l1 := l1 l[i] (List.getElem_mem hlt)
    have e1 : (stpD l).take (i + 1) = stpD (l.take (i + 1)) := by simp [stpD, List.map_take]
    have e2 : (stpD (l.take (i + 1))).drop i = stpD [l[i]] := by
      rw [take_snoc hlt, stpD_app]
      exact List.drop_left' (by rw [stpD_len, List.length_take]; omega)
    cases b with
    | false =>
      conv => whnf
      refine ⟨hlt, trivial, normW_of ?_⟩
      conv => whnf
      rw [wrapS hlt (by omega), hstep]
      rfl
    | true =>
      rw [Bool.true_and] at hstep
      have hstep : linA src name l (i + 1) = linB ⟨src, [l[i]]⟩ name := hstep
      rw [hstep]
      generalize linB ⟨src, [l[i]]⟩ name = b1 at *
      conv => whnf
      rw [wrapS hlt (by omega)]
      refine ⟨stpD_sz l, by omega, by simp only [orI]; omega, by simp only [orI]; rw [stpD_len]; omega, ?_⟩
      have e3 : ((stpD l).take (orI (some ((i + 1 : Nat) : Int)) ((stpD l).length : Int)).toNat).drop ((i : Int)).toNat = stpD [l[i]] := by
        simp only [orI, Int.toNat_natCast]
        rw [e1, e2]
      rw [e3]
      conv => whnf
      refine Sat.mono (l1) ?_
      rintro _ rfl
      conv => whnf
      refine ⟨hlt, trivial, normW_of ?_⟩
      conv => whnf
      rw [wrapS hlt (by omega)]
      rfl
  · have hge : l.length ≤ i := by have := of_decide_eq_false k1; rw [stpD_len] at this; omega
    have hend := hend hge
    subst hend
    conv => whnf
    refine Sat.mono (lq) ?_
    rintro _ rfl
    conv => whnf
    cases b <;> rfl

theorem sat_linear (q : Qry) (name : ByteArray) : Sat Pg k_law45_DeltaLinear [q.w, .c (str name)] (fun r => r = rB true) := by
  have hf := sat_Few q
  have hfs := @few_sorts q
  generalize q.few = b1 at *
  obtain ⟨src, l⟩ := q
  cases b1 with
  | false =>
    refine Sat_of T5 c_law45_DeltaLinear_ok (by kernel_rfl) ?_
    conv => whnf
    refine Sat.mono (sat_awake) ?_
    rintro _ rfl
    conv => whnf
    refine Sat.mono (hf) ?_
    rintro _ rfl
    conv => whnf
    refine Sat.mono (sat_awake) ?_
    rintro _ rfl
    conv => whnf
    rfl
  | true =>
    obtain ⟨hl, hs⟩ := hfs rfl
    have hl : l.length ≤ 30 := hl
    have hs : ∀ s ∈ l, s.sorts.length ≤ 1000000 := hs
    have l0 := sat_Linear ⟨src, []⟩ name (fun s hs => by cases hs)
    have h0 : linA src name l 0 = ((beqS src name && decide ((l.length : Int) ≤ 16)) && linB ⟨src, []⟩ name) := by simp [linA]
    generalize linB ⟨src, []⟩ name = b0 at *
    refine Sat_of T5 c_law45_DeltaLinear_ok (by kernel_rfl) ?_
    conv => whnf
    refine Sat.mono (sat_awake) ?_
    rintro _ rfl
    conv => whnf
    refine Sat.mono (hf) ?_
    rintro _ rfl
    conv => whnf
    refine cond_i (fun k1 => ?_) (fun k1 => ?_)
    · conv => whnf
      refine Sat.mono (sat_awake) ?_
      rintro _ rfl
      conv => whnf
      rfl
    · conv => whnf
      have hc : decide (((stpD l).length : Int) ≤ 16) = decide ((l.length : Int) ≤ 16) := by rw [stpD_len]
      refine cond_i (fun k2 => ?_) (fun k2 => ?_)
      · have k2 : (beqS src name && decide (((stpD l).length : Int) ≤ 16)) = true := k2
        rw [hc] at k2
        rw [k2, Bool.true_and] at h0
        conv => whnf
        refine Sat.mono (l0) ?_
        rintro _ rfl
        conv => whnf
        refine lin_loop src name l hl hs _ (normW_of ?_)
        conv => whnf
        unfold lnS
        rw [h0]
        rfl
      · have k2 : (beqS src name && decide (((stpD l).length : Int) ≤ 16)) = false := k2
        rw [hc] at k2
        rw [k2, Bool.false_and] at h0
        conv => whnf
        refine lin_loop src name l hl hs _ (normW_of ?_)
        conv => whnf
        unfold lnS
        rw [h0]
        rfl
end Go.Proofs.Ytcajnlkkjdhjdaa
