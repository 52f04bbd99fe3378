/- Merged from the texts: Du5 Dp1 Dp2 Dp3 Dp4 Dp5 Dp6 Dp7 Dp8 De3 Du6 Dz1 Dz2 Dp9 De4 De5 -/
import Derived.Test.YtcajnlkkjdhjdaaGreatLs10
set_option linter.unusedSimpArgs false
set_option linter.unusedVariables false
namespace Go.Proofs.YtcajnlkkjdhjdaaGreat
open Go Go.AM
attribute [local irreducible] Sat SatH LoopP
set_option maxRecDepth 100000
set_option maxHeartbeats 1000000

def chgBad (nc : Int) (p : Option Chg) (c : Chg) : Bool :=
  ((((c.row.length : Int) != nc || c.n == 0) || decide (c.n < -20000)) || decide (c.n > 20000)) || (match p with | some q => decide (ordR q.row c.row ≥ 0) | none => false)
def chsErr (cols : List Col) : Option Chg → List Chg → Int
  | _, [] => 0
  | p, c :: r => bif chgBad cols.length p c then 10 else bif valuesErr cols c.row != 0 then valuesErr cols c.row else chsErr cols (some c) r
def prevC (l : List Chg) (i : Nat) : Option Chg := match i with | 0 => none | j + 1 => l[j]?
/-- All together, held at 40000; none where one is below nothing. -/
def total : Int → List Chg → Option Int
  | t, [] => some t
  | t, c :: r => bif decide (c.n < 0) then none else total (mmI false (IntKind.i64.wrap (t + c.n)) 40000) r
def spread (l : List Chg) : List (List Val) := (l.map fun c => List.replicate c.n.toNat c.row).flatten
def aErr (e : Int) : Res := ⟨.tup [.agg [.d (.sl []), .d (.sl [])], .c (int e)], []⟩
def aOk (t : Tbl) : Res := ⟨.tup [t.w, .c (int 0)], []⟩
def aOk0 (cols : List Col) : Res := ⟨.tup [.agg [.d (.sl (colD cols)), .d (.sl [])], .c (int 0)], []⟩
def applyQ (t : Tbl) (cs : List Chg) (r : Res) : Prop :=
  bif tblErr t != 0 then r = aErr (tblErr t) else bif chsErr t.cols none cs != 0 then r = aErr (chsErr t.cols none cs)
  else ∃ u z, cntQ t.rows 1 u ∧ sumQ u cs z ∧ match total 0 z with
    | none => r = aErr 5
    | some n => bif decide (n > 20000) then r = aErr 7 else r = aOk ⟨t.cols, spread z⟩ ∨ (z = [] ∧ r = aOk0 t.cols)
def applyD (t : Tbl) (cs : List Chg) (r : Res) : Prop := r.v.plain = true ∧ applyQ t cs r.asData

def appS0 (t : Tbl) (cs : List Chg) (i : Int) : S := ⟨[(1, .w (chgC cs)), (2, cV (.ptr 2 0)), (4, cV (.ptr 4 0)), (23, .w (chgC cs)), (24, intV cs.length), (25, intV i)],
  [(2, .box [.d (.sl (colD t.cols)), .d (.sl (rowsD t.rows))]), (4, .box [.nil, .nil])]⟩
def appS1 (t : Tbl) (z : List Chg) (i : Nat) (T : Int) : S := ⟨[(2, cV (.ptr 2 0)), (4, cV (.ptr 4 0)), (10, .w (chgC z)), (11, intV T), (84, .w (chgC z)), (85, intV z.length), (86, intV i)],
  [(2, .box [.d (.sl (colD t.cols)), .d (.sl (rowsD t.rows))]), (4, .box [.nil, .nil])]⟩
theorem rowsD_sz (l : List (List Val)) : ∀ y ∈ rowsD l, y.length = 1 := by
  intro y hy
  obtain ⟨r, _, rfl⟩ := List.mem_map.1 hy
  rfl
def appS3 (cols : List Col) (z : List Chg) (i : Int) (rs : List (List Val)) : S := ⟨[(4, cV (.ptr 4 0)), (14, cV (.ptr 14 0)), (107, .w (chgC z)), (108, intV z.length), (109, intV i)], [(4, .box [.nil, .nil]), (14, .box [.d (.sl (colD cols)), .own 121 1 rs.length]), (121, .arr 1 (rowsD rs) false)]⟩
def appS2 (cols : List Col) (z : List Chg) : Nat → S
  | 0 => ⟨[(4, cV (.ptr 4 0)), (14, cV (.ptr 14 0)), (107, .w (chgC z)), (108, intV z.length), (109, intV 0)], [(4, .box [.nil, .nil]), (14, .box [.d (.sl (colD cols)), .nil])]⟩
  | i + 1 => appS3 cols z ((i + 1 : Nat) : Int) (spread (z.take (i + 1)))
theorem spread_len : ∀ (l : List Chg), (∀ c ∈ l, c.n ≤ 20000) → (spread l).length ≤ l.length * 20000
  | [], _ => by simp [spread]
  | c :: r, h => by
    have ih := spread_len r fun x hx => h x (List.mem_cons_of_mem _ hx)
    have hc := h c (List.mem_cons_self ..)
    have : (spread (c :: r)).length = c.n.toNat + (spread r).length := by simp [spread]
    rw [this, List.length_cons]; omega
theorem spread_app (l : List Chg) (c : Chg) : spread (l ++ [c]) = spread l ++ List.replicate c.n.toNat c.row := by simp [spread]
theorem chsErr_bnd (cols : List Col) : ∀ (cs : List Chg) (p : Option Chg), chsErr cols p cs = 0 → ∀ c ∈ cs, -20000 ≤ c.n ∧ c.n ≤ 20000
  | [], _, _, c, hc => by cases hc
  | a :: r, p, h, c, hc => by
    simp only [chsErr] at h
    cases hb : chgBad cols.length p a
    · rw [hb, cond_false] at h
      cases hv : (valuesErr cols a.row != 0)
      · rw [hv, cond_false] at h
        rcases List.mem_cons.1 hc with rfl | hc
        · unfold chgBad at hb
          simp only [Bool.or_eq_false_iff, decide_eq_false_iff_not] at hb
          omega
        · exact chsErr_bnd cols r _ h c hc
      · rw [hv, cond_true] at h
        rw [h] at hv; cases hv
    · rw [hb, cond_true] at h
      cases h
theorem addC_bnd {out : List Chg} {a : Chg} {B K : Int} (hB : 0 ≤ B) (hK : 0 ≤ K) (hs : B + K ≤ 4000000000000000000) (h1 : ∀ c ∈ out, -B ≤ c.n ∧ c.n ≤ B) (h2 : -K ≤ a.n ∧ a.n ≤ K) : ∀ c ∈ addC out a, -(B + K) ≤ c.n ∧ c.n ≤ B + K := by
  intro c hc
  have hout : ∀ c ∈ out, -(B + K) ≤ c.n ∧ c.n ≤ B + K := fun c hc => by have := h1 c hc; omega
  unfold addC at hc
  split at hc
  · rename_i y hy
    have hyo := h1 y (List.mem_of_getLast? hy)
    cases hb : (ordR y.row a.row == 0)
    · rw [hb, cond_false] at hc
      rcases List.mem_append.1 hc with hc | hc
      · exact hout c hc
      · rw [List.mem_singleton] at hc; rw [hc]; omega
    · rw [hb, cond_true] at hc
      rcases List.mem_append.1 hc with hc | hc
      · exact hout c (List.dropLast_subset _ hc)
      · rw [List.mem_singleton] at hc
        rw [hc]
        show -(B + K) ≤ IntKind.i64.wrap (y.n + a.n) ∧ IntKind.i64.wrap (y.n + a.n) ≤ B + K
        rw [wrapI (by omega) (by omega)]; omega
  · rw [List.mem_singleton] at hc; rw [hc]; omega
theorem grp_bnd {K : Int} (hK : 0 ≤ K) : ∀ (l out : List Chg) (B : Int), 0 ≤ B → B + l.length * K ≤ 4000000000000000000 → (∀ c ∈ out, -B ≤ c.n ∧ c.n ≤ B) → (∀ c ∈ l, -K ≤ c.n ∧ c.n ≤ K) → ∀ c ∈ l.foldl addC out, -(B + l.length * K) ≤ c.n ∧ c.n ≤ B + l.length * K
  | [], out, B, _, _, h1, _, c, hc => by simpa using h1 c hc
  | a :: r, out, B, hB, hs, h1, h2, c, hc => by
    have e : ((a :: r).length : Int) * K = (r.length : Int) * K + K := by rw [List.length_cons, Int.natCast_add, Int.add_mul]; simp
    have hn : 0 ≤ (r.length : Int) * K := Int.mul_nonneg (by omega) hK
    rw [e] at hs ⊢
    have := grp_bnd hK r (addC out a) (B + K) (by omega) (by omega) (addC_bnd hB hK (by omega) h1 (h2 a (List.mem_cons_self ..))) (fun x hx => h2 x (List.mem_cons_of_mem _ hx)) c hc
    omega
theorem total_small : ∀ (z : List Chg) (t T : Int), 0 ≤ t → t ≤ 40000 → (∀ c ∈ z, 0 ≤ c.n ∧ c.n ≤ 4000000000000000000) → total t z = some T → T ≤ 20000 → t ≤ T ∧ ∀ c ∈ z, c.n ≤ 20000
  | [], t, T, _, _, _, h, _ => by
    have h : some t = some T := h
    cases h; exact ⟨Int.le_refl _, fun c hc => by cases hc⟩
  | a :: r, t, T, h0, h1, h2, h, hT => by
    have ha := h2 a (List.mem_cons_self ..)
    have hd : decide (a.n < 0) = false := decide_eq_false (by omega)
    simp only [total, hd, cond_false] at h
    rw [wrapI (by omega) (by omega)] at h
    have hm : mmI false (t + a.n) 40000 = if 40000 < t + a.n then 40000 else t + a.n := rfl
    rw [hm] at h
    have h4 := total_small r _ T (by split <;> omega) (by split <;> omega) (fun x hx => h2 x (List.mem_cons_of_mem _ hx)) h hT
    have h5 : a.n ≤ 20000 ∧ t ≤ T := by
      have := h4.1
      split at this <;> omega
    refine ⟨h5.2, fun c hc => ?_⟩
    rcases List.mem_cons.1 hc with rfl | hc
    · exact h5.1
    · exact h4.2 c hc
attribute [local irreducible] applyD in
theorem sat_Apply (t : Tbl) (cs : List Chg) (ht : t.rows.length ≤ 50000) (hc : cs.length ≤ 50000) (htc : t.cols.length ≤ 100000) : Sat Pg k_delta_Apply [t.w, chgC cs] (applyQ t cs) := by
  refine Sat.data (Q := applyD t cs) ?_ (fun r h => by unfold applyD at h; exact h)
  obtain ⟨cols, rows⟩ := t
  refine Sat_of T3 c_delta_Apply_ok (by kernel_rfl) ?_
  conv => whnf
  refine Sat.mono (sat_table_Check ⟨cols, rows⟩) ?_
  rintro _ rfl
  conv => whnf
  refine cond_i (fun h1 => ?_) (fun h1 => ?_)
  · have h1 : (tblErr ⟨cols, rows⟩ != 0) = true := h1
    conv => whnf
    unfold applyD applyQ
    refine ⟨rfl, ?_⟩
    rw [h1, cond_true]
    rfl
  · have h1 : (tblErr ⟨cols, rows⟩ != 0) = false := h1
    conv => whnf
    refine loopI (P := Pg) (f := T3.f) (body := c_delta_Apply_L0) cs.length (fun i => appS0 ⟨cols, rows⟩ cs i) (fun i => chsErr cols none cs = chsErr cols (prevC cs i) (cs.drop i)) ⟨rfl, normW_of ?_⟩ ?_
    · conv => whnf
      rw [chgD_len]
      rfl
    · intro i hi hR
      have wi : i < cs.length → IntKind.i64.wrap ((i : Int) + 1) = ((i + 1 : Nat) : Int) := fun h => wrapS h (by omega)
      conv => whnf
      refine cond_i (fun h2 => ?_) (fun h2 => ?_)
      · have hlt : i < cs.length := by have h2 : decide ((i : Int) < (cs.length : Int)) = true := h2; have := of_decide_eq_true h2; omega
        rw [drop_cons hlt] at hR
        conv => whnf
        refine ⟨by omega, _, chgD_get hlt, rfl, ?_⟩
        conv => whnf
        refine cond_i (fun h3 => ?_) (fun h3 => ?_)
        · have h3 : ((((cs[i].row.length : Int) != (cols.length : Int) || cs[i].n == 0) || decide (cs[i].n < -20000)) || decide (cs[i].n > 20000)) = true := by rw [← rowD_len, ← colD_len]; exact h3
          have hb : chgBad cols.length (prevC cs i) cs[i] = true := by unfold chgBad; rw [h3]; rfl
          conv => whnf
          unfold applyD applyQ
          refine ⟨rfl, ?_⟩
          rw [h1, cond_false, show chsErr cols none cs = 10 from by rw [hR]; simp only [chsErr, hb, cond_true]]
          rfl
        · have h3 : ((((cs[i].row.length : Int) != (cols.length : Int) || cs[i].n == 0) || decide (cs[i].n < -20000)) || decide (cs[i].n > 20000)) = false := by rw [← rowD_len, ← colD_len]; exact h3
          conv => whnf
          refine cond_i (fun h4 => ?_) (fun h4 => ?_)
          · have h4 : decide ((i : Int) > 0) = true := h4
            have hi0 : 0 < i := by have := of_decide_eq_true h4; omega
            have wp : IntKind.i64.wrap ((i : Int) - 1) = ((i - 1 : Nat) : Int) := wrapP hi0 (by omega)
            have hlp : i - 1 < cs.length := by omega
            have hpv : prevC cs i = some cs[i - 1] := by
              cases i with
              | zero => omega
              | succ k => exact List.getElem?_eq_getElem hlp
            conv => whnf
            rw [wp]
            refine ⟨by omega, _, chgD_get hlp, rfl, ?_⟩
            conv => whnf
            refine Sat.mono (sat_delta_order cs[i - 1].row cs[i].row) ?_
            rintro _ rfl
            conv => whnf
            refine cond_i (fun h5 => ?_) (fun h5 => ?_)
            · have h5 : decide (ordR cs[i - 1].row cs[i].row ≥ 0) = true := h5
              have hb : chgBad cols.length (prevC cs i) cs[i] = true := by unfold chgBad; rw [h3, hpv]; exact h5
              conv => whnf
              unfold applyD applyQ
              refine ⟨rfl, ?_⟩
              rw [h1, cond_false, show chsErr cols none cs = 10 from by rw [hR]; simp only [chsErr, hb, cond_true]]
              rfl
            · have h5 : decide (ordR cs[i - 1].row cs[i].row ≥ 0) = false := h5
              have hb : chgBad cols.length (prevC cs i) cs[i] = false := by unfold chgBad; rw [h3, hpv]; exact h5
              conv => whnf
              refine Sat.mono (sat_delta_values cols cs[i].row) ?_
              rintro _ rfl
              conv => whnf
              refine cond_i (fun h6 => ?_) (fun h6 => ?_)
              · have h6 : (valuesErr cols cs[i].row != 0) = true := h6
                conv => whnf
                unfold applyD applyQ
                refine ⟨rfl, ?_⟩
                rw [h1, cond_false, show chsErr cols none cs = valuesErr cols cs[i].row from by rw [hR]; simp only [chsErr, hb, cond_false, h6, cond_true], h6]
                rfl
              · have h6 : (valuesErr cols cs[i].row != 0) = false := h6
                conv => whnf
                refine ⟨hlt, ?_, normW_of ?_⟩
                · rw [hR]; simp only [chsErr, hb, cond_false, h6]; rw [show prevC cs (i + 1) = some cs[i] from List.getElem?_eq_getElem hlt]
                · conv => whnf
                  rw [wi hlt]
                  rfl
          · have h4 : decide ((i : Int) > 0) = false := h4
            have hi0 : i = 0 := by have := of_decide_eq_false h4; omega
            have hpv : prevC cs i = none := by rw [hi0]; rfl
            have hb : chgBad cols.length (prevC cs i) cs[i] = false := by unfold chgBad; rw [h3, hpv]; rfl
            conv => whnf
            refine Sat.mono (sat_delta_values cols cs[i].row) ?_
            rintro _ rfl
            conv => whnf
            refine cond_i (fun h6 => ?_) (fun h6 => ?_)
            · have h6 : (valuesErr cols cs[i].row != 0) = true := h6
              conv => whnf
              unfold applyD applyQ
              refine ⟨rfl, ?_⟩
              rw [h1, cond_false, show chsErr cols none cs = valuesErr cols cs[i].row from by rw [hR]; simp only [chsErr, hb, cond_false, h6, cond_true], h6]
              rfl
            · have h6 : (valuesErr cols cs[i].row != 0) = false := h6
              conv => whnf
              refine ⟨hlt, ?_, normW_of ?_⟩
              · rw [hR]; simp only [chsErr, hb, cond_false, h6]; rw [show prevC cs (i + 1) = some cs[i] from List.getElem?_eq_getElem hlt]
              · conv => whnf
                rw [wi hlt]
                rfl
      · have hge : i = cs.length := by have h2 : decide ((i : Int) < (cs.length : Int)) = false := h2; have := of_decide_eq_false h2; omega
        have hce : chsErr cols none cs = 0 := by rw [hR, hge, List.drop_length]; cases prevC cs cs.length <;> rfl
        conv => whnf
        refine Sat.mono (sat_counted rows 1 (Nat.le_trans ht (by omega))) ?_
        rintro _ ⟨us, u1, u2, rfl⟩
        obtain ⟨u, hu⟩ : ∃ u, u = grp (us.map (cntC 1)) := ⟨_, rfl⟩
        have hul : u.length ≤ 50000 := by
          rw [hu]; exact Nat.le_trans (grp_len _) (by rw [List.length_map, u1.length_eq]; exact ht)
        rw [← hu]
        conv => whnf
        refine Sat.mono (sat_summed u cs (by omega) (by omega)) ?_
        rintro _ ⟨l, l1, l2, rfl⟩
        obtain ⟨z, hz⟩ : ∃ z, z = sumL l := ⟨_, rfl⟩
        have hzl : z.length ≤ 100000 := by
          rw [hz]
          refine Nat.le_trans (List.length_filter_le _ _) (Nat.le_trans (grp_len _) ?_)
          rw [l1.length_eq, List.length_append]; omega
        rw [← hz]
        have hq : ∀ r : Res, r.v.plain = true → (match total 0 z with
          | none => r.asData = aErr 5
          | some n => bif decide (n > 20000) then r.asData = aErr 7 else r.asData = aOk ⟨cols, spread z⟩ ∨ (z = [] ∧ r.asData = aOk0 cols)) → applyD ⟨cols, rows⟩ cs r := by
          intro r hp hr
          unfold applyD applyQ
          refine ⟨hp, ?_⟩
          rw [h1, cond_false, hce]
          exact ⟨u, z, ⟨us, ⟨u1, u2⟩, hu⟩, ⟨l, l1, l2, hz⟩, hr⟩
        conv => whnf
        refine loopF (P := Pg) (f := T3.f) (body := c_delta_Apply_L1) (fun x : Nat × Int => appS1 ⟨cols, rows⟩ z x.1 x.2) (fun x => z.length - x.1) (fun x => x.1 ≤ z.length ∧ total 0 z = total x.2 (z.drop x.1) ∧ ∀ c ∈ z.take x.1, ¬ c.n < 0) ⟨(0, 0), ⟨Nat.zero_le _, rfl, fun c hc => by simp at hc⟩, normW_of ?_⟩ ?_
        · conv => whnf
          rw [chgD_len]
          rfl
        · rintro ⟨q, T⟩ hR
          have hS : q ≤ z.length ∧ total 0 z = total T (z.drop q) ∧ ∀ c ∈ z.take q, ¬ c.n < 0 := hR
          clear hR
          obtain ⟨g1, g2, g3⟩ := hS
          have wq : q < z.length → IntKind.i64.wrap ((q : Int) + 1) = ((q + 1 : Nat) : Int) := fun h => wrapS h (by omega)
          conv => whnf
          refine cond_i (fun k1 => ?_) (fun k1 => ?_)
          · have hlt : q < z.length := by have k1 : decide ((q : Int) < (z.length : Int)) = true := k1; have := of_decide_eq_true k1; omega
            rw [drop_cons hlt] at g2
            conv => whnf
            refine ⟨by omega, _, chgD_get hlt, rfl, ?_⟩
            conv => whnf
            refine cond_i (fun k2 => ?_) (fun k2 => ?_)
            · have k2 : decide (z[q].n < 0) = true := k2
              conv => whnf
              refine hq _ rfl ?_
              rw [g2]
              simp only [total, k2, cond_true]
              rfl
            · have k2 : decide (z[q].n < 0) = false := k2
              conv => whnf
              refine ⟨(q + 1, mmI false (IntKind.i64.wrap (T + z[q].n)) 40000), ⟨⟨by show q + 1 ≤ z.length; omega, ?_, ?_⟩, by show z.length - (q + 1) < z.length - q; omega⟩, normW_of ?_⟩
              · rw [g2]; simp only [total, k2, cond_false]
              · intro c hc
                rw [List.take_succ_eq_append_getElem hlt, List.mem_append] at hc
                rcases hc with hc | hc
                · exact g3 c hc
                · rw [List.mem_singleton] at hc; rw [hc]; exact of_decide_eq_false k2
              · conv => whnf
                rw [wq hlt]
                rfl
          · have hge : q = z.length := by have k1 : decide ((q : Int) < (z.length : Int)) = false := k1; have := of_decide_eq_false k1; omega
            rw [hge, List.drop_length] at g2
            rw [hge, List.take_length] at g3
            conv => whnf
            refine cond_i (fun k3 => ?_) (fun k3 => ?_)
            · have k3 : decide (T > 20000) = true := k3
              conv => whnf
              refine hq _ rfl ?_
              rw [g2]
              simp only [total, k3, cond_true]
              rfl
            · have k3 : decide (T > 20000) = false := k3
              conv => whnf
              refine Sat.mono (sat_Clone_Column cols (Nat.le_trans htc (by omega))) ?_
              rintro _ rfl
              have hT : T ≤ 20000 := by have := of_decide_eq_false k3; omega
              have hub : ∀ c ∈ u, -50000 ≤ c.n ∧ c.n ≤ 50000 := by
                intro c hc
                rw [hu] at hc
                have h6 : ((us.map (cntC 1)).length : Int) ≤ 50000 := by rw [List.length_map, u1.length_eq]; have : rows.length ≤ 50000 := ht; omega
                have := grp_bnd (K := 1) (by omega) (us.map (cntC 1)) [] 0 (Int.le_refl _) (by omega) (fun c hc => by cases hc) (fun c hc => by
                  obtain ⟨r, _, rfl⟩ := List.mem_map.1 hc
                  show -1 ≤ (1 : Int) ∧ (1 : Int) ≤ 1
                  omega) c hc
                omega
              have hlb : ∀ c ∈ l, -50000 ≤ c.n ∧ c.n ≤ 50000 := by
                intro c hc
                rcases List.mem_append.1 (l1.mem_iff.1 hc) with hc | hc
                · exact hub c hc
                · have := chsErr_bnd cols cs none hce c hc; omega
              have hll : (l.length : Int) ≤ 100000 := by rw [l1.length_eq, List.length_append]; omega
              have hzb0 : ∀ c ∈ z, 0 ≤ c.n ∧ c.n ≤ 4000000000000000000 := by
                intro c hc
                have hn := g3 c hc
                rw [hz] at hc
                have := grp_bnd (K := 50000) (by omega) l [] 0 (Int.le_refl _) (by omega) (fun c hc => by cases hc) hlb c (List.mem_filter.1 hc).1
                omega
              have hzb : ∀ c ∈ z, 0 < c.n ∧ c.n ≤ 20000 := by
                intro c hc
                have h7 := (total_small z 0 T (Int.le_refl _) (by omega) hzb0 g2 hT).2 c hc
                have h8 := hzb0 c hc
                have h9 : c.n ≠ 0 := by
                  rw [hz] at hc
                  have := (List.mem_filter.1 hc).2
                  simpa using this
                omega
              conv => whnf
              refine loopI (P := Pg) (f := T3.f) (body := c_delta_Apply_L2) z.length (fun i => appS2 cols z i) (fun _ => True) ⟨trivial, normW_of ?_⟩ ?_
              · conv => whnf
                rw [chgD_len]
                rfl
              · intro i hi _
                have wj : i < z.length → IntKind.i64.wrap ((i : Int) + 1) = ((i + 1 : Nat) : Int) := fun h => wrapS h (by omega)
                cases i with
                | zero =>
                  conv => whnf
                  refine cond_i (fun k4 => ?_) (fun k4 => ?_)
                  · have hlt : 0 < z.length := by have k4 : decide (((0 : Nat) : Int) < (z.length : Int)) = true := k4; have := of_decide_eq_true k4; omega
                    have hb := hzb z[0] (List.getElem_mem hlt)
                    obtain ⟨k, hk⟩ : ∃ k : Nat, z[0].n = (k : Int) := ⟨z[0].n.toNat, by omega⟩
                    conv => whnf
                    refine ⟨by omega, _, chgD_get hlt, rfl, ?_⟩
                    conv => whnf
                    rw [hk]
                    refine Sat.mono (sat_Repeat z[0].row k (by omega)) ?_
                    rintro _ rfl
                    conv => whnf
                    refine ⟨rowsD_sz _, by unfold fits; rw [rowsD_len, List.length_replicate]; omega, by rw [rowsD_len, List.length_replicate]; omega, ?_⟩
                    conv => whnf
                    refine ⟨hlt, trivial, normW_of ?_⟩
                    conv => whnf
                    have e1 : spread (z.take 1) = List.replicate k z[0].row := by
                      rw [List.take_succ_eq_append_getElem hlt]; simp [spread, hk]
                    have v1 : IntKind.i64.wrap ((0 : Int) + 1) = 1 := wrapI (by omega) (by omega)
                    rw [v1, rowsD_len]
                    show appS3 cols z 1 (List.replicate k z[0].row) = appS3 cols z 1 (spread (z.take 1))
                    rw [e1]
                  · have hz0 : z = [] := by
                      have k4 : decide (((0 : Nat) : Int) < (z.length : Int)) = false := k4
                      have := of_decide_eq_false k4
                      exact List.eq_nil_of_length_eq_zero (by omega)
                    conv => whnf
                    refine hq _ rfl ?_
                    rw [g2]
                    simp only [total, k3, cond_false]
                    exact .inr ⟨hz0, rfl⟩
                | succ i =>
                  have hsl : (spread (z.take (i + 1))).length ≤ 2000000000 := by
                    have := spread_len (z.take (i + 1)) fun c hc => (hzb c (List.mem_of_mem_take hc)).2
                    have h5 : (z.take (i + 1)).length ≤ 100000 := by rw [List.length_take]; omega
                    omega
                  have htk : (rowsD (spread (z.take (i + 1)))).take (spread (z.take (i + 1))).length = rowsD (spread (z.take (i + 1))) := by rw [← rowsD_len, List.take_length]
                  obtain ⟨rs, hrs⟩ : ∃ rs, rs = spread (z.take (i + 1)) := ⟨_, rfl⟩
                  show mwpR Pg T3.f c_delta_Apply_L2 _ (appS3 cols z ((i + 1 : Nat) : Int) (spread (z.take (i + 1))))
                  rw [← hrs] at hsl htk ⊢
                  conv => whnf
                  refine cond_i (fun k4 => ?_) (fun k4 => ?_)
                  · have hlt : i + 1 < z.length := by have k4 : decide (((i + 1 : Nat) : Int) < (z.length : Int)) = true := k4; have := of_decide_eq_true k4; omega
                    have hb := hzb z[i + 1] (List.getElem_mem hlt)
                    obtain ⟨k, hk⟩ : ∃ k : Nat, z[i + 1].n = (k : Int) := ⟨z[i + 1].n.toNat, by omega⟩
                    conv => whnf
                    refine ⟨by omega, _, chgD_get hlt, rfl, ?_⟩
                    conv => whnf
                    rw [hk]
                    refine Sat.mono (sat_Repeat z[i + 1].row k (by omega)) ?_
                    rintro _ rfl
                    conv => whnf
                    refine ⟨rowsD_sz _, by unfold fits; rw [rowsD_len, List.length_replicate]; omega, by rw [rowsD_len, List.length_replicate]; omega, ?_⟩
                    conv => whnf
                    refine ⟨hlt, trivial, normW_of ?_⟩
                    conv => whnf
                    have e1 : spread (z.take (i + 1 + 1)) = rs ++ List.replicate k z[i + 1].row := by
                      rw [List.take_succ_eq_append_getElem hlt, spread_app, hk, ← hrs]; simp
                    rw [wj hlt, rowsD_len]
                    have e2 : (rowsD rs).take rs.length ++ rowsD (List.replicate k z[i + 1].row) = rowsD (rs ++ List.replicate k z[i + 1].row) := by rw [htk]; simp [rowsD]
                    show (⟨[(4, cV (.ptr 4 0)), (14, cV (.ptr 14 0)), (107, .w (chgC z)), (108, intV z.length), (109, intV ((i + 1 + 1 : Nat) : Int))], [(4, .box [.nil, .nil]), (14, .box [.d (.sl (colD cols)), .own 121 1 (rs.length + (List.replicate k z[i + 1].row).length)]), (121, .arr 1 ((rowsD rs).take rs.length ++ rowsD (List.replicate k z[i + 1].row)) false)]⟩ : S) = appS3 cols z ((i + 1 + 1 : Nat) : Int) (spread (z.take (i + 1 + 1)))
                    rw [e1, e2, ← List.length_append]
                    rfl
                  · have hge : z.length ≤ i + 1 := by have k4 : decide (((i + 1 : Nat) : Int) < (z.length : Int)) = false := k4; have := of_decide_eq_false k4; omega
                    rw [List.take_of_length_le hge] at hrs
                    conv => whnf
                    refine hq _ rfl ?_
                    rw [g2]
                    simp only [total, k3, cond_false]
                    refine .inl ?_
                    rw [← hrs]
                    exact congrArg (fun l => (⟨.tup [.agg [.d (.sl (colD cols)), .d (.sl l)], .c (int 0)], []⟩ : Res)) htk
end Go.Proofs.YtcajnlkkjdhjdaaGreat

namespace Go.Proofs.YtcajnlkkjdhjdaaGreat
open Go Go.AM

def canV (v : Val) : Prop := (v.k = 0 ∧ v.n = 0 ∧ v.s = ⟨#[]⟩) ∨ ((v.k = 1 ∨ v.k = 2) ∧ v.s = ⟨#[]⟩) ∨ (v.k = 3 ∧ v.n = 0)
theorem bif_ne {b : Bool} {x y : Int} (hx : x ≠ 0) (h : (bif b then x else y) = 0) : b = false ∧ y = 0 := by
  cases b
  · exact ⟨rfl, h⟩
  · exact absurd h hx
theorem canV_of {k : Int} {v : Val} (h : valErr k v = 0) : canV v := by
  unfold valErr at h
  obtain ⟨h1, h⟩ := bif_ne (by omega) h
  obtain ⟨_, h⟩ := bif_ne (by omega) h
  obtain ⟨_, h⟩ := bif_ne (by omega) h
  obtain ⟨_, h⟩ := bif_ne (by omega) h
  obtain ⟨h2, h⟩ := bif_ne (by omega) h
  obtain ⟨h3, _⟩ := bif_ne (by omega) h
  have hs : v.k = 3 ∨ v.s = ⟨#[]⟩ := by
    by_cases e : v.k = 3
    · exact .inl e
    · have e' : (v.k != 3) = true := by simpa using e
      rw [e', Bool.true_and] at h2
      exact .inr ((AM.beqS_iff _ _).1 (by simpa using h2))
  have hn : v.n = 0 ∨ (v.k ≠ 0 ∧ v.k ≠ 3) := by
    by_cases e : v.n = 0
    · exact .inl e
    · have e' : (v.n != 0) = true := by simpa using e
      rw [e', Bool.and_true] at h3
      simp at h3
      exact .inr h3
  have hk : v.k = 0 ∨ v.k = 1 ∨ v.k = 2 ∨ v.k = 3 := by
    by_cases e : v.k = 0
    · exact .inl e
    · have e' : (v.k != 0) = true := by simpa using e
      rw [e', Bool.true_and] at h1
      simp at h1
      omega
  unfold canV
  rcases hk with hk | hk | hk | hk
  · rcases hs with hs | hs
    · omega
    · rcases hn with hn | hn
      · exact .inl ⟨hk, hn, hs⟩
      · omega
  · rcases hs with hs | hs
    · omega
    · exact .inr (.inl ⟨.inl hk, hs⟩)
  · rcases hs with hs | hs
    · omega
    · exact .inr (.inl ⟨.inr hk, hs⟩)
  · rcases hn with hn | hn
    · exact .inr (.inr ⟨hk, hn⟩)
    · omega
theorem cmpI_zero {a b : Int} (h : cmpI a b = 0) : a = b := by
  rw [cmpI_eq] at h
  split at h
  · omega
  · split at h <;> omega
theorem cmpS_zero {a b : ByteArray} (h : cmpS a b = 0) : a = b := by
  unfold cmpS at h
  cases h1 : ltS a b
  · rw [h1, cond_false] at h
    cases h2 : beqS a b
    · rw [h2, cond_false] at h; omega
    · exact (AM.beqS_iff _ _).1 h2
  · rw [h1, cond_true] at h; omega
theorem ordV_zero {a b : Val} (ha : canV a) (hb : canV b) (h : ordV a b = 0) : a = b := by
  obtain ⟨ak, an, az⟩ := a
  obtain ⟨bk, bn, bz⟩ := b
  simp only [canV] at ha hb
  unfold ordV at h
  simp only at h
  have hk : ak = bk := by
    by_cases e : ak = bk
    · exact e
    · have e' : (ak != bk) = true := by simpa using e
      rw [e', cond_true] at h
      exact cmpI_zero h
  subst hk
  rw [show (ak != ak) = false by simp, cond_false] at h
  rcases ha with ⟨rfl, rfl, rfl⟩ | ⟨h1, rfl⟩ | ⟨rfl, rfl⟩
  · rcases hb with ⟨_, rfl, rfl⟩ | ⟨h2, _⟩ | ⟨h2, _⟩
    · rfl
    · omega
    · omega
  · rcases hb with ⟨h2, _, _⟩ | ⟨_, rfl⟩ | ⟨h2, _⟩
    · omega
    · have e3 : (ak == 3) = false := by simp; omega
      have e4 : (ak == 1 || ak == 2) = true := by simpa using h1
      rw [e3, cond_false, e4, cond_true] at h
      rw [cmpI_zero h]
    · omega
  · rcases hb with ⟨h2, _, _⟩ | ⟨h2, _⟩ | ⟨_, rfl⟩
    · omega
    · omega
    · rw [show ((3 : Int) == 3) = true from rfl, cond_true] at h
      rw [cmpS_zero h]

def canR (r : List Val) : Prop := ∀ v ∈ r, canV v
theorem ordR_zero : ∀ {a b : List Val}, canR a → canR b → ordR a b = 0 → a = b
  | [], [], _, _, _ => rfl
  | [], _ :: _, _, _, h => by have h : (-1 : Int) = 0 := h; omega
  | _ :: _, [], _, _, h => by have h : (1 : Int) = 0 := h; omega
  | x :: xs, y :: ys, ha, hb, h => by
    have h : (bif ordV x y != 0 then ordV x y else ordR xs ys) = 0 := h
    by_cases e : ordV x y = 0
    · rw [show (ordV x y != 0) = false by simp [e], cond_false] at h
      rw [ordV_zero (ha x (List.mem_cons_self ..)) (hb y (List.mem_cons_self ..)) e, ordR_zero (fun v hv => ha v (List.mem_cons_of_mem _ hv)) (fun v hv => hb v (List.mem_cons_of_mem _ hv)) h]
    · rw [show (ordV x y != 0) = true by simp [e], cond_true] at h
      exact absurd h e
theorem valuesL_can : ∀ {cols : List Col} {row : List Val}, row.length = cols.length → valuesL cols row = 0 → canR row
  | [], [], _, _ => fun v hv => by cases hv
  | [], _ :: _, h, _ => by cases h
  | _ :: _, [], h, _ => by cases h
  | c :: cs, v :: vs, hl, h => by
    have h : (bif valErr c.t v != 0 then valErr c.t v else valuesL cs vs) = 0 := h
    by_cases e : valErr c.t v = 0
    · rw [show (valErr c.t v != 0) = false by simp [e], cond_false] at h
      intro x hx
      rcases List.mem_cons.1 hx with rfl | hx
      · exact canV_of e
      · exact valuesL_can (by simpa using hl) h x hx
    · rw [show (valErr c.t v != 0) = true by simp [e], cond_true] at h
      exact absurd h e
theorem valuesErr_can {cols : List Col} {row : List Val} (h : valuesErr cols row = 0) : row.length = cols.length ∧ canR row := by
  unfold valuesErr at h
  obtain ⟨h1, h2⟩ := bif_ne (by omega) h
  have hl : row.length = cols.length := by
    rw [bne_eq_false_iff_eq] at h1; omega
  exact ⟨hl, valuesL_can hl h2⟩
end Go.Proofs.YtcajnlkkjdhjdaaGreat

namespace Go.Proofs.YtcajnlkkjdhjdaaGreat
open Go Go.AM

/-- What a list of changes says of a row. -/
def wt : List Chg → List Val → Int
  | [], _ => 0
  | c :: l, r => (bif ordR c.row r == 0 then c.n else 0) + wt l r
theorem wt_app (a b : List Chg) (r : List Val) : wt (a ++ b) r = wt a r + wt b r := by
  induction a with
  | nil => simp [wt]
  | cons c l ih => simp only [List.cons_append, wt, ih]; omega
theorem wt_perm {a b : List Chg} (h : a.Perm b) (r : List Val) : wt a r = wt b r := by
  induction h with
  | nil => rfl
  | cons x _ ih => simp only [wt, ih]
  | swap x y l => simp only [wt]; omega
  | trans _ _ ih1 ih2 => exact ih1.trans ih2
theorem eq_row {a b r : List Val} (h : ordR a b = 0) : (ordR a r == 0) = (ordR b r == 0) := by
  have hb := ordR_ok.zero.1 h
  have key : ordR a r = 0 ↔ ordR b r = 0 := by
    constructor
    · intro e
      have e1 := ordR_ok.trans b a r (by omega) (by omega)
      have e2 := ordR_ok.trans r a b (by have := ordR_ok.zero.1 e; omega) (by omega)
      have := ordR_ok.ge.2 e2
      omega
    · intro e
      have e1 := ordR_ok.trans a b r (by omega) (by omega)
      have e2 := ordR_ok.trans r b a (by have := ordR_ok.zero.1 e; omega) (by omega)
      have := ordR_ok.ge.2 e2
      omega
  by_cases e : ordR a r = 0
  · rw [e, key.1 e]
  · have e2 : ¬ ordR b r = 0 := fun h => e (key.2 h)
    rw [beq_eq_false_iff_ne.2 e, beq_eq_false_iff_ne.2 e2]
theorem snoc_last {out : List Chg} {y : Chg} (h : out.getLast? = some y) : out = out.dropLast ++ [y] := by
  obtain ⟨ys, e⟩ := List.getLast?_eq_some_iff.1 h
  rw [e, List.dropLast_concat]
theorem wt_addC {out : List Chg} {a : Chg} {B K : Int} (hs : B + K ≤ 4000000000000000000) (h1 : ∀ c ∈ out, -B ≤ c.n ∧ c.n ≤ B) (h2 : -K ≤ a.n ∧ a.n ≤ K) (r : List Val) : wt (addC out a) r = wt out r + wt [a] r := by
  unfold addC
  split
  · rename_i y hy
    have hyo := h1 y (List.mem_of_getLast? hy)
    have ho := snoc_last hy
    cases hb : (ordR y.row a.row == 0)
    · rw [cond_false, wt_app]
    · rw [cond_true]
      have e0 : ordR y.row a.row = 0 := by simpa using hb
      have e1 : wt out r = wt out.dropLast r + wt [y] r := by rw [← wt_app, ← ho]
      rw [wt_app, e1]
      simp only [wt, eq_row e0]
      rw [wrapI (by omega) (by omega)]
      cases (ordR a.row r == 0) <;> simp <;> omega
  · rename_i hn
    have : out = [] := by cases out with | nil => rfl | cons x l => simp at hn
    rw [this]; simp [wt]
theorem wt_foldl {K : Int} (hK : 0 ≤ K) (r : List Val) : ∀ (l out : List Chg) (B : Int), 0 ≤ B → B + l.length * K ≤ 4000000000000000000 → (∀ c ∈ out, -B ≤ c.n ∧ c.n ≤ B) → (∀ c ∈ l, -K ≤ c.n ∧ c.n ≤ K) → wt (l.foldl addC out) r = wt out r + wt l r
  | [], out, B, _, _, _, _ => by simp [wt]
  | a :: l, out, B, hB, hs, h1, h2 => by
    have e : ((a :: l).length : Int) * K = (l.length : Int) * K + K := by rw [List.length_cons, Int.natCast_add, Int.add_mul]; simp
    have hn : 0 ≤ (l.length : Int) * K := Int.mul_nonneg (by omega) hK
    rw [e] at hs
    have ha := h2 a (List.mem_cons_self ..)
    rw [List.foldl_cons, wt_foldl hK r l (addC out a) (B + K) (by omega) (by omega) (addC_bnd hB hK (by omega) h1 ha) (fun x hx => h2 x (List.mem_cons_of_mem _ hx)), wt_addC (B := B) (K := K) (by omega) h1 ha]
    simp only [wt]; omega
theorem wt_filter (l : List Chg) (r : List Val) : wt (l.filter fun x => !(x.n == 0)) r = wt l r := by
  induction l with
  | nil => rfl
  | cons c l ih =>
    by_cases e : c.n = 0
    · simp [e, wt, ih]
    · simp [e, wt, ih]
end Go.Proofs.YtcajnlkkjdhjdaaGreat

namespace Go.Proofs.YtcajnlkkjdhjdaaGreat
open Go Go.AM

def Asc (l : List Chg) : Prop := l.Pairwise fun a b => ordR a.row b.row < 0
theorem asc_addC {out : List Chg} {x : Chg} (h : Asc out) (hx : ∀ y ∈ out, ordR y.row x.row ≤ 0) : Asc (addC out x) ∧ ∀ y ∈ addC out x, ∃ z, (z ∈ out ∨ z = x) ∧ y.row = z.row := by
  unfold addC
  split
  · rename_i y hy
    have ho := snoc_last hy
    have hyo := List.mem_of_getLast? hy
    have ha := h
    rw [ho] at ha
    unfold Asc at ha
    rw [List.pairwise_append] at ha
    cases hb : (ordR y.row x.row == 0)
    · rw [cond_false]
      have hne : ordR y.row x.row ≠ 0 := by simpa using hb
      have hlt : ordR y.row x.row < 0 := by have := hx y hyo; omega
      refine ⟨?_, fun z hz => ?_⟩
      · unfold Asc
        rw [List.pairwise_append]
        refine ⟨h, List.pairwise_singleton _ _, fun a ha' b hb' => ?_⟩
        rw [List.mem_singleton] at hb'
        subst hb'
        rw [ho] at ha'
        rcases List.mem_append.1 ha' with ha' | ha'
        · exact ordR_ok.lt_of (ha.2.2 a ha' y (List.mem_singleton.2 rfl)) (by omega)
        · rw [List.mem_singleton] at ha'; rw [ha']; exact hlt
      · rcases List.mem_append.1 hz with hz | hz
        · exact ⟨z, .inl hz, rfl⟩
        · exact ⟨x, .inr rfl, by rw [List.mem_singleton.1 hz]⟩
    · rw [cond_true]
      refine ⟨?_, fun z hz => ?_⟩
      · unfold Asc
        rw [List.pairwise_append]
        refine ⟨ha.1, List.pairwise_singleton _ _, fun a ha' b hb' => ?_⟩
        rw [List.mem_singleton] at hb'
        subst hb'
        exact ha.2.2 a ha' y (List.mem_singleton.2 rfl)
      · rcases List.mem_append.1 hz with hz | hz
        · exact ⟨z, .inl (List.dropLast_subset _ hz), rfl⟩
        · exact ⟨y, .inl hyo, by rw [List.mem_singleton.1 hz]⟩
  · refine ⟨List.pairwise_singleton _ _, fun y hy => ⟨x, .inr rfl, by rw [List.mem_singleton.1 hy]⟩⟩
theorem asc_foldl : ∀ (l out : List Chg), Asc out → l.Pairwise (fun a b => ordR a.row b.row ≤ 0) → (∀ y ∈ out, ∀ x ∈ l, ordR y.row x.row ≤ 0) → Asc (l.foldl addC out) ∧ ∀ y ∈ l.foldl addC out, ∃ z, (z ∈ out ∨ z ∈ l) ∧ y.row = z.row
  | [], out, h, _, _ => ⟨h, fun y hy => ⟨y, .inl hy, rfl⟩⟩
  | a :: l, out, h, hs, hx => by
    rw [List.pairwise_cons] at hs
    have h1 := asc_addC h (fun y hy => hx y hy a (List.mem_cons_self ..))
    have h2 := asc_foldl l (addC out a) h1.1 hs.2 (fun y hy x hxl => by
      obtain ⟨z, hz, e⟩ := h1.2 y hy
      rw [e]
      rcases hz with hz | rfl
      · exact hx z hz x (List.mem_cons_of_mem _ hxl)
      · exact hs.1 x hxl)
    refine ⟨h2.1, fun y hy => ?_⟩
    obtain ⟨z, hz, e⟩ := h2.2 y hy
    rcases hz with hz | hz
    · obtain ⟨w, hw, e2⟩ := h1.2 z hz
      rcases hw with hw | rfl
      · exact ⟨w, .inl hw, e.trans e2⟩
      · exact ⟨w, .inr (List.mem_cons_self ..), e.trans e2⟩
    · exact ⟨z, .inr (List.mem_cons_of_mem _ hz), e⟩
theorem wt_above {l : List Chg} {r : List Val} (h : ∀ c ∈ l, ordR r c.row < 0) : wt l r = 0 := by
  induction l with
  | nil => rfl
  | cons c l ih =>
    have hc := h c (List.mem_cons_self ..)
    have e : (ordR c.row r == 0) = false := by
      rw [beq_eq_false_iff_ne]
      intro e
      have := ordR_ok.zero.1 e
      omega
    simp only [wt, e, cond_false, ih fun x hx => h x (List.mem_cons_of_mem _ hx)]
    rfl
theorem wt_head {c : Chg} {l : List Chg} (h : Asc (c :: l)) : wt (c :: l) c.row = c.n := by
  unfold Asc at h
  rw [List.pairwise_cons] at h
  have e : (ordR c.row c.row == 0) = true := by rw [ordR_ok.refl]; rfl
  simp only [wt, e, cond_true, wt_above h.1]
  omega
theorem asc_unique : ∀ {a b : List Chg}, Asc a → Asc b → (∀ c ∈ a, c.n ≠ 0 ∧ canR c.row) → (∀ c ∈ b, c.n ≠ 0 ∧ canR c.row) → (∀ r, wt a r = wt b r) → a = b
  | [], [], _, _, _, _, _ => rfl
  | [], y :: b, _, hb, _, h2, h => by
    have := h y.row
    rw [wt_head hb] at this
    exact absurd this.symm (h2 y (List.mem_cons_self ..)).1
  | x :: a, [], ha, _, h1, _, h => by
    have := h x.row
    rw [wt_head ha] at this
    exact absurd this (h1 x (List.mem_cons_self ..)).1
  | x :: a, y :: b, ha, hb, h1, h2, h => by
    have hx := h1 x (List.mem_cons_self ..)
    have hy := h2 y (List.mem_cons_self ..)
    have pa := ha
    have pb := hb
    unfold Asc at pa pb
    rw [List.pairwise_cons] at pa pb
    rcases Int.lt_trichotomy (ordR x.row y.row) 0 with e | e | e
    · have := h x.row
      rw [wt_head ha, wt_above (l := y :: b) fun c hc => by
        rcases List.mem_cons.1 hc with rfl | hc
        · exact e
        · exact ordR_ok.lt_of e (by have := pb.1 c hc; omega)] at this
      exact absurd this hx.1
    · have er := ordR_zero hx.2 hy.2 e
      have en : x.n = y.n := by
        have := h x.row
        rw [wt_head ha, er, wt_head hb] at this
        exact this
      have exy : x = y := by
        obtain ⟨xr, xn⟩ := x
        obtain ⟨yr, yn⟩ := y
        simp only at er en
        rw [er, en]
      rw [exy, asc_unique pa.2 pb.2 (fun c hc => h1 c (List.mem_cons_of_mem _ hc)) (fun c hc => h2 c (List.mem_cons_of_mem _ hc)) fun r => by
        have := h r
        rw [exy] at this
        simp only [wt] at this
        omega]
    · have e' : ordR y.row x.row < 0 := (ordR_ok.anti _ _).2 e
      have := h y.row
      rw [wt_head hb, wt_above (l := x :: a) fun c hc => by
        rcases List.mem_cons.1 hc with rfl | hc
        · exact e'
        · exact ordR_ok.lt_of e' (by have := pa.1 c hc; omega)] at this
      exact absurd this.symm hy.1
end Go.Proofs.YtcajnlkkjdhjdaaGreat

namespace Go.Proofs.YtcajnlkkjdhjdaaGreat
open Go Go.AM

theorem sortW_pair {l : List Chg} (h : SortW ordG 0 l.length l) : l.Pairwise fun a b => ordR a.row b.row ≤ 0 := by
  rw [List.pairwise_iff_getElem]
  intro i j hi hj hij
  exact h i j _ _ (Nat.zero_le _) hij hj (List.getElem?_eq_getElem hi) (List.getElem?_eq_getElem hj)

/-- summed: ascending, without zeros, and it weighs what was put in. -/
theorem sumQ_law {xs ys z : List Chg} {K : Int} (hK : 0 ≤ K) (hs : ((xs ++ ys).length : Int) * K ≤ 4000000000000000000) (hb : ∀ c ∈ xs ++ ys, -K ≤ c.n ∧ c.n ≤ K) (hr : ∀ c ∈ xs ++ ys, canR c.row) (h : sumQ xs ys z) :
    Asc z ∧ (∀ c ∈ z, c.n ≠ 0 ∧ canR c.row ∧ ∃ x ∈ xs ++ ys, c.row = x.row) ∧ ∀ r, wt z r = wt xs r + wt ys r := by
  obtain ⟨l, hp, hsort, rfl⟩ := h
  have hlb : ∀ c ∈ l, -K ≤ c.n ∧ c.n ≤ K := fun c hc => hb c (hp.mem_iff.1 hc)
  have hlen : (l.length : Int) * K ≤ 4000000000000000000 := by rw [hp.length_eq]; exact hs
  have ha := asc_foldl l [] List.Pairwise.nil (sortW_pair hsort) (fun y hy => by cases hy)
  refine ⟨ha.1.filter _, fun c hc => ?_, fun r => ?_⟩
  · have hc' := List.mem_filter.1 hc
    obtain ⟨w, hw, e⟩ := ha.2 c hc'.1
    have hw : w ∈ l := by rcases hw with hw | hw; cases hw; exact hw
    have hw2 := hp.mem_iff.1 hw
    exact ⟨by simpa using hc'.2, by rw [e]; exact hr w hw2, w, hw2, e⟩
  · show wt ((grp l).filter fun x => !(x.n == 0)) r = _
    rw [wt_filter, grp, wt_foldl hK r l [] 0 (Int.le_refl _) (by omega) (fun c hc => by cases hc) hlb, wt_perm hp, wt_app]
    simp [wt]

/-- How often a row is there. -/
def cnt (rows : List (List Val)) (r : List Val) : Int := wt (rows.map (cntC 1)) r
theorem cnt_k (k : Int) (rows : List (List Val)) (r : List Val) : wt (rows.map (cntC k)) r = k * cnt rows r := by
  unfold cnt
  induction rows with
  | nil => simp [wt]
  | cons a l ih =>
    simp only [List.map_cons, wt, ih, cntC]
    rw [Int.mul_add]
    cases (ordR a r == 0) <;> simp
theorem cntQ_wt {rows : List (List Val)} {k : Int} {z : List Chg} (hk : -1 ≤ k ∧ k ≤ 1) (hl : rows.length ≤ 1000000) (h : cntQ rows k z) (r : List Val) : wt z r = k * cnt rows r := by
  obtain ⟨ys, hp, rfl⟩ := h
  have hlen : (((ys.map (cntC k)).length : Int)) ≤ 1000000 := by rw [List.length_map, hp.1.length_eq]; omega
  rw [grp, wt_foldl (K := 1) (by omega) r _ [] 0 (Int.le_refl _) (by omega) (fun c hc => by cases hc) (fun c hc => by
    obtain ⟨y, _, rfl⟩ := List.mem_map.1 hc
    exact hk), ← cnt_k, wt_perm (hp.1.map (cntC k))]
  simp [wt]
theorem cnt_app (a b : List (List Val)) (r : List Val) : cnt (a ++ b) r = cnt a r + cnt b r := by
  unfold cnt
  rw [List.map_append, wt_app]
theorem cnt_rep (k : Nat) (a r : List Val) : cnt (List.replicate k a) r = bif ordR a r == 0 then (k : Int) else 0 := by
  induction k with
  | zero => cases (ordR a r == 0) <;> rfl
  | succ k ih =>
    rw [List.replicate_succ]
    show (bif ordR a r == 0 then 1 else 0) + cnt (List.replicate k a) r = _
    rw [ih]
    cases (ordR a r == 0) <;> simp <;> omega
/-- The table that Apply makes counts as the sums say. -/
theorem cnt_spread (z : List Chg) (h : ∀ c ∈ z, 0 ≤ c.n) (r : List Val) : cnt (spread z) r = wt z r := by
  induction z with
  | nil => rfl
  | cons c l ih =>
    have hc := h c (List.mem_cons_self ..)
    have : spread (c :: l) = List.replicate c.n.toNat c.row ++ spread l := by simp [spread]
    rw [this, cnt_app, cnt_rep, ih fun x hx => h x (List.mem_cons_of_mem _ hx)]
    simp only [wt]
    rw [Int.toNat_of_nonneg hc]
end Go.Proofs.YtcajnlkkjdhjdaaGreat

namespace Go.Proofs.YtcajnlkkjdhjdaaGreat
open Go Go.AM

theorem chsErr_law (cols : List Col) : ∀ (cs : List Chg) (p : Option Chg), chsErr cols p cs = 0 → Asc cs ∧ (∀ c ∈ cs, c.n ≠ 0 ∧ valuesErr cols c.row = 0) ∧ ∀ q, p = some q → ∀ c ∈ cs, ordR q.row c.row < 0
  | [], _, _ => ⟨List.Pairwise.nil, fun c hc => by (cases hc), fun q _ c hc => by (cases hc)⟩
  | a :: r, p, h => by
    simp only [chsErr] at h
    cases hb : chgBad cols.length p a
    · rw [hb, cond_false] at h
      cases hv : (valuesErr cols a.row != 0)
      · rw [hv, cond_false] at h
        obtain ⟨i1, i2, i3⟩ := chsErr_law cols r (some a) h
        have hra := i3 a rfl
        unfold chgBad at hb
        simp only [Bool.or_eq_false_iff, decide_eq_false_iff_not] at hb
        obtain ⟨⟨⟨⟨b1, b2⟩, b3⟩, b4⟩, b5⟩ := hb
        refine ⟨List.pairwise_cons.2 ⟨hra, i1⟩, fun c hc => ?_, fun q hq c hc => ?_⟩
        · rcases List.mem_cons.1 hc with rfl | hc
          · exact ⟨by simpa using b2, by simpa using hv⟩
          · exact i2 c hc
        · subst hq
          have b5 : ¬ ordR q.row a.row ≥ 0 := of_decide_eq_false b5
          rcases List.mem_cons.1 hc with rfl | hc
          · omega
          · exact ordR_ok.lt_of (by omega : ordR q.row a.row < 0) (by have := hra c hc; omega)
      · rw [hv, cond_true] at h
        rw [h] at hv; cases hv
    · rw [hb, cond_true] at h
      cases h
theorem rowsL_law {cols : List Col} : ∀ {rows : List (List Val)}, rowsL cols rows = 0 ↔ ∀ r ∈ rows, valuesErr cols r = 0
  | [] => ⟨fun _ r hr => by (cases hr), fun _ => rfl⟩
  | a :: rs => by
    have ih := rowsL_law (cols := cols) (rows := rs)
    simp only [rowsL]
    constructor
    · intro h
      obtain ⟨h1, h⟩ := bif_ne (by omega) h
      cases hv : (valuesL cols a != 0)
      · rw [hv, cond_false] at h
        intro r hr
        rcases List.mem_cons.1 hr with rfl | hr
        · unfold valuesErr; rw [h1, cond_false]; simpa using hv
        · exact ih.1 h r hr
      · rw [hv, cond_true] at h
        rw [h] at hv; cases hv
    · intro h
      have ha := h a (List.mem_cons_self ..)
      unfold valuesErr at ha
      obtain ⟨h1, h2⟩ := bif_ne (by omega) ha
      rw [h1, cond_false, h2]
      exact ih.2 fun r hr => h r (List.mem_cons_of_mem _ hr)
theorem tblErr_law (t : Tbl) : tblErr t = 0 ↔ t.cols.length ≤ 32 ∧ t.rows.length ≤ 20000 ∧ colsL t.cols 0 t.cols = 0 ∧ ∀ r ∈ t.rows, valuesErr t.cols r = 0 := by
  unfold tblErr
  constructor
  · intro h
    obtain ⟨h1, h⟩ := bif_ne (by omega) h
    simp only [Bool.or_eq_false_iff, decide_eq_false_iff_not] at h1
    cases hc : (colsL t.cols 0 t.cols != 0)
    · rw [hc, cond_false] at h
      exact ⟨by omega, by omega, by simpa using hc, rowsL_law.1 h⟩
    · rw [hc, cond_true] at h
      rw [h] at hc; cases hc
  · rintro ⟨h1, h2, h3, h4⟩
    have e1 : (decide ((t.cols.length : Int) > 32) || decide ((t.rows.length : Int) > 20000)) = false := by
      simp only [Bool.or_eq_false_iff, decide_eq_false_iff_not]; omega
    rw [e1, cond_false, h3]
    exact rowsL_law.2 h4
end Go.Proofs.YtcajnlkkjdhjdaaGreat

namespace Go.Proofs.YtcajnlkkjdhjdaaGreat
open Go Go.AM

theorem total_pos : ∀ (z : List Chg) (t T : Int), total t z = some T → ∀ c ∈ z, 0 ≤ c.n
  | [], _, _, _, c, hc => by cases hc
  | a :: r, t, T, h, c, hc => by
    simp only [total] at h
    cases hd : decide (a.n < 0)
    · rw [hd, cond_false] at h
      rcases List.mem_cons.1 hc with rfl | hc
      · have := of_decide_eq_false hd; omega
      · exact total_pos r _ T h c hc
    · rw [hd, cond_true] at h
      cases h
theorem total_len : ∀ (z : List Chg) (t T : Int), 0 ≤ t → t ≤ 40000 → (∀ c ∈ z, 0 ≤ c.n ∧ c.n ≤ 4000000000000000000) → total t z = some T → T ≤ 20000 → T = t + (spread z).length
  | [], t, T, _, _, _, h, _ => by
    have h : some t = some T := h
    cases h; simp [spread]
  | a :: r, t, T, h0, h1, h2, h, hT => by
    have ha := h2 a (List.mem_cons_self ..)
    have hs := total_small (a :: r) t T h0 h1 h2 h hT
    have hd : decide (a.n < 0) = false := decide_eq_false (by omega)
    have hsp : (spread (a :: r)).length = a.n.toNat + (spread r).length := by simp [spread]
    simp only [total, hd, cond_false] at h
    rw [wrapI (by omega) (by omega)] at h
    have hm : mmI false (t + a.n) 40000 = if 40000 < t + a.n then 40000 else t + a.n := rfl
    have hr2 : ∀ c ∈ r, 0 ≤ c.n ∧ c.n ≤ 4000000000000000000 := fun x hx => h2 x (List.mem_cons_of_mem _ hx)
    rw [hm] at h
    have h4 := total_small r _ T (by split <;> omega) (by split <;> omega) hr2 h hT
    have hle : ¬ 40000 < t + a.n := by
      intro hgt
      have := h4.1
      rw [if_pos hgt] at this
      omega
    rw [if_neg hle] at h
    have := total_len r (t + a.n) T (by omega) (by omega) hr2 h hT
    rw [hsp]; omega
theorem mem_spread {z : List Chg} {r : List Val} (h : r ∈ spread z) : ∃ c ∈ z, r = c.row := by
  unfold spread at h
  obtain ⟨l, hl, hr⟩ := List.mem_flatten.1 h
  obtain ⟨c, hc, rfl⟩ := List.mem_map.1 hl
  exact ⟨c, hc, (List.mem_replicate.1 hr).2⟩
end Go.Proofs.YtcajnlkkjdhjdaaGreat

namespace Go.Proofs.YtcajnlkkjdhjdaaGreat
open Go Go.AM

theorem cntQ_law {rows : List (List Val)} {k : Int} {z : List Chg} (hk : -1 ≤ k ∧ k ≤ 1) (hl : rows.length ≤ 50000) (h : cntQ rows k z) : z.length ≤ 50000 ∧ ∀ c ∈ z, c.row ∈ rows ∧ -50000 ≤ c.n ∧ c.n ≤ 50000 := by
  obtain ⟨ys, hp, rfl⟩ := h
  have hlen : (((ys.map (cntC k)).length : Int)) ≤ 50000 := by rw [List.length_map, hp.1.length_eq]; omega
  refine ⟨Nat.le_trans (grp_len _) (by omega), fun c hc => ?_⟩
  have hb := grp_bnd (K := 1) (by omega) (ys.map (cntC k)) [] 0 (Int.le_refl _) (by omega) (fun c hc => by cases hc) (fun c hc => by
    obtain ⟨y, _, rfl⟩ := List.mem_map.1 hc
    exact hk) c hc
  have hs : (ys.map (cntC k)).Pairwise fun a b => ordR a.row b.row ≤ 0 := by
    rw [List.pairwise_map]
    refine hp.2.imp fun {a b} hab => ?_
    show ordR a b ≤ 0
    exact ordR_ok.ge.1 (by omega)
  obtain ⟨w, hw, e⟩ := (asc_foldl _ [] List.Pairwise.nil hs (fun y hy => by cases hy)).2 c hc
  rcases hw with hw | hw
  · cases hw
  · obtain ⟨y, hy, rfl⟩ := List.mem_map.1 hw
    refine ⟨?_, by omega, by omega⟩
    rw [e]; exact hp.1.mem_iff.1 hy

theorem back_law (t : Tbl) (cs : List Chg) (hT : tblErr t = 0) (hc : chsErr t.cols none cs = 0) (hl : cs.length ≤ 50000) (hsc : sameCols t.cols t.cols = true) {u z : List Chg} (hu : cntQ t.rows 1 u) (hz : sumQ u cs z) {n : Int} (hn : total 0 z = some n) (hn2 : n ≤ 20000) :
    tblErr ⟨t.cols, spread z⟩ = 0 ∧ ∀ r, diffQ t ⟨t.cols, spread z⟩ r → r = ⟨.tup [.c (.d (.sl (chgD cs))), .c (int 0)], []⟩ := by
  obtain ⟨t1, t2, t3, t4⟩ := (tblErr_law t).1 hT
  have hb := chsErr_bnd t.cols cs none hc
  obtain ⟨c1, c2, _⟩ := chsErr_law t.cols cs none hc
  obtain ⟨u1, u2⟩ := cntQ_law (by omega) (by omega) hu
  have hbb : ∀ c ∈ u ++ cs, -50000 ≤ c.n ∧ c.n ≤ 50000 := fun c h => by
    rcases List.mem_append.1 h with h | h
    · exact (u2 c h).2
    · have := hb c h; omega
  have hval : ∀ c ∈ u ++ cs, valuesErr t.cols c.row = 0 := fun c h => by
    rcases List.mem_append.1 h with h | h
    · exact t4 _ (u2 c h).1
    · exact (c2 c h).2
  have hll : (((u ++ cs).length : Int)) ≤ 100000 := by rw [List.length_append]; omega
  obtain ⟨z1, z2, z3⟩ := sumQ_law (K := 50000) (by omega) (by omega) hbb (fun c h => (valuesErr_can (hval c h)).2) hz
  have zp := total_pos z 0 n hn
  have zb : ∀ c ∈ z, 0 ≤ c.n ∧ c.n ≤ 4000000000000000000 := by
    intro c h
    obtain ⟨l, lp, _, rfl⟩ := hz
    have hl2 : (l.length : Int) ≤ 100000 := by rw [lp.length_eq]; exact hll
    have := grp_bnd (K := 50000) (by omega) l [] 0 (Int.le_refl _) (by omega) (fun c hc => by cases hc) (fun c hc => hbb c (lp.mem_iff.1 hc)) c (List.mem_filter.1 h).1
    have := zp c h
    omega
  have hlen := total_len z 0 n (Int.le_refl _) (by omega) zb hn hn2
  have hzv : ∀ r ∈ spread z, valuesErr t.cols r = 0 := fun r hr => by
    obtain ⟨c, h, rfl⟩ := mem_spread hr
    obtain ⟨_, _, x, hx, e⟩ := z2 c h
    rw [e]; exact hval x hx
  have hT2 : tblErr ⟨t.cols, spread z⟩ = 0 := (tblErr_law _).2 ⟨t1, by show (spread z).length ≤ 20000; omega, t3, hzv⟩
  refine ⟨hT2, fun r h => ?_⟩
  unfold diffQ at h
  rw [hT, hT2] at h
  simp only [bne_self_eq_false, cond_false] at h
  rw [show sameCols t.cols (Tbl.mk t.cols (spread z)).cols = true from hsc] at h
  obtain ⟨v, w, y, hv, hw, hy, rfl⟩ := h
  have hsl : (spread z).length ≤ 50000 := by omega
  obtain ⟨v1, v2⟩ := cntQ_law (by omega) (by omega) hv
  obtain ⟨w1, w2⟩ := cntQ_law (rows := spread z) (by omega) hsl hw
  have hvw : ∀ c ∈ v ++ w, (-50000 ≤ c.n ∧ c.n ≤ 50000) ∧ canR c.row := fun c h => by
    rcases List.mem_append.1 h with h | h
    · exact ⟨(v2 c h).2, (valuesErr_can (t4 _ (v2 c h).1)).2⟩
    · exact ⟨(w2 c h).2, (valuesErr_can (hzv _ (w2 c h).1)).2⟩
  have hl3 : (((v ++ w).length : Int)) ≤ 100000 := by rw [List.length_append]; omega
  obtain ⟨y1, y2, y3⟩ := sumQ_law (K := 50000) (by omega) (by omega) (fun c h => (hvw c h).1) (fun c h => (hvw c h).2) hy
  have : y = cs := asc_unique y1 c1 (fun c h => ⟨(y2 c h).1, (y2 c h).2.1⟩) (fun c h => ⟨(c2 c h).1, (valuesErr_can (c2 c h).2).2⟩) fun r => by
    rw [y3, cntQ_wt (by omega) (by omega) hv, cntQ_wt (rows := spread z) (by omega) (by omega) hw, cnt_spread z zp, z3, cntQ_wt (by omega) (by omega) hu]
    omega
  rw [this]
end Go.Proofs.YtcajnlkkjdhjdaaGreat

namespace Go.Proofs.YtcajnlkkjdhjdaaGreat
open Go Go.AM
theorem allEq_refl {α : Type} {e : α → α → Bool} (h : ∀ x, e x x = true) : ∀ l : List α, allEq e l l = true
  | [] => rfl
  | x :: r => by simp only [allEq, h, allEq_refl h r]; rfl
theorem eqV_refl (v : Val) : eqV v v = true := by simp [eqV, AM.beqS_self]
theorem eqC_refl (v : Col) : eqC v v = true := by simp [eqC, AM.beqS_self]
theorem sameRow_refl (r : List Val) : sameRow r r = true := by
  unfold sameRow
  rw [show (((r.length : Int)) != r.length) = false by simp, cond_false]
  exact allEq_refl eqV_refl r
theorem sameCols_refl (r : List Col) : sameCols r r = true := by
  unfold sameCols
  rw [show (((r.length : Int)) != r.length) = false by simp, cond_false]
  exact allEq_refl eqC_refl r
theorem eqG_refl (c : Chg) : eqG c c = true := by simp [eqG, sameRow_refl]
theorem sameChg_refl (r : List Chg) : sameChg r r = true := by
  unfold sameChg
  rw [show (((r.length : Int)) != r.length) = false by simp, cond_false]
  exact allEq_refl eqG_refl r
end Go.Proofs.YtcajnlkkjdhjdaaGreat

namespace Go.Proofs.YtcajnlkkjdhjdaaGreat
open Go Go.AM

theorem eqC_eq {a b : Col} (h : eqC a b = true) : a = b := by
  unfold eqC at h
  simp only [Bool.and_true, Bool.and_eq_true, beq_iff_eq] at h
  obtain ⟨n1, t1⟩ := a
  obtain ⟨n2, t2⟩ := b
  simp only at h
  rw [(AM.beqS_iff _ _).1 h.1, h.2]
theorem allEq_eq {α : Type} {e : α → α → Bool} (he : ∀ x y, e x y = true → x = y) : ∀ {a b : List α}, allEq e a b = true → a = b
  | [], [], _ => rfl
  | [], _ :: _, h => by cases h
  | _ :: _, [], h => by cases h
  | x :: a, y :: b, h => by
    simp only [allEq] at h
    cases hb : e x y
    · rw [hb] at h; cases h
    · rw [hb] at h
      rw [he x y hb, allEq_eq he h]
theorem sameCols_eq {a b : List Col} (h : sameCols a b = true) : a = b := by
  unfold sameCols at h
  cases hb : (((a.length : Int)) != b.length)
  · rw [hb] at h; exact allEq_eq (fun _ _ => eqC_eq) h
  · rw [hb] at h; cases h
theorem wt_mem : ∀ {z : List Chg}, Asc z → ∀ c ∈ z, wt z c.row = c.n
  | [], _, c, hc => by cases hc
  | x :: l, h, c, hc => by
    rcases List.mem_cons.1 hc with rfl | hc
    · exact wt_head h
    · have hp := h
      unfold Asc at hp
      rw [List.pairwise_cons] at hp
      have hx := hp.1 c hc
      have e : (ordR x.row c.row == 0) = false := by rw [beq_eq_false_iff_ne]; omega
      simp only [wt, e, cond_false]
      rw [wt_mem hp.2 c hc]; omega
theorem cnt_cons (a : List Val) (l : List (List Val)) (r : List Val) : cnt (a :: l) r = (bif ordR a r == 0 then 1 else 0) + cnt l r := rfl
theorem cnt_bnd : ∀ (l : List (List Val)) (r : List Val), 0 ≤ cnt l r ∧ cnt l r ≤ l.length
  | [], r => by simp [cnt, wt]
  | a :: l, r => by
    have ih := cnt_bnd l r
    rw [cnt_cons, List.length_cons]
    cases (ordR a r == 0) <;> simp <;> omega
theorem chsErr_mk (cols : List Col) : ∀ (cs : List Chg) (p : Option Chg), Asc cs → (∀ q, p = some q → ∀ c ∈ cs, ordR q.row c.row < 0) → (∀ c ∈ cs, c.n ≠ 0 ∧ -20000 ≤ c.n ∧ c.n ≤ 20000 ∧ valuesErr cols c.row = 0) → chsErr cols p cs = 0
  | [], _, _, _, _ => rfl
  | a :: r, p, h, hp, hc => by
    unfold Asc at h
    rw [List.pairwise_cons] at h
    obtain ⟨c1, c2, c3, c4⟩ := hc a (List.mem_cons_self ..)
    have hl : (a.row.length : Int) = cols.length := by
      have := (valuesErr_can c4).1
      omega
    have hb : chgBad cols.length p a = false := by
      unfold chgBad
      simp only [Bool.or_eq_false_iff, decide_eq_false_iff_not, bne_eq_false_iff_eq, beq_eq_false_iff_ne]
      refine ⟨⟨⟨⟨hl, c1⟩, by omega⟩, by omega⟩, ?_⟩
      cases p with
      | none => rfl
      | some q =>
        have := hp q rfl a (List.mem_cons_self ..)
        exact decide_eq_false (by omega)
    simp only [chsErr, hb, cond_false, c4]
    show chsErr cols (some a) r = 0
    exact chsErr_mk cols r (some a) h.2 (fun q hq c hc' => by cases hq; exact h.1 c hc') (fun c hc' => hc c (List.mem_cons_of_mem _ hc'))
theorem total_mk : ∀ (z : List Chg) (t : Int), 0 ≤ t → (∀ c ∈ z, 0 ≤ c.n) → t + (spread z).length ≤ 20000 → total t z = some (t + (spread z).length)
  | [], t, _, _, _ => by simp [total, spread]
  | a :: r, t, h0, hn, hs => by
    have ha := hn a (List.mem_cons_self ..)
    have hsp : (spread (a :: r)).length = a.n.toNat + (spread r).length := by simp [spread]
    rw [hsp] at hs ⊢
    simp only [total]
    rw [decide_eq_false (by omega), cond_false, wrapI (by omega) (by omega)]
    have hm : mmI false (t + a.n) 40000 = t + a.n := by
      show (if 40000 < t + a.n then 40000 else t + a.n) = _
      rw [if_neg (by omega)]
    rw [hm, total_mk r (t + a.n) (by omega) (fun c hc => hn c (List.mem_cons_of_mem _ hc)) (by omega)]
    congr 1
    omega
theorem perm_of_cnt : ∀ {a b : List (List Val)}, (∀ r ∈ a, canR r) → (∀ r ∈ b, canR r) → (∀ r, cnt a r = cnt b r) → a.Perm b
  | [], [], _, _, _ => List.Perm.refl _
  | [], y :: b, _, _, h => by
    have := h y
    rw [cnt_cons, ordR_ok.refl] at this
    have h2 := (cnt_bnd b y).1
    simp [cnt, wt] at this h2
    omega
  | x :: a, b, ha, hb, h => by
    have hx := ha x (List.mem_cons_self ..)
    have hpos : 0 < cnt b x := by
      rw [← h x, cnt_cons, ordR_ok.refl]
      have := (cnt_bnd a x).1
      simp; omega
    have hmem : ∀ {l : List (List Val)}, 0 < cnt l x → ∃ y ∈ l, ordR y x = 0 := by
      intro l
      induction l with
      | nil => intro h; simp [cnt, wt] at h
      | cons y l ih =>
        intro h
        by_cases e : ordR y x = 0
        · exact ⟨y, List.mem_cons_self .., e⟩
        · rw [cnt_cons, show (ordR y x == 0) = false by simpa using e] at h
          obtain ⟨z, hz, e2⟩ := ih (by simpa using h)
          exact ⟨z, List.mem_cons_of_mem _ hz, e2⟩
    obtain ⟨y, hy, e⟩ := hmem hpos
    have hyx : y = x := ordR_zero (hb y hy) hx e
    subst hyx
    obtain ⟨s, t, rfl⟩ := List.append_of_mem hy
    have hst : (s ++ y :: t).Perm (y :: (s ++ t)) := List.perm_middle
    refine List.Perm.trans (List.Perm.cons y ?_) hst.symm
    refine perm_of_cnt (fun r hr => ha r (List.mem_cons_of_mem _ hr)) (fun r hr => hb r (hst.mem_iff.2 (List.mem_cons_of_mem _ hr))) fun r => ?_
    have := h r
    rw [cnt_cons, cnt_app, cnt_cons] at this
    rw [cnt_app]
    omega
theorem nodown_unique {a b : List (List Val)} (ha : NoDown a) (hb : NoDown b) (hp : a.Perm b) (hc : ∀ r ∈ a, canR r) : a = b := by
  induction a generalizing b with
  | nil => exact (hp.nil_eq)
  | cons x a ih =>
    cases b with
    | nil => exact absurd hp.length_eq (by simp)
    | cons y b =>
      unfold NoDown at ha hb
      rw [List.pairwise_cons] at ha hb
      have hxy : x = y := by
        rcases List.mem_cons.1 (hp.mem_iff.1 (List.mem_cons_self ..)) with h | h
        · exact h
        · rcases List.mem_cons.1 (hp.mem_iff.2 (List.mem_cons_self ..)) with h2 | h2
          · exact h2.symm
          · have h3 := hb.1 x h
            have h4 := ha.1 y h2
            have e1 : ordR x y = 0 := by
              have := ordR_ok.anti x y
              have := ordR_ok.anti y x
              omega
            exact ordR_zero (hc x (List.mem_cons_self ..)) (hc y (hp.mem_iff.2 (List.mem_cons_self ..))) e1
      subst hxy
      rw [ih ha.2 hb.2 (List.Perm.cons_inv hp) (fun r hr => hc r (List.mem_cons_of_mem _ hr))]
theorem spread_nodown : ∀ {z : List Chg}, Asc z → NoDown (spread z)
  | [], _ => List.Pairwise.nil
  | c :: l, h => by
    have hp := h
    unfold Asc at hp
    rw [List.pairwise_cons] at hp
    have e : spread (c :: l) = List.replicate c.n.toNat c.row ++ spread l := by simp [spread]
    rw [e]
    unfold NoDown
    rw [List.pairwise_append]
    refine ⟨?_, spread_nodown hp.2, fun a ha b hb => ?_⟩
    · rw [List.pairwise_replicate]
      right
      rw [ordR_ok.refl]; omega
    · rw [List.eq_of_mem_replicate ha]
      obtain ⟨d, hd, rfl⟩ := mem_spread hb
      have := hp.1 d hd
      have := ordR_ok.anti c.row d.row
      omega
def negC (c : Chg) : Chg := ⟨c.row, -c.n⟩
theorem wt_neg (z : List Chg) (r : List Val) : wt (z.map negC) r = -wt z r := by
  induction z with
  | nil => simp [wt]
  | cons c l ih =>
    simp only [List.map_cons, wt, ih, negC]
    cases (ordR c.row r == 0) <;> simp <;> omega
theorem asc_neg {z : List Chg} (h : Asc z) : Asc (z.map negC) := by
  unfold Asc at h ⊢
  rw [List.pairwise_map]
  exact h
end Go.Proofs.YtcajnlkkjdhjdaaGreat

namespace Go.Proofs.YtcajnlkkjdhjdaaGreat
open Go Go.AM
attribute [local irreducible] Sat SatH LoopP
set_option maxRecDepth 100000

def numD (l : List Int) : List (List D) := l.map fun n => [D.lit (.int .i64 n)]
theorem numD_len (l : List Int) : (numD l).length = l.length := by simp [numD]
theorem numD_get {r : List Int} {i : Nat} (h : i < r.length) : (numD r)[((i : Int)).toNat]? = some [D.lit (.int .i64 r[i])] := by simp [numD, List.getElem?_eq_getElem h]
def numT (l : List Int) : Tbl := ⟨[⟨⟨#[110]⟩, 2⟩], l.map fun n => [⟨2, n, ⟨#[]⟩⟩]⟩
def numR (l : List Int) : List (List D) := rowsD (l.map fun n => [⟨2, n, ⟨#[]⟩⟩])
theorem numR_len (l : List Int) : (numR l).length = l.length := by simp [numR, rowsD]
theorem numR_app (a b : List Int) : numR (a ++ b) = numR a ++ numR b := by simp [numR, rowsD]
def numS (l : List Int) : Nat → S
  | 0 => ⟨[(0, .w (.c (.d (.sl (numD l))))), (2, cV (.ptr 2 0)), (3, cV (.ptr 3 0)), (4, intV 0)], [(2, .box [.nil, .nil]), (3, .box [.own 6 2 1, .nil]), (6, .arr 2 [[.lit (.string ⟨#[110]⟩), .lit (.int .i64 2)]] false)]⟩
  | i + 1 => ⟨[(0, .w (.c (.d (.sl (numD l))))), (2, cV (.ptr 2 0)), (3, cV (.ptr 3 0)), (4, intV ((i + 1 : Nat) : Int))], [(2, .box [.nil, .nil]), (3, .box [.own 6 2 1, .own 23 1 (i + 1)]), (6, .arr 2 [[.lit (.string ⟨#[110]⟩), .lit (.int .i64 2)]] false), (23, .arr 1 (numR (l.take (i + 1))) false)]⟩
theorem numR_sz (l : List Int) : ∀ y ∈ numR l, y.length = 1 := by
  intro y hy
  obtain ⟨r, _, rfl⟩ := List.mem_map.1 hy
  rfl
theorem sat_numbers (l : List Int) (hl : l.length ≤ 1000) : Sat Pg k_law45_numbers [.c (.d (.sl (numD l)))] (fun r => r = ⟨.w (numT l).w, []⟩) := by
  refine sat_dq ?_
  refine Sat_of T3 c_law45_numbers_ok (by kernel_rfl) ?_
  conv => whnf
  refine loopI (P := Pg) (f := T3.f) (body := c_law45_numbers_L0) l.length (fun i => numS l i) (fun _ => True) ⟨trivial, normW_of ?_⟩ ?_
  · conv => whnf
    rfl
  · intro i hi _
    cases i with
    | zero =>
      conv => whnf
      refine cond_i (fun h1 => ?_) (fun h1 => ?_)
      · have hlt : 0 < l.length := by have h1 : decide ((0 : Int) < ((numD l).length : Int)) = true := h1; have := of_decide_eq_true h1; rw [numD_len] at this; omega
        conv => whnf
        refine ⟨by decide, _, numD_get hlt, rfl, ?_⟩
        conv => whnf
        refine ⟨by simp, by unfold fits; simp, by simp, ?_⟩
        conv => whnf
        refine ⟨hlt, trivial, normW_of ?_⟩
        conv => whnf
        have v1 : IntKind.i64.wrap ((0 : Int) + 1) = 1 := wrapI (by omega) (by omega)
        rw [v1]
        have e : l.take (0 + 1) = [l[0]] := by rw [List.take_succ_eq_append_getElem hlt]; simp
        show _ = S.mk _ [_, _, _, (23, Pl.arr 1 (numR (l.take (0 + 1))) false)]
        rw [e]
        rfl
      · have h1 : decide ((0 : Int) < ((numD l).length : Int)) = false := h1
        have : l = [] := by have := of_decide_eq_false h1; rw [numD_len] at this; exact List.eq_nil_of_length_eq_zero (by omega)
        subst this
        conv => whnf
        exact ⟨rfl, rfl⟩
    | succ i =>
      have hlen : ((l.take (i + 1)).length) = i + 1 := by rw [List.length_take]; omega
      have htk : (numR (l.take (i + 1))).take (i + 1) = numR (l.take (i + 1)) := by rw [List.take_of_length_le]; rw [numR_len]; omega
      conv => whnf
      refine cond_i (fun h1 => ?_) (fun h1 => ?_)
      · have hlt : i + 1 < l.length := by have h1 : decide (((i + 1 : Nat) : Int) < ((numD l).length : Int)) = true := h1; have := of_decide_eq_true h1; rw [numD_len] at this; omega
        conv => whnf
        refine ⟨by omega, _, numD_get hlt, rfl, ?_⟩
        conv => whnf
        refine ⟨by simp, by unfold fits; simp; omega, by simp; omega, ?_⟩
        conv => whnf
        refine ⟨hlt, trivial, normW_of ?_⟩
        conv => whnf
        rw [wrapS hlt (by omega)]
        have e : numR (l.take (i + 1 + 1)) = (numR (l.take (i + 1))).take (i + 1) ++ [[D.sl (rowD [⟨2, l[i + 1], ⟨#[]⟩⟩])]] := by
          rw [htk, List.take_succ_eq_append_getElem hlt, numR_app]; rfl
        show _ = S.mk _ [_, _, _, (23, Pl.arr 1 (numR (l.take (i + 1 + 1))) false)]
        rw [e]
        rfl
      · have hge : l.length = i + 1 := by have h1 : decide (((i + 1 : Nat) : Int) < ((numD l).length : Int)) = false := h1; have := of_decide_eq_false h1; rw [numD_len] at this; omega
        conv => whnf
        refine ⟨rfl, ?_⟩
        show (⟨.w (.agg [.d (.sl [[.lit (.string ⟨#[110]⟩), .lit (.int .i64 2)]]), .d (.sl ((numR (l.take (i + 1))).take (i + 1)))]), []⟩ : Res) = _
        rw [htk, ← hge, List.take_length]
        rfl
end Go.Proofs.YtcajnlkkjdhjdaaGreat

namespace Go.Proofs.YtcajnlkkjdhjdaaGreat
open Go Go.AM
attribute [local irreducible] Sat SatH LoopP
set_option maxRecDepth 100000
set_option maxHeartbeats 1000000

def nv (n : Int) : List Val := [⟨2, n, ⟨#[]⟩⟩]
def awL : List Chg := [⟨nv 1, -1⟩, ⟨nv 2, -1⟩, ⟨nv 3, 1⟩]
def awZ : List Chg := [⟨nv 1, 1⟩, ⟨nv 3, 1⟩]
theorem beqS_dec (a b : ByteArray) : beqS a b = decide (a.data = b.data) := by
  by_cases h : a = b
  · rw [h, AM.beqS_self]; simp
  · have h1 : beqS a b = false := by
      cases e : beqS a b
      · rfl
      · exact absurd ((AM.beqS_iff a b).1 e) h
    rw [h1]
    have : a.data ≠ b.data := fun e => h (by cases a; cases b; simp at e; rw [e])
    exact (decide_eq_false this).symm
theorem can_nv (n : Int) : canR (nv n) := by
  intro v hv
  rw [List.mem_singleton.1 hv]
  exact .inr (.inl ⟨.inr rfl, rfl⟩)
theorem ordR_nv (a b : Int) : ordR (nv a) (nv b) = cmpI a b := by
  show (bif cmpI a b != 0 then cmpI a b else 0) = cmpI a b
  cases h : (cmpI a b != 0)
  · simp at h; rw [h]; rfl
  · rfl
theorem awT1 : tblErr (numT [1, 1, 2]) = 0 := by
  simp only [tblErr, numT, List.map, List.take, colsL, namErr, colAt, findI, rowsL, valuesL, valErr, beqS_dec]
  decide +kernel
theorem awT2 : tblErr (numT [1, 3]) = 0 := by
  simp only [tblErr, numT, List.map, List.take, colsL, namErr, colAt, findI, rowsL, valuesL, valErr, beqS_dec]
  decide +kernel
theorem awT3 : tblErr (numT [2, 1, 1]) = 0 := by
  simp only [tblErr, numT, List.map, List.take, colsL, namErr, colAt, findI, rowsL, valuesL, valErr, beqS_dec]
  decide +kernel
theorem awC : chsErr (numT []).cols none awL = 0 := by
  have e : ∀ a b : Int, ordR [⟨2, a, ⟨#[]⟩⟩] [⟨2, b, ⟨#[]⟩⟩] = cmpI a b := ordR_nv
  simp only [chsErr, awL, nv, numT, chgBad, valuesErr, valuesL, valErr, beqS_dec, e]
  decide +kernel
def awQ (l : List Stp) : Qry := ⟨⟨#[116]⟩, l⟩
def ex0 : Ex := ⟨0, ⟨#[]⟩, ⟨0, 0, ⟨#[]⟩⟩, []⟩
def awE : Ex := ⟨12, ⟨#[]⟩, ⟨0, 0, ⟨#[]⟩⟩, [⟨2, ⟨#[110]⟩, ⟨0, 0, ⟨#[]⟩⟩, []⟩, ⟨1, ⟨#[]⟩, ⟨2, 3, ⟨#[]⟩⟩, []⟩]⟩
def awW : Stp := ⟨1, awE, [], [], [], [], 0, ⟨#[]⟩⟩
def awLim : Stp := ⟨5, ex0, [], [], [], [], 1, ⟨#[]⟩⟩
theorem awLin1 : linB (awQ [awW]) ⟨#[116]⟩ = true := by
  simp only [linB, awQ, Qry.err, stepsErr, Stp.err, Stp.uses, usesB, awW, awE, Ex.zero, zeroB, eqV, Ex.chk, Ex.meas, measL, Ex.err, errL, nodeErr, nodeTail, conErr, valErr, identB, kws, hasB, hasI, List.any, linBad, beqS_dec]
  decide +kernel
theorem awLin2 : linB (awQ [awW, awLim]) ⟨#[116]⟩ = false := by
  simp only [linB, awQ, Qry.err, stepsErr, Stp.err, Stp.uses, usesB, awW, awE, awLim, ex0, Ex.zero, zeroB, eqV, Ex.chk, Ex.meas, measL, Ex.err, errL, nodeErr, nodeTail, conErr, valErr, identB, kws, hasB, hasI, List.any, linBad, beqS_dec]
  decide +kernel
end Go.Proofs.YtcajnlkkjdhjdaaGreat

namespace Go.Proofs.YtcajnlkkjdhjdaaGreat
open Go Go.AM
attribute [local irreducible] Sat SatH LoopP
set_option maxRecDepth 100000
set_option maxHeartbeats 1000000

theorem asc_awL : Asc awL := by
  unfold Asc awL
  simp only [List.pairwise_cons, List.mem_cons, List.not_mem_nil, or_false, forall_eq_or_imp, forall_eq, ordR_nv]
  exact ⟨by decide, by decide, fun _ h => h.elim, List.Pairwise.nil⟩
theorem asc_awZ : Asc awZ := by
  unfold Asc awZ
  simp only [List.pairwise_cons, List.mem_cons, List.not_mem_nil, or_false, forall_eq_or_imp, forall_eq, ordR_nv]
  exact ⟨by decide, fun _ h => h.elim, List.Pairwise.nil⟩
theorem ok_awL : ∀ c ∈ awL, c.n ≠ 0 ∧ canR c.row := by
  unfold awL
  simp only [List.mem_cons, List.not_mem_nil, or_false, forall_eq_or_imp, forall_eq]
  exact ⟨⟨by decide, can_nv _⟩, ⟨by decide, can_nv _⟩, by decide, can_nv _⟩
theorem ok_awZ : ∀ c ∈ awZ, c.n ≠ 0 ∧ canR c.row := by
  unfold awZ
  simp only [List.mem_cons, List.not_mem_nil, or_false, forall_eq_or_imp, forall_eq]
  exact ⟨⟨by decide, can_nv _⟩, by decide, can_nv _⟩
theorem num_rows (l : List Int) : (numT l).rows = l.map nv := rfl
theorem num_can {l : List Int} {r : List Val} (h : r ∈ (numT l).rows) : canR r := by
  obtain ⟨n, _, rfl⟩ := List.mem_map.1 h
  exact can_nv n
theorem aw_diff {r : Res} (h : diffQ (numT [1, 1, 2]) (numT [1, 3]) r) : r = ⟨.tup [.c (.d (.sl (chgD awL))), .c (int 0)], []⟩ := by
  unfold diffQ at h
  rw [awT1, awT2, show sameCols (numT [1, 1, 2]).cols (numT [1, 3]).cols = true from sameCols_refl _] at h
  simp only [bne_self_eq_false, cond_false, Bool.not_true] at h
  obtain ⟨u, v, z, hu, hv, hz, rfl⟩ := h
  obtain ⟨u1, u2⟩ := cntQ_law (by omega) (by decide) hu
  obtain ⟨v1, v2⟩ := cntQ_law (by omega) (by decide) hv
  have hb : ∀ c ∈ u ++ v, (-50000 ≤ c.n ∧ c.n ≤ 50000) ∧ canR c.row := fun c h => by
    rcases List.mem_append.1 h with h | h
    · exact ⟨(u2 c h).2, num_can (u2 c h).1⟩
    · exact ⟨(v2 c h).2, num_can (v2 c h).1⟩
  obtain ⟨z1, z2, z3⟩ := sumQ_law (K := 50000) (by omega) (by rw [List.length_append]; omega) (fun c h => (hb c h).1) (fun c h => (hb c h).2) hz
  rw [asc_unique z1 asc_awL (fun c h => ⟨(z2 c h).1, (z2 c h).2.1⟩) ok_awL fun r => by
    rw [z3, cntQ_wt (by omega) (by decide) hu, cntQ_wt (by omega) (by decide) hv]
    simp only [cnt, num_rows, List.map, cntC, wt, awL]
    cases (ordR (nv 1) r == 0) <;> cases (ordR (nv 2) r == 0) <;> cases (ordR (nv 3) r == 0) <;> decide]
theorem aw_apply {r : Res} (h : applyQ (numT [2, 1, 1]) awL r) : r = aOk (numT [1, 3]) := by
  unfold applyQ at h
  rw [awT3, show chsErr (numT [2, 1, 1]).cols none awL = 0 from awC] at h
  simp only [bne_self_eq_false, cond_false] at h
  obtain ⟨u, z, hu, hz, h⟩ := h
  obtain ⟨u1, u2⟩ := cntQ_law (by omega) (by decide) hu
  have hb : ∀ c ∈ u ++ awL, (-50000 ≤ c.n ∧ c.n ≤ 50000) ∧ canR c.row := fun c h => by
    rcases List.mem_append.1 h with h | h
    · exact ⟨(u2 c h).2, num_can (u2 c h).1⟩
    · refine ⟨?_, (ok_awL c h).2⟩
      unfold awL at h
      simp only [List.mem_cons, List.not_mem_nil, or_false] at h
      rcases h with rfl | rfl | rfl <;> decide
  obtain ⟨z1, z2, z3⟩ := sumQ_law (K := 50000) (by omega) (by rw [List.length_append, show awL.length = 3 from rfl]; omega) (fun c h => (hb c h).1) (fun c h => (hb c h).2) hz
  have hzz : z = awZ := asc_unique z1 asc_awZ (fun c h => ⟨(z2 c h).1, (z2 c h).2.1⟩) ok_awZ fun r => by
    rw [z3, cntQ_wt (by omega) (by decide) hu]
    simp only [cnt, num_rows, List.map, cntC, wt, awL, awZ]
    cases (ordR (nv 1) r == 0) <;> cases (ordR (nv 2) r == 0) <;> cases (ordR (nv 3) r == 0) <;> decide
  rw [hzz] at h
  have ht : total 0 awZ = some 2 := by decide
  rw [ht] at h
  simp only at h
  rcases h with h | ⟨h, _⟩
  · exact h
  · cases h

theorem sat_awake : Sat Pg k_law45_awake [] (fun r => r = rB true) := by
  have n1 := sat_numbers [1, 1, 2] (by decide)
  have n2 := sat_numbers [1, 3] (by decide)
  have n3 := sat_numbers [2, 1, 1] (by decide)
  have hd := (sat_Diff (numT [1, 1, 2]) (numT [1, 3]) (by decide) (by decide)).mono fun r h => aw_diff h
  have ha := (sat_Apply (numT [2, 1, 1]) awL (by decide) (by decide) (by decide)).mono fun r h => aw_apply h
  have l1 := sat_Linear (awQ [awW]) ⟨#[116]⟩ (by intro s hs; rw [List.mem_singleton.1 hs]; decide)
  have l2 := sat_Linear (awQ [awW, awLim]) ⟨#[116]⟩ (by intro s hs; simp only [awQ, List.mem_cons, List.not_mem_nil, or_false] at hs; rcases hs with rfl | rfl <;> decide)
  rw [awLin1] at l1
  rw [awLin2] at l2
  refine Sat_of T5 c_law45_awake_ok (by kernel_rfl) ?_
  conv => whnf
  refine Sat.mono (n1) ?_
  rintro _ rfl
  conv => whnf
  refine Sat.mono (n2) ?_
  rintro _ rfl
  conv => whnf
  refine Sat.mono (hd) ?_
  rintro _ rfl
  conv => whnf
  refine Sat.mono (n3) ?_
  rintro _ rfl
  conv => whnf
  refine Sat.mono (ha) ?_
  rintro _ rfl
  conv => whnf
  refine ⟨by decide, _, rfl, rfl, ?_⟩
  repeat' ((conv => whnf); first | ((with_reducible show Sat _ _ _ _); first | (refine Sat.mono l1 ?_; rintro _ rfl) | (refine Sat.mono l2 ?_; rintro _ rfl)) | (with_reducible show _ ∧ _; refine ⟨by decide, _, rfl, rfl, ?_⟩))
  all_goals (conv => whnf)
  all_goals rfl
end Go.Proofs.YtcajnlkkjdhjdaaGreat

namespace Go.Proofs.YtcajnlkkjdhjdaaGreat
open Go Go.AM
theorem applyQ_cases {t : Tbl} {cs : List Chg} {r : Res} (h : applyQ t cs r) :
    (∃ e : Int, e ≠ 0 ∧ r = aErr e) ∨ (∃ u z n, tblErr t = 0 ∧ chsErr t.cols none cs = 0 ∧ cntQ t.rows 1 u ∧ sumQ u cs z ∧ total 0 z = some n ∧ n ≤ 20000 ∧ r = aOk ⟨t.cols, spread z⟩) := by
  unfold applyQ at h
  cases h1 : (tblErr t != 0)
  · rw [h1, cond_false] at h
    cases h2 : (chsErr t.cols none cs != 0)
    · rw [h2, cond_false] at h
      obtain ⟨u, z, hu, hz, h⟩ := h
      cases h3 : total 0 z with
      | none => rw [h3] at h; exact .inl ⟨5, by omega, h⟩
      | some n =>
        rw [h3] at h
        simp only at h
        cases h4 : decide (n > 20000)
        · rw [h4, cond_false] at h
          have h4 := of_decide_eq_false h4
          refine .inr ⟨u, z, n, by simpa using h1, by simpa using h2, hu, hz, h3, by omega, ?_⟩
          rcases h with h | ⟨rfl, h⟩
          · exact h
          · rw [h]; rfl
        · rw [h4, cond_true] at h
          exact .inl ⟨7, by omega, h⟩
    · rw [h2, cond_true] at h
      exact .inl ⟨_, by simpa using h2, h⟩
  · rw [h1, cond_true] at h
    exact .inl ⟨_, by simpa using h1, h⟩
theorem fewTbl_len {t : Tbl} (h : fewTbl t = true) : t.rows.length ≤ 40 ∧ t.cols.length ≤ 40 := by
  unfold fewTbl at h
  cases h1 : (!fewCols t.cols || decide ((t.rows.length : Int) > 40))
  · simp only [Bool.or_eq_false_iff, decide_eq_false_iff_not, Bool.not_eq_false'] at h1
    refine ⟨by omega, ?_⟩
    have h2 := h1.1
    unfold fewCols at h2
    cases h3 : decide ((t.cols.length : Int) ≤ 40)
    · rw [h3] at h2; cases h2
    · have := of_decide_eq_true h3; omega
  · rw [h1] at h; cases h
theorem fewChgs_len {t : List Chg} (h : fewChgs t = true) : t.length ≤ 30 := by
  unfold fewChgs at h
  cases h1 : decide ((t.length : Int) > 30)
  · have := of_decide_eq_false h1; omega
  · rw [h1] at h; cases h
end Go.Proofs.YtcajnlkkjdhjdaaGreat

namespace Go.Proofs.YtcajnlkkjdhjdaaGreat
open Go Go.AM

structure DiffOk (a b : Tbl) (z : List Chg) : Prop where
  asc : Asc z
  ok : ∀ c ∈ z, c.n ≠ 0 ∧ canR c.row
  val : ∀ c ∈ z, valuesErr a.cols c.row = 0 ∧ -20000 ≤ c.n ∧ c.n ≤ 20000
  wts : ∀ r, wt z r = cnt b.rows r - cnt a.rows r
  len : z.length ≤ a.rows.length + b.rows.length
def dOk (z : List Chg) : Res := ⟨.tup [.c (.d (.sl (chgD z))), .c (int 0)], []⟩

theorem cntQ_len {rows : List (List Val)} {k : Int} {z : List Chg} (h : cntQ rows k z) : z.length ≤ rows.length := by
  obtain ⟨ys, hp, rfl⟩ := h
  refine Nat.le_trans (grp_len _) ?_
  rw [List.length_map, hp.1.length_eq]; exact Nat.le_refl _
theorem diffQ_ok {a b : Tbl} {r : Res} (ea : tblErr a = 0) (eb : tblErr b = 0) (ec : a.cols = b.cols) (h : diffQ a b r) : ∃ z, DiffOk a b z ∧ r = dOk z := by
  unfold diffQ at h
  rw [ea, eb, ec, sameCols_refl] at h
  simp only [bne_self_eq_false, cond_false, Bool.not_true] at h
  obtain ⟨u, v, z, hu, hv, hz, rfl⟩ := h
  obtain ⟨a1, a2, a3, a4⟩ := (tblErr_law a).1 ea
  obtain ⟨b1, b2, b3, b4⟩ := (tblErr_law b).1 eb
  obtain ⟨u1, u2⟩ := cntQ_law (by omega) (by omega) hu
  obtain ⟨v1, v2⟩ := cntQ_law (by omega) (by omega) hv
  have hval : ∀ c ∈ u ++ v, valuesErr a.cols c.row = 0 := fun c h => by
    rcases List.mem_append.1 h with h | h
    · exact a4 _ (u2 c h).1
    · rw [ec]; exact b4 _ (v2 c h).1
  have hbn : ∀ c ∈ u ++ v, -50000 ≤ c.n ∧ c.n ≤ 50000 := fun c h => by
    rcases List.mem_append.1 h with h | h
    · exact (u2 c h).2
    · exact (v2 c h).2
  obtain ⟨z1, z2, z3⟩ := sumQ_law (K := 50000) (by omega) (by rw [List.length_append]; omega) hbn (fun c h => (valuesErr_can (hval c h)).2) hz
  have hw : ∀ r, wt z r = cnt b.rows r - cnt a.rows r := fun r => by
    rw [z3, cntQ_wt (by omega) (by omega) hu, cntQ_wt (by omega) (by omega) hv]; omega
  have hzl : z.length ≤ a.rows.length + b.rows.length := by
    have := cntQ_len hu
    have := cntQ_len hv
    obtain ⟨l, l1, _, rfl⟩ := hz
    refine Nat.le_trans (List.length_filter_le _ _) (Nat.le_trans (grp_len _) ?_)
    rw [l1.length_eq, List.length_append]; omega
  refine ⟨z, ⟨z1, fun c h => ⟨(z2 c h).1, (z2 c h).2.1⟩, fun c h => ?_, hw, hzl⟩, rfl⟩
  obtain ⟨_, _, x, hx, e⟩ := z2 c h
  refine ⟨by rw [e]; exact hval x hx, ?_⟩
  have e1 := wt_mem z1 c h
  rw [hw] at e1
  have := cnt_bnd b.rows c.row
  have := cnt_bnd a.rows c.row
  omega
theorem diffQ_cases {a b : Tbl} {r : Res} (h : diffQ a b r) : (∃ e : Int, e ≠ 0 ∧ r = rErr e) ∨ (tblErr a = 0 ∧ tblErr b = 0 ∧ a.cols = b.cols ∧ ∃ z, DiffOk a b z ∧ r = dOk z) := by
  have h0 := h
  unfold diffQ at h
  cases h1 : (tblErr a != 0)
  · rw [h1, cond_false] at h
    cases h2 : (tblErr b != 0)
    · rw [h2, cond_false] at h
      cases h3 : sameCols a.cols b.cols
      · rw [h3] at h
        exact .inl ⟨10, by omega, h⟩
      · have ea : tblErr a = 0 := by simpa using h1
        have eb : tblErr b = 0 := by simpa using h2
        have ec := sameCols_eq h3
        exact .inr ⟨ea, eb, ec, diffQ_ok ea eb ec h0⟩
    · rw [h2, cond_true] at h
      exact .inl ⟨_, by simpa using h2, h⟩
  · rw [h1, cond_true] at h
    exact .inl ⟨_, by simpa using h1, h⟩
theorem DiffOk.unique {a b : Tbl} {x y : List Chg} (hx : DiffOk a b x) (hy : DiffOk a b y) : x = y := asc_unique hx.asc hy.asc hx.ok hy.ok fun r => by rw [hx.wts, hy.wts]
theorem DiffOk.self {a : Tbl} {x : List Chg} (hx : DiffOk a a x) : x = [] := by
  refine asc_unique hx.asc List.Pairwise.nil hx.ok (fun c hc => by cases hc) fun r => ?_
  rw [hx.wts]; simp [wt]
theorem DiffOk.back {a b : Tbl} {x y : List Chg} (hx : DiffOk a b x) (hy : DiffOk b a y) : y.map negC = x := by
  refine asc_unique (asc_neg hy.asc) hx.asc (fun c hc => ?_) hx.ok fun r => ?_
  · obtain ⟨d, hd, rfl⟩ := List.mem_map.1 hc
    have := hy.ok d hd
    refine ⟨?_, this.2⟩
    show -d.n ≠ 0
    have := this.1
    omega
  · rw [wt_neg, hy.wts, hx.wts]; omega
theorem apply_ok {a b : Tbl} {z : List Chg} (ha : tblErr a = 0) (hb : tblErr b = 0) (hcols : a.cols = b.cols) (hz : DiffOk a b z) {r : Res} (h : applyQ a z r) : ∃ ws, NoDown ws ∧ ws.Perm b.rows ∧ (∀ r ∈ b.rows, canR r) ∧ r = aOk ⟨a.cols, ws⟩ := by
  obtain ⟨a1, a2, a3, a4⟩ := (tblErr_law a).1 ha
  obtain ⟨b1, b2, b3, b4⟩ := (tblErr_law b).1 hb
  have hch : chsErr a.cols none z = 0 := chsErr_mk a.cols z none hz.asc (fun q hq => by cases hq) fun c hc => ⟨(hz.ok c hc).1, (hz.val c hc).2.1, (hz.val c hc).2.2, (hz.val c hc).1⟩
  unfold applyQ at h
  rw [ha, hch] at h
  simp only [bne_self_eq_false, cond_false] at h
  obtain ⟨u, w, hu, hw, h⟩ := h
  obtain ⟨u1, u2⟩ := cntQ_law (by omega) (by omega) hu
  have hbn : ∀ c ∈ u ++ z, (-50000 ≤ c.n ∧ c.n ≤ 50000) ∧ canR c.row := fun c h => by
    rcases List.mem_append.1 h with h | h
    · exact ⟨(u2 c h).2, (valuesErr_can (a4 _ (u2 c h).1)).2⟩
    · have := (hz.val c h).2
      exact ⟨by omega, (hz.ok c h).2⟩
  have hzl := hz.len
  obtain ⟨w1, w2, w3⟩ := sumQ_law (K := 50000) (by omega) (by rw [List.length_append]; omega) (fun c h => (hbn c h).1) (fun c h => (hbn c h).2) hw
  have hww : ∀ r, wt w r = cnt b.rows r := fun r => by
    rw [w3, cntQ_wt (by omega) (by omega) hu, hz.wts]; omega
  have hpos : ∀ c ∈ w, 0 ≤ c.n := fun c hc => by
    rw [← wt_mem w1 c hc, hww]; exact (cnt_bnd _ _).1
  have hcan : ∀ r ∈ b.rows, canR r := fun r hr => (valuesErr_can (b4 r hr)).2
  have hperm : (spread w).Perm b.rows := perm_of_cnt (fun r hr => by
    obtain ⟨c, hc, rfl⟩ := mem_spread hr
    exact (w2 c hc).2.1) hcan fun r => by rw [cnt_spread w hpos, hww]
  have hlen := hperm.length_eq
  have ht := total_mk w 0 (Int.le_refl _) hpos (by omega)
  rw [ht] at h
  simp only at h
  rw [decide_eq_false (by omega), cond_false] at h
  refine ⟨spread w, spread_nodown w1, hperm, hcan, ?_⟩
  rcases h with h | ⟨rfl, h⟩
  · exact h
  · rw [h]; rfl
theorem sameT_refl (t : Tbl) : sameT t t = true := by
  unfold sameT
  rw [show (((t.cols.length : Int)) != t.cols.length || ((t.rows.length : Int)) != t.rows.length) = false by simp, cond_false, allEq_refl eqC_refl]
  exact allEq_refl sameRow_refl _
end Go.Proofs.YtcajnlkkjdhjdaaGreat

namespace Go.Proofs.YtcajnlkkjdhjdaaGreat
open Go Go.AM
attribute [local irreducible] Sat SatH LoopP
set_option maxRecDepth 100000
set_option maxHeartbeats 1000000

theorem chgD_app' (a b : List Chg) : chgD (a ++ b) = chgD a ++ chgD b := by simp [chgD]
def ldS (b : Tbl) (z y : List Chg) (t : Tbl) (i : Nat) : S := ⟨[(3, cV (.ptr 3 0)), (5, .w (chgC z)), (7, cV (.ptr 7 0)), (11, .w (chgC y)), (13, cV (.own 99 2 ((y.take i).map negC).length)), (14, intV i)],
  [(3, .box [.d (.sl (colD b.cols)), .d (.sl (rowsD b.rows))]), (7, .box [.d (.sl (colD t.cols)), .d (.sl (rowsD t.rows))]), (99, .arr 2 (chgD ((y.take i).map negC)) false)]⟩
theorem sat_leads (a b : Tbl) : Sat Pg k_law45_DeltaLeads [a.w, b.w] (fun r => r = rB true) := by
  have ha := sat_FewTable a
  have hb := sat_FewTable b
  have hfa := @fewTbl_len a
  have hfb := @fewTbl_len b
  generalize fewTbl a = b1 at *
  generalize fewTbl b = b2 at *
  cases b1 with
  | false =>
    obtain ⟨ac, ar⟩ := a
    obtain ⟨bc, br⟩ := b
    refine Sat_of T6 c_law45_DeltaLeads_ok (by kernel_rfl) ?_
    conv => whnf
    refine Sat.mono (sat_awake) ?_
    rintro _ rfl
    conv => whnf
    refine Sat.mono (ha) ?_
    rintro _ rfl
    conv => whnf
    refine Sat.mono (sat_awake) ?_
    rintro _ rfl
    conv => whnf
    rfl
  | true =>
    cases b2 with
    | false =>
      obtain ⟨ac, ar⟩ := a
      obtain ⟨bc, br⟩ := b
      refine Sat_of T6 c_law45_DeltaLeads_ok (by kernel_rfl) ?_
      conv => whnf
      refine Sat.mono (sat_awake) ?_
      rintro _ rfl
      conv => whnf
      refine Sat.mono (ha) ?_
      rintro _ rfl
      conv => whnf
      refine Sat.mono (hb) ?_
      rintro _ rfl
      conv => whnf
      refine Sat.mono (sat_awake) ?_
      rintro _ rfl
      conv => whnf
      rfl
    | true =>
      have ka := hfa rfl
      have kb := hfb rfl
      have dab := (sat_Diff a b (by omega) (by omega)).mono fun r => diffQ_cases
      have daa := fun h1 h2 h3 => (sat_Diff a a (by omega) (by omega)).mono fun r => @diffQ_ok a a r h1 h2 h3
      have dba := fun h1 h2 h3 => (sat_Diff b a (by omega) (by omega)).mono fun r => @diffQ_ok b a r h1 h2 h3
      have hrows := sat_ref45_Rows b.rows (by omega)
      clear hfa hfb
      have hA := fun z h => sat_Apply a z (by omega) h (by omega)
      have hAok := @apply_ok a b
      have hself := @DiffOk.self a
      have hback := @DiffOk.back a b
      have hlen := @DiffOk.len a b
      have hval := @DiffOk.val b a
      have hlen2 := @DiffOk.len b a
      obtain ⟨ac, ar⟩ := a
      obtain ⟨bc, br⟩ := b
      refine Sat_of T6 c_law45_DeltaLeads_ok (by kernel_rfl) ?_
      conv => whnf
      refine Sat.mono (sat_awake) ?_
      rintro _ rfl
      conv => whnf
      refine Sat.mono (ha) ?_
      rintro _ rfl
      conv => whnf
      refine Sat.mono (hb) ?_
      rintro _ rfl
      conv => whnf
      refine Sat.mono dab ?_
      rintro _ (⟨e, he, rfl⟩ | ⟨ea, eb, ec, z, hz, rfl⟩)
      · conv => whnf
        refine cond_i (fun h => ?_) (fun h => ?_)
        · conv => whnf
          rfl
        · have h : (e != 0) = false := h
          exact absurd (by simpa using h) he
      · have hzl : z.length ≤ ar.length + br.length := hlen hz
        have ka : ar.length ≤ 40 ∧ ac.length ≤ 40 := ka
        have kb : br.length ≤ 40 ∧ bc.length ≤ 40 := kb
        have ec : ac = bc := ec
        subst ec
        conv => whnf
        refine Sat.mono (hA z (by omega)) ?_
        intro r hr
        obtain ⟨ws, w1, w2, w3, rfl⟩ := hAok ea eb rfl hz hr
        clear hr
        conv => whnf
        refine Sat.mono (daa ea ea rfl) ?_
        rintro _ ⟨z2, hz2, rfl⟩
        have := hself hz2
        subst this
        conv => whnf
        refine Sat.mono (dba eb ea rfl) ?_
        rintro _ ⟨y, hy, rfl⟩
        have hyz := hback hz hy
        have hyl : y.length ≤ br.length + ar.length := hlen2 hy
        have hyv := hval hy
        have hlz : z.length = y.length := by rw [← hyz, List.length_map]
        have hS := sat_ref45_Same z z
        rw [sameChg_refl] at hS
        clear hA hAok hself hback hlen hval hlen2 dab daa dba ha hb
        conv => whnf
        refine cond_i (fun h => ?_) (fun h => ?_)
        · have h : (false || (((chgD y).length : Int) != ((chgD z).length : Int))) = true := h
          rw [chgD_len, chgD_len, hlz] at h
          simp at h
        · clear h
          conv => whnf
          refine loopI (P := Pg) (f := T6.f) (body := c_law45_DeltaLeads_L0) y.length (fun i => ldS ⟨ac, br⟩ z y ⟨ac, ws⟩ i) (fun _ => True) ⟨trivial, ⟨_, weak_ownNil 13 99 2 (by omega) (by omega) rfl, ?_⟩⟩ ?_
          · conv => whnf
            rfl
          · intro i hi _
            have wi : i < y.length → IntKind.i64.wrap ((i : Int) + 1) = ((i + 1 : Nat) : Int) := fun h => wrapS h (by omega)
            obtain ⟨T, hT⟩ : ∃ T, T = (y.take i).map negC := ⟨_, rfl⟩
            have hTl : T.length = i := by rw [hT, List.length_map, List.length_take]; omega
            have htk : (chgD T).take T.length = chgD T := by rw [← chgD_len, List.take_length]
            have hnx : ∀ h : i < y.length, (y.take (i + 1)).map negC = T ++ [negC y[i]] := fun h => by rw [take_snoc h, List.map_append, ← hT]; rfl
            have hend : y.length ≤ i → T = z := fun h => by rw [hT, List.take_of_length_le h, hyz]
            show mwpR Pg T6.f c_law45_DeltaLeads_L0 _ (ldS ⟨ac, br⟩ z y ⟨ac, ws⟩ i)
            unfold ldS
            rw [← hT]
            conv => whnf
            refine cond_i (fun k1 => ?_) (fun k1 => ?_)
            · have hlt : i < y.length := by have := of_decide_eq_true k1; rw [chgD_len] at this; omega
              have hg := chgD_get hlt
              have hnx := hnx hlt
              have hv := (hyv _ (List.getElem_mem hlt)).2
              generalize y[i] = c at *
              obtain ⟨row, n⟩ := c
              have hv : -20000 ≤ n ∧ n ≤ 20000 := hv
              have wn : IntKind.i64.wrap (0 - n) = -n := by rw [wrapI (by omega) (by omega)]; omega
              conv => whnf
              refine ⟨by omega, _, hg, rfl, ?_⟩
              conv => whnf
              refine ⟨by omega, _, hg, rfl, ?_⟩
              conv => whnf
              refine ⟨by simp, by unfold fits; simp; omega, by simp; omega, ?_⟩
              conv => whnf
              refine ⟨hlt, trivial, normW_of ?_⟩
              conv => whnf
              rw [wi hlt, wn, htk]
              rw [hnx, chgD_app', List.length_append]
              rfl
            · have hge : y.length ≤ i := by have := of_decide_eq_false k1; rw [chgD_len] at this; omega
              have hTz := hend hge
              subst hTz
              unfold chgC at hS
              have hS2 : Sat Pg k_ref45_Same [.c (.d (.sl ((chgD T).take T.length))), chgC T] (fun r => r = rB true) := by rw [htk]; exact hS
              conv => whnf
              refine Sat.mono (hS2) ?_
              rintro _ rfl
              conv => whnf
              refine Sat.mono hrows ?_
              rintro _ ⟨ys, hys, rfl⟩
              have e : ws = ys := nodown_unique w1 hys.2 (w2.trans hys.1.symm) (fun r hr => w3 r (w2.mem_iff.1 hr))
              subst e
              have hT2 := sat_ref34_Same ⟨ac, ws⟩ ⟨ac, ws⟩
              rw [sameT_refl] at hT2
              conv => whnf
              refine Sat.mono (hT2) ?_
              rintro _ rfl
              conv => whnf
              rfl
end Go.Proofs.YtcajnlkkjdhjdaaGreat
