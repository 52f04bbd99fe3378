/- Merged from the texts: De7 De8 Df1 Df2 Df3 -/
import Derived.Test.YtcajnlkkjdhjdaaGreatHf10
set_option linter.unusedSimpArgs false
set_option linter.unusedVariables false
namespace Go.Proofs.YtcajnlkkjdhjdaaGreat
open Go Go.AM
attribute [local irreducible] Sat SatH LoopP
set_option maxRecDepth 100000
set_option maxHeartbeats 1000000

theorem sat_ref45_values (cols : List Col) (row : List Val) : Sat Pg k_ref45_values [.c (.d (.sl (colD cols))), rowC row] (fun r => r = rI (valuesErr cols row)) := by
  refine sat_len 1 (by kernel_rfl) rfl fun hlen => ?_
  rw [rowD_len] at hlen
  unfold valuesErr
  rw [← rowD_len, ← colD_len]
  refine Sat_of T6 c_ref45_values_ok (by kernel_rfl) ?_
  conv => whnf
  refine cond_i (fun h => ?_) (fun h => ?_)
  · have h : (((rowD row).length : Int) != ((colD cols).length : Int)) = true := h
    rw [h, cond_true]
    conv => whnf
    rfl
  · have h : (((rowD row).length : Int) != ((colD cols).length : Int)) = false := h
    rw [h, cond_false]
    have hl : row.length = cols.length := by rw [bne_eq_false_iff_eq, rowD_len, colD_len] at h; omega
    conv => whnf
    refine loopI (P := Pg) (f := T6.f) (body := c_ref45_values_L0) row.length (fun j => ⟨[(0, .w (.c (.d (.sl (colD cols))))), (1, .w (rowC row)), (5, intV j)], []⟩) (fun j => valuesL cols row = valuesL (cols.drop j) (row.drop j)) ⟨rfl, normW_of ?_⟩ ?_
    · conv => whnf
      rfl
    · intro j hj hV
      conv => whnf
      refine cond_i (fun h3 => ?_) (fun h3 => ?_)
      · have hlj : j < row.length := by have := of_decide_eq_true h3; rw [rowD_len] at this; omega
        have hlc : j < cols.length := by omega
        rw [drop_cons hlj, drop_cons hlc] at hV
        have hgc := colD_get hlc
        have hgr := rowD_get hlj
        simp only [valuesL] at hV
        have hv := sat_ref33_Value cols[j].t row[j]
        generalize valErr cols[j].t row[j] = e at *
        generalize cols[j] = c at *
        generalize row[j] = v at *
        obtain ⟨cn, ct⟩ := c
        obtain ⟨v1, v2, v3⟩ := v
        conv => whnf
        refine ⟨by omega, _, hgc, rfl, ?_⟩
        conv => whnf
        refine ⟨by omega, _, hgr, rfl, ?_⟩
        conv => whnf
        refine Sat.mono (hv) ?_
        rintro _ rfl
        conv => whnf
        refine cond_i (fun h5 => ?_) (fun h5 => ?_)
        · have h5 : (e != 0) = true := h5
          rw [h5, cond_true] at hV
          conv => whnf
          rw [hV]; rfl
        · have h5 : (e != 0) = false := h5
          rw [h5, cond_false] at hV
          conv => whnf
          refine ⟨hlj, hV, normW_of ?_⟩
          conv => whnf
          rw [wrapS hlj hlen]
          rfl
      · have hge : row.length ≤ j := by have := of_decide_eq_false h3; rw [rowD_len] at this; omega
        rw [List.drop_eq_nil_of_le hge, valuesL_nil] at hV
        conv => whnf
        rw [hV]; rfl

theorem sat_ref45_count (l : List (List Val)) (row : List Val) (hl : l.length ≤ 100000000) : Sat Pg k_ref45_count [.c (.d (.sl (rowsD l))), rowC row] (fun r => r = rI (cnt l row)) := by
  refine Sat_of T6 c_ref45_count_ok (by kernel_rfl) ?_
  conv => whnf
  refine loopF (P := Pg) (f := T6.f) (body := c_ref45_count_L0) (fun x : Nat × Int => ⟨[(0, .w (.c (.d (.sl (rowsD l))))), (1, .w (rowC row)), (5, intV x.2), (6, intV x.1)], []⟩) (fun x => l.length - x.1) (fun x => x.1 ≤ l.length ∧ 0 ≤ x.2 ∧ x.2 ≤ x.1 ∧ cnt l row = x.2 + cnt (l.drop x.1) row) ⟨(0, 0), ⟨Nat.zero_le _, Int.le_refl _, Int.le_refl _, by show cnt l row = 0 + cnt l row; omega⟩, normW_of ?_⟩ ?_
  · conv => whnf
    rfl
  · rintro ⟨i, n⟩ hx
    obtain ⟨hi, hn0, hn1, hR⟩ : i ≤ l.length ∧ 0 ≤ n ∧ n ≤ i ∧ cnt l row = n + cnt (l.drop i) row := hx
    have wi : i < l.length → IntKind.i64.wrap ((i : Int) + 1) = ((i + 1 : Nat) : Int) := fun h => wrapS h (by omega)
    have wn : IntKind.i64.wrap (n + 1) = n + 1 := wrapI (by omega) (by omega)
    conv => whnf
    refine cond_i (fun h1 => ?_) (fun h1 => ?_)
    · have hlt : i < l.length := by have h1 : decide ((i : Int) < ((rowsD l).length : Int)) = true := h1; have := of_decide_eq_true h1; rw [rowsD_len] at this; omega
      have hg := rowsD_get hlt
      rw [drop_cons hlt, cnt_cons] at hR
      have hc := sat_ref42_Compare l[i] row
      generalize ordR l[i] row = o at *
      generalize l[i] = x at *
      conv => whnf
      refine ⟨by omega, _, hg, rfl, ?_⟩
      conv => whnf
      refine Sat.mono (hc) ?_
      rintro _ rfl
      conv => whnf
      refine cond_i (fun h2 => ?_) (fun h2 => ?_)
      · have h2 : (o == 0) = true := h2
        rw [h2, cond_true] at hR
        conv => whnf
        refine ⟨(i + 1, n + 1), ⟨⟨hlt, by show 0 ≤ n + 1; omega, by show n + 1 ≤ ((i + 1 : Nat) : Int); omega, by show cnt l row = n + 1 + cnt (l.drop (i + 1)) row; omega⟩, by show l.length - (i + 1) < l.length - i; omega⟩, normW_of ?_⟩
        conv => whnf
        rw [wi hlt, wn]
        rfl
      · have h2 : (o == 0) = false := h2
        rw [h2, cond_false] at hR
        conv => whnf
        refine ⟨(i + 1, n), ⟨⟨hlt, hn0, by show n ≤ ((i + 1 : Nat) : Int); omega, by show cnt l row = n + cnt (l.drop (i + 1)) row; omega⟩, by show l.length - (i + 1) < l.length - i; omega⟩, normW_of ?_⟩
        conv => whnf
        rw [wi hlt]
        rfl
    · have hge : l.length ≤ i := by have h1 : decide ((i : Int) < ((rowsD l).length : Int)) = false := h1; have := of_decide_eq_false h1; rw [rowsD_len] at this; omega
      rw [List.drop_eq_nil_of_le hge] at hR
      have hR : cnt l row = n := by rw [hR]; simp [cnt, wt]
      conv => whnf
      rw [hR]; rfl

/-- A list without the first row that is equal to a row. -/
def woL : List (List Val) → List Val → List (List Val)
  | [], _ => []
  | x :: r, row => bif ordR x row == 0 then r else x :: woL r row
theorem cnt_woL : ∀ (l : List (List Val)) (row r : List Val), 0 < cnt l row → cnt (woL l row) r = cnt l r - (bif ordR row r == 0 then 1 else 0)
  | [], row, r, h => by simp [cnt, wt] at h
  | x :: l, row, r, h => by
    simp only [woL]
    by_cases e : ordR x row = 0
    · rw [show (ordR x row == 0) = true by simpa using e, cond_true, cnt_cons, eq_row e]; omega
    · have e' : (ordR x row == 0) = false := by simpa using e
      rw [e', cond_false, cnt_cons, cnt_cons, cnt_woL l row r (by rw [cnt_cons, e'] at h; simpa using h)]; omega
theorem woL_len : ∀ (l : List (List Val)) (row : List Val), (woL l row).length ≤ l.length
  | [], _ => Nat.le_refl _
  | x :: l, row => by
    simp only [woL]
    cases (ordR x row == 0)
    · rw [cond_false, List.length_cons, List.length_cons]; have := woL_len l row; omega
    · rw [cond_true, List.length_cons]; omega
theorem woL_mem : ∀ {l : List (List Val)} {row x : List Val}, x ∈ woL l row → x ∈ l
  | [], _, _, h => h
  | y :: l, row, x, h => by
    simp only [woL] at h
    cases e : (ordR y row == 0)
    · rw [e, cond_false] at h
      rcases List.mem_cons.1 h with rfl | h
      · exact List.mem_cons_self ..
      · exact List.mem_cons_of_mem _ (woL_mem h)
    · rw [e, cond_true] at h
      exact List.mem_cons_of_mem _ h
theorem rowsD_sz' (l : List (List Val)) : ∀ y ∈ rowsD l, y.length = 1 := by
  intro y hy
  obtain ⟨r, _, rfl⟩ := List.mem_map.1 hy
  rfl
theorem sat_ref45_without (l : List (List Val)) (row : List Val) (hl : l.length ≤ 100000000) (hc : 0 < cnt l row) : Sat Pg k_ref45_without [.c (.d (.sl (rowsD l))), rowC row] (fun r => r = ⟨.w (.c (.own 0 1 (woL l row).length)), [.arr 1 (rowsD (woL l row)) false]⟩) := by
  refine Sat_of T6 c_ref45_without_ok (by kernel_rfl) ?_
  conv => whnf
  refine loopI (P := Pg) (f := T6.f) (body := c_ref45_without_L0) l.length (fun i => ⟨[(0, .w (.c (.d (.sl (rowsD l))))), (1, .w (rowC row)), (5, intV i)], []⟩) (fun i => 0 < cnt (l.drop i) row ∧ woL l row = l.take i ++ woL (l.drop i) row) ⟨⟨hc, rfl⟩, normW_of ?_⟩ ?_
  · conv => whnf
    rfl
  · intro i hi hR
    obtain ⟨hp, hR⟩ := hR
    conv => whnf
    refine cond_i (fun h1 => ?_) (fun h1 => ?_)
    · have hlt : i < l.length := by have h1 : decide ((i : Int) < ((rowsD l).length : Int)) = true := h1; have := of_decide_eq_true h1; rw [rowsD_len] at this; omega
      have hg := rowsD_get hlt
      have hdc := drop_cons hlt
      have htk := take_snoc hlt
      have hcm := sat_ref42_Compare l[i] row
      rw [hdc, cnt_cons] at hp
      rw [hdc] at hR
      simp only [woL] at hR
      generalize ordR l[i] row = o at *
      generalize l[i] = x at *
      conv => whnf
      refine ⟨by omega, _, hg, rfl, ?_⟩
      conv => whnf
      refine Sat.mono (hcm) ?_
      rintro _ rfl
      conv => whnf
      refine cond_i (fun h2 => ?_) (fun h2 => ?_)
      · have h2 : (o == 0) = true := h2
        rw [h2, cond_true] at hR
        have e1 : (rowsD l).take (orI (some ((i : Nat) : Int)) ((rowsD l).length : Int)).toNat = rowsD (l.take i) := by simp [orI, rowsD, List.map_take]
        have wi : IntKind.i64.wrap ((i : Int) + 1) = ((i + 1 : Nat) : Int) := wrapS hlt (by omega)
        have e2 : ((rowsD l).take (orI none ((rowsD l).length : Int)).toNat).drop (((i + 1 : Nat) : Int)).toNat = rowsD (l.drop (i + 1)) := by
          simp only [orI, Int.toNat_natCast, List.take_length]
          simp [rowsD, List.map_drop]
        have hlen : ((l.take i).length : Int) ≤ 100000000 := by rw [List.length_take]; omega
        have hlen2 : ((l.drop (i + 1)).length : Int) ≤ 100000000 := by rw [List.length_drop]; omega
        conv => whnf
        refine ⟨by simp only [orI]; omega, by simp only [orI]; rw [rowsD_len]; omega, ?_⟩
        rw [e1]
        conv => whnf
        rw [wi]
        refine ⟨rowsD_sz' l, by omega, by simp only [orI]; rw [rowsD_len]; omega, by simp only [orI]; omega, ?_⟩
        rw [e2]
        have a1 : (rowsD (l.take i)).length ≤ 100000000 := by rw [rowsD_len]; omega
        have a2 : (rowsD (l.drop (i + 1))).length ≤ 100000000 := by rw [rowsD_len]; omega
        have e3 : ([] ++ rowsD (l.take i)).take (0 + (rowsD (l.take i)).length) ++ rowsD (l.drop (i + 1)) = rowsD (woL l row) := by
          rw [List.nil_append, Nat.zero_add, List.take_length, hR, rowsD_app]
        have e4 : 0 + (rowsD (l.take i)).length + (rowsD (l.drop (i + 1))).length = (woL l row).length := by
          rw [Nat.zero_add, hR, rowsD_len, rowsD_len, List.length_append]
        rw [← e3, ← e4]
        conv => whnf
        refine ⟨rowsD_sz' _, by unfold fits; simp only [List.length_nil]; omega, by simp only [List.length_nil]; omega, ?_⟩
        conv => whnf
        refine ⟨rowsD_sz' _, by unfold fits; simp only [List.length_nil]; omega, by simp only [List.length_nil]; omega, ?_⟩
        conv => whnf
        rfl
      · have h2 : (o == 0) = false := h2
        rw [h2, cond_false] at hR hp
        conv => whnf
        refine ⟨hlt, ⟨by omega, by rw [hR, htk, List.append_assoc]; rfl⟩, normW_of ?_⟩
        conv => whnf
        rw [wrapS hlt (by omega)]
        rfl
    · have hge : l.length ≤ i := by have h1 : decide ((i : Int) < ((rowsD l).length : Int)) = false := h1; have := of_decide_eq_false h1; rw [rowsD_len] at this; omega
      rw [List.drop_eq_nil_of_le hge] at hp
      simp [cnt, wt] at hp

theorem sat_ref45_changes (cols : List Col) (cs : List Chg) (hcl : cs.length ≤ 100000000) : Sat Pg k_ref45_changes [.c (.d (.sl (colD cols))), chgC cs] (fun r => r = rI (chsErr cols none cs)) := by
  refine Sat_of T6 c_ref45_changes_ok (by kernel_rfl) ?_
  conv => whnf
  refine loopI (P := Pg) (f := T6.f) (body := c_ref45_changes_L0) cs.length (fun i => ⟨[(0, .w (.c (.d (.sl (colD cols))))), (1, .w (chgC cs)), (5, intV i)], []⟩) (fun i => chsErr cols none cs = chsErr cols (prevC cs i) (cs.drop i)) ⟨rfl, normW_of ?_⟩ ?_
  · conv => whnf
    rfl
  · intro i hi hR
    have wi : i < cs.length → IntKind.i64.wrap ((i : Int) + 1) = ((i + 1 : Nat) : Int) := fun h => wrapS h (by omega)
    conv => whnf
    refine cond_i (fun h1 => ?_) (fun h1 => ?_)
    · have hlt : i < cs.length := by have h1 : decide ((i : Int) < ((chgD cs).length : Int)) = true := h1; have := of_decide_eq_true h1; rw [chgD_len] at this; omega
      have hg := chgD_get hlt
      rw [drop_cons hlt] at hR
      have hnx : prevC cs (i + 1) = some cs[i] := List.getElem?_eq_getElem hlt
      have hv := sat_ref45_values cols cs[i].row
      have hprev : ∀ h : 0 < i, prevC cs i = some (cs[i - 1]'(by omega)) ∧ (chgD cs)[(((i - 1 : Nat) : Int)).toNat]? = some (cs[i - 1]'(by omega)).ds := fun h => by
        have hlp : i - 1 < cs.length := by omega
        refine ⟨?_, chgD_get hlp⟩
        cases i with
        | zero => omega
        | succ k => exact List.getElem?_eq_getElem hlp
      simp only [chsErr] at hR
      rw [← hnx] at hR
      generalize cs[i] = c at *
      generalize valuesErr cols c.row = ve at *
      obtain ⟨row, n⟩ := c
      rw [← colD_len] at hR
      have hbad : chgBad (colD cols).length (prevC cs i) ⟨row, n⟩ = (((((rowD row).length : Int) != ((colD cols).length : Int) || n == 0) || decide (n < -20000)) || decide (n > 20000) || (match prevC cs i with | some q => decide (ordR q.row row ≥ 0) | none => false)) := by
        unfold chgBad
        rw [rowD_len]
        rfl
      rw [hbad] at hR
      clear hbad
      conv => whnf
      refine ⟨by omega, _, hg, rfl, ?_⟩
      conv => whnf
      refine cond_i (fun h2 => ?_) (fun h2 => ?_)
      · have h2 : ((((rowD row).length : Int)) != ((colD cols).length : Int) || n == 0 || decide (n < -20000) || decide (n > 20000)) = true := h2
        rw [h2, Bool.true_or, cond_true] at hR
        conv => whnf
        rw [hR]; rfl
      · have h2 : ((((rowD row).length : Int)) != ((colD cols).length : Int) || n == 0 || decide (n < -20000) || decide (n > 20000)) = false := h2
        rw [h2, Bool.false_or] at hR
        conv => whnf
        refine cond_i (fun h3 => ?_) (fun h3 => ?_)
        · have h3 : decide ((i : Int) > 0) = true := h3
          have hi0 : 0 < i := by have := of_decide_eq_true h3; omega
          have wp : IntKind.i64.wrap ((i : Int) - 1) = ((i - 1 : Nat) : Int) := by rw [wrapI (by omega) (by omega)]; omega
          obtain ⟨hp1, hp2⟩ := hprev hi0
          rw [hp1] at hR
          generalize cs[i - 1] = q at *
          obtain ⟨prow, pn⟩ := q
          have hcm := sat_ref42_Compare prow row
          simp only at hR
          generalize ordR prow row = o at *
          conv => whnf
          rw [wp]
          refine ⟨by omega, _, hp2, rfl, ?_⟩
          conv => whnf
          refine Sat.mono (hcm) ?_
          rintro _ rfl
          conv => whnf
          refine cond_i (fun h4 => ?_) (fun h4 => ?_)
          · have h4 : decide (o ≥ 0) = true := h4
            rw [h4, cond_true] at hR
            conv => whnf
            rw [hR]; rfl
          · have h4 : decide (o ≥ 0) = false := h4
            rw [h4, cond_false] at hR
            conv => whnf
            refine Sat.mono (hv) ?_
            rintro _ rfl
            conv => whnf
            refine cond_i (fun h5 => ?_) (fun h5 => ?_)
            · have h5 : (ve != 0) = true := h5
              rw [h5, cond_true] at hR
              conv => whnf
              rw [hR]; rfl
            · have h5 : (ve != 0) = false := h5
              rw [h5, cond_false] at hR
              conv => whnf
              refine ⟨hlt, hR, normW_of ?_⟩
              conv => whnf
              rw [wi hlt]
              rfl
        · have h3 : decide ((i : Int) > 0) = false := h3
          have hi0 : i = 0 := by have := of_decide_eq_false h3; omega
          have hpv : prevC cs i = none := by rw [hi0]; rfl
          rw [hpv] at hR
          simp only [cond_false] at hR
          conv => whnf
          refine Sat.mono (hv) ?_
          rintro _ rfl
          conv => whnf
          refine cond_i (fun h5 => ?_) (fun h5 => ?_)
          · have h5 : (ve != 0) = true := h5
            rw [h5, cond_true] at hR
            conv => whnf
            rw [hR]; rfl
          · have h5 : (ve != 0) = false := h5
            rw [h5, cond_false] at hR
            conv => whnf
            refine ⟨hlt, hR, normW_of ?_⟩
            conv => whnf
            rw [wi hlt]
            rfl
    · have hge : cs.length ≤ i := by have h1 : decide ((i : Int) < ((chgD cs).length : Int)) = false := h1; have := of_decide_eq_false h1; rw [chgD_len] at this; omega
      rw [List.drop_eq_nil_of_le hge] at hR
      have hR : chsErr cols none cs = 0 := by rw [hR]; cases prevC cs i <;> rfl
      conv => whnf
      rw [hR]; rfl
end Go.Proofs.YtcajnlkkjdhjdaaGreat

namespace Go.Proofs.YtcajnlkkjdhjdaaGreat
open Go Go.AM
attribute [local irreducible] Sat SatH LoopP
set_option maxRecDepth 100000
set_option maxHeartbeats 1000000

def sumN : List Chg → Int
  | [] => 0
  | c :: r => c.n + sumN r
def anyNeg (rows : List (List Val)) (cs : List Chg) : Bool := cs.any fun c => decide (cnt rows c.row + c.n < 0)
def refApp (t : Tbl) (cs : List Chg) (r : Res) : Prop :=
  bif tblErr t != 0 then r = aErr (tblErr t) else bif chsErr t.cols none cs != 0 then r = aErr (chsErr t.cols none cs) else
  bif anyNeg t.rows cs then r = aErr 5 else bif decide ((t.rows.length : Int) + sumN cs > 20000) then r = aErr 7 else
  ∃ ys, NoDown ys ∧ (∀ r, cnt ys r = cnt t.rows r + wt cs r) ∧ (∀ r ∈ ys, r ∈ t.rows ∨ ∃ c ∈ cs, r = c.row) ∧ r = aOk ⟨t.cols, ys⟩
def refAppD (t : Tbl) (cs : List Chg) (r : Res) : Prop := r.v.plain = true ∧ refApp t cs r.asData

def tbx (t : Tbl) : Pl := .box [.d (.sl (colD t.cols)), .d (.sl (rowsD t.rows))]
def ra0 (t : Tbl) (cs : List Chg) (i : Nat) (s : Int) : S := ⟨[(1, .w (chgC cs)), (2, cV (.ptr 2 0)), (4, cV (.ptr 4 0)), (7, intV s), (8, intV i)], [(2, tbx t), (4, .box [.nil, .nil])]⟩
def ra3 (t : Tbl) (cs : List Chg) (i : Nat) (L : List (List Val)) : S := ⟨[(1, .w (chgC cs)), (2, cV (.ptr 2 0)), (4, cV (.ptr 4 0)), (9, cV (.own 86 1 L.length)), (10, intV i)], [(2, tbx t), (4, .box [.nil, .nil]), (86, .arr 1 (rowsD L) false)]⟩
def ra1 (t : Tbl) (cs : List Chg) (i : Nat) (L : List (List Val)) (k : Int) : S := ⟨[(1, .w (chgC cs)), (2, cV (.ptr 2 0)), (4, cV (.ptr 4 0)), (9, cV (.own 86 1 L.length)), (10, intV i), (11, intV k)], [(2, tbx t), (4, .box [.nil, .nil]), (86, .arr 1 (rowsD L) false)]⟩
def ra2 (t : Tbl) (cs : List Chg) (i : Nat) (L : List (List Val)) (k : Int) : S := ⟨[(1, .w (chgC cs)), (2, cV (.ptr 2 0)), (4, cV (.ptr 4 0)), (9, cV (.own 86 1 L.length)), (10, intV i), (12, intV k)], [(2, tbx t), (4, .box [.nil, .nil]), (86, .arr 1 (rowsD L) false)]⟩
def e1 (c : List Val) (r : List Val) : Int := bif ordR c r == 0 then 1 else 0
theorem e1_self (c : List Val) : e1 c c = 1 := by unfold e1; rw [ordR_ok.refl]; rfl
theorem wt_e1 (c : Chg) (r : List Val) : wt [c] r = c.n * e1 c.row r := by
  simp only [wt, e1]
  cases (ordR c.row r == 0) <;> simp
theorem asc_take_wt {cs : List Chg} (h : Asc cs) {i : Nat} (hi : i < cs.length) : wt (cs.take i) cs[i].row = 0 := by
  have hp := h
  unfold Asc at hp
  have hd : cs = cs.take i ++ cs[i] :: cs.drop (i + 1) := by rw [← drop_cons hi, List.take_append_drop]
  rw [hd, List.pairwise_append] at hp
  have : ∀ c ∈ cs.take i, ordR c.row cs[i].row < 0 := fun c hc => hp.2.2 c hc _ (List.mem_cons_self ..)
  generalize cs.take i = l at this
  generalize cs[i].row = r at this
  induction l with
  | nil => rfl
  | cons c l ih =>
    have hc := this c (List.mem_cons_self ..)
    have e : (ordR c.row r == 0) = false := by rw [beq_eq_false_iff_ne]; omega
    simp only [wt, e, cond_false]
    rw [ih fun x hx => this x (List.mem_cons_of_mem _ hx)]; rfl
attribute [local irreducible] refAppD in
theorem sat_ref45_Apply (t : Tbl) (cs : List Chg) (ht : t.rows.length ≤ 50000) (hc : cs.length ≤ 40) : Sat Pg k_ref45_Apply [t.w, chgC cs] (refApp t cs) := by
  refine Sat.data (Q := refAppD t cs) ?_ (fun r h => by unfold refAppD at h; exact h)
  have hchk := sat_ref34_Check t
  have hchs := sat_ref45_changes t.cols cs (by omega)
  have hcnt := fun row => sat_ref45_count t.rows row (by omega)
  have hq : ∀ r : Res, r.v.plain = true → (bif tblErr t != 0 then r.asData = aErr (tblErr t) else bif chsErr t.cols none cs != 0 then r.asData = aErr (chsErr t.cols none cs) else
      bif anyNeg t.rows cs then r.asData = aErr 5 else bif decide ((t.rows.length : Int) + sumN cs > 20000) then r.asData = aErr 7 else
      ∃ ys, NoDown ys ∧ (∀ r, cnt ys r = cnt t.rows r + wt cs r) ∧ (∀ r ∈ ys, r ∈ t.rows ∨ ∃ c ∈ cs, r = c.row) ∧ r.asData = aOk ⟨t.cols, ys⟩) → refAppD t cs r := fun r h1 h2 => by
    unfold refAppD refApp; exact ⟨h1, h2⟩
  have hbn := chsErr_bnd t.cols cs none
  have hlaw := chsErr_law t.cols cs none
  obtain ⟨cols, rows⟩ := t
  simp only at hq hbn hlaw hchs hcnt
  have ht : rows.length ≤ 50000 := ht
  generalize hte : tblErr ⟨cols, rows⟩ = te at *
  generalize hce : chsErr cols none cs = ce at *
  refine Sat_of T6 c_ref45_Apply_ok (by kernel_rfl) ?_
  conv => whnf
  refine Sat.mono (hchk) ?_
  rintro _ rfl
  conv => whnf
  refine cond_i (fun h1 => ?_) (fun h1 => ?_)
  · have h1 : (te == 0) = true := h1
    have h1' : (te != 0) = false := by simpa using h1
    simp only [h1', cond_false] at hq
    conv => whnf
    refine Sat.mono (hchs) ?_
    rintro _ rfl
    conv => whnf
    refine cond_i (fun h2 => ?_) (fun h2 => ?_)
    · have h2 : (ce != 0) = true := h2
      simp only [h2, cond_true] at hq
      conv => whnf
      exact hq _ rfl rfl
    · have h2 : (ce != 0) = false := h2
      have h20 : ce = 0 := by simpa using h2
      simp only [h2, cond_false] at hq
      have hbn := hbn h20
      obtain ⟨hasc, _, _⟩ := hlaw h20
      have hsb : ∀ i : Nat, i ≤ cs.length → -(20000000 : Int) ≤ sumN (cs.take i) ∧ sumN (cs.take i) ≤ 20000000 := by
        intro i hi
        have : ∀ l : List Chg, (∀ c ∈ l, -20000 ≤ c.n ∧ c.n ≤ 20000) → -(20000 : Int) * l.length ≤ sumN l ∧ sumN l ≤ 20000 * l.length := by
          intro l
          induction l with
          | nil => intro _; simp [sumN]
          | cons c l ih =>
            intro h
            have h1 := h c (List.mem_cons_self ..)
            have h2 := ih fun x hx => h x (List.mem_cons_of_mem _ hx)
            simp only [sumN, List.length_cons]
            omega
        have h3 := this (cs.take i) fun c hc => hbn c (List.mem_of_mem_take hc)
        rw [List.length_take] at h3
        omega
      conv => whnf
      refine loopF (P := Pg) (f := T6.f) (body := c_ref45_Apply_L0) (fun x : Nat × Int => ra0 ⟨cols, rows⟩ cs x.1 x.2) (fun x => cs.length - x.1) (fun x => x.1 ≤ cs.length ∧ x.2 = rows.length + sumN (cs.take x.1) ∧ anyNeg rows cs = anyNeg rows (cs.drop x.1)) ⟨(0, rows.length), ⟨Nat.zero_le _, by simp [sumN], rfl⟩, normW_of ?_⟩ ?_
      · conv => whnf
        rw [rowsD_len]
        rfl
      · rintro ⟨i, s⟩ hx
        obtain ⟨hi, hs, hR⟩ : i ≤ cs.length ∧ s = rows.length + sumN (cs.take i) ∧ anyNeg rows cs = anyNeg rows (cs.drop i) := hx
        have wi : i < cs.length → IntKind.i64.wrap ((i : Int) + 1) = ((i + 1 : Nat) : Int) := fun h => wrapS h (by omega)
        conv => whnf
        refine cond_i (fun k1 => ?_) (fun k1 => ?_)
        · have hlt : i < cs.length := by have k1 : decide ((i : Int) < ((chgD cs).length : Int)) = true := k1; have := of_decide_eq_true k1; rw [chgD_len] at this; omega
          have hg := chgD_get hlt
          have hb := hbn _ (List.getElem_mem hlt)
          have hsi := hsb i hi
          have hsn : sumN (cs.take (i + 1)) = sumN (cs.take i) + cs[i].n := by
            rw [take_snoc hlt]
            generalize cs.take i = l
            induction l with
            | nil => simp [sumN]
            | cons c l ih => simp only [List.cons_append, sumN, ih]; omega
          rw [drop_cons hlt] at hR
          have hR : anyNeg rows cs = (decide (cnt rows cs[i].row + cs[i].n < 0) || anyNeg rows (cs.drop (i + 1))) := hR
          have hcc := hcnt cs[i].row
          have hcb := cnt_bnd rows cs[i].row
          generalize cs[i] = c at *
          obtain ⟨row, n⟩ := c
          simp only at hb hsn hR hcc hcb
          generalize cnt rows row = m at *
          have w1 : IntKind.i64.wrap (m + n) = m + n := wrapI (by omega) (by omega)
          have w2 : IntKind.i64.wrap (s + n) = s + n := wrapI (by omega) (by omega)
          conv => whnf
          refine ⟨by omega, _, hg, rfl, ?_⟩
          conv => whnf
          refine ⟨by omega, _, hg, rfl, ?_⟩
          conv => whnf
          refine Sat.mono (hcc) ?_
          rintro _ rfl
          rw [← w1] at hR
          conv => whnf
          refine cond_i (fun k2 => ?_) (fun k2 => ?_)
          · have k2 : decide (IntKind.i64.wrap (m + n) < 0) = true := k2
            rw [k2, Bool.true_or] at hR
            simp only [hR, cond_true] at hq
            conv => whnf
            exact hq _ rfl rfl
          · have k2 : decide (IntKind.i64.wrap (m + n) < 0) = false := k2
            rw [k2, Bool.false_or] at hR
            conv => whnf
            refine ⟨by omega, _, hg, rfl, ?_⟩
            conv => whnf
            refine ⟨(i + 1, s + n), ⟨⟨hlt, by show s + n = rows.length + sumN (cs.take (i + 1)); omega, hR⟩, by show cs.length - (i + 1) < cs.length - i; omega⟩, normW_of ?_⟩
            conv => whnf
            rw [wi hlt, w2]
            rfl
        · have hge : cs.length ≤ i := by have k1 : decide ((i : Int) < ((chgD cs).length : Int)) = false := k1; have := of_decide_eq_false k1; rw [chgD_len] at this; omega
          rw [List.drop_eq_nil_of_le hge] at hR
          have hneg : anyNeg rows cs = false := hR
          rw [List.take_of_length_le hge] at hs
          simp only [hneg, cond_false] at hq
          rw [← hs] at hq
          clear hR hi hge k1 wi
          conv => whnf
          refine cond_i (fun k2 => ?_) (fun k2 => ?_)
          · have k2 : decide (s > 20000) = true := k2
            simp only [k2, cond_true] at hq
            conv => whnf
            exact hq _ rfl rfl
          · have k2 : decide (s > 20000) = false := k2
            simp only [k2, cond_false] at hq
            have hpos : ∀ i (h : i < cs.length), 0 ≤ cnt rows cs[i].row + cs[i].n := fun i h => by
              unfold anyNeg at hneg
              rw [List.any_eq_false] at hneg
              have := hneg cs[i] (List.getElem_mem h)
              simp only [decide_eq_true_eq] at this
              omega
            conv => whnf
            refine ⟨rowsD_sz' _, by unfold fits; simp only [List.length_nil]; rw [rowsD_len]; omega, by simp only [List.length_nil]; rw [rowsD_len]; omega, ?_⟩
            conv => whnf
            refine loopF (P := Pg) (f := T6.f) (body := c_ref45_Apply_L3) (fun x : Nat × List (List Val) => ra3 ⟨cols, rows⟩ cs x.1 x.2) (fun x => cs.length - x.1) (fun x => x.1 ≤ cs.length ∧ x.2.length ≤ 50000 + 20000 * x.1 ∧ (∀ r, cnt x.2 r = cnt rows r + wt (cs.take x.1) r) ∧ (∀ r ∈ x.2, r ∈ rows ∨ ∃ c ∈ cs, r = c.row)) ⟨(0, rows), ⟨Nat.zero_le _, by show rows.length ≤ 50000 + 20000 * 0; omega, fun r => by show cnt rows r = cnt rows r + 0; omega, fun r hr => .inl hr⟩, ⟨_, weak_mvOwn 9 63 86 1 _ _ (by omega) rfl rfl, ?_⟩⟩ ?_
            · conv => whnf
              simp only [List.length_nil, List.take_nil, List.nil_append, Nat.zero_add, rowsD_len]
              rfl
            · rintro ⟨i, L⟩ hx
              obtain ⟨hi, hLl, hLc, hLm⟩ : i ≤ cs.length ∧ L.length ≤ 50000 + 20000 * i ∧ (∀ r, cnt L r = cnt rows r + wt (cs.take i) r) ∧ (∀ r ∈ L, r ∈ rows ∨ ∃ c ∈ cs, r = c.row) := hx
              have wi : i < cs.length → IntKind.i64.wrap ((i : Int) + 1) = ((i + 1 : Nat) : Int) := fun h => wrapS h (by omega)
              conv => whnf
              refine cond_i (fun k3 => ?_) (fun k3 => ?_)
              · have hlt : i < cs.length := by have k3 : decide ((i : Int) < ((chgD cs).length : Int)) = true := k3; have := of_decide_eq_true k3; rw [chgD_len] at this; omega
                have hg := chgD_get hlt
                have hb := hbn _ (List.getElem_mem hlt)
                have hp := hpos i hlt
                have ht0 := asc_take_wt hasc hlt
                have hmem : cs[i] ∈ cs := List.getElem_mem hlt
                have hwt : ∀ r, wt (cs.take (i + 1)) r = wt (cs.take i) r + cs[i].n * e1 cs[i].row r := fun r => by rw [take_snoc hlt, wt_app, wt_e1]
                generalize cs[i] = c at *
                obtain ⟨row, n⟩ := c
                simp only at hb hp ht0 hwt
                conv => whnf
                refine loopF (P := Pg) (f := T6.f) (body := c_ref45_Apply_L1) (fun x : Int × List (List Val) => ra1 ⟨cols, rows⟩ cs i x.2 x.1) (fun x => (n - x.1).toNat) (fun x => 0 ≤ x.1 ∧ (x.1 = 0 ∨ x.1 ≤ n) ∧ (x.2.length : Int) ≤ L.length + x.1 ∧ (∀ r, cnt x.2 r = cnt L r + x.1 * e1 row r) ∧ (∀ r ∈ x.2, r ∈ rows ∨ ∃ c ∈ cs, r = c.row)) ⟨(0, L), ⟨Int.le_refl _, .inl rfl, by show (L.length : Int) ≤ L.length + 0; omega, fun r => by show cnt L r = cnt L r + 0 * e1 row r; omega, hLm⟩, normW_of ?_⟩ ?_
                · conv => whnf
                  rfl
                · rintro ⟨k, M⟩ hx
                  obtain ⟨hk0, hk1, hMl, hMc, hMm⟩ : 0 ≤ k ∧ (k = 0 ∨ k ≤ n) ∧ (M.length : Int) ≤ L.length + k ∧ (∀ r, cnt M r = cnt L r + k * e1 row r) ∧ (∀ r ∈ M, r ∈ rows ∨ ∃ c ∈ cs, r = c.row) := hx
                  have wk : IntKind.i64.wrap (k + 1) = k + 1 := wrapI (by omega) (by omega)
                  have htk : (rowsD M).take M.length = rowsD M := by rw [← rowsD_len, List.take_length]
                  conv => whnf
                  refine ⟨by omega, _, hg, rfl, ?_⟩
                  conv => whnf
                  refine cond_i (fun k4 => ?_) (fun k4 => ?_)
                  · have k4 : decide (k < n) = true := k4
                    have k4 := of_decide_eq_true k4
                    conv => whnf
                    refine ⟨by omega, _, hg, rfl, ?_⟩
                    conv => whnf
                    refine ⟨by simp, by unfold fits; simp; omega, by simp; omega, ?_⟩
                    conv => whnf
                    refine ⟨(k + 1, M ++ [row]), ⟨⟨by show 0 ≤ k + 1; omega, .inr (by show k + 1 ≤ n; omega), by show ((M ++ [row]).length : Int) ≤ L.length + (k + 1); rw [List.length_append, List.length_singleton]; omega, fun r => ?_, fun r hr => ?_⟩, by show (n - (k + 1)).toNat < (n - k).toNat; omega⟩, normW_of ?_⟩
                    · show cnt (M ++ [row]) r = cnt L r + (k + 1) * e1 row r
                      rw [cnt_app, hMc, Int.add_mul]
                      show _ + (e1 row r + 0) = _
                      omega
                    · rcases List.mem_append.1 hr with hr | hr
                      · exact hMm r hr
                      · exact .inr ⟨_, hmem, List.mem_singleton.1 hr⟩
                    · conv => whnf
                      rw [wk, htk]
                      show _ = S.mk [_, _, _, (9, cV (.own 86 1 (M ++ [row]).length)), _, _] [_, _, (86, .arr 1 (rowsD (M ++ [row])) false)]
                      rw [rowsD_app, List.length_append]
                      rfl
                  · have k4 : decide (k < n) = false := k4
                    have k4 := of_decide_eq_false k4
                    conv => whnf
                    refine ⟨by omega, _, hg, rfl, ?_⟩
                    conv => whnf
                    refine loopF (P := Pg) (f := T6.f) (body := c_ref45_Apply_L2) (fun x : Int × List (List Val) => ra2 ⟨cols, rows⟩ cs i x.2 x.1) (fun x => (0 - x.1).toNat) (fun x => n ≤ x.1 ∧ (x.1 = n ∨ x.1 ≤ 0) ∧ (x.2.length : Int) ≤ M.length ∧ (∀ r, cnt x.2 r = cnt L r + (k + n - x.1) * e1 row r) ∧ (∀ r ∈ x.2, r ∈ rows ∨ ∃ c ∈ cs, r = c.row)) ⟨(n, M), ⟨Int.le_refl _, .inl rfl, Int.le_refl _, fun r => by show cnt M r = cnt L r + (k + n - n) * e1 row r; rw [hMc, show k + n - n = k by omega], hMm⟩, normW_of ?_⟩ ?_
                    · conv => whnf
                      rfl
                    · rintro ⟨j, K⟩ hx
                      obtain ⟨hj0, hj1, hKl, hKc, hKm⟩ : n ≤ j ∧ (j = n ∨ j ≤ 0) ∧ (K.length : Int) ≤ M.length ∧ (∀ r, cnt K r = cnt L r + (k + n - j) * e1 row r) ∧ (∀ r ∈ K, r ∈ rows ∨ ∃ c ∈ cs, r = c.row) := hx
                      have wj : IntKind.i64.wrap (j + 1) = j + 1 := wrapI (by omega) (by omega)
                      have htk2 : (rowsD K).take K.length = rowsD K := by rw [← rowsD_len, List.take_length]
                      conv => whnf
                      refine cond_i (fun k5 => ?_) (fun k5 => ?_)
                      · have k5 : decide (j < 0) = true := k5
                        have k5 := of_decide_eq_true k5
                        have hK0 : 0 < cnt K row := by
                          rw [hKc, e1_self, hLc, ht0]; omega
                        have hw := sat_ref45_without K row (by omega) hK0
                        rw [← htk2] at hw
                        conv => whnf
                        refine ⟨by omega, _, hg, rfl, ?_⟩
                        conv => whnf
                        refine Sat.mono (hw) ?_
                        rintro _ rfl
                        conv => whnf
                        refine ⟨(j + 1, woL K row), ⟨⟨by show n ≤ j + 1; omega, .inr (by show j + 1 ≤ 0; omega), ?_, fun r => ?_, fun r hr => hKm r (woL_mem hr)⟩, by show (0 - (j + 1)).toNat < (0 - j).toNat; omega⟩, ⟨_, weak_mvOwn 9 601632 86 1 _ _ (by omega) rfl rfl, ?_⟩⟩
                        · show ((woL K row).length : Int) ≤ M.length
                          have := woL_len K row
                          omega
                        · show cnt (woL K row) r = cnt L r + (k + n - (j + 1)) * e1 row r
                          have hx : k + n - (j + 1) = (k + n - j) - 1 := by omega
                          rw [cnt_woL K row r hK0, hKc, hx]
                          generalize k + n - j = x
                          rw [Int.sub_mul, Int.one_mul]
                          show _ - e1 row r = _
                          omega
                        · conv => whnf
                          rw [wj]
                          rfl
                      · have k5 : decide (j < 0) = false := k5
                        have k5 := of_decide_eq_false k5
                        conv => whnf
                        refine ⟨(i + 1, K), ⟨⟨hlt, by show K.length ≤ 50000 + 20000 * (i + 1); omega, fun r => ?_, hKm⟩, by show cs.length - (i + 1) < cs.length - i; omega⟩, normW_of ?_⟩
                        · show cnt K r = cnt rows r + wt (cs.take (i + 1)) r
                          rw [hKc, hwt, hLc]
                          have : k + n - j = n := by omega
                          rw [this]; omega
                        · conv => whnf
                          rw [wi hlt]
                          rfl
              · have hge : cs.length ≤ i := by have k3 : decide ((i : Int) < ((chgD cs).length : Int)) = false := k3; have := of_decide_eq_false k3; rw [chgD_len] at this; omega
                rw [List.take_of_length_le hge] at hLc
                have htk : (rowsD L).take L.length = rowsD L := by rw [← rowsD_len, List.take_length]
                have hrw := sat_ref45_Rows L (by omega)
                rw [← htk] at hrw
                conv => whnf
                refine Sat.mono hrw ?_
                rintro _ ⟨ys, hys, rfl⟩
                conv => whnf
                refine hq _ rfl ⟨ys, hys.2, fun r => ?_, fun r hr => hLm r (hys.1.mem_iff.1 hr), rfl⟩
                rw [← hLc]
                unfold cnt
                exact wt_perm (hys.1.map _) r
  · have h1 : (te == 0) = false := h1
    have h1' : (te != 0) = true := by simpa using h1
    simp only [h1', cond_true] at hq
    conv => whnf
    refine cond_i (fun h2 => ?_) (fun h2 => ?_)
    · conv => whnf
      exact hq _ rfl rfl
    · have h2 : (te != 0) = false := h2
      exact absurd (h1'.symm.trans h2) (by simp)
end Go.Proofs.YtcajnlkkjdhjdaaGreat

namespace Go.Proofs.YtcajnlkkjdhjdaaGreat
open Go Go.AM

theorem wt_congr (l : List Chg) {x y : List Val} (h : ordR x y = 0) : wt l x = wt l y := by
  have key : ∀ a : List Val, (ordR a x == 0) = (ordR a y == 0) := fun a => by
    have h1 : ∀ p q : List Val, ordR p q = 0 → ordR q p = 0 := fun p q e => by
      have := ordR_ok.anti p q
      have := ordR_ok.anti q p
      omega
    have e := eq_row (r := a) h
    by_cases e1 : ordR a x = 0
    · have e2 : ordR y a = 0 := by
        rw [show (ordR x a == 0) = true by simpa using h1 _ _ e1] at e
        simpa using e.symm
      rw [e1, h1 _ _ e2]
    · have e2 : ¬ ordR a y = 0 := fun e2 => e1 (by
        rw [show (ordR y a == 0) = true by simpa using h1 _ _ e2] at e
        exact h1 _ _ (by simpa using e))
      rw [beq_eq_false_iff_ne.2 e1, beq_eq_false_iff_ne.2 e2]
  induction l with
  | nil => rfl
  | cons c l ih => simp only [wt, ih, key]
theorem cnt_congr (l : List (List Val)) {x y : List Val} (h : ordR x y = 0) : cnt l x = cnt l y := wt_congr _ h
theorem wt_none : ∀ {l : List Chg} {r : List Val}, (∀ c ∈ l, ordR c.row r ≠ 0) → wt l r = 0
  | [], _, _ => rfl
  | c :: l, r, h => by
    simp only [wt]
    rw [beq_eq_false_iff_ne.2 (h c (List.mem_cons_self ..)), wt_none fun x hx => h x (List.mem_cons_of_mem _ hx)]
    rfl
structure DInv (A B ys : List (List Val)) (i : Nat) (z : List Chg) : Prop where
  asc : Asc z
  mem : ∀ c ∈ z, c.row ∈ ys.take i ∧ c.n ≠ 0 ∧ c.n = cnt B c.row - cnt A c.row
  all : ∀ r ∈ ys.take i, (∃ c ∈ z, ordR c.row r = 0) ∨ cnt B r = cnt A r
  len : z.length ≤ i
theorem dinv0 (A B ys : List (List Val)) : DInv A B ys 0 [] := ⟨List.Pairwise.nil, fun c hc => (by cases hc), fun r hr => (by cases hr), Nat.le_refl _⟩
theorem mem_snoc {ys : List (List Val)} {i : Nat} (h : i < ys.length) {r : List Val} (hr : r ∈ ys.take (i + 1)) : r ∈ ys.take i ∨ r = ys[i] := by
  rw [take_snoc h] at hr
  rcases List.mem_append.1 hr with h | h
  · exact .inl h
  · exact .inr (List.mem_singleton.1 h)
theorem mem_take {ys : List (List Val)} {i : Nat} (h : i < ys.length) : ys[i] ∈ ys.take (i + 1) := by rw [take_snoc h]; exact List.mem_append_right _ (List.mem_singleton.2 rfl)
theorem mem_up {ys : List (List Val)} {i : Nat} {r : List Val} (h : r ∈ ys.take i) : r ∈ ys.take (i + 1) := (List.take_subset_take_left _ (Nat.le_succ i)) h
theorem dinv_same {A B ys : List (List Val)} {i : Nat} {z : List Chg} (h : DInv A B ys i z) (hi : i < ys.length) {x : List Val} (hx : x ∈ ys.take i) (he : ordR ys[i] x = 0) : DInv A B ys (i + 1) z := by
  refine ⟨h.asc, fun c hc => ⟨mem_up (h.mem c hc).1, (h.mem c hc).2⟩, fun r hr => ?_, Nat.le_succ_of_le h.len⟩
  rcases mem_snoc hi hr with hr | rfl
  · exact h.all r hr
  · have hs : ordR x ys[i] = 0 := by
      have := ordR_ok.anti x ys[i]
      have := ordR_ok.anti ys[i] x
      omega
    rcases h.all x hx with ⟨c, hc, e⟩ | e
    · refine .inl ⟨c, hc, ?_⟩
      have hz := ordR_ok.zero.1 e
      have e2 := eq_row (r := ys[i]) e
      rw [hs] at e2
      simpa using e2
    · exact .inr (by rw [cnt_congr B he, cnt_congr A he, e])
theorem dinv_zero {A B ys : List (List Val)} {i : Nat} {z : List Chg} (h : DInv A B ys i z) (hi : i < ys.length) (he : cnt B ys[i] - cnt A ys[i] = 0) : DInv A B ys (i + 1) z := by
  refine ⟨h.asc, fun c hc => ⟨mem_up (h.mem c hc).1, (h.mem c hc).2⟩, fun r hr => ?_, Nat.le_succ_of_le h.len⟩
  rcases mem_snoc hi hr with hr | rfl
  · exact h.all r hr
  · exact .inr (by omega)
theorem nodown_lt {ys : List (List Val)} (hs : NoDown ys) {i : Nat} (hi : i < ys.length) (hne : ∀ x, (ys.take i).getLast? = some x → ordR ys[i] x ≠ 0) : ∀ r ∈ ys.take i, ordR r ys[i] < 0 := by
  have hp := hs
  unfold NoDown at hp
  have hd : ys = ys.take i ++ ys[i] :: ys.drop (i + 1) := by rw [← drop_cons hi, List.take_append_drop]
  rw [hd, List.pairwise_append] at hp
  intro r hr
  cases hl : (ys.take i).getLast? with
  | none => rw [List.getLast?_eq_none_iff] at hl; rw [hl] at hr; cases hr
  | some y =>
    obtain ⟨zs, e⟩ := List.getLast?_eq_some_iff.1 hl
    have hne := hne y hl
    have hy : ordR y ys[i] < 0 := by
      have h1 := hp.2.2 y (by rw [e]; simp) ys[i] (List.mem_cons_self ..)
      have := ordR_ok.anti y ys[i]
      have := ordR_ok.anti ys[i] y
      omega
    rw [e] at hr
    rcases List.mem_append.1 hr with hr | hr
    · have h2 := hp.1
      rw [e, List.pairwise_append] at h2
      have h3 := h2.2.2 r hr y (List.mem_singleton.2 rfl)
      have h4 : ordR r y ≤ 0 := ordR_ok.ge.1 (by omega)
      by_cases h5 : ordR r y = 0
      · have := ordR_ok.zero.1 h5
        have h6 : ordR r ys[i] ≤ 0 := ordR_ok.trans r y ys[i] h4 (by omega)
        have e2 := eq_row (r := ys[i]) h5
        rw [beq_eq_false_iff_ne.2 (by omega : ordR y ys[i] ≠ 0), beq_eq_false_iff_ne] at e2
        omega
      · have h7 : ordR r y < 0 := by omega
        have h8 : ordR y ys[i] ≤ 0 := by omega
        exact ordR_ok.lt_of h7 h8
    · rw [List.mem_singleton.1 hr]; exact hy
theorem dinv_put {A B ys : List (List Val)} {i : Nat} {z : List Chg} (h : DInv A B ys i z) (hs : NoDown ys) (hi : i < ys.length) (hne : ∀ x, (ys.take i).getLast? = some x → ordR ys[i] x ≠ 0) (he : cnt B ys[i] - cnt A ys[i] ≠ 0) : DInv A B ys (i + 1) (z ++ [⟨ys[i], cnt B ys[i] - cnt A ys[i]⟩]) := by
  refine ⟨?_, fun c hc => ?_, fun r hr => ?_, by rw [List.length_append, List.length_singleton]; exact Nat.succ_le_succ h.len⟩
  · unfold Asc
    rw [List.pairwise_append]
    refine ⟨h.asc, List.pairwise_singleton .., fun c hc d hd => ?_⟩
    rw [List.mem_singleton.1 hd]
    exact nodown_lt hs hi hne _ (h.mem c hc).1
  · rcases List.mem_append.1 hc with hc | hc
    · exact ⟨mem_up (h.mem c hc).1, (h.mem c hc).2⟩
    · rw [List.mem_singleton.1 hc]
      exact ⟨mem_take hi, he, rfl⟩
  · rcases mem_snoc hi hr with hr | rfl
    · rcases h.all r hr with ⟨c, hc, e⟩ | e
      · exact .inl ⟨c, List.mem_append_left _ hc, e⟩
      · exact .inr e
    · exact .inl ⟨_, List.mem_append_right _ (List.mem_singleton.2 rfl), ordR_ok.refl _⟩
theorem dinv_end {a b : Tbl} {ys : List (List Val)} {z : List Chg} (ea : tblErr a = 0) (eb : tblErr b = 0) (ec : a.cols = b.cols) (hp : ys.Perm (a.rows ++ b.rows)) (h : DInv a.rows b.rows ys ys.length z) : DiffOk a b z := by
  obtain ⟨a1, a2, a3, a4⟩ := (tblErr_law a).1 ea
  obtain ⟨b1, b2, b3, b4⟩ := (tblErr_law b).1 eb
  have hmem : ∀ r ∈ ys, valuesErr a.cols r = 0 := fun r hr => by
    rcases List.mem_append.1 (hp.mem_iff.1 hr) with h | h
    · exact a4 r h
    · rw [ec]; exact b4 r h
  have hc : ∀ c ∈ z, c.row ∈ ys := fun c hc => by
    have := (h.mem c hc).1
    rwa [List.take_length] at this
  refine ⟨h.asc, fun c hc' => ⟨(h.mem c hc').2.1, (valuesErr_can (hmem _ (hc c hc'))).2⟩, fun c hc' => ⟨hmem _ (hc c hc'), ?_⟩, fun r => ?_, ?_⟩
  · have := (h.mem c hc').2.2
    have := cnt_bnd b.rows c.row
    have := cnt_bnd a.rows c.row
    omega
  · by_cases hw : ∃ c ∈ z, ordR c.row r = 0
    · obtain ⟨c, hc', e⟩ := hw
      rw [← wt_congr z e, wt_mem h.asc c hc', (h.mem c hc').2.2, cnt_congr _ e, cnt_congr _ e]
    · have hw : ∀ c ∈ z, ordR c.row r ≠ 0 := fun c hc' e => hw ⟨c, hc', e⟩
      rw [wt_none hw]
      by_cases hy : ∃ y ∈ ys, ordR y r = 0
      · obtain ⟨y, hy, e⟩ := hy
        have := h.all y (by rw [List.take_length]; exact hy)
        rcases this with ⟨c, hc', e2⟩ | e2
        · have e3 := eq_row (r := r) e2
          rw [e] at e3
          exact absurd (by simpa using e3) (hw c hc')
        · rw [cnt_congr _ e, cnt_congr _ e] at e2
          omega
      · have hn : ∀ l : List (List Val), (∀ x ∈ l, x ∈ ys) → cnt l r = 0 := fun l hl => by
          unfold cnt
          refine wt_none fun c hc' => ?_
          obtain ⟨x, hx, rfl⟩ := List.mem_map.1 hc'
          exact fun e => hy ⟨x, hl x hx, e⟩
        rw [hn b.rows fun x hx => hp.mem_iff.2 (List.mem_append_right _ hx), hn a.rows fun x hx => hp.mem_iff.2 (List.mem_append_left _ hx)]
        rfl
  · have := hp.length_eq
    rw [List.length_append] at this
    have := h.len
    omega
end Go.Proofs.YtcajnlkkjdhjdaaGreat

namespace Go.Proofs.YtcajnlkkjdhjdaaGreat
open Go Go.AM
attribute [local irreducible] Sat SatH LoopP
set_option maxRecDepth 100000
set_option maxHeartbeats 1000000

theorem sat_ref39_Same (a b : List Col) : Sat Pg k_ref39_Same [.c (.d (.sl (colD a))), .c (.d (.sl (colD b)))] (fun r => r = rB (sameCols a b)) := by
  refine sat_len 0 (by kernel_rfl) rfl fun hlen => ?_
  rw [colD_len] at hlen
  unfold sameCols
  refine Sat_of T6 c_ref39_Same_ok (by kernel_rfl) ?_
  conv => whnf
  rw [colD_len, colD_len]
  refine cond_i (fun h => ?_) (fun h => ?_)
  · rw [h]
    conv => whnf
    rfl
  · rw [h]
    have hl := lens h
    simp only [cond_false]
    conv => whnf
    refine loopI (P := Pg) (f := T6.f) (body := c_ref39_Same_L0) a.length (fun i => ⟨[(0, .w (.c (.d (.sl (colD a))))), (1, .w (.c (.d (.sl (colD b))))), (5, intV i)], []⟩) (fun i => allEq eqC a b = allEq eqC (a.drop i) (b.drop i)) ⟨rfl, normW_of ?_⟩ ?_
    · conv => whnf
      rfl
    · intro i hi hR
      conv => whnf
      refine cond_i (fun h1 => ?_) (fun h1 => ?_)
      · have hlt : i < a.length := by have := of_decide_eq_true h1; rw [colD_len] at this; omega
        have hlb : i < b.length := by omega
        rw [drop_cons hlt, drop_cons hlb] at hR
        conv => whnf
        refine ⟨by omega, _, colD_get hlt, rfl, ?_⟩
        conv => whnf
        refine ⟨by omega, _, colD_get hlb, rfl, ?_⟩
        conv => whnf
        refine cond_i (fun h2 => ?_) (fun h2 => ?_)
        · have h2 : (!eqC a[i] b[i]) = true := h2
          simp only [allEq, h2, cond_true] at hR
          conv => whnf
          exact congrArg rB hR.symm
        · have h2 : (!eqC a[i] b[i]) = false := h2
          simp only [allEq, h2, cond_false] at hR
          conv => whnf
          refine ⟨hlt, hR, normW_of ?_⟩
          conv => whnf
          rw [wrapS hlt hlen]
          rfl
      · have hge : a.length ≤ i := by have := of_decide_eq_false h1; rw [colD_len] at this; omega
        rw [allEq_end _ hge hl] at hR
        conv => whnf
        exact congrArg rB hR.symm

def rErrD (e : Int) : Res := ⟨.tup [.c (.d (.sl [])), .c (int e)], []⟩
def refDiff (a b : Tbl) (r : Res) : Prop :=
  bif tblErr a != 0 then r = rErrD (tblErr a) else bif tblErr b != 0 then r = rErrD (tblErr b) else bif !sameCols a.cols b.cols then r = rErrD 10 else ∃ z, DiffOk a b z ∧ r = dOk z
def refDiffD (a b : Tbl) (r : Res) : Prop := r.v.plain = true ∧ refDiff a b r.asData
def dfS (a b : Tbl) (ys : List (List Val)) (i : Nat) (z : List Chg) : S := ⟨[(2, cV (.ptr 2 0)), (3, cV (.ptr 3 0)), (7, cV (.own 84 2 z.length)), (8, .w (.c (.d (.sl (rowsD ys))))), (9, intV i)], [(2, tbx a), (3, tbx b), (84, .arr 2 (chgD z) false)]⟩
attribute [local irreducible] refDiffD in
theorem sat_ref45_Diff (a b : Tbl) (la : a.rows.length ≤ 50000) (lb : b.rows.length ≤ 50000) : Sat Pg k_ref45_Diff [a.w, b.w] (refDiff a b) := by
  refine Sat.data (Q := refDiffD a b) ?_ (fun r h => by unfold refDiffD at h; exact h)
  have hca := sat_ref34_Check a
  have hcb := sat_ref34_Check b
  have hsm := sat_ref39_Same a.cols b.cols
  have hna := fun row => sat_ref45_count a.rows row (by omega)
  have hnb := fun row => sat_ref45_count b.rows row (by omega)
  have hrw := sat_ref45_Rows (a.rows ++ b.rows) (by rw [List.length_append]; omega)
  have hsc := @sameCols_eq a.cols b.cols
  have hend := @dinv_end a b
  have hq : ∀ r : Res, r.v.plain = true → (bif tblErr a != 0 then r.asData = rErrD (tblErr a) else bif tblErr b != 0 then r.asData = rErrD (tblErr b) else bif !sameCols a.cols b.cols then r.asData = rErrD 10 else ∃ z, DiffOk a b z ∧ r.asData = dOk z) → refDiffD a b r := fun r h1 h2 => by
    unfold refDiffD refDiff; exact ⟨h1, h2⟩
  obtain ⟨ac, ar⟩ := a
  obtain ⟨bc, br⟩ := b
  simp only at hq hsm hna hnb hrw hsc hend
  have la : ar.length ≤ 50000 := la
  have lb : br.length ≤ 50000 := lb
  generalize tblErr ⟨ac, ar⟩ = e1 at *
  generalize tblErr ⟨bc, br⟩ = e2 at *
  generalize sameCols ac bc = sc at *
  refine Sat_of T6 c_ref45_Diff_ok (by kernel_rfl) ?_
  conv => whnf
  refine Sat.mono (hca) ?_
  rintro _ rfl
  conv => whnf
  refine cond_i (fun h1 => ?_) (fun h1 => ?_)
  · have h1 : (e1 == 0) = true := h1
    have h10 : e1 = 0 := by simpa using h1
    have h1' : (e1 != 0) = false := by simpa using h1
    simp only [h1', cond_false] at hq
    conv => whnf
    refine Sat.mono (hcb) ?_
    rintro _ rfl
    conv => whnf
    refine cond_i (fun h2 => ?_) (fun h2 => ?_)
    · have h2 : (e2 == 0) = true := h2
      have h20 : e2 = 0 := by simpa using h2
      have h2' : (e2 != 0) = false := by simpa using h2
      simp only [h2', cond_false] at hq
      conv => whnf
      refine Sat.mono (hsm) ?_
      rintro _ rfl
      cases sc with
      | false =>
        conv => whnf
        exact hq _ rfl rfl
      | true =>
        have hend := fun ys z => @hend ys z h10 h20 (hsc rfl)
        conv => whnf
        refine cond_i (fun h3 => ?_) (fun h3 => ?_)
        · have h3 : (e2 != 0) = true := h3
          rw [h2'] at h3
          cases h3
        · clear h3
          conv => whnf
          have hsz : ∀ l : List (List Val), ∀ y ∈ rowsD l, y.length = 1 := fun l y hy => by
            simp only [rowsD, List.mem_map] at hy
            obtain ⟨_, _, rfl⟩ := hy
            rfl
          have hft : ∀ n : Nat, n ≤ 200000 → fits n 24 ∧ n ≤ 9223372036854775807 := fun n h => ⟨by unfold fits; omega, by omega⟩
          have hla := rowsD_len ar
          have hlb := rowsD_len br
          have hrw2 : ∀ l, l = rowsD (ar ++ br) → Sat Pg k_ref45_Rows [.c (.d (.sl l))] (fun r => ∃ ys, rowsP (ar ++ br) ys ∧ r = rC (.d (.sl (rowsD ys)))) := fun l h => by rw [h]; exact hrw
          have hap : ([].take 0 ++ rowsD ar).take (0 + (rowsD ar).length) ++ rowsD br = rowsD (ar ++ br) := by rw [rowsD_app]; simp
          have htk : ∀ n, n = 0 + (rowsD ar).length + (rowsD br).length → (([].take 0 ++ rowsD ar).take (0 + (rowsD ar).length) ++ rowsD br).take n = rowsD (ar ++ br) := fun n h => by
            rw [hap, List.take_of_length_le]
            rw [rowsD_app, List.length_append]; omega
          refine ⟨?_, ?_⟩
          conv => whnf
          refine ⟨?_, ?_⟩
          all_goals
            conv => whnf
            refine ⟨hsz ar, (hft _ (by simp only [List.length_nil, Nat.zero_add, hla]; omega)).1, (hft _ (by simp only [List.length_nil, Nat.zero_add, hla]; omega)).2, ?_⟩
            conv => whnf
            refine ⟨hsz br, (hft _ (by simp only [List.length_nil, Nat.zero_add, hla, hlb]; omega)).1, (hft _ (by simp only [List.length_nil, Nat.zero_add, hla, hlb]; omega)).2, ?_⟩
            conv => whnf
            refine Sat.mono (hrw2 _ (htk _ rfl)) ?_
            rintro _ ⟨ys, hys, rfl⟩
            have hyl : ys.length ≤ 100000 := by have := hys.1.length_eq; rw [List.length_append] at this; omega
            conv => whnf
            refine loopF (P := Pg) (f := T6.f) (body := c_ref45_Diff_L0) (fun x : Nat × List Chg => dfS ⟨ac, ar⟩ ⟨bc, br⟩ ys x.1 x.2) (fun x => ys.length - x.1) (fun x => x.1 ≤ ys.length ∧ DInv ar br ys x.1 x.2) ⟨(0, []), ⟨Nat.zero_le _, dinv0 _ _ _⟩, ⟨_, weak_ownNil 7 84 2 (by omega) (by omega) rfl, ?_⟩⟩ ?_
            · conv => whnf
              rfl
            · rintro ⟨i, z⟩ hx
              obtain ⟨hi, hI⟩ : i ≤ ys.length ∧ DInv ar br ys i z := hx
              have wi : i < ys.length → IntKind.i64.wrap ((i : Int) + 1) = ((i + 1 : Nat) : Int) := fun h => wrapS h (by omega)
              have hzl : z.length ≤ i := hI.len
              have htz : (chgD z).take z.length = chgD z := by rw [← chgD_len, List.take_length]
              conv => whnf
              refine cond_i (fun k1 => ?_) (fun k1 => ?_)
              · have hlt : i < ys.length := by have k1 : decide ((i : Int) < ((rowsD ys).length : Int)) = true := k1; have := of_decide_eq_true k1; rw [rowsD_len] at this; omega
                have hg := rowsD_get hlt
                have hna := hna ys[i]
                have hnb := hnb ys[i]
                have hlast : ∀ k (hk : k < ys.length), i = k + 1 → (ys.take i).getLast? = some ys[k] := fun k hk e => by rw [e, take_snoc hk, List.getLast?_append, List.getLast?_singleton]; rfl
                have hsame : ∀ k (hk : k < ys.length), i = k + 1 → ordR ys[i] ys[k] = 0 → DInv ar br ys (i + 1) z := fun k hk e h => dinv_same hI hlt (by rw [e]; exact mem_take hk) h
                have hzero := dinv_zero hI hlt
                have hput := dinv_put hI hys.2 hlt
                have hcmp := fun y => sat_ref42_Compare ys[i] y
                have hb1 := cnt_bnd br ys[i]
                have hb2 := cnt_bnd ar ys[i]
                clear hI
                generalize ys[i] = x at *
                generalize cnt br x = m at *
                generalize cnt ar x = n at *
                have wmn : IntKind.i64.wrap (m - n) = m - n := wrapI (by omega) (by omega)
                conv => whnf
                refine cond_i (fun k2 => ?_) (fun k2 => ?_)
                · have k2 : decide ((i : Int) > 0) = true := k2
                  have k2 := of_decide_eq_true k2
                  obtain ⟨k, hk⟩ : ∃ k, i = k + 1 := ⟨i - 1, by omega⟩
                  have hkl : k < ys.length := by omega
                  have wl : IntKind.i64.wrap ((i : Int) - 1) = (k : Int) := by rw [wrapI (by omega) (by omega)]; omega
                  have hg2 := rowsD_get hkl
                  have hlast := hlast k hkl hk
                  have hsame := hsame k hkl hk
                  generalize ys[k] = y at *
                  have hcmp := hcmp y
                  generalize hoo : ordR x y = o at *
                  conv => whnf
                  refine ⟨by omega, _, hg, rfl, ?_⟩
                  conv => whnf
                  rw [wl]
                  refine ⟨by omega, _, hg2, rfl, ?_⟩
                  conv => whnf
                  refine Sat.mono (hcmp) ?_
                  rintro _ rfl
                  conv => whnf
                  refine cond_i (fun k3 => ?_) (fun k3 => ?_)
                  · have k3 : (o == 0) = true := k3
                    conv => whnf
                    refine ⟨(i + 1, z), ⟨⟨hlt, hsame (by simpa using k3)⟩, by show ys.length - (i + 1) < ys.length - i; omega⟩, normW_of ?_⟩
                    conv => whnf
                    rw [wi hlt]
                    rfl
                  · have k3 : (o == 0) = false := k3
                    have hne : ∀ w, (ys.take i).getLast? = some w → ordR x w ≠ 0 := fun w hw => by
                      rw [hlast] at hw
                      cases hw
                      rw [hoo]
                      simpa using k3
                    conv => whnf
                    refine ⟨by omega, _, hg, rfl, ?_⟩
                    conv => whnf
                    refine ⟨by omega, _, hg, rfl, ?_⟩
                    conv => whnf
                    refine Sat.mono (hnb) ?_
                    rintro _ rfl
                    conv => whnf
                    refine Sat.mono (hna) ?_
                    rintro _ rfl
                    conv => whnf
                    rw [wmn]
                    refine cond_i (fun k4 => ?_) (fun k4 => ?_)
                    · have k4 : (m - n != 0) = true := k4
                      have k4 : m - n ≠ 0 := by simpa using k4
                      have hnx := hput hne k4
                      conv => whnf
                      refine ⟨by omega, _, hg, rfl, ?_⟩
                      conv => whnf
                      refine ⟨by simp, by unfold fits; simp; omega, by simp; omega, ?_⟩
                      conv => whnf
                      refine ⟨(i + 1, z ++ [⟨x, m - n⟩]), ⟨⟨hlt, hnx⟩, by show ys.length - (i + 1) < ys.length - i; omega⟩, normW_of ?_⟩
                      conv => whnf
                      rw [wi hlt, htz]
                      show _ = S.mk [_, _, (7, cV (.own 84 2 (z ++ [Chg.mk x (m - n)]).length)), _, _] [_, _, (84, .arr 2 (chgD (z ++ [Chg.mk x (m - n)])) false)]
                      rw [← chgD_app, List.length_append]
                      rfl
                    · have k4 : (m - n != 0) = false := k4
                      have k4 : m - n = 0 := by simpa using k4
                      conv => whnf
                      refine ⟨(i + 1, z), ⟨⟨hlt, hzero k4⟩, by show ys.length - (i + 1) < ys.length - i; omega⟩, normW_of ?_⟩
                      conv => whnf
                      rw [wi hlt]
                      rfl
                · have k2 : decide ((i : Int) > 0) = false := k2
                  have k2 := of_decide_eq_false k2
                  have hne : ∀ w, (ys.take i).getLast? = some w → ordR x w ≠ 0 := fun w hw => by
                    rw [show i = 0 by omega] at hw
                    cases hw
                  conv => whnf
                  refine ⟨by omega, _, hg, rfl, ?_⟩
                  conv => whnf
                  refine ⟨by omega, _, hg, rfl, ?_⟩
                  conv => whnf
                  refine Sat.mono (hnb) ?_
                  rintro _ rfl
                  conv => whnf
                  refine Sat.mono (hna) ?_
                  rintro _ rfl
                  conv => whnf
                  rw [wmn]
                  refine cond_i (fun k4 => ?_) (fun k4 => ?_)
                  · have k4 : (m - n != 0) = true := k4
                    have k4 : m - n ≠ 0 := by simpa using k4
                    have hnx := hput hne k4
                    conv => whnf
                    refine ⟨by omega, _, hg, rfl, ?_⟩
                    conv => whnf
                    refine ⟨by simp, by unfold fits; simp; omega, by simp; omega, ?_⟩
                    conv => whnf
                    refine ⟨(i + 1, z ++ [⟨x, m - n⟩]), ⟨⟨hlt, hnx⟩, by show ys.length - (i + 1) < ys.length - i; omega⟩, normW_of ?_⟩
                    conv => whnf
                    rw [wi hlt, htz]
                    show _ = S.mk [_, _, (7, cV (.own 84 2 (z ++ [Chg.mk x (m - n)]).length)), _, _] [_, _, (84, .arr 2 (chgD (z ++ [Chg.mk x (m - n)])) false)]
                    rw [← chgD_app, List.length_append]
                    rfl
                  · have k4 : (m - n != 0) = false := k4
                    have k4 : m - n = 0 := by simpa using k4
                    conv => whnf
                    refine ⟨(i + 1, z), ⟨⟨hlt, hzero k4⟩, by show ys.length - (i + 1) < ys.length - i; omega⟩, normW_of ?_⟩
                    conv => whnf
                    rw [wi hlt]
                    rfl
              · have hge : i = ys.length := by have k1 : decide ((i : Int) < ((rowsD ys).length : Int)) = false := k1; have := of_decide_eq_false k1; rw [rowsD_len] at this; omega
                rw [hge] at hI
                have hz := hend ys z hys.1 hI
                conv => whnf
                refine hq _ rfl ⟨z, hz, ?_⟩
                show Res.mk (.tup [.c (.d (.sl ((chgD z).take z.length))), .c (int 0)]) [] = _
                rw [htz]
                rfl
    · have h2 : (e2 == 0) = false := h2
      have h2' : (e2 != 0) = true := by simpa using h2
      simp only [h2', cond_true] at hq
      conv => whnf
      refine cond_i (fun h3 => ?_) (fun h3 => ?_)
      · conv => whnf
        exact hq _ rfl rfl
      · have h3 : (e2 != 0) = false := h3
        exact absurd (h2'.symm.trans h3) (by simp)
  · have h1 : (e1 == 0) = false := h1
    have h1' : (e1 != 0) = true := by simpa using h1
    simp only [h1', cond_true] at hq
    conv => whnf
    refine cond_i (fun h2 => ?_) (fun h2 => ?_)
    · have h2 : (e1 == 0) = true := h2
      exact absurd (h1.symm.trans h2) (by simp)
    · conv => whnf
      refine cond_i (fun h3 => ?_) (fun h3 => ?_)
      · conv => whnf
        exact hq _ rfl rfl
      · have h3 : (e1 != 0) = false := h3
        exact absurd (h1'.symm.trans h3) (by simp)
end Go.Proofs.YtcajnlkkjdhjdaaGreat

namespace Go.Proofs.YtcajnlkkjdhjdaaGreat
open Go Go.AM
attribute [local irreducible] Sat SatH LoopP
set_option maxRecDepth 100000
set_option maxHeartbeats 1000000

theorem diffs_law {a b : Tbl} {r1 : Res} (h1 : diffQ a b r1) : (∃ e : Int, r1 = rErr e ∧ ∀ r2, refDiff a b r2 → r2 = rErrD e) ∨ ∃ z, r1 = dOk z ∧ ∀ r2, refDiff a b r2 → r2 = dOk z := by
  have h0 := h1
  unfold diffQ at h1
  unfold refDiff
  cases ha : (tblErr a != 0)
  · rw [ha, cond_false] at h1
    cases hb : (tblErr b != 0)
    · rw [hb, cond_false] at h1
      cases hc : (!sameCols a.cols b.cols)
      · obtain ⟨z, hz, rfl⟩ := diffQ_ok (by simpa using ha) (by simpa using hb) (sameCols_eq (by simpa using hc)) h0
        refine .inr ⟨z, rfl, fun r2 h2 => ?_⟩
        obtain ⟨y, hy, rfl⟩ := h2
        rw [hz.unique hy]
      · rw [hc, cond_true] at h1
        exact .inl ⟨_, h1, fun _ h => h⟩
    · rw [hb, cond_true] at h1
      exact .inl ⟨_, h1, fun _ h => h⟩
  · rw [ha, cond_true] at h1
    exact .inl ⟨_, h1, fun _ h => h⟩
theorem sat_diffs (a b : Tbl) : Sat Pg k_law45_DeltaDiffs [a.w, b.w] (fun r => r = rB true) := by
  have ha := sat_FewTable a
  have hb := sat_FewTable b
  have hfa := @fewTbl_len a
  have hfb := @fewTbl_len b
  generalize fewTbl a = b1 at *
  generalize fewTbl b = b2 at *
  cases b1 with
  | false =>
    obtain ⟨ac, ar⟩ := a
    obtain ⟨bc, br⟩ := b
    refine Sat_of T6 c_law45_DeltaDiffs_ok (by kernel_rfl) ?_
    conv => whnf
    refine Sat.mono (sat_awake) ?_
    rintro _ rfl
    conv => whnf
    refine Sat.mono (ha) ?_
    rintro _ rfl
    conv => whnf
    refine Sat.mono (sat_awake) ?_
    rintro _ rfl
    conv => whnf
    rfl
  | true =>
    cases b2 with
    | false =>
      obtain ⟨ac, ar⟩ := a
      obtain ⟨bc, br⟩ := b
      refine Sat_of T6 c_law45_DeltaDiffs_ok (by kernel_rfl) ?_
      conv => whnf
      refine Sat.mono (sat_awake) ?_
      rintro _ rfl
      conv => whnf
      refine Sat.mono (ha) ?_
      rintro _ rfl
      conv => whnf
      refine Sat.mono (hb) ?_
      rintro _ rfl
      conv => whnf
      refine Sat.mono (sat_awake) ?_
      rintro _ rfl
      conv => whnf
      rfl
    | true =>
      have ka := hfa rfl
      have kb := hfb rfl
      have hD := sat_Diff a b (by omega) (by omega)
      have hE := sat_ref45_Diff a b (by omega) (by omega)
      have hlaw := @diffs_law a b
      obtain ⟨ac, ar⟩ := a
      obtain ⟨bc, br⟩ := b
      refine Sat_of T6 c_law45_DeltaDiffs_ok (by kernel_rfl) ?_
      conv => whnf
      refine Sat.mono (sat_awake) ?_
      rintro _ rfl
      conv => whnf
      refine Sat.mono (ha) ?_
      rintro _ rfl
      conv => whnf
      refine Sat.mono (hb) ?_
      rintro _ rfl
      conv => whnf
      refine Sat.mono hD ?_
      intro r1 h1
      rcases hlaw h1 with ⟨e, rfl, hu⟩ | ⟨z, rfl, hu⟩
      · have hS := sat_ref45_Same [] []
        rw [sameChg_refl] at hS
        have hE2 := hE.mono hu
        clear hE hlaw hD h1 hu
        conv => whnf
        refine Sat.mono (hE2) ?_
        rintro _ rfl
        conv => whnf
        refine cond_i (fun h => ?_) (fun h => ?_)
        · conv => whnf
          refine Sat.mono (hS) ?_
          rintro _ rfl
          conv => whnf
          rfl
        · have h : (e == e) = false := h
          simp at h
      · have hS := sat_ref45_Same z z
        rw [sameChg_refl] at hS
        have hE2 := hE.mono hu
        clear hE hlaw hD h1 hu
        conv => whnf
        refine Sat.mono (hE2) ?_
        rintro _ rfl
        conv => whnf
        refine Sat.mono (hS) ?_
        rintro _ rfl
        conv => whnf
        rfl
end Go.Proofs.YtcajnlkkjdhjdaaGreat
