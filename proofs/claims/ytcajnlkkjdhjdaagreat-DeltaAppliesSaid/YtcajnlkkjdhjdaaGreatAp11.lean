/- Merged from the texts: De7 De8 De9 -/
import Derived.Test.YtcajnlkkjdhjdaaGreatAp10
set_option linter.unusedSimpArgs false
set_option linter.unusedVariables false
namespace Go.Proofs.YtcajnlkkjdhjdaaGreat
open Go Go.AM
attribute [local irreducible] Sat SatH LoopP
set_option maxRecDepth 100000
set_option maxHeartbeats 1000000

theorem sat_ref45_values (cols : List Col) (row : List Val) : Sat Pg k_ref45_values [.c (.d (.sl (colD cols))), rowC row] (fun r => r = rI (valuesErr cols row)) := by
  refine sat_len 1 (by kernel_rfl) rfl fun hlen => ?_
  rw [rowD_len] at hlen
  unfold valuesErr
  rw [← rowD_len, ← colD_len]
  refine Sat_of T6 c_ref45_values_ok (by kernel_rfl) ?_
  conv => whnf
  refine cond_i (fun h => ?_) (fun h => ?_)
  · have h : (((rowD row).length : Int) != ((colD cols).length : Int)) = true := h
    rw [h, cond_true]
    conv => whnf
    rfl
  · have h : (((rowD row).length : Int) != ((colD cols).length : Int)) = false := h
    rw [h, cond_false]
    have hl : row.length = cols.length := by rw [bne_eq_false_iff_eq, rowD_len, colD_len] at h; omega
    conv => whnf
    refine loopI (P := Pg) (f := T6.f) (body := c_ref45_values_L0) row.length (fun j => ⟨[(0, .w (.c (.d (.sl (colD cols))))), (1, .w (rowC row)), (5, intV j)], []⟩) (fun j => valuesL cols row = valuesL (cols.drop j) (row.drop j)) ⟨rfl, normW_of ?_⟩ ?_
    · conv => whnf
      rfl
    · intro j hj hV
      conv => whnf
      refine cond_i (fun h3 => ?_) (fun h3 => ?_)
      · have hlj : j < row.length := by have := of_decide_eq_true h3; rw [rowD_len] at this; omega
        have hlc : j < cols.length := by omega
        rw [drop_cons hlj, drop_cons hlc] at hV
        have hgc := colD_get hlc
        have hgr := rowD_get hlj
        simp only [valuesL] at hV
        have hv := sat_ref33_Value cols[j].t row[j]
        generalize valErr cols[j].t row[j] = e at *
        generalize cols[j] = c at *
        generalize row[j] = v at *
        obtain ⟨cn, ct⟩ := c
        obtain ⟨v1, v2, v3⟩ := v
        conv => whnf
        refine ⟨by omega, _, hgc, rfl, ?_⟩
        conv => whnf
        refine ⟨by omega, _, hgr, rfl, ?_⟩
        conv => whnf
        refine Sat.mono (hv) ?_
        rintro _ rfl
        conv => whnf
        refine cond_i (fun h5 => ?_) (fun h5 => ?_)
        · have h5 : (e != 0) = true := h5
          rw [h5, cond_true] at hV
          conv => whnf
          rw [hV]; rfl
        · have h5 : (e != 0) = false := h5
          rw [h5, cond_false] at hV
          conv => whnf
          refine ⟨hlj, hV, normW_of ?_⟩
          conv => whnf
          rw [wrapS hlj hlen]
          rfl
      · have hge : row.length ≤ j := by have := of_decide_eq_false h3; rw [rowD_len] at this; omega
        rw [List.drop_eq_nil_of_le hge, valuesL_nil] at hV
        conv => whnf
        rw [hV]; rfl

theorem sat_ref45_count (l : List (List Val)) (row : List Val) (hl : l.length ≤ 100000000) : Sat Pg k_ref45_count [.c (.d (.sl (rowsD l))), rowC row] (fun r => r = rI (cnt l row)) := by
  refine Sat_of T6 c_ref45_count_ok (by kernel_rfl) ?_
  conv => whnf
  refine loopF (P := Pg) (f := T6.f) (body := c_ref45_count_L0) (fun x : Nat × Int => ⟨[(0, .w (.c (.d (.sl (rowsD l))))), (1, .w (rowC row)), (5, intV x.2), (6, intV x.1)], []⟩) (fun x => l.length - x.1) (fun x => x.1 ≤ l.length ∧ 0 ≤ x.2 ∧ x.2 ≤ x.1 ∧ cnt l row = x.2 + cnt (l.drop x.1) row) ⟨(0, 0), ⟨Nat.zero_le _, Int.le_refl _, Int.le_refl _, by show cnt l row = 0 + cnt l row; omega⟩, normW_of ?_⟩ ?_
  · conv => whnf
    rfl
  · rintro ⟨i, n⟩ hx
    obtain ⟨hi, hn0, hn1, hR⟩ : i ≤ l.length ∧ 0 ≤ n ∧ n ≤ i ∧ cnt l row = n + cnt (l.drop i) row := hx
    have wi : i < l.length → IntKind.i64.wrap ((i : Int) + 1) = ((i + 1 : Nat) : Int) := fun h => wrapS h (by omega)
    have wn : IntKind.i64.wrap (n + 1) = n + 1 := wrapI (by omega) (by omega)
    conv => whnf
    refine cond_i (fun h1 => ?_) (fun h1 => ?_)
    · have hlt : i < l.length := by have h1 : decide ((i : Int) < ((rowsD l).length : Int)) = true := h1; have := of_decide_eq_true h1; rw [rowsD_len] at this; omega
      have hg := rowsD_get hlt
      rw [drop_cons hlt, cnt_cons] at hR
      have hc := sat_ref42_Compare l[i] row
      generalize ordR l[i] row = o at *
      generalize l[i] = x at *
      conv => whnf
      refine ⟨by omega, _, hg, rfl, ?_⟩
      conv => whnf
      refine Sat.mono (hc) ?_
      rintro _ rfl
      conv => whnf
      refine cond_i (fun h2 => ?_) (fun h2 => ?_)
      · have h2 : (o == 0) = true := h2
        rw [h2, cond_true] at hR
        conv => whnf
        refine ⟨(i + 1, n + 1), ⟨⟨hlt, by show 0 ≤ n + 1; omega, by show n + 1 ≤ ((i + 1 : Nat) : Int); omega, by show cnt l row = n + 1 + cnt (l.drop (i + 1)) row; omega⟩, by show l.length - (i + 1) < l.length - i; omega⟩, normW_of ?_⟩
        conv => whnf
        rw [wi hlt, wn]
        rfl
      · have h2 : (o == 0) = false := h2
        rw [h2, cond_false] at hR
        conv => whnf
        refine ⟨(i + 1, n), ⟨⟨hlt, hn0, by show n ≤ ((i + 1 : Nat) : Int); omega, by show cnt l row = n + cnt (l.drop (i + 1)) row; omega⟩, by show l.length - (i + 1) < l.length - i; omega⟩, normW_of ?_⟩
        conv => whnf
        rw [wi hlt]
        rfl
    · have hge : l.length ≤ i := by have h1 : decide ((i : Int) < ((rowsD l).length : Int)) = false := h1; have := of_decide_eq_false h1; rw [rowsD_len] at this; omega
      rw [List.drop_eq_nil_of_le hge] at hR
      have hR : cnt l row = n := by rw [hR]; simp [cnt, wt]
      conv => whnf
      rw [hR]; rfl

/-- A list without the first row that is equal to a row. -/
def woL : List (List Val) → List Val → List (List Val)
  | [], _ => []
  | x :: r, row => bif ordR x row == 0 then r else x :: woL r row
theorem cnt_woL : ∀ (l : List (List Val)) (row r : List Val), 0 < cnt l row → cnt (woL l row) r = cnt l r - (bif ordR row r == 0 then 1 else 0)
  | [], row, r, h => by simp [cnt, wt] at h
  | x :: l, row, r, h => by
    simp only [woL]
    by_cases e : ordR x row = 0
    · rw [show (ordR x row == 0) = true by simpa using e, cond_true, cnt_cons, eq_row e]; omega
    · have e' : (ordR x row == 0) = false := by simpa using e
      rw [e', cond_false, cnt_cons, cnt_cons, cnt_woL l row r (by rw [cnt_cons, e'] at h; simpa using h)]; omega
theorem woL_len : ∀ (l : List (List Val)) (row : List Val), (woL l row).length ≤ l.length
  | [], _ => Nat.le_refl _
  | x :: l, row => by
    simp only [woL]
    cases (ordR x row == 0)
    · rw [cond_false, List.length_cons, List.length_cons]; have := woL_len l row; omega
    · rw [cond_true, List.length_cons]; omega
theorem woL_mem : ∀ {l : List (List Val)} {row x : List Val}, x ∈ woL l row → x ∈ l
  | [], _, _, h => h
  | y :: l, row, x, h => by
    simp only [woL] at h
    cases e : (ordR y row == 0)
    · rw [e, cond_false] at h
      rcases List.mem_cons.1 h with rfl | h
      · exact List.mem_cons_self ..
      · exact List.mem_cons_of_mem _ (woL_mem h)
    · rw [e, cond_true] at h
      exact List.mem_cons_of_mem _ h
theorem rowsD_sz' (l : List (List Val)) : ∀ y ∈ rowsD l, y.length = 1 := by
  intro y hy
  obtain ⟨r, _, rfl⟩ := List.mem_map.1 hy
  rfl
theorem sat_ref45_without (l : List (List Val)) (row : List Val) (hl : l.length ≤ 100000000) (hc : 0 < cnt l row) : Sat Pg k_ref45_without [.c (.d (.sl (rowsD l))), rowC row] (fun r => r = ⟨.w (.c (.own 0 1 (woL l row).length)), [.arr 1 (rowsD (woL l row)) false]⟩) := by
  refine Sat_of T6 c_ref45_without_ok (by kernel_rfl) ?_
  conv => whnf
  refine loopI (P := Pg) (f := T6.f) (body := c_ref45_without_L0) l.length (fun i => ⟨[(0, .w (.c (.d (.sl (rowsD l))))), (1, .w (rowC row)), (5, intV i)], []⟩) (fun i => 0 < cnt (l.drop i) row ∧ woL l row = l.take i ++ woL (l.drop i) row) ⟨⟨hc, rfl⟩, normW_of ?_⟩ ?_
  · conv => whnf
    rfl
  · intro i hi hR
    obtain ⟨hp, hR⟩ := hR
    conv => whnf
    refine cond_i (fun h1 => ?_) (fun h1 => ?_)
    · have hlt : i < l.length := by have h1 : decide ((i : Int) < ((rowsD l).length : Int)) = true := h1; have := of_decide_eq_true h1; rw [rowsD_len] at this; omega
      have hg := rowsD_get hlt
      have hdc := drop_cons hlt
      have htk := take_snoc hlt
      have hcm := sat_ref42_Compare l[i] row
      rw [hdc, cnt_cons] at hp
      rw [hdc] at hR
      simp only [woL] at hR
      generalize ordR l[i] row = o at *
      generalize l[i] = x at *
      conv => whnf
      refine ⟨by omega, _, hg, rfl, ?_⟩
      conv => whnf
      refine Sat.mono (hcm) ?_
      rintro _ rfl
      conv => whnf
      refine cond_i (fun h2 => ?_) (fun h2 => ?_)
      · have h2 : (o == 0) = true := h2
        rw [h2, cond_true] at hR
        have e1 : (rowsD l).take (orI (some ((i : Nat) : Int)) ((rowsD l).length : Int)).toNat = rowsD (l.take i) := by simp [orI, rowsD, List.map_take]
        have wi : IntKind.i64.wrap ((i : Int) + 1) = ((i + 1 : Nat) : Int) := wrapS hlt (by omega)
        have e2 : ((rowsD l).take (orI none ((rowsD l).length : Int)).toNat).drop (((i + 1 : Nat) : Int)).toNat = rowsD (l.drop (i + 1)) := by
          simp only [orI, Int.toNat_natCast, List.take_length]
          simp [rowsD, List.map_drop]
        have hlen : ((l.take i).length : Int) ≤ 100000000 := by rw [List.length_take]; omega
        have hlen2 : ((l.drop (i + 1)).length : Int) ≤ 100000000 := by rw [List.length_drop]; omega
        conv => whnf
        refine ⟨by simp only [orI]; omega, by simp only [orI]; rw [rowsD_len]; omega, ?_⟩
        rw [e1]
        conv => whnf
        rw [wi]
        refine ⟨rowsD_sz' l, by omega, by simp only [orI]; rw [rowsD_len]; omega, by simp only [orI]; omega, ?_⟩
        rw [e2]
        have a1 : (rowsD (l.take i)).length ≤ 100000000 := by rw [rowsD_len]; omega
        have a2 : (rowsD (l.drop (i + 1))).length ≤ 100000000 := by rw [rowsD_len]; omega
        have e3 : ([] ++ rowsD (l.take i)).take (0 + (rowsD (l.take i)).length) ++ rowsD (l.drop (i + 1)) = rowsD (woL l row) := by
          rw [List.nil_append, Nat.zero_add, List.take_length, hR, rowsD_app]
        have e4 : 0 + (rowsD (l.take i)).length + (rowsD (l.drop (i + 1))).length = (woL l row).length := by
          rw [Nat.zero_add, hR, rowsD_len, rowsD_len, List.length_append]
        rw [← e3, ← e4]
        conv => whnf
        refine ⟨rowsD_sz' _, by unfold fits; simp only [List.length_nil]; omega, by simp only [List.length_nil]; omega, ?_⟩
        conv => whnf
        refine ⟨rowsD_sz' _, by unfold fits; simp only [List.length_nil]; omega, by simp only [List.length_nil]; omega, ?_⟩
        conv => whnf
        rfl
      · have h2 : (o == 0) = false := h2
        rw [h2, cond_false] at hR hp
        conv => whnf
        refine ⟨hlt, ⟨by omega, by rw [hR, htk, List.append_assoc]; rfl⟩, normW_of ?_⟩
        conv => whnf
        rw [wrapS hlt (by omega)]
        rfl
    · have hge : l.length ≤ i := by have h1 : decide ((i : Int) < ((rowsD l).length : Int)) = false := h1; have := of_decide_eq_false h1; rw [rowsD_len] at this; omega
      rw [List.drop_eq_nil_of_le hge] at hp
      simp [cnt, wt] at hp

theorem sat_ref45_changes (cols : List Col) (cs : List Chg) (hcl : cs.length ≤ 100000000) : Sat Pg k_ref45_changes [.c (.d (.sl (colD cols))), chgC cs] (fun r => r = rI (chsErr cols none cs)) := by
  refine Sat_of T6 c_ref45_changes_ok (by kernel_rfl) ?_
  conv => whnf
  refine loopI (P := Pg) (f := T6.f) (body := c_ref45_changes_L0) cs.length (fun i => ⟨[(0, .w (.c (.d (.sl (colD cols))))), (1, .w (chgC cs)), (5, intV i)], []⟩) (fun i => chsErr cols none cs = chsErr cols (prevC cs i) (cs.drop i)) ⟨rfl, normW_of ?_⟩ ?_
  · conv => whnf
    rfl
  · intro i hi hR
    have wi : i < cs.length → IntKind.i64.wrap ((i : Int) + 1) = ((i + 1 : Nat) : Int) := fun h => wrapS h (by omega)
    conv => whnf
    refine cond_i (fun h1 => ?_) (fun h1 => ?_)
    · have hlt : i < cs.length := by have h1 : decide ((i : Int) < ((chgD cs).length : Int)) = true := h1; have := of_decide_eq_true h1; rw [chgD_len] at this; omega
      have hg := chgD_get hlt
      rw [drop_cons hlt] at hR
      have hnx : prevC cs (i + 1) = some cs[i] := List.getElem?_eq_getElem hlt
      have hv := sat_ref45_values cols cs[i].row
      have hprev : ∀ h : 0 < i, prevC cs i = some (cs[i - 1]'(by omega)) ∧ (chgD cs)[(((i - 1 : Nat) : Int)).toNat]? = some (cs[i - 1]'(by omega)).ds := fun h => by
        have hlp : i - 1 < cs.length := by omega
        refine ⟨?_, chgD_get hlp⟩
        cases i with
        | zero => omega
        | succ k => exact List.getElem?_eq_getElem hlp
      simp only [chsErr] at hR
      rw [← hnx] at hR
      generalize cs[i] = c at *
      generalize valuesErr cols c.row = ve at *
      obtain ⟨row, n⟩ := c
      rw [← colD_len] at hR
      have hbad : chgBad (colD cols).length (prevC cs i) ⟨row, n⟩ = (((((rowD row).length : Int) != ((colD cols).length : Int) || n == 0) || decide (n < -20000)) || decide (n > 20000) || (match prevC cs i with | some q => decide (ordR q.row row ≥ 0) | none => false)) := by
        unfold chgBad
        rw [rowD_len]
        rfl
      rw [hbad] at hR
      clear hbad
      conv => whnf
      refine ⟨by omega, _, hg, rfl, ?_⟩
      conv => whnf
      refine cond_i (fun h2 => ?_) (fun h2 => ?_)
      · have h2 : ((((rowD row).length : Int)) != ((colD cols).length : Int) || n == 0 || decide (n < -20000) || decide (n > 20000)) = true := h2
        rw [h2, Bool.true_or, cond_true] at hR
        conv => whnf
        rw [hR]; rfl
      · have h2 : ((((rowD row).length : Int)) != ((colD cols).length : Int) || n == 0 || decide (n < -20000) || decide (n > 20000)) = false := h2
        rw [h2, Bool.false_or] at hR
        conv => whnf
        refine cond_i (fun h3 => ?_) (fun h3 => ?_)
        · have h3 : decide ((i : Int) > 0) = true := h3
          have hi0 : 0 < i := by have := of_decide_eq_true h3; omega
          have wp : IntKind.i64.wrap ((i : Int) - 1) = ((i - 1 : Nat) : Int) := by rw [wrapI (by omega) (by omega)]; omega
          obtain ⟨hp1, hp2⟩ := hprev hi0
          rw [hp1] at hR
          generalize cs[i - 1] = q at *
          obtain ⟨prow, pn⟩ := q
          have hcm := sat_ref42_Compare prow row
          simp only at hR
          generalize ordR prow row = o at *
          conv => whnf
          rw [wp]
          refine ⟨by omega, _, hp2, rfl, ?_⟩
          conv => whnf
          refine Sat.mono (hcm) ?_
          rintro _ rfl
          conv => whnf
          refine cond_i (fun h4 => ?_) (fun h4 => ?_)
          · have h4 : decide (o ≥ 0) = true := h4
            rw [h4, cond_true] at hR
            conv => whnf
            rw [hR]; rfl
          · have h4 : decide (o ≥ 0) = false := h4
            rw [h4, cond_false] at hR
            conv => whnf
            refine Sat.mono (hv) ?_
            rintro _ rfl
            conv => whnf
            refine cond_i (fun h5 => ?_) (fun h5 => ?_)
            · have h5 : (ve != 0) = true := h5
              rw [h5, cond_true] at hR
              conv => whnf
              rw [hR]; rfl
            · have h5 : (ve != 0) = false := h5
              rw [h5, cond_false] at hR
              conv => whnf
              refine ⟨hlt, hR, normW_of ?_⟩
              conv => whnf
              rw [wi hlt]
              rfl
        · have h3 : decide ((i : Int) > 0) = false := h3
          have hi0 : i = 0 := by have := of_decide_eq_false h3; omega
          have hpv : prevC cs i = none := by rw [hi0]; rfl
          rw [hpv] at hR
          simp only [cond_false] at hR
          conv => whnf
          refine Sat.mono (hv) ?_
          rintro _ rfl
          conv => whnf
          refine cond_i (fun h5 => ?_) (fun h5 => ?_)
          · have h5 : (ve != 0) = true := h5
            rw [h5, cond_true] at hR
            conv => whnf
            rw [hR]; rfl
          · have h5 : (ve != 0) = false := h5
            rw [h5, cond_false] at hR
            conv => whnf
            refine ⟨hlt, hR, normW_of ?_⟩
            conv => whnf
            rw [wi hlt]
            rfl
    · have hge : cs.length ≤ i := by have h1 : decide ((i : Int) < ((chgD cs).length : Int)) = false := h1; have := of_decide_eq_false h1; rw [chgD_len] at this; omega
      rw [List.drop_eq_nil_of_le hge] at hR
      have hR : chsErr cols none cs = 0 := by rw [hR]; cases prevC cs i <;> rfl
      conv => whnf
      rw [hR]; rfl
end Go.Proofs.YtcajnlkkjdhjdaaGreat

namespace Go.Proofs.YtcajnlkkjdhjdaaGreat
open Go Go.AM
attribute [local irreducible] Sat SatH LoopP
set_option maxRecDepth 100000
set_option maxHeartbeats 1000000

def sumN : List Chg → Int
  | [] => 0
  | c :: r => c.n + sumN r
def anyNeg (rows : List (List Val)) (cs : List Chg) : Bool := cs.any fun c => decide (cnt rows c.row + c.n < 0)
def refApp (t : Tbl) (cs : List Chg) (r : Res) : Prop :=
  bif tblErr t != 0 then r = aErr (tblErr t) else bif chsErr t.cols none cs != 0 then r = aErr (chsErr t.cols none cs) else
  bif anyNeg t.rows cs then r = aErr 5 else bif decide ((t.rows.length : Int) + sumN cs > 20000) then r = aErr 7 else
  ∃ ys, NoDown ys ∧ (∀ r, cnt ys r = cnt t.rows r + wt cs r) ∧ (∀ r ∈ ys, r ∈ t.rows ∨ ∃ c ∈ cs, r = c.row) ∧ r = aOk ⟨t.cols, ys⟩
def refAppD (t : Tbl) (cs : List Chg) (r : Res) : Prop := r.v.plain = true ∧ refApp t cs r.asData

def tbx (t : Tbl) : Pl := .box [.d (.sl (colD t.cols)), .d (.sl (rowsD t.rows))]
def ra0 (t : Tbl) (cs : List Chg) (i : Nat) (s : Int) : S := ⟨[(1, .w (chgC cs)), (2, cV (.ptr 2 0)), (4, cV (.ptr 4 0)), (7, intV s), (8, intV i)], [(2, tbx t), (4, .box [.nil, .nil])]⟩
def ra3 (t : Tbl) (cs : List Chg) (i : Nat) (L : List (List Val)) : S := ⟨[(1, .w (chgC cs)), (2, cV (.ptr 2 0)), (4, cV (.ptr 4 0)), (9, cV (.own 86 1 L.length)), (10, intV i)], [(2, tbx t), (4, .box [.nil, .nil]), (86, .arr 1 (rowsD L) false)]⟩
def ra1 (t : Tbl) (cs : List Chg) (i : Nat) (L : List (List Val)) (k : Int) : S := ⟨[(1, .w (chgC cs)), (2, cV (.ptr 2 0)), (4, cV (.ptr 4 0)), (9, cV (.own 86 1 L.length)), (10, intV i), (11, intV k)], [(2, tbx t), (4, .box [.nil, .nil]), (86, .arr 1 (rowsD L) false)]⟩
def ra2 (t : Tbl) (cs : List Chg) (i : Nat) (L : List (List Val)) (k : Int) : S := ⟨[(1, .w (chgC cs)), (2, cV (.ptr 2 0)), (4, cV (.ptr 4 0)), (9, cV (.own 86 1 L.length)), (10, intV i), (12, intV k)], [(2, tbx t), (4, .box [.nil, .nil]), (86, .arr 1 (rowsD L) false)]⟩
def e1 (c : List Val) (r : List Val) : Int := bif ordR c r == 0 then 1 else 0
theorem e1_self (c : List Val) : e1 c c = 1 := by unfold e1; rw [ordR_ok.refl]; rfl
theorem wt_e1 (c : Chg) (r : List Val) : wt [c] r = c.n * e1 c.row r := by
  simp only [wt, e1]
  cases (ordR c.row r == 0) <;> simp
theorem asc_take_wt {cs : List Chg} (h : Asc cs) {i : Nat} (hi : i < cs.length) : wt (cs.take i) cs[i].row = 0 := by
  have hp := h
  unfold Asc at hp
  have hd : cs = cs.take i ++ cs[i] :: cs.drop (i + 1) := by rw [← drop_cons hi, List.take_append_drop]
  rw [hd, List.pairwise_append] at hp
  have : ∀ c ∈ cs.take i, ordR c.row cs[i].row < 0 := fun c hc => hp.2.2 c hc _ (List.mem_cons_self ..)
  generalize cs.take i = l at this
  generalize cs[i].row = r at this
  induction l with
  | nil => rfl
  | cons c l ih =>
    have hc := this c (List.mem_cons_self ..)
    have e : (ordR c.row r == 0) = false := by rw [beq_eq_false_iff_ne]; omega
    simp only [wt, e, cond_false]
    rw [ih fun x hx => this x (List.mem_cons_of_mem _ hx)]; rfl
attribute [local irreducible] refAppD in
theorem sat_ref45_Apply (t : Tbl) (cs : List Chg) (ht : t.rows.length ≤ 50000) (hc : cs.length ≤ 40) : Sat Pg k_ref45_Apply [t.w, chgC cs] (refApp t cs) := by
  refine Sat.data (Q := refAppD t cs) ?_ (fun r h => by unfold refAppD at h; exact h)
  have hchk := sat_ref34_Check t
  have hchs := sat_ref45_changes t.cols cs (by omega)
  have hcnt := fun row => sat_ref45_count t.rows row (by omega)
  have hq : ∀ r : Res, r.v.plain = true → (bif tblErr t != 0 then r.asData = aErr (tblErr t) else bif chsErr t.cols none cs != 0 then r.asData = aErr (chsErr t.cols none cs) else
      bif anyNeg t.rows cs then r.asData = aErr 5 else bif decide ((t.rows.length : Int) + sumN cs > 20000) then r.asData = aErr 7 else
      ∃ ys, NoDown ys ∧ (∀ r, cnt ys r = cnt t.rows r + wt cs r) ∧ (∀ r ∈ ys, r ∈ t.rows ∨ ∃ c ∈ cs, r = c.row) ∧ r.asData = aOk ⟨t.cols, ys⟩) → refAppD t cs r := fun r h1 h2 => by
    unfold refAppD refApp; exact ⟨h1, h2⟩
  have hbn := chsErr_bnd t.cols cs none
  have hlaw := chsErr_law t.cols cs none
  obtain ⟨cols, rows⟩ := t
  simp only at hq hbn hlaw hchs hcnt
  have ht : rows.length ≤ 50000 := ht
  generalize hte : tblErr ⟨cols, rows⟩ = te at *
  generalize hce : chsErr cols none cs = ce at *
  refine Sat_of T6 c_ref45_Apply_ok (by kernel_rfl) ?_
  conv => whnf
  refine Sat.mono (hchk) ?_
  rintro _ rfl
  conv => whnf
  refine cond_i (fun h1 => ?_) (fun h1 => ?_)
  · have h1 : (te == 0) = true := h1
    have h1' : (te != 0) = false := by simpa using h1
    simp only [h1', cond_false] at hq
    conv => whnf
    refine Sat.mono (hchs) ?_
    rintro _ rfl
    conv => whnf
    refine cond_i (fun h2 => ?_) (fun h2 => ?_)
    · have h2 : (ce != 0) = true := h2
      simp only [h2, cond_true] at hq
      conv => whnf
      exact hq _ rfl rfl
    · have h2 : (ce != 0) = false := h2
      have h20 : ce = 0 := by simpa using h2
      simp only [h2, cond_false] at hq
      have hbn := hbn h20
      obtain ⟨hasc, _, _⟩ := hlaw h20
      have hsb : ∀ i : Nat, i ≤ cs.length → -(20000000 : Int) ≤ sumN (cs.take i) ∧ sumN (cs.take i) ≤ 20000000 := by
        intro i hi
        have : ∀ l : List Chg, (∀ c ∈ l, -20000 ≤ c.n ∧ c.n ≤ 20000) → -(20000 : Int) * l.length ≤ sumN l ∧ sumN l ≤ 20000 * l.length := by
          intro l
          induction l with
          | nil => intro _; simp [sumN]
          | cons c l ih =>
            intro h
            have h1 := h c (List.mem_cons_self ..)
            have h2 := ih fun x hx => h x (List.mem_cons_of_mem _ hx)
            simp only [sumN, List.length_cons]
            omega
        have h3 := this (cs.take i) fun c hc => hbn c (List.mem_of_mem_take hc)
        rw [List.length_take] at h3
        omega
      conv => whnf
      refine loopF (P := Pg) (f := T6.f) (body := c_ref45_Apply_L0) (fun x : Nat × Int => ra0 ⟨cols, rows⟩ cs x.1 x.2) (fun x => cs.length - x.1) (fun x => x.1 ≤ cs.length ∧ x.2 = rows.length + sumN (cs.take x.1) ∧ anyNeg rows cs = anyNeg rows (cs.drop x.1)) ⟨(0, rows.length), ⟨Nat.zero_le _, by simp [sumN], rfl⟩, normW_of ?_⟩ ?_
      · conv => whnf
        rw [rowsD_len]
        rfl
      · rintro ⟨i, s⟩ hx
        obtain ⟨hi, hs, hR⟩ : i ≤ cs.length ∧ s = rows.length + sumN (cs.take i) ∧ anyNeg rows cs = anyNeg rows (cs.drop i) := hx
        have wi : i < cs.length → IntKind.i64.wrap ((i : Int) + 1) = ((i + 1 : Nat) : Int) := fun h => wrapS h (by omega)
        conv => whnf
        refine cond_i (fun k1 => ?_) (fun k1 => ?_)
        · have hlt : i < cs.length := by have k1 : decide ((i : Int) < ((chgD cs).length : Int)) = true := k1; have := of_decide_eq_true k1; rw [chgD_len] at this; omega
          have hg := chgD_get hlt
          have hb := hbn _ (List.getElem_mem hlt)
          have hsi := hsb i hi
          have hsn : sumN (cs.take (i + 1)) = sumN (cs.take i) + cs[i].n := by
            rw [take_snoc hlt]
            generalize cs.take i = l
            induction l with
            | nil => simp [sumN]
            | cons c l ih => simp only [List.cons_append, sumN, ih]; omega
          rw [drop_cons hlt] at hR
          have hR : anyNeg rows cs = (decide (cnt rows cs[i].row + cs[i].n < 0) || anyNeg rows (cs.drop (i + 1))) := hR
          have hcc := hcnt cs[i].row
          have hcb := cnt_bnd rows cs[i].row
          generalize cs[i] = c at *
          obtain ⟨row, n⟩ := c
          simp only at hb hsn hR hcc hcb
          generalize cnt rows row = m at *
          have w1 : IntKind.i64.wrap (m + n) = m + n := wrapI (by omega) (by omega)
          have w2 : IntKind.i64.wrap (s + n) = s + n := wrapI (by omega) (by omega)
          conv => whnf
          refine ⟨by omega, _, hg, rfl, ?_⟩
          conv => whnf
          refine ⟨by omega, _, hg, rfl, ?_⟩
          conv => whnf
          refine Sat.mono (hcc) ?_
          rintro _ rfl
          rw [← w1] at hR
          conv => whnf
          refine cond_i (fun k2 => ?_) (fun k2 => ?_)
          · have k2 : decide (IntKind.i64.wrap (m + n) < 0) = true := k2
            rw [k2, Bool.true_or] at hR
            simp only [hR, cond_true] at hq
            conv => whnf
            exact hq _ rfl rfl
          · have k2 : decide (IntKind.i64.wrap (m + n) < 0) = false := k2
            rw [k2, Bool.false_or] at hR
            conv => whnf
            refine ⟨by omega, _, hg, rfl, ?_⟩
            conv => whnf
            refine ⟨(i + 1, s + n), ⟨⟨hlt, by show s + n = rows.length + sumN (cs.take (i + 1)); omega, hR⟩, by show cs.length - (i + 1) < cs.length - i; omega⟩, normW_of ?_⟩
            conv => whnf
            rw [wi hlt, w2]
            rfl
        · have hge : cs.length ≤ i := by have k1 : decide ((i : Int) < ((chgD cs).length : Int)) = false := k1; have := of_decide_eq_false k1; rw [chgD_len] at this; omega
          rw [List.drop_eq_nil_of_le hge] at hR
          have hneg : anyNeg rows cs = false := hR
          rw [List.take_of_length_le hge] at hs
          simp only [hneg, cond_false] at hq
          rw [← hs] at hq
          clear hR hi hge k1 wi
          conv => whnf
          refine cond_i (fun k2 => ?_) (fun k2 => ?_)
          · have k2 : decide (s > 20000) = true := k2
            simp only [k2, cond_true] at hq
            conv => whnf
            exact hq _ rfl rfl
          · have k2 : decide (s > 20000) = false := k2
            simp only [k2, cond_false] at hq
            have hpos : ∀ i (h : i < cs.length), 0 ≤ cnt rows cs[i].row + cs[i].n := fun i h => by
              unfold anyNeg at hneg
              rw [List.any_eq_false] at hneg
              have := hneg cs[i] (List.getElem_mem h)
              simp only [decide_eq_true_eq] at this
              omega
            conv => whnf
            refine ⟨rowsD_sz' _, by unfold fits; simp only [List.length_nil]; rw [rowsD_len]; omega, by simp only [List.length_nil]; rw [rowsD_len]; omega, ?_⟩
            conv => whnf
            refine loopF (P := Pg) (f := T6.f) (body := c_ref45_Apply_L3) (fun x : Nat × List (List Val) => ra3 ⟨cols, rows⟩ cs x.1 x.2) (fun x => cs.length - x.1) (fun x => x.1 ≤ cs.length ∧ x.2.length ≤ 50000 + 20000 * x.1 ∧ (∀ r, cnt x.2 r = cnt rows r + wt (cs.take x.1) r) ∧ (∀ r ∈ x.2, r ∈ rows ∨ ∃ c ∈ cs, r = c.row)) ⟨(0, rows), ⟨Nat.zero_le _, by show rows.length ≤ 50000 + 20000 * 0; omega, fun r => by show cnt rows r = cnt rows r + 0; omega, fun r hr => .inl hr⟩, ⟨_, weak_mvOwn 9 63 86 1 _ _ (by omega) rfl rfl, ?_⟩⟩ ?_
            · conv => whnf
              simp only [List.length_nil, List.take_nil, List.nil_append, Nat.zero_add, rowsD_len]
              rfl
            · rintro ⟨i, L⟩ hx
              obtain ⟨hi, hLl, hLc, hLm⟩ : i ≤ cs.length ∧ L.length ≤ 50000 + 20000 * i ∧ (∀ r, cnt L r = cnt rows r + wt (cs.take i) r) ∧ (∀ r ∈ L, r ∈ rows ∨ ∃ c ∈ cs, r = c.row) := hx
              have wi : i < cs.length → IntKind.i64.wrap ((i : Int) + 1) = ((i + 1 : Nat) : Int) := fun h => wrapS h (by omega)
              conv => whnf
              refine cond_i (fun k3 => ?_) (fun k3 => ?_)
              · have hlt : i < cs.length := by have k3 : decide ((i : Int) < ((chgD cs).length : Int)) = true := k3; have := of_decide_eq_true k3; rw [chgD_len] at this; omega
                have hg := chgD_get hlt
                have hb := hbn _ (List.getElem_mem hlt)
                have hp := hpos i hlt
                have ht0 := asc_take_wt hasc hlt
                have hmem : cs[i] ∈ cs := List.getElem_mem hlt
                have hwt : ∀ r, wt (cs.take (i + 1)) r = wt (cs.take i) r + cs[i].n * e1 cs[i].row r := fun r => by rw [take_snoc hlt, wt_app, wt_e1]
                generalize cs[i] = c at *
                obtain ⟨row, n⟩ := c
                simp only at hb hp ht0 hwt
                conv => whnf
                refine loopF (P := Pg) (f := T6.f) (body := c_ref45_Apply_L1) (fun x : Int × List (List Val) => ra1 ⟨cols, rows⟩ cs i x.2 x.1) (fun x => (n - x.1).toNat) (fun x => 0 ≤ x.1 ∧ (x.1 = 0 ∨ x.1 ≤ n) ∧ (x.2.length : Int) ≤ L.length + x.1 ∧ (∀ r, cnt x.2 r = cnt L r + x.1 * e1 row r) ∧ (∀ r ∈ x.2, r ∈ rows ∨ ∃ c ∈ cs, r = c.row)) ⟨(0, L), ⟨Int.le_refl _, .inl rfl, by show (L.length : Int) ≤ L.length + 0; omega, fun r => by show cnt L r = cnt L r + 0 * e1 row r; omega, hLm⟩, normW_of ?_⟩ ?_
                · conv => whnf
                  rfl
                · rintro ⟨k, M⟩ hx
                  obtain ⟨hk0, hk1, hMl, hMc, hMm⟩ : 0 ≤ k ∧ (k = 0 ∨ k ≤ n) ∧ (M.length : Int) ≤ L.length + k ∧ (∀ r, cnt M r = cnt L r + k * e1 row r) ∧ (∀ r ∈ M, r ∈ rows ∨ ∃ c ∈ cs, r = c.row) := hx
                  have wk : IntKind.i64.wrap (k + 1) = k + 1 := wrapI (by omega) (by omega)
                  have htk : (rowsD M).take M.length = rowsD M := by rw [← rowsD_len, List.take_length]
                  conv => whnf
                  refine ⟨by omega, _, hg, rfl, ?_⟩
                  conv => whnf
                  refine cond_i (fun k4 => ?_) (fun k4 => ?_)
                  · have k4 : decide (k < n) = true := k4
                    have k4 := of_decide_eq_true k4
                    conv => whnf
                    refine ⟨by omega, _, hg, rfl, ?_⟩
                    conv => whnf
                    refine ⟨by simp, by unfold fits; simp; omega, by simp; omega, ?_⟩
                    conv => whnf
                    refine ⟨(k + 1, M ++ [row]), ⟨⟨by show 0 ≤ k + 1; omega, .inr (by show k + 1 ≤ n; omega), by show ((M ++ [row]).length : Int) ≤ L.length + (k + 1); rw [List.length_append, List.length_singleton]; omega, fun r => ?_, fun r hr => ?_⟩, by show (n - (k + 1)).toNat < (n - k).toNat; omega⟩, normW_of ?_⟩
                    · show cnt (M ++ [row]) r = cnt L r + (k + 1) * e1 row r
                      rw [cnt_app, hMc, Int.add_mul]
                      show _ + (e1 row r + 0) = _
                      omega
                    · rcases List.mem_append.1 hr with hr | hr
                      · exact hMm r hr
                      · exact .inr ⟨_, hmem, List.mem_singleton.1 hr⟩
                    · conv => whnf
                      rw [wk, htk]
                      show _ = S.mk [_, _, _, (9, cV (.own 86 1 (M ++ [row]).length)), _, _] [_, _, (86, .arr 1 (rowsD (M ++ [row])) false)]
                      rw [rowsD_app, List.length_append]
                      rfl
                  · have k4 : decide (k < n) = false := k4
                    have k4 := of_decide_eq_false k4
                    conv => whnf
                    refine ⟨by omega, _, hg, rfl, ?_⟩
                    conv => whnf
                    refine loopF (P := Pg) (f := T6.f) (body := c_ref45_Apply_L2) (fun x : Int × List (List Val) => ra2 ⟨cols, rows⟩ cs i x.2 x.1) (fun x => (0 - x.1).toNat) (fun x => n ≤ x.1 ∧ (x.1 = n ∨ x.1 ≤ 0) ∧ (x.2.length : Int) ≤ M.length ∧ (∀ r, cnt x.2 r = cnt L r + (k + n - x.1) * e1 row r) ∧ (∀ r ∈ x.2, r ∈ rows ∨ ∃ c ∈ cs, r = c.row)) ⟨(n, M), ⟨Int.le_refl _, .inl rfl, Int.le_refl _, fun r => by show cnt M r = cnt L r + (k + n - n) * e1 row r; rw [hMc, show k + n - n = k by omega], hMm⟩, normW_of ?_⟩ ?_
                    · conv => whnf
                      rfl
                    · rintro ⟨j, K⟩ hx
                      obtain ⟨hj0, hj1, hKl, hKc, hKm⟩ : n ≤ j ∧ (j = n ∨ j ≤ 0) ∧ (K.length : Int) ≤ M.length ∧ (∀ r, cnt K r = cnt L r + (k + n - j) * e1 row r) ∧ (∀ r ∈ K, r ∈ rows ∨ ∃ c ∈ cs, r = c.row) := hx
                      have wj : IntKind.i64.wrap (j + 1) = j + 1 := wrapI (by omega) (by omega)
                      have htk2 : (rowsD K).take K.length = rowsD K := by rw [← rowsD_len, List.take_length]
                      conv => whnf
                      refine cond_i (fun k5 => ?_) (fun k5 => ?_)
                      · have k5 : decide (j < 0) = true := k5
                        have k5 := of_decide_eq_true k5
                        have hK0 : 0 < cnt K row := by
                          rw [hKc, e1_self, hLc, ht0]; omega
                        have hw := sat_ref45_without K row (by omega) hK0
                        rw [← htk2] at hw
                        conv => whnf
                        refine ⟨by omega, _, hg, rfl, ?_⟩
                        conv => whnf
                        refine Sat.mono (hw) ?_
                        rintro _ rfl
                        conv => whnf
                        refine ⟨(j + 1, woL K row), ⟨⟨by show n ≤ j + 1; omega, .inr (by show j + 1 ≤ 0; omega), ?_, fun r => ?_, fun r hr => hKm r (woL_mem hr)⟩, by show (0 - (j + 1)).toNat < (0 - j).toNat; omega⟩, ⟨_, weak_mvOwn 9 601632 86 1 _ _ (by omega) rfl rfl, ?_⟩⟩
                        · show ((woL K row).length : Int) ≤ M.length
                          have := woL_len K row
                          omega
                        · show cnt (woL K row) r = cnt L r + (k + n - (j + 1)) * e1 row r
                          have hx : k + n - (j + 1) = (k + n - j) - 1 := by omega
                          rw [cnt_woL K row r hK0, hKc, hx]
                          generalize k + n - j = x
                          rw [Int.sub_mul, Int.one_mul]
                          show _ - e1 row r = _
                          omega
                        · conv => whnf
                          rw [wj]
                          rfl
                      · have k5 : decide (j < 0) = false := k5
                        have k5 := of_decide_eq_false k5
                        conv => whnf
                        refine ⟨(i + 1, K), ⟨⟨hlt, by show K.length ≤ 50000 + 20000 * (i + 1); omega, fun r => ?_, hKm⟩, by show cs.length - (i + 1) < cs.length - i; omega⟩, normW_of ?_⟩
                        · show cnt K r = cnt rows r + wt (cs.take (i + 1)) r
                          rw [hKc, hwt, hLc]
                          have : k + n - j = n := by omega
                          rw [this]; omega
                        · conv => whnf
                          rw [wi hlt]
                          rfl
              · have hge : cs.length ≤ i := by have k3 : decide ((i : Int) < ((chgD cs).length : Int)) = false := k3; have := of_decide_eq_false k3; rw [chgD_len] at this; omega
                rw [List.take_of_length_le hge] at hLc
                have htk : (rowsD L).take L.length = rowsD L := by rw [← rowsD_len, List.take_length]
                have hrw := sat_ref45_Rows L (by omega)
                rw [← htk] at hrw
                conv => whnf
                refine Sat.mono hrw ?_
                rintro _ ⟨ys, hys, rfl⟩
                conv => whnf
                refine hq _ rfl ⟨ys, hys.2, fun r => ?_, fun r hr => hLm r (hys.1.mem_iff.1 hr), rfl⟩
                rw [← hLc]
                unfold cnt
                exact wt_perm (hys.1.map _) r
  · have h1 : (te == 0) = false := h1
    have h1' : (te != 0) = true := by simpa using h1
    simp only [h1', cond_true] at hq
    conv => whnf
    refine cond_i (fun h2 => ?_) (fun h2 => ?_)
    · conv => whnf
      exact hq _ rfl rfl
    · have h2 : (te != 0) = false := h2
      exact absurd (h1'.symm.trans h2) (by simp)
end Go.Proofs.YtcajnlkkjdhjdaaGreat

namespace Go.Proofs.YtcajnlkkjdhjdaaGreat
open Go Go.AM
attribute [local irreducible] Sat SatH LoopP
set_option maxRecDepth 100000
set_option maxHeartbeats 1000000

theorem sumN_app (a b : List Chg) : sumN (a ++ b) = sumN a + sumN b := by
  induction a with
  | nil => simp [sumN]
  | cons c l ih => simp only [List.cons_append, sumN, ih]; omega
theorem sumN_perm {a b : List Chg} (h : a.Perm b) : sumN a = sumN b := by
  induction h with
  | nil => rfl
  | cons x _ ih => simp only [sumN, ih]
  | swap x y l => simp only [sumN]; omega
  | trans _ _ ih1 ih2 => exact ih1.trans ih2
theorem sumN_addC {out : List Chg} {a : Chg} {B K : Int} (hs : B + K ≤ 4000000000000000000) (h1 : ∀ c ∈ out, -B ≤ c.n ∧ c.n ≤ B) (h2 : -K ≤ a.n ∧ a.n ≤ K) : sumN (addC out a) = sumN out + a.n := by
  unfold addC
  split
  · rename_i y hy
    have hyo := h1 y (List.mem_of_getLast? hy)
    have ho := snoc_last hy
    cases hb : (ordR y.row a.row == 0)
    · rw [cond_false, sumN_app]; simp [sumN]
    · rw [cond_true]
      have e1 : sumN out = sumN out.dropLast + sumN [y] := by rw [← sumN_app, ← ho]
      rw [sumN_app, e1]
      simp only [sumN]
      rw [wrapI (by omega) (by omega)]
      omega
  · rename_i hn
    have : out = [] := by cases out with | nil => rfl | cons x l => simp at hn
    rw [this]; simp [sumN]
theorem sumN_foldl {K : Int} (hK : 0 ≤ K) : ∀ (l out : List Chg) (B : Int), 0 ≤ B → B + l.length * K ≤ 4000000000000000000 → (∀ c ∈ out, -B ≤ c.n ∧ c.n ≤ B) → (∀ c ∈ l, -K ≤ c.n ∧ c.n ≤ K) → sumN (l.foldl addC out) = sumN out + sumN l
  | [], out, B, _, _, _, _ => by simp [sumN]
  | a :: l, out, B, hB, hs, h1, h2 => by
    have e : ((a :: l).length : Int) * K = (l.length : Int) * K + K := by rw [List.length_cons, Int.natCast_add, Int.add_mul]; simp
    have hn : 0 ≤ (l.length : Int) * K := Int.mul_nonneg (by omega) hK
    rw [e] at hs
    have ha := h2 a (List.mem_cons_self ..)
    rw [List.foldl_cons, sumN_foldl hK l (addC out a) (B + K) (by omega) (by omega) (addC_bnd hB hK (by omega) h1 ha) (fun x hx => h2 x (List.mem_cons_of_mem _ hx)), sumN_addC (B := B) (K := K) (by omega) h1 ha]
    simp only [sumN]; omega
theorem sumN_filter (l : List Chg) : sumN (l.filter fun x => !(x.n == 0)) = sumN l := by
  induction l with
  | nil => rfl
  | cons c l ih =>
    by_cases e : c.n = 0
    · simp [e, sumN, ih]
    · simp [e, sumN, ih]
theorem sumN_cnt (ys : List (List Val)) : sumN (ys.map (cntC 1)) = ys.length := by
  induction ys with
  | nil => rfl
  | cons y l ih => simp only [List.map_cons, sumN, ih, cntC, List.length_cons]; omega
theorem total_none : ∀ (z : List Chg) (t : Int), (∃ c ∈ z, c.n < 0) → total t z = none
  | [], _, h => by obtain ⟨c, hc, _⟩ := h; cases hc
  | a :: r, t, h => by
    simp only [total]
    by_cases ha : a.n < 0
    · rw [decide_eq_true ha, cond_true]
    · rw [decide_eq_false ha, cond_false]
      refine total_none r _ ?_
      obtain ⟨c, hc, hn⟩ := h
      rcases List.mem_cons.1 hc with rfl | hc
      · exact absurd hn ha
      · exact ⟨c, hc, hn⟩
theorem sumN_nonneg : ∀ (z : List Chg), (∀ c ∈ z, 0 ≤ c.n) → 0 ≤ sumN z
  | [], _ => Int.le_refl _
  | a :: r, h => by
    have := sumN_nonneg r fun c hc => h c (List.mem_cons_of_mem _ hc)
    have := h a (List.mem_cons_self ..)
    simp only [sumN]; omega
theorem total_val : ∀ (z : List Chg) (t : Int), 0 ≤ t → t ≤ 40000 → (∀ c ∈ z, 0 ≤ c.n ∧ c.n ≤ 4000000000000000000) → total t z = some (min 40000 (t + sumN z))
  | [], t, h0, h1, _ => by
    simp only [total, sumN]
    congr 1
    omega
  | a :: r, t, h0, h1, h2 => by
    have ha := h2 a (List.mem_cons_self ..)
    have hr := fun c hc => h2 c (List.mem_cons_of_mem _ hc)
    have hs := sumN_nonneg r fun c hc => (hr c hc).1
    simp only [total, sumN]
    rw [decide_eq_false (by omega), cond_false, wrapI (by omega) (by omega)]
    have hm : mmI false (t + a.n) 40000 = min 40000 (t + a.n) := by
      show (if 40000 < t + a.n then 40000 else t + a.n) = _
      split <;> omega
    rw [hm, total_val r _ (by omega) (by omega) hr]
    congr 1
    omega
theorem wt_ne : ∀ {l : List Chg} {r : List Val}, wt l r ≠ 0 → ∃ c ∈ l, ordR c.row r = 0
  | [], r, h => absurd rfl h
  | c :: l, r, h => by
    by_cases e : ordR c.row r = 0
    · exact ⟨c, List.mem_cons_self .., e⟩
    · simp only [wt] at h
      rw [show (ordR c.row r == 0) = false by simpa using e, cond_false, Int.zero_add] at h
      obtain ⟨d, hd, hd2⟩ := wt_ne h
      exact ⟨d, List.mem_cons_of_mem _ hd, hd2⟩
theorem applies_law {t : Tbl} {cs : List Chg} (hl : cs.length ≤ 50000) {r1 r2 : Res} (h1 : applyQ t cs r1) (h2 : refApp t cs r2) : (∃ e : Int, r1 = aErr e ∧ r2 = aErr e) ∨ ∃ u, r1 = aOk u ∧ r2 = aOk u := by
  unfold applyQ at h1
  unfold refApp at h2
  cases ht : (tblErr t != 0)
  · rw [ht, cond_false] at h1 h2
    cases hc : (chsErr t.cols none cs != 0)
    · rw [hc, cond_false] at h1 h2
      have ht0 : tblErr t = 0 := by simpa using ht
      have hc0 : chsErr t.cols none cs = 0 := by simpa using hc
      obtain ⟨t1, t2, t3, t4⟩ := (tblErr_law t).1 ht0
      have hb := chsErr_bnd t.cols cs none hc0
      obtain ⟨c1, c2, _⟩ := chsErr_law t.cols cs none hc0
      obtain ⟨u, z, hu, hz, h1⟩ := h1
      obtain ⟨u1, u2⟩ := cntQ_law (by omega) (by omega) hu
      have hbb : ∀ c ∈ u ++ cs, -50000 ≤ c.n ∧ c.n ≤ 50000 := fun c h => by
        rcases List.mem_append.1 h with h | h
        · exact (u2 c h).2
        · have := hb c h; omega
      have hcan : ∀ c ∈ u ++ cs, canR c.row := fun c h => by
        rcases List.mem_append.1 h with h | h
        · exact (valuesErr_can (t4 _ (u2 c h).1)).2
        · exact (valuesErr_can (c2 c h).2).2
      have hll : (((u ++ cs).length : Int)) ≤ 100000 := by rw [List.length_append]; omega
      obtain ⟨z1, z2, z3⟩ := sumQ_law (K := 50000) (by omega) (by omega) hbb hcan hz
      have hw : ∀ r, wt z r = cnt t.rows r + wt cs r := fun r => by rw [z3, cntQ_wt (by omega) (by omega) hu]; omega
      have hzs : sumN z = t.rows.length + sumN cs := by
        obtain ⟨ys, hp, rfl⟩ := hu
        obtain ⟨l, lp, _, rfl⟩ := hz
        have hyl : ys.length = t.rows.length := hp.1.length_eq
        have hll2 : (l.length : Int) ≤ 100000 := by rw [lp.length_eq]; exact hll
        show sumN ((grp l).filter fun x => !(x.n == 0)) = _
        rw [sumN_filter, grp, sumN_foldl (K := 50000) (by omega) l [] 0 (Int.le_refl _) (by omega) (fun c hc => by cases hc) (fun c hc => hbb c (lp.mem_iff.1 hc)), sumN_perm lp, sumN_app]
        rw [grp, sumN_foldl (K := 1) (by omega) _ [] 0 (Int.le_refl _) (by rw [List.length_map]; omega) (fun c hc => by cases hc) (fun c hc => by
          obtain ⟨y, _, rfl⟩ := List.mem_map.1 hc
          show -1 ≤ (1 : Int) ∧ (1 : Int) ≤ 1
          omega), sumN_cnt]
        simp only [sumN]
        omega
      have hzb : ∀ c ∈ z, c.n ≤ 4000000000000000000 := by
        intro c h
        obtain ⟨l, lp, _, rfl⟩ := hz
        have hl2 : (l.length : Int) ≤ 100000 := by rw [lp.length_eq]; exact hll
        have := grp_bnd (K := 50000) (by omega) l [] 0 (Int.le_refl _) (by omega) (fun c hc => by cases hc) (fun c hc => hbb c (lp.mem_iff.1 hc)) c (List.mem_filter.1 h).1
        omega
      cases hn : anyNeg t.rows cs
      · rw [hn, cond_false] at h2
        have hpos : ∀ c ∈ z, 0 ≤ c.n := by
          intro c hcz
          rcases Int.lt_or_le c.n 0 with hlt | hge
          · have e := wt_mem z1 c hcz
            rw [hw] at e
            have := (cnt_bnd t.rows c.row).1
            obtain ⟨d, hd, hd2⟩ := wt_ne (l := cs) (r := c.row) (by omega)
            have hdr : d.row = c.row := ordR_zero (valuesErr_can (c2 d hd).2).2 (z2 c hcz).2.1 hd2
            have e2 := wt_mem c1 d hd
            unfold anyNeg at hn
            rw [List.any_eq_false] at hn
            have := hn d hd
            simp only [decide_eq_true_eq] at this
            rw [hdr] at this e2
            omega
          · exact hge
        rw [total_val z 0 (Int.le_refl _) (by omega) (fun c h => ⟨hpos c h, hzb c h⟩), hzs] at h1
        simp only [Int.zero_add] at h1
        cases hs : decide ((t.rows.length : Int) + sumN cs > 20000)
        · have hs' := of_decide_eq_false hs
          rw [hs, cond_false] at h2
          rw [decide_eq_false (by omega), cond_false] at h1
          obtain ⟨ys, y1, y2, y3, rfl⟩ := h2
          have hys : spread z = ys := by
            refine nodown_unique (spread_nodown z1) y1 (perm_of_cnt ?_ ?_ fun r => by rw [cnt_spread z hpos, hw, y2]) ?_
            · intro r hr
              obtain ⟨c, hc, rfl⟩ := mem_spread hr
              exact (z2 c hc).2.1
            · intro r hr
              rcases y3 r hr with h | ⟨c, hc, rfl⟩
              · exact (valuesErr_can (t4 r h)).2
              · exact (valuesErr_can (c2 c hc).2).2
            · intro r hr
              obtain ⟨c, hc, rfl⟩ := mem_spread hr
              exact (z2 c hc).2.1
          refine .inr ⟨⟨t.cols, ys⟩, ?_, rfl⟩
          rw [← hys]
          rcases h1 with h1 | ⟨rfl, h1⟩
          · exact h1
          · rw [h1]; rfl
        · have hs' := of_decide_eq_true hs
          rw [hs, cond_true] at h2
          rw [decide_eq_true (by omega), cond_true] at h1
          exact .inl ⟨7, h1, h2⟩
      · rw [hn, cond_true] at h2
        unfold anyNeg at hn
        rw [List.any_eq_true] at hn
        obtain ⟨d, hd, hdn⟩ := hn
        have hdn := of_decide_eq_true hdn
        have e := hw d.row
        rw [wt_mem c1 d hd] at e
        obtain ⟨c, hcz, hc2⟩ := wt_ne (l := z) (r := d.row) (by omega)
        have hdr : c.row = d.row := ordR_zero (z2 c hcz).2.1 (valuesErr_can (c2 d hd).2).2 hc2
        have e2 := wt_mem z1 c hcz
        rw [hdr] at e2
        rw [total_none z 0 ⟨c, hcz, by omega⟩] at h1
        exact .inl ⟨5, h1, h2⟩
    · rw [hc, cond_true] at h1 h2
      exact .inl ⟨_, h1, h2⟩
  · rw [ht, cond_true] at h1 h2
    exact .inl ⟨_, h1, h2⟩

def apX (e : Int) (u : Tbl) : Res := ⟨.tup [u.w, .c (int e)], []⟩
theorem applyQ_shape {t : Tbl} {cs : List Chg} {r : Res} (h : applyQ t cs r) : ∃ e u, r = apX e u := by
  rcases applyQ_cases h with ⟨e, _, rfl⟩ | ⟨_, z, _, _, _, _, _, _, _, rfl⟩
  · exact ⟨e, ⟨[], []⟩, rfl⟩
  · exact ⟨0, ⟨t.cols, spread z⟩, rfl⟩
theorem sat_applies (t : Tbl) (cs : List Chg) : Sat Pg k_law45_DeltaApplies [t.w, chgC cs] (fun r => r = rB true) := by
  have hf := sat_FewTable t
  have hc := sat_FewChanges cs
  have hft := @fewTbl_len t
  have hfc := @fewChgs_len cs
  generalize fewTbl t = b1 at *
  generalize fewChgs cs = b2 at *
  cases b1 with
  | false =>
    obtain ⟨cols, rows⟩ := t
    refine Sat_of T6 c_law45_DeltaApplies_ok (by kernel_rfl) ?_
    conv => whnf
    refine Sat.mono (sat_awake) ?_
    rintro _ rfl
    conv => whnf
    refine Sat.mono (hf) ?_
    rintro _ rfl
    conv => whnf
    refine Sat.mono (sat_awake) ?_
    rintro _ rfl
    conv => whnf
    rfl
  | true =>
    cases b2 with
    | false =>
      obtain ⟨cols, rows⟩ := t
      refine Sat_of T6 c_law45_DeltaApplies_ok (by kernel_rfl) ?_
      conv => whnf
      refine Sat.mono (sat_awake) ?_
      rintro _ rfl
      conv => whnf
      refine Sat.mono (hf) ?_
      rintro _ rfl
      conv => whnf
      refine Sat.mono (hc) ?_
      rintro _ rfl
      conv => whnf
      refine Sat.mono (sat_awake) ?_
      rintro _ rfl
      conv => whnf
      rfl
    | true =>
      have k1 := hft rfl
      have k2 := hfc rfl
      have hA := sat_Apply t cs (by omega) (by omega) (by omega)
      have hB := sat_ref45_Apply t cs (by omega) (by omega)
      have hlaw := @applies_law t cs (by omega)
      have hsh := @applyQ_shape t cs
      obtain ⟨cols, rows⟩ := t
      refine Sat_of T6 c_law45_DeltaApplies_ok (by kernel_rfl) ?_
      conv => whnf
      refine Sat.mono (sat_awake) ?_
      rintro _ rfl
      conv => whnf
      refine Sat.mono (hf) ?_
      rintro _ rfl
      conv => whnf
      refine Sat.mono (hc) ?_
      rintro _ rfl
      conv => whnf
      refine Sat.mono hA ?_
      intro r1 h1
      obtain ⟨e, u, hr⟩ := hsh h1
      subst hr
      have hS := sat_ref34_Same u u
      rw [sameT_refl] at hS
      have heq : ∀ r2, refApp ⟨cols, rows⟩ cs r2 → r2 = apX e u := fun r2 h2 => by
        rcases hlaw h1 h2 with ⟨e', g1, g2⟩ | ⟨u', g1, g2⟩
        · exact g2.trans g1.symm
        · exact g2.trans g1.symm
      have hB2 := hB.mono heq
      clear hB heq hlaw h1 hsh hA
      obtain ⟨ucols, urows⟩ := u
      conv => whnf
      refine Sat.mono (hB2) ?_
      rintro _ rfl
      conv => whnf
      refine cond_i (fun h => ?_) (fun h => ?_)
      · conv => whnf
        refine Sat.mono (hS) ?_
        rintro _ rfl
        conv => whnf
        rfl
      · have h : (e == e) = false := h
        simp at h
end Go.Proofs.YtcajnlkkjdhjdaaGreat
