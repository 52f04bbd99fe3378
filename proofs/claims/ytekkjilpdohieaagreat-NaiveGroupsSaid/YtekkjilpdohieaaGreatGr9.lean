/- Merged from the texts: Da5 Da6 AmN4 Da7 Da8 Dy1 Dy2 Dy3 Dy4 Dy5 Dy6 Dy7 Dy8 Dy9 AmB1 AmB2 AmB3 AmB4 AmB5 AmC1 Dac De1 Dyx Na1 Na2 Na3 Na4 Na5 Na6 Na7 Na8 AmM9 Na9 Nb1 -/
import Derived.ProofKit
import Derived.ChangeArms
import Derived.DataReads
import Derived.Carry
import Derived.Below
import Derived.ChangeSame
import Derived.WalkKit
import Derived.OpenShut
import Derived.JoinedOf
import Derived.Test.YtekkjilpdohieaaGreatGr8
set_option linter.unusedSimpArgs false
set_option linter.unusedVariables false
namespace Go.Proofs.YtekkjilpdohieaaGreat
open Go Go.AM
attribute [local irreducible] Sat LoopP
set_option maxRecDepth 100000

def eqV (a b : Val) : Bool := (a.k == b.k) && ((a.n == b.n) && (beqS a.s b.s && true))
def allEq {α : Type} (e : α → α → Bool) : List α → List α → Bool
  | [], [] => true
  | x :: xs, y :: ys => bif !e x y then false else allEq e xs ys
  | _, _ => false
def sameRow (a b : List Val) : Bool := bif ((a.length : Int)) != b.length then false else allEq eqV a b
theorem allEq_end {α : Type} (e : α → α → Bool) {a b : List α} {i : Nat} (h : a.length ≤ i) (hl : a.length = b.length) : allEq e (a.drop i) (b.drop i) = true := by
  rw [List.drop_eq_nil_of_le h, List.drop_eq_nil_of_le (by omega)]; rfl
theorem lens {α β : Type} {a : List α} {b : List β} (h : (((a.length : Int)) != (b.length : Int)) = false) : a.length = b.length := by simp only [bne_eq_false_iff_eq] at h; omega

theorem sat_ref33_Same (a b : List Val) : Sat Pg k_ref33_Same [rowC a, rowC b] (fun r => r = rB (sameRow a b)) := by
  refine sat_len 0 (by kernel_rfl) rfl fun hlen => ?_
  rw [rowD_len] at hlen
  unfold sameRow
  refine Sat_of T3 c_ref33_Same_ok (by kernel_rfl) ?_
  conv => whnf
  rw [rowD_len, rowD_len]
  refine cond_i (fun h => ?_) (fun h => ?_)
  · rw [h]; rfl
  · rw [h]
    have hl := lens h
    simp only [cond_false]
    conv => whnf
    refine loopI (P := Pg) (f := T3.f) (body := c_ref33_Same_L0) a.length (fun i => ⟨[(0, .w (rowC a)), (1, .w (rowC b)), (5, intV i)], []⟩) (fun i => allEq eqV a b = allEq eqV (a.drop i) (b.drop i)) ⟨rfl, normW_of ?_⟩ ?_
    · conv => whnf
      rfl
    · intro i hi hR
      conv => whnf
      refine cond_i (fun h1 => ?_) (fun h1 => ?_)
      · have hlt : i < a.length := by have := of_decide_eq_true h1; rw [rowD_len] at this; omega
        have hlb : i < b.length := by omega
        rw [drop_cons hlt, drop_cons hlb] at hR
        conv => whnf
        refine ⟨by omega, _, rowD_get hlt, rfl, ?_⟩
        conv => whnf
        refine ⟨by omega, _, rowD_get hlb, rfl, ?_⟩
        conv => whnf
        refine cond_i (fun h2 => ?_) (fun h2 => ?_)
        · have h2 : (!eqV a[i] b[i]) = true := h2
          simp only [allEq, h2, cond_true] at hR
          conv => whnf
          exact congrArg rB hR.symm
        · have h2 : (!eqV a[i] b[i]) = false := h2
          simp only [allEq, h2, cond_false] at hR
          conv => whnf
          refine ⟨hlt, hR, normW_of ?_⟩
          conv => whnf
          rw [wrapS hlt hlen]
          rfl
      · have hge : a.length ≤ i := by have := of_decide_eq_false h1; rw [rowD_len] at this; omega
        rw [allEq_end _ hge hl] at hR
        conv => whnf
        exact congrArg rB hR.symm

def eqC (a b : Col) : Bool := beqS a.name b.name && ((a.t == b.t) && true)
def sameCols (a b : List Col) : Bool := bif ((a.length : Int)) != b.length then false else allEq eqC a b
structure Chg where
  row : List Val
  n : Int
def Chg.ds (c : Chg) : List D := [.sl (rowD c.row), .lit (.int .i64 c.n)]
def Chg.w (c : Chg) : W := .agg [.d (.sl (rowD c.row)), int c.n]
def chgD (r : List Chg) : List (List D) := r.map Chg.ds
def chgC (r : List Chg) : W := .c (.d (.sl (chgD r)))
theorem chgD_len (r : List Chg) : (chgD r).length = r.length := by simp [chgD]
theorem chgD_get {r : List Chg} {i : Nat} (h : i < r.length) : (chgD r)[((i : Int)).toNat]? = some (r[i]).ds := by simp [chgD, List.getElem?_eq_getElem h]

def eqG (a b : Chg) : Bool := !((a.n != b.n) || !sameRow a.row b.row)
def sameChg (a b : List Chg) : Bool := bif ((a.length : Int)) != b.length then false else allEq eqG a b
/-- All are fine, each looked at in turn. -/
def allB {α : Type} (p : α → Bool) : List α → Bool
  | [] => true
  | x :: r => bif p x then allB p r else false
def fewCols (l : List Col) : Bool := bif decide ((l.length : Int) ≤ 40) then allB (fun c => !decide ((c.name.size : Int) > 300)) l else false
end Go.Proofs.YtekkjilpdohieaaGreat

namespace Go.Proofs.YtekkjilpdohieaaGreat
open Go Go.AM
attribute [local irreducible] Sat LoopP
set_option maxRecDepth 100000

theorem sat_FewCols (l : List Col) : Sat Pg k_ref39_FewCols [.c (.d (.sl (colD l)))] (fun r => r = rB (fewCols l)) := by
  refine sat_len 0 (by kernel_rfl) rfl fun hlen => ?_
  rw [colD_len] at hlen
  refine Sat_of T3 c_ref39_FewCols_ok (by kernel_rfl) ?_
  conv => whnf
  refine loopI (P := Pg) (f := T3.f) (body := c_ref39_FewCols_L0) l.length (fun i => ⟨[(0, .w (.c (.d (.sl (colD l))))), (3, intV i)], []⟩)
    (fun i => i ≤ 41 ∧ (l.length ≤ 40 → allB (fun c => !decide ((c.name.size : Int) > 300)) l = allB (fun c => !decide ((c.name.size : Int) > 300)) (l.drop i))) ⟨⟨by omega, fun _ => rfl⟩, normW_of ?_⟩ ?_
  · conv => whnf
    rfl
  · intro i hi hR
    obtain ⟨h41, hR⟩ := hR
    conv => whnf
    refine cond_i (fun h1 => ?_) (fun h1 => ?_)
    · have h1 : (decide ((i : Int) < ((colD l).length : Int)) && decide ((i : Int) ≤ 40)) = true := h1
      simp only [Bool.and_eq_true, decide_eq_true_eq, colD_len] at h1
      have hlt : i < l.length := by omega
      conv => whnf
      refine ⟨by omega, _, colD_get hlt, rfl, ?_⟩
      conv => whnf
      refine cond_i (fun h2 => ?_) (fun h2 => ?_)
      · have h2 : decide (((l[i].name.size : Nat) : Int) > 300) = true := h2
        conv => whnf
        refine congrArg rB ?_
        unfold fewCols
        by_cases h40 : l.length ≤ 40
        · have := hR h40
          rw [drop_cons hlt] at this
          simp only [allB, h2, Bool.not_true, cond_false] at this
          rw [this]
          cases decide ((l.length : Int) ≤ 40) <;> rfl
        · rw [decide_eq_false (by omega)]; rfl
      · have h2 : decide (((l[i].name.size : Nat) : Int) > 300) = false := h2
        conv => whnf
        refine ⟨hlt, ⟨by omega, fun h40 => ?_⟩, normW_of ?_⟩
        · have := hR h40
          rw [drop_cons hlt] at this
          simpa only [allB, h2, Bool.not_false, cond_true] using this
        · conv => whnf
          rw [wrapS hlt hlen]
          rfl
    · have h1 : (decide ((i : Int) < ((colD l).length : Int)) && decide ((i : Int) ≤ 40)) = false := h1
      simp only [Bool.and_eq_false_iff, decide_eq_false_iff_not, colD_len] at h1
      conv => whnf
      rw [colD_len]
      refine congrArg rB ?_
      unfold fewCols
      by_cases h40 : l.length ≤ 40
      · have := hR h40
        rw [List.drop_eq_nil_of_le (by omega)] at this
        rw [this]
        cases decide ((l.length : Int) ≤ 40) <;> rfl
      · rw [decide_eq_false (by omega)]; rfl

def fewRow (r : List Val) : Bool := bif decide ((r.length : Int) > 40) then false else allB (fun v => !decide ((v.s.size : Int) > 300)) r
def fewTbl (t : Tbl) : Bool := bif !fewCols t.cols || decide ((t.rows.length : Int) > 40) then false else allB fewRow t.rows

theorem sat_FewTable (t : Tbl) : Sat Pg k_ref39_FewTable [t.w] (fun r => r = rB (fewTbl t)) := by
  obtain ⟨cols, rows⟩ := t
  unfold fewTbl
  refine Sat_of T3 c_ref39_FewTable_ok (by kernel_rfl) ?_
  conv => whnf
  refine Sat.mono (sat_FewCols cols) ?_
  rintro _ rfl
  conv => whnf
  rw [rowsD_len]
  refine cond_i (fun h => ?_) (fun h => ?_)
  · rw [h]; rfl
  · rw [h]
    simp only [Bool.or_eq_false_iff, decide_eq_false_iff_not] at h
    simp only [cond_false]
    conv => whnf
    refine loopI (P := Pg) (f := T3.f) (body := c_ref39_FewTable_L1) rows.length (fun i => ⟨[(1, cV (.ptr 1 0)), (3, intV i)], [(1, .box [.d (.sl (colD cols)), .d (.sl (rowsD rows))])]⟩) (fun i => allB fewRow rows = allB fewRow (rows.drop i)) ⟨rfl, normW_of ?_⟩ ?_
    · conv => whnf
      rfl
    · intro i hi hR
      conv => whnf
      rw [rowsD_len]
      refine cond_i (fun h1 => ?_) (fun h1 => ?_)
      · have hlt : i < rows.length := by have := of_decide_eq_true h1; omega
        rw [drop_cons hlt] at hR
        simp only [allB] at hR
        conv => whnf
        refine ⟨by omega, _, rowsD_get hlt, rfl, ?_⟩
        conv => whnf
        rw [rowD_len]
        refine cond_i (fun h2 => ?_) (fun h2 => ?_)
        · have : fewRow rows[i] = false := by unfold fewRow; rw [h2]; rfl
          rw [this] at hR
          conv => whnf
          exact congrArg rB hR.symm
        · have hf : fewRow rows[i] = allB (fun v => !decide ((v.s.size : Int) > 300)) rows[i] := by unfold fewRow; rw [h2]; rfl
          rw [hf] at hR
          have h2 := of_decide_eq_false h2
          conv => whnf
          refine loopI (P := Pg) (f := T3.f) (body := c_ref39_FewTable_L0) rows[i].length (fun j => ⟨[(1, cV (.ptr 1 0)), (3, intV i), (4, intV j)], [(1, .box [.d (.sl (colD cols)), .d (.sl (rowsD rows))])]⟩) (fun j => allB (fun v => !decide ((v.s.size : Int) > 300)) rows[i] = allB (fun v => !decide ((v.s.size : Int) > 300)) (rows[i].drop j)) ⟨rfl, normW_of ?_⟩ ?_
          · conv => whnf
            rfl
          · intro j hj hV
            conv => whnf
            refine ⟨by omega, _, rowsD_get hlt, rfl, ?_⟩
            conv => whnf
            rw [rowD_len]
            refine cond_i (fun h3 => ?_) (fun h3 => ?_)
            · have hlj : j < rows[i].length := by have := of_decide_eq_true h3; omega
              rw [drop_cons hlj] at hV
              conv => whnf
              refine ⟨by omega, _, rowsD_get hlt, rfl, ?_⟩
              conv => whnf
              refine ⟨by omega, _, rowD_get hlj, rfl, ?_⟩
              conv => whnf
              refine cond_i (fun h4 => ?_) (fun h4 => ?_)
              · have h4 : decide (((rows[i][j].s.size : Nat) : Int) > 300) = true := h4
                simp only [allB, h4, Bool.not_true, cond_false] at hV
                rw [hV] at hR
                conv => whnf
                exact congrArg rB hR.symm
              · have h4 : decide (((rows[i][j].s.size : Nat) : Int) > 300) = false := h4
                simp only [allB, h4, Bool.not_false, cond_true] at hV
                conv => whnf
                refine ⟨hlj, hV, normW_of ?_⟩
                conv => whnf
                rw [wrapS hlj (by omega)]
                rfl
            · have hge : rows[i].length ≤ j := by have := of_decide_eq_false h3; omega
              rw [List.drop_eq_nil_of_le hge] at hV
              rw [hV] at hR
              conv => whnf
              refine ⟨hlt, hR, normW_of ?_⟩
              conv => whnf
              rw [wrapS hlt (by omega)]
              rfl
      · have hge : rows.length ≤ i := by have := of_decide_eq_false h1; omega
        rw [List.drop_eq_nil_of_le hge] at hR
        conv => whnf
        exact congrArg rB hR.symm

def fewChg (c : Chg) : Bool := !((decide (c.n > 100) && decide (c.n ≤ 20000)) || !fewTbl ⟨[], [c.row]⟩)
def fewChgs (l : List Chg) : Bool := bif decide ((l.length : Int) > 30) then false else allB fewChg l

def DQ (X : Res) (r : Res) : Prop := r.v.plain = true ∧ r.asData = X
theorem sat_dq {P : Program} {k : Nat} {args : List W} {X : Res} (h : Sat P k args (DQ X)) : Sat P k args (fun r => r = X) := h.data fun _ h => h
def rC (x : C) : Res := ⟨.w (.c x), []⟩

theorem sat_Clone_Column (l : List Col) (hl : l.length ≤ 1000000) : Sat Pg k_slices_Clone_Column [.c (.d (.sl (colD l)))] (fun r => r = rC (.d (.sl (colD l)))) := by
  refine sat_dq (Sat_of T3 c_slices_Clone_Column_ok (by kernel_rfl) ?_)
  conv => whnf
  refine ⟨fun h => ?_, ?_⟩
  · conv => whnf
    refine ⟨rfl, ?_⟩
    rw [h]
    rfl
  · conv => whnf
    refine ⟨colD_sz l, by unfold fits; rw [colD_len]; simp; omega, by rw [colD_len]; simp; omega, ?_⟩
    conv => whnf
    refine ⟨rfl, ?_⟩
    refine Eq.trans (b := rC (.d (.sl (([] ++ colD l).take (0 + (colD l).length))))) rfl ?_
    rw [List.nil_append, Nat.zero_add, List.take_length]
end Go.Proofs.YtekkjilpdohieaaGreat

namespace Go.AM

/-- The slot d names the array place p: it is called q from here on. -/
def S.mvOwn (s : S) (d p q sz n : Nat) (els : List (List D)) : S := (s.redo [p, q] [(q, .arr sz els false)]).put (some d) (cV (.own q sz n))

theorem weak_mvOwn {s : S} (d p q sz n : Nat) (els : List (List D)) (hq : q < 100000) (h : aget s.sl d = some (cV (.own p sz n))) (hp : aget s.pl p = some (.arr sz els false)) : Weak s (s.mvOwn d p q sz n els) := by
  intro F N ι a w hr
  have hh : F.h q = none := by
    cases e : F.h q with
    | none => rfl
    | some g => have := hr.hdom q g e; omega
  have hι : ∀ r, isin r [p, q] = false → upd ι q (ι p) r = ι r := fun r hr' => upd_other ι _ (isin_two hr').2
  have hplace := hr.places p _ hp
  have hfr : ∀ r x b, aget [(q, Pl.arr sz els false)] r = some x → (upd ι q (ι p) r).b = some b → b < w.heap.size ∧ (w.heap.size ≤ b ∨ ∃ q' y, isin q' [p, q] = true ∧ aget s.pl q' = some y ∧ y.live = true ∧ (ι q').b = some b) := by
    intro r x b hx hb
    obtain ⟨rfl, rfl⟩ := aget_one hx
    rw [upd_same] at hb
    exact ⟨(hr.mine b ⟨p, _, hp, rfl, hb⟩).2, .inr ⟨p, _, by simp [isin], hp, rfl, hb⟩⟩
  have hrel : Rel F N (upd ι q (ι p)) (s.redo [p, q] [(q, .arr sz els false)]) a w := by
    refine hr.redo [p, q] [(q, .arr sz els false)] _ w hι (fun _ _ _ => rfl) (Shapes.refl w) rfl rfl (Out.refl w) (Nat.le_refl _) ?_ ?_ ?_ (fun r x hx => by obtain ⟨rfl, _⟩ := aget_one hx; exact hh)
    · intro r x hx
      obtain ⟨rfl, rfl⟩ := aget_one hx
      have hk := redo_keeps hr [p, r] [(r, .arr sz els false)] (upd ι r (ι p)) w hι (fun _ _ _ => rfl) (Nat.le_refl _) hfr
      obtain ⟨h0, hn, h⟩ := hplace
      refine ⟨h0, by rw [upd_same]; exact hn, ?_⟩
      rcases h with ⟨g1, g2⟩ | ⟨b, g1, g2, g3, g4⟩
      · exact .inl ⟨by rw [upd_same]; exact g1, g2⟩
      · exact .inr ⟨b, by rw [upd_same]; exact g1, RDs.keep' hk b sz els 0 (fun _ _ _ => rfl) g2, fun hf => (by cases hf), g4⟩
    · exact hfr
    · intro r r' x y b hx hy hrr
      obtain ⟨rfl, rfl⟩ := aget_one hx
      obtain ⟨rfl, rfl⟩ := aget_one hy
      exact absurd rfl hrr
  obtain ⟨x, hx1, hx2⟩ := hr.slots d _ h
  refine ⟨_, { hrel with slots := fun k v hv => ?_ }⟩
  have hv : aget (aput d (cV (.own q sz n)) (s.redo [p, q] [(q, .arr sz els false)]).sl) k = some v := hv
  rw [aget_aput] at hv
  by_cases e : d = k
  · rw [if_pos e] at hv
    cases hv
    subst e
    refine ⟨x, hx1, ?_⟩
    have hx2 : CR ι w (F.ok ι s.pl w) (.own p sz n) x := hx2
    simp only [cV, VR, WR]
    simp only [CR, upd_same]
    exact hx2
  · rw [if_neg e] at hv
    exact hrel.slots k v hv
end Go.AM

namespace Go.Proofs.YtekkjilpdohieaaGreat
open Go Go.AM
attribute [local irreducible] Sat SatH LoopP
set_option maxRecDepth 100000

def zeroG : List D := [.sl [], .lit (.int .i64 0)]
theorem chgD_sz (l : List Chg) : ∀ y ∈ chgD l, y.length = 2 := by
  intro y hy
  simp only [chgD, List.mem_map] at hy
  obtain ⟨x, _, rfl⟩ := hy
  rfl
theorem chgD_app (a b : List Chg) : chgD a ++ chgD b = chgD (a ++ b) := by simp [chgD]

def rOwn (sz : Nat) (l : List (List D)) : Res := ⟨.w (.c (.own 0 sz l.length)), [.arr sz l false]⟩

def ccC (xs ys : List Chg) : W := .c (.d (.sl [[.sl (chgD xs)], [.sl (chgD ys)]]))
def ccS (xs ys : List Chg) (a b : Int) : S := ⟨[(0, .w (ccC xs ys)), (3, intV a), (9, .w (ccC xs ys)), (10, intV 2), (11, intV b)], []⟩
def ccT (xs ys : List Chg) (p n : Nat) (els : List (List D)) (b : Int) : S := ⟨[(6, cV (.own p 2 n)), (25, .w (ccC xs ys)), (26, intV 2), (27, intV b)], [(p, .arr 2 els false)]⟩

def ccF (xs ys : List Chg) (x : Nat × List (List D)) : S := match x.1 with | 0 => ccT xs ys 33 0 x.2 0 | 1 => ccT xs ys 33 xs.length x.2 1 | _ => ccT xs ys 33 (xs ++ ys).length x.2 2
end Go.Proofs.YtekkjilpdohieaaGreat

namespace Go.Proofs.YtekkjilpdohieaaGreat
open Go Go.AM
attribute [local irreducible] Sat SatH LoopP
set_option maxRecDepth 100000

theorem findI_spec {α : Type} (p : α → Bool) : ∀ (l : List α) (i : Nat), (findI p i l = -1 ∧ l.filter (fun x => !p x) = l) ∨ ∃ k, k < l.length ∧ findI p i l = ((i + k : Nat) : Int) ∧ (l.take k).filter (fun x => !p x) = l.take k ∧ (l.take (k + 1)).filter (fun x => !p x) = l.take k
  | [], i => .inl ⟨rfl, rfl⟩
  | x :: r, i => by
    cases hx : p x
    · have ih := findI_spec p r (i + 1)
      have e : findI p (i : Int) (x :: r) = findI p ((i + 1 : Nat) : Int) r := by simp only [findI, hx, cond_false]; rfl
      rcases ih with ⟨h1, h2⟩ | ⟨k, h1, h2, h3, h4⟩
      · refine .inl ⟨e.trans h1, ?_⟩
        rw [List.filter_cons, hx]; simp [h2]
      · refine .inr ⟨k + 1, by simp; omega, e.trans (h2.trans (by omega)), ?_, ?_⟩
        · rw [List.take_succ_cons, List.filter_cons, hx]; simp [h3]
        · rw [List.take_succ_cons, List.filter_cons, hx]; simp [h4]
    · refine .inr ⟨0, by simp, by simp only [findI, hx, cond_true]; omega, by simp, by simp [hx]⟩

/-- The state of the loop: i elements are kept of the first j. -/
def delS (g : FuncId) (n : Nat) (x : Nat × Nat × List (List D)) : S := ⟨[(0, cV (.own 100000 2 n)), (1, .w (.c (.d (.fn g [])))), (5, intV x.1), (6, intV x.2.1)], [(100000, .arr 2 x.2.2 false)]⟩
theorem set_take {α : Type} : ∀ {l : List α} {i : Nat} (_ : i < l.length) (x : α), (l.set i x).take (i + 1) = l.take i ++ [x]
  | [], _, h, _ => by cases h
  | y :: r, 0, _, x => by simp
  | y :: r, i + 1, h, x => by simp only [List.set_cons_succ, List.take_succ_cons, List.cons_append]; rw [set_take (by simpa using h) x]
theorem set_drop {α : Type} : ∀ {l : List α} {i j : Nat} (_ : i < j) (x : α), (l.set i x).drop j = l.drop j
  | [], _, _, _, _ => by simp
  | y :: r, 0, j + 1, _, x => by simp
  | y :: r, i + 1, j + 1, h, x => by simp only [List.set_cons_succ, List.drop_succ_cons]; exact set_drop (by omega) x
theorem splice_all {α : Type} {e ds : List α} (h : e.length = ds.length) : splice e 0 ds = ds := by
  simp only [splice, List.take_zero, List.nil_append, Nat.zero_add]
  rw [List.drop_eq_nil_of_le (by omega), List.append_nil]
theorem filter_step {α : Type} (q : α → Bool) {l : List α} {j : Nat} (h : j < l.length) : (l.take (j + 1)).filter q = (l.take j).filter q ++ (bif q l[j] then [l[j]] else []) := by
  rw [List.take_succ_eq_append_getElem h, List.filter_append]
  cases hq : q l[j] <;> simp [hq]

end Go.Proofs.YtekkjilpdohieaaGreat

namespace Go.Proofs.YtekkjilpdohieaaGreat
open Go Go.AM
attribute [local irreducible] Sat SatH LoopP
set_option maxRecDepth 100000

def strsD (l : List ByteArray) : List (List D) := l.map fun b => [D.lit (.string b)]
def strsC (l : List ByteArray) : W := .c (.d (.sl (strsD l)))
theorem strsD_len (l : List ByteArray) : (strsD l).length = l.length := by simp [strsD]
theorem strsD_get {r : List ByteArray} {i : Nat} (h : i < r.length) : (strsD r)[((i : Int)).toNat]? = some [D.lit (.string r[i])] := by simp [strsD, List.getElem?_eq_getElem h]

theorem sat_Index_string (l : List ByteArray) (s : ByteArray) : Sat Pg k_slices_Index_string [strsC l, .c (str s)] (fun r => r = rI (findI (fun x => beqS s x) 0 l)) := by
  refine sat_len 0 (by kernel_rfl) rfl fun hlen => ?_
  rw [strsD_len] at hlen
  refine Sat_of T3 c_slices_Index_string_ok (by kernel_rfl) ?_
  conv => whnf
  refine loopI (P := Pg) (f := T3.f) (body := c_slices_Index_string_L0) l.length (fun i => ⟨[(0, .w (strsC l)), (1, .w (.c (str s))), (7, intV (strsD l).length), (8, intV i)], []⟩)
    (fun i => findI (fun x => beqS s x) 0 l = findI (fun x => beqS s x) i (l.drop i)) ⟨rfl, normW_of ?_⟩ ?_
  · conv => whnf
    rfl
  · intro i hi hR
    conv => whnf
    refine cond_i (fun h1 => ?_) (fun h1 => ?_)
    · have hlt : i < l.length := by have := of_decide_eq_true h1; rw [strsD_len] at this; omega
      rw [drop_cons hlt] at hR
      conv => whnf
      refine ⟨by omega, _, strsD_get hlt, rfl, ?_⟩
      conv => whnf
      refine cond_i (fun h3 => ?_) (fun h3 => ?_)
      · simp only [findI, h3, cond_true] at hR
        conv => whnf
        exact congrArg rI hR.symm
      · simp only [findI, h3, cond_false] at hR
        conv => whnf
        refine ⟨hlt, hR, normW_of ?_⟩
        conv => whnf
        rw [wrapS hlt hlen]
        rfl
    · have hge : l.length ≤ i := by have := of_decide_eq_false h1; rw [strsD_len] at this; omega
      rw [List.drop_eq_nil_of_le hge] at hR
      conv => whnf
      exact congrArg rI hR.symm

def hasB (l : List ByteArray) (s : ByteArray) : Bool := l.any fun x => beqS s x
theorem findI_ge {α : Type} (p : α → Bool) : ∀ (l : List α) (i : Nat), decide (findI p (i : Int) l ≥ 0) = l.any p
  | [], i => by simp only [findI, List.any_nil]; exact decide_eq_false (by omega)
  | x :: r, i => by
    simp only [findI, List.any_cons]
    by_cases h : p x = true
    · simp only [h, cond_true, Bool.true_or]
      exact decide_eq_true (by omega)
    · simp only [Bool.not_eq_true] at h
      simp only [h, cond_false, Bool.false_or]
      exact findI_ge p r (i + 1)
theorem sat_Contains_string (l : List ByteArray) (s : ByteArray) : Sat Pg k_slices_Contains_string [strsC l, .c (str s)] (fun r => r = rB (hasB l s)) := by
  refine Sat_of T3 c_slices_Contains_string_ok (by kernel_rfl) ?_
  conv => whnf
  refine Sat.mono (sat_Index_string l s) ?_
  rintro _ rfl
  conv => whnf
  exact congrArg rB (findI_ge _ l 0)

def idBad (c : Int) : Bool := ((decide (c < 97) || decide (c > 122)) && (decide (c < 48) || decide (c > 57))) && (c != 95)
def idL : List UInt8 → Bool
  | [] => true
  | c :: r => bif idBad c.toNat then false else idL r
def kws : List ByteArray := [⟨#[97, 110, 100]⟩, ⟨#[111, 114]⟩, ⟨#[110, 111, 116]⟩, ⟨#[110, 117, 108, 108]⟩, ⟨#[116, 114, 117, 101]⟩, ⟨#[102, 97, 108, 115, 101]⟩]
def byte0 (s : ByteArray) : Int := (s.data.toList.getD 0 0).toNat
def identB (s : ByteArray) : Bool := bif beqS s ⟨#[]⟩ || decide ((s.size : Int) > 40) || decide (byte0 s < 97) || decide (byte0 s > 122) then false else bif !idL s.data.toList then false else !hasB kws s

theorem size_pos {s : ByteArray} (h : beqS s ⟨#[]⟩ = false) : 0 < s.size := by
  rcases Nat.eq_zero_or_pos s.size with e | e
  · have : s = ⟨#[]⟩ := by
      obtain ⟨d⟩ := s
      have : d = #[] := Array.eq_empty_of_size_eq_zero e
      rw [this]
    rw [this, beqS_self] at h
    cases h
  · exact e
theorem sat_identifier (s : ByteArray) : Sat Pg k_syntax_identifier [.c (str s)] (fun r => r = rB (identB s)) := by
  unfold identB
  refine Sat_of T3 c_syntax_identifier_ok (by kernel_rfl) ?_
  conv => whnf
  have key : (!(beqS s ⟨#[]⟩ || decide ((s.size : Int) > 40))) = true → 0 < s.size := fun h => by
    simp only [Bool.not_eq_true', Bool.or_eq_false_iff] at h
    exact size_pos h.1
  refine ⟨fun h => ⟨⟨by omega, by have := key h; omega⟩, trivial⟩, ?_⟩
  conv => whnf
  refine ⟨fun h => ⟨⟨by omega, by
    have h : (!((beqS s ⟨#[]⟩ || decide ((s.size : Int) > 40)) || decide (byte0 s < 97))) = true := h
    have := key (by rw [Bool.not_eq_true', Bool.or_eq_false_iff] at h; rw [h.1]; rfl)
    omega⟩, trivial⟩, ?_⟩
  conv => whnf
  refine cond_i (fun h => ?_) (fun h => ?_)
  · have h : (beqS s ⟨#[]⟩ || decide ((s.size : Int) > 40) || decide (byte0 s < 97) || decide (byte0 s > 122)) = true := h
    conv => whnf
    rw [h]; rfl
  · have h : (beqS s ⟨#[]⟩ || decide ((s.size : Int) > 40) || decide (byte0 s < 97) || decide (byte0 s > 122)) = false := h
    rw [h]
    simp only [Bool.or_eq_false_iff, decide_eq_false_iff_not] at h
    have hsz : (s.size : Int) ≤ 40 := by omega
    simp only [cond_false]
    conv => whnf
    refine loopI (P := Pg) (f := T3.f) (body := c_syntax_identifier_L0) s.size (fun i => ⟨[(0, .w (.c (str s))), (23, intV s.size), (24, intV i)], []⟩) (fun i => idL s.data.toList = idL (s.data.toList.drop i)) ⟨rfl, normW_of ?_⟩ ?_
    · conv => whnf
      rfl
    · intro i hi hR
      conv => whnf
      refine cond_i (fun h1 => ?_) (fun h1 => ?_)
      · have hlt : i < s.size := by have := of_decide_eq_true h1; omega
        have hlt' : i < s.data.toList.length := by rw [size_list]; exact hlt
        rw [drop_cons hlt'] at hR
        conv => whnf
        refine ⟨⟨by omega, by omega⟩, ?_⟩
        have hb : s.data.toList.getD ((i : Int)).toNat 0 = s.data.toList[i] := by simp [List.getD, List.getElem?_eq_getElem hlt']
        rw [hb]
        generalize s.data.toList[i] = b at hR
        conv => whnf
        refine cond_i (fun h2 => ?_) (fun h2 => ?_)
        · have h2 : idBad b.toNat = true := h2
          simp only [idL, h2, cond_true] at hR
          conv => whnf
          rw [hR]; rfl
        · have h2 : idBad b.toNat = false := h2
          simp only [idL, h2, cond_false] at hR
          conv => whnf
          refine ⟨hlt, hR, normW_of ?_⟩
          conv => whnf
          rw [wrapS hlt (by omega)]
          rfl
      · have hge : s.size ≤ i := by have := of_decide_eq_false h1; omega
        rw [List.drop_eq_nil_of_le (by rw [size_list]; exact hge)] at hR
        conv => whnf
        refine Sat.mono (sat_Contains_string kws s) ?_
        rintro _ rfl
        conv => whnf
        rw [hR]; rfl
end Go.Proofs.YtekkjilpdohieaaGreat

namespace Go.Proofs.YtekkjilpdohieaaGreat
open Go Go.AM
attribute [local irreducible] Sat SatH LoopP
set_option maxRecDepth 100000

def arityI (s : ByteArray) : Int :=
  bif beqS s ⟨#[109, 105, 110]⟩ || (beqS s ⟨#[109, 97, 120]⟩ || (beqS s ⟨#[104, 97, 115]⟩ || beqS s ⟨#[115, 116, 97, 114, 116, 115]⟩)) then 2 else
  bif beqS s ⟨#[97, 98, 115]⟩ || beqS s ⟨#[108, 101, 110]⟩ then 1 else 0
theorem sat_arity (s : ByteArray) : Sat Pg k_syntax_arity [.c (str s)] (fun r => r = rI (arityI s)) := by
  unfold arityI
  refine Sat_of T3 c_syntax_arity_ok (by kernel_rfl) ?_
  repeat' (conv => whnf
           refine cond_i (fun h => ?_) (fun h => ?_))
  all_goals refine congrArg rI ?_
  all_goals first | (simp only [*, cond_true, cond_false]; done) | (simp_all only [Bool.false_eq_true, cond_true, cond_false]; done) | (simp_all; done)

def conBad (c : Int) : Bool := (decide (c < 32) || decide (c > 126)) || (c == 34)
def conL : List UInt8 → Int
  | [] => 0
  | c :: r => bif conBad c.toNat then 10 else conL r
def conErr (v : Val) : Int := bif valErr v.k v != 0 then valErr v.k v else conL v.s.data.toList
theorem bif_ne' {b : Bool} {x y : Int} (hx : x ≠ 0) (h : (bif b then x else y) = 0) : b = false ∧ y = 0 := by
  cases b
  · exact ⟨rfl, h⟩
  · exact absurd h hx
theorem valErr_size {k : Int} {v : Val} (h : (valErr k v != 0) = false) : (v.s.size : Int) ≤ 200 := by
  rw [bne_eq_false_iff_eq] at h
  unfold valErr at h
  obtain ⟨_, h⟩ := bif_ne' (by omega) h
  obtain ⟨_, h⟩ := bif_ne' (by omega) h
  obtain ⟨_, h⟩ := bif_ne' (by omega) h
  obtain ⟨h1, h⟩ := bif_ne' (by omega) h
  obtain ⟨h2, _⟩ := bif_ne' (by omega) h
  by_cases e : v.k = 3
  · rw [show (v.k == 3) = true by simpa using e, Bool.true_and, decide_eq_false_iff_not] at h1
    omega
  · rw [show (v.k != 3) = true by simpa using e, Bool.true_and, Bool.not_eq_false'] at h2
    rw [(AM.beqS_iff _ _).1 h2]
    decide
theorem sat_constant (v : Val) : Sat Pg k_syntax_constant [v.w] (fun r => r = rI (conErr v)) := by
  obtain ⟨k, n, s⟩ := v
  unfold conErr
  refine Sat_of T3 c_syntax_constant_ok (by kernel_rfl) ?_
  conv => whnf
  refine cond_i (fun h => ?_) (fun h => ?_)
  · have h : (valErr k ⟨k, n, s⟩ != 0) = true := h
    conv => whnf
    rw [h]; rfl
  · have h : (valErr k ⟨k, n, s⟩ != 0) = false := h
    have hsz : (s.size : Int) ≤ 200 := valErr_size h
    simp only [h, cond_false]
    conv => whnf
    refine loopI (P := Pg) (f := T3.f) (body := c_syntax_constant_L0) s.size (fun i => ⟨[(1, cV (.ptr 1 0)), (15, intV s.size), (16, intV i)], [(1, .box [int k, int n, str s])]⟩) (fun i => conL s.data.toList = conL (s.data.toList.drop i)) ⟨rfl, normW_of ?_⟩ ?_
    · conv => whnf
      rfl
    · intro i hi hR
      conv => whnf
      refine cond_i (fun h1 => ?_) (fun h1 => ?_)
      · have hlt : i < s.size := by have := of_decide_eq_true h1; omega
        have hlt' : i < s.data.toList.length := by rw [size_list]; exact hlt
        rw [drop_cons hlt'] at hR
        conv => whnf
        refine ⟨⟨by omega, by omega⟩, ?_⟩
        have hb : s.data.toList.getD ((i : Int)).toNat 0 = s.data.toList[i] := by simp [List.getD, List.getElem?_eq_getElem hlt']
        rw [hb]
        generalize s.data.toList[i] = b at hR
        conv => whnf
        refine cond_i (fun h2 => ?_) (fun h2 => ?_)
        · have h2 : conBad b.toNat = true := h2
          simp only [conL, h2, cond_true] at hR
          conv => whnf
          rw [hR]; rfl
        · have h2 : conBad b.toNat = false := h2
          simp only [conL, h2, cond_false] at hR
          conv => whnf
          refine ⟨hlt, hR, normW_of ?_⟩
          conv => whnf
          rw [wrapS hlt (by omega)]
          rfl
      · have hge : s.size ≤ i := by have := of_decide_eq_false h1; omega
        rw [List.drop_eq_nil_of_le (by rw [size_list]; exact hge)] at hR
        conv => whnf
        rw [hR]; rfl

def sizeE (n least : Int) : Int := bif decide (n < least) then 8 else bif decide (n > 16) then 7 else 0
theorem sat_size (n least : Int) : Sat Pg k_syntax_size [.c (int n), .c (int least)] (fun r => r = rI (sizeE n least)) := by
  unfold sizeE
  refine Sat_of T3 c_syntax_size_ok (by kernel_rfl) ?_
  repeat' (conv => whnf
           refine cond_i (fun h => ?_) (fun h => ?_))
  all_goals refine congrArg rI ?_
  all_goals first | (simp only [*, cond_true, cond_false]; done) | (simp_all only [Bool.false_eq_true, cond_true, cond_false]; done) | (simp_all; done)

def T4f (k : FuncId) (l : List W) : Option W :=
  match l with
  | [.c (.d (.lit (.string s)))] => bif Nat.beq k k_syntax_identifier then some (.c (bool (identB s))) else bif Nat.beq k k_syntax_arity then some (.c (int (arityI s))) else T3f k l
  | [.c (.d (.lit (.int .i64 m))), .c (.d (.lit (.int .i64 n)))] => bif Nat.beq k k_syntax_size then some (.c (int (sizeE m n))) else T3f k l
  | [.agg [.d (.lit (.int .i64 k1)), .d (.lit (.int .i64 n)), .d (.lit (.string s))]] => bif Nat.beq k k_syntax_constant then some (.c (int (conErr ⟨k1, n, s⟩))) else none
  | _ => T3f k l
theorem T4ok (k : FuncId) (l : List W) (w : W) (h : T4f k l = some w) : Sat Pg k l (fun r => r = ⟨.w w, []⟩) := by
  unfold T4f at h
  split at h
  · rcases bif_some h with ⟨h1, rfl⟩ | ⟨_, h⟩
    · rw [Nat.eq_of_beq_eq_true h1]; exact sat_identifier _
    · rcases bif_some h with ⟨h1, rfl⟩ | ⟨_, h⟩
      · rw [Nat.eq_of_beq_eq_true h1]; exact sat_arity _
      · exact T3ok k _ w h
  · rcases bif_some h with ⟨h1, rfl⟩ | ⟨_, h⟩
    · rw [Nat.eq_of_beq_eq_true h1]; exact sat_size _ _
    · exact T3ok k _ w h
  · rcases bif_some h with ⟨h1, rfl⟩ | ⟨_, h⟩
    · rw [Nat.eq_of_beq_eq_true h1]; exact sat_constant ⟨_, _, _⟩
    · cases h
  · exact T3ok k l w h
def T4 : Tab Pg := ⟨T4f, T4ok⟩

def nodeTail (op : Int) (nm : ByteArray) (v : Val) (nk kids : Int) (name vv : Bool) : Int :=
  bif (nk != kids) || ((!beqS nm ⟨#[]⟩ && !name) || (!eqV v ⟨0, 0, ⟨#[]⟩⟩ && !vv)) then 1 else
  bif vv then conErr v else bif name && !identB nm then 3 else bif op == 16 && arityI nm == 0 then 5 else bif op == 16 && arityI nm != kids then 1 else 0
def nodeErr (op : Int) (nm : ByteArray) (v : Val) (nk : Int) : Int :=
  bif op == 1 then nodeTail op nm v nk 0 false true else bif op == 2 then nodeTail op nm v nk 0 true false else
  bif op == 3 || op == 4 then nodeTail op nm v nk 1 false false else bif op == 16 then nodeTail op nm v nk nk true false else
  bif decide (op < 5) || decide (op > 15) then 1 else nodeTail op nm v nk 2 false false

inductive Ex where
  | mk (op : Int) (nm : ByteArray) (v : Val) (ks : List Ex)
mutual
def Ex.ds : Ex → List D
  | .mk op nm v ks => [.lit (.int .i64 op), .lit (.string nm), .lit (.int .i64 v.k), .lit (.int .i64 v.n), .lit (.string v.s), .sl (exsD ks)]
def exsD : List Ex → List (List D)
  | [] => []
  | e :: r => e.ds :: exsD r
end
def Ex.cs : Ex → List C
  | .mk op nm v ks => [int op, str nm, int v.k, int v.n, str v.s, .d (.sl (exsD ks))]
def Ex.w (e : Ex) : W := .agg e.cs
def Ex.err1 : Ex → Int
  | .mk op nm v ks => nodeErr op nm v ks.length
theorem exsD_map : ∀ l : List Ex, exsD l = l.map Ex.ds
  | [] => rfl
  | e :: r => by simp only [exsD, List.map_cons, exsD_map r]
theorem exsD_len (l : List Ex) : (exsD l).length = l.length := by simp [exsD_map]
theorem exsD_get {r : List Ex} {i : Nat} (h : i < r.length) : (exsD r)[((i : Int)).toNat]? = some (r[i]).ds := by simp [exsD_map, List.getElem?_eq_getElem h]

theorem sat_node (e : Ex) : Sat Pg k_syntax_node [e.w] (fun r => r = rI e.err1) := by
  obtain ⟨op, nm, ⟨vk, vn, vs⟩, ks⟩ := e
  show Sat Pg k_syntax_node [.agg [int op, str nm, int vk, int vn, str vs, .d (.sl (exsD ks))]] (fun r => r = rI (nodeErr op nm ⟨vk, vn, vs⟩ ks.length))
  rw [← exsD_len]
  refine Sat_of T4 c_syntax_node_ok (by kernel_rfl) ?_
  generalize (exsD ks) = nk
  repeat' (conv => whnf
           refine cond_i (fun h => ?_) (fun h => ?_))
  all_goals refine congrArg rI ?_
  all_goals unfold nodeErr nodeTail eqV
  all_goals generalize ((List.length nk : Nat) : Int) = m at *
  all_goals try simp only [cond_true, cond_false, Bool.true_or, Bool.false_or, Bool.or_true, Bool.or_false, Bool.and_true, Bool.and_false, Bool.true_and, Bool.false_and, Bool.not_true, Bool.not_false, bne_self_eq_false, beq_self_eq_true, Bool.false_eq_true, Bool.true_eq_false, reduceCtorEq] at *
  all_goals first | done | (simp only [*, cond_true, cond_false, Bool.true_or, Bool.false_or, Bool.or_true, Bool.or_false, Bool.and_true, Bool.and_false, Bool.true_and, Bool.false_and, Bool.not_true, Bool.not_false, bne_self_eq_false, beq_self_eq_true, Bool.false_eq_true, Bool.true_eq_false, reduceCtorEq]; done) | (simp_all only [cond_true, cond_false, Bool.true_or, Bool.false_or, Bool.or_true, Bool.or_false, Bool.and_true, Bool.and_false, Bool.true_and, Bool.false_and, Bool.not_true, Bool.not_false, bne_self_eq_false, beq_self_eq_true, Bool.false_eq_true, Bool.true_eq_false, reduceCtorEq]; done) | skip
end Go.Proofs.YtekkjilpdohieaaGreat

namespace Go.Proofs.YtekkjilpdohieaaGreat
open Go Go.AM
attribute [local irreducible] Sat SatH LoopP
set_option maxRecDepth 100000

mutual
def Ex.meas : Ex → Int → Int × Int
  | .mk _ _ _ ks, n => ((measL ks (n + 1) 0).1, (measL ks (n + 1) 0).2 + 1)
def measL : List Ex → Int → Int → Int × Int
  | [], n, d => (n, d)
  | k :: r, n, d => bif decide (n > 200) then (n, d) else measL r (k.meas n).1 (mmI true d (k.meas n).2)
end
def Ex.ks : Ex → List Ex
  | .mk _ _ _ ks => ks
theorem mmI_t (a b : Int) : mmI true a b = max a b := by
  show (if b > a then b else a) = _
  omega
theorem measL_bnd : ∀ (ks : List Ex) (n d : Int), n ≤ 201 → (∀ k ∈ ks, ∀ n : Int, n ≤ 200 → n + 1 ≤ (k.meas n).1 ∧ (k.meas n).1 ≤ 201 ∧ 1 ≤ (k.meas n).2 ∧ (k.meas n).2 ≤ (k.meas n).1 - n) →
    n ≤ (measL ks n d).1 ∧ (measL ks n d).1 ≤ 201 ∧ d ≤ (measL ks n d).2 ∧ (measL ks n d).2 ≤ max d ((measL ks n d).1 - n)
  | [], n, d, hn, _ => by simp only [measL]; omega
  | k :: r, n, d, hn, h => by
    simp only [measL]
    by_cases e : n > 200
    · rw [decide_eq_true e, cond_true]; simp only; omega
    · rw [decide_eq_false e, cond_false]
      have h1 := h k (List.mem_cons_self ..) n (by omega)
      have h2 := measL_bnd r (k.meas n).1 (mmI true d (k.meas n).2) h1.2.1 (fun x hx => h x (List.mem_cons_of_mem _ hx))
      rw [mmI_t] at h2 ⊢
      omega
theorem meas_bnd : ∀ (e : Ex) (n : Int), n ≤ 200 → n + 1 ≤ (e.meas n).1 ∧ (e.meas n).1 ≤ 201 ∧ 1 ≤ (e.meas n).2 ∧ (e.meas n).2 ≤ (e.meas n).1 - n
  | .mk op nm v ks, n, hn => by
    have h := measL_bnd ks (n + 1) 0 (by omega) (fun k hk n hn => meas_bnd k n hn)
    simp only [Ex.meas]
    omega
theorem exs_step {ks : List Ex} {i : Nat} (h : i < ks.length) (n d : Int) : measL (ks.drop i) n d = bif decide (n > 200) then (n, d) else measL (ks.drop (i + 1)) (ks[i].meas n).1 (mmI true d (ks[i].meas n).2) := by
  rw [drop_cons h]; rfl

def measS (ks : List Ex) (i : Nat) (n d : Int) : S := ⟨[(1, intV n), (6, intV d), (13, .w (.c (.d (.sl (exsD ks))))), (14, intV (exsD ks).length), (15, intV i)], []⟩
def rMeas (x : Int × Int) : Res := ⟨.tup [.c (int x.1), .c (int x.2)], []⟩
theorem exs_bnd {op : Int} {nm : ByteArray} {v : Val} {ks : List Ex} (h : bndW (Ex.mk op nm v ks).w) : ks.length ≤ 9223372036854775807 := by
  have := h (.d (.sl (exsD ks))) (by simp [Ex.cs])
  simp only [bndC, bnd] at this
  rw [← exsD_len]; exact this.1
theorem sat_measure (e : Ex) (n : Int) (h0 : 0 ≤ n) (hn : n ≤ 200) : Sat Pg k_syntax_measure [e.w, .c (int n)] (fun r => r = rMeas (e.meas n)) := by
  obtain ⟨op, nm, v, ks⟩ := e
  have ih : ∀ k ∈ ks, ∀ n : Int, 0 ≤ n → n ≤ 200 → Sat Pg k_syntax_measure [k.w, .c (int n)] (fun r => r = rMeas (k.meas n)) := fun k hk n h0 hn => sat_measure k n h0 hn
  refine sat_bnd (by kernel_rfl) fun hb => ?_
  have hlen := exs_bnd (hb _ (List.mem_cons_self ..))
  have hq : ∀ m d : Int, measL ks (n + 1) 0 = (m, d) → rMeas (Ex.meas (.mk op nm v ks) n) = rMeas (m, d + 1) := fun m d h => by simp only [Ex.meas, h]
  refine Sat_of T4 c_syntax_measure_ok (by kernel_rfl) ?_
  conv => whnf
  refine loopF (P := Pg) (f := T4.f) (body := c_syntax_measure_L0) (fun x : Nat × Int × Int => measS ks x.1 x.2.1 x.2.2) (fun x => ks.length - x.1) (fun x => x.1 ≤ ks.length ∧ 0 ≤ x.2.1 ∧ x.2.1 ≤ 201 ∧ 0 ≤ x.2.2 ∧ x.2.2 ≤ 201 ∧ measL ks (n + 1) 0 = measL (ks.drop x.1) x.2.1 x.2.2)
    ⟨(0, n + 1, 0), ⟨Nat.zero_le _, by show 0 ≤ n + 1; omega, by show n + 1 ≤ 201; omega, by show (0 : Int) ≤ 0; omega, by show (0 : Int) ≤ 201; omega, rfl⟩, normW_of ?_⟩ ?_
  · conv => whnf
    rw [wrapI (by omega) (by omega)]
    rfl
  · rintro ⟨i, n1, d1⟩ hx
    obtain ⟨hi, hn0, hn1, hd0, hd1, hR⟩ : i ≤ ks.length ∧ 0 ≤ n1 ∧ n1 ≤ 201 ∧ 0 ≤ d1 ∧ d1 ≤ 201 ∧ measL ks (n + 1) 0 = measL (ks.drop i) n1 d1 := hx
    have wd : IntKind.i64.wrap (d1 + 1) = d1 + 1 := wrapI (by omega) (by omega)
    conv => whnf
    refine cond_i (fun h1 => ?_) (fun h1 => ?_)
    · have hlt : i < ks.length := by have := of_decide_eq_true h1; rw [exsD_len] at this; omega
      rw [exs_step hlt] at hR
      have hg : (exsD ks)[((i : Int)).toNat]? = some (ks[i]).ds := exsD_get hlt
      have hm : ks[i] ∈ ks := List.getElem_mem hlt
      generalize ks[i] = k at *
      have ihk := ih k hm n1 hn0
      have hbk := meas_bnd k n1
      obtain ⟨op1, nm1, v1, ks1⟩ := k
      conv => whnf
      refine ⟨by omega, _, hg, rfl, ?_⟩
      conv => whnf
      refine cond_i (fun h2 => ?_) (fun h2 => ?_)
      · have h2 : decide (n1 > 200) = true := h2
        rw [h2, cond_true] at hR
        rw [hq _ _ hR]
        conv => whnf
        exact congrArg (fun x => rMeas (n1, x)) wd
      · have h2 : decide (n1 > 200) = false := h2
        rw [h2, cond_false] at hR
        have h2 := of_decide_eq_false h2
        have hbk := hbk (by omega)
        conv => whnf
        refine Sat.mono (ihk (by omega)) ?_
        rintro _ rfl
        conv => whnf
        refine ⟨(i + 1, (Ex.meas (.mk op1 nm1 v1 ks1) n1).1, mmI true d1 (Ex.meas (.mk op1 nm1 v1 ks1) n1).2), ⟨⟨by show i + 1 ≤ _; omega, by show 0 ≤ (Ex.meas _ n1).1; omega, by show (Ex.meas _ n1).1 ≤ 201; omega, ?_, ?_, hR⟩, by show ks.length - (i + 1) < ks.length - i; omega⟩, normW_of ?_⟩
        · show 0 ≤ mmI true d1 _
          rw [mmI_t]; omega
        · show mmI true d1 _ ≤ 201
          rw [mmI_t]; omega
        · conv => whnf
          rw [wrapS hlt hlen]
          rfl
    · have hge : ks.length ≤ i := by have := of_decide_eq_false h1; rw [exsD_len] at this; omega
      rw [List.drop_eq_nil_of_le hge] at hR
      rw [hq _ _ hR]
      conv => whnf
      exact congrArg (fun x => rMeas (n1, x)) wd
termination_by SizeOf.sizeOf e
decreasing_by
  simp_wf
  have := List.sizeOf_lt_of_mem hk
  omega

mutual
def Ex.err : Ex → Int
  | .mk op nm v ks => bif nodeErr op nm v ks.length != 0 then nodeErr op nm v ks.length else errL ks
def errL : List Ex → Int
  | [] => 0
  | k :: r => bif k.err != 0 then k.err else errL r
end
theorem errL_step {ks : List Ex} {i : Nat} (h : i < ks.length) : errL (ks.drop i) = bif ks[i].err != 0 then ks[i].err else errL (ks.drop (i + 1)) := by
  rw [drop_cons h]; rfl
theorem sat_nodes (e : Ex) : Sat Pg k_syntax_nodes [e.w] (fun r => r = rI e.err) := by
  have hnode := sat_node e
  obtain ⟨op, nm, v, ks⟩ := e
  have ih : ∀ k ∈ ks, Sat Pg k_syntax_nodes [k.w] (fun r => r = rI k.err) := fun k hk => sat_nodes k
  refine sat_bnd (by kernel_rfl) fun hb => ?_
  have hlen := exs_bnd (hb _ (List.mem_cons_self ..))
  simp only [Ex.err]
  refine Sat_of T4 c_syntax_nodes_ok (by kernel_rfl) ?_
  conv => whnf
  refine Sat.mono (hnode) ?_
  rintro _ rfl
  conv => whnf
  refine cond_i (fun h => ?_) (fun h => ?_)
  · have h : (nodeErr op nm v ks.length != 0) = true := h
    conv => whnf
    rw [h]; rfl
  · have h : (nodeErr op nm v ks.length != 0) = false := h
    rw [h]
    simp only [cond_false]
    conv => whnf
    refine loopI (P := Pg) (f := T4.f) (body := c_syntax_nodes_L0) ks.length (fun i => ⟨[(13, .w (.c (.d (.sl (exsD ks))))), (14, intV (exsD ks).length), (15, intV i)], []⟩) (fun i => errL ks = errL (ks.drop i)) ⟨rfl, normW_of ?_⟩ ?_
    · conv => whnf
      rfl
    · intro i hi hR
      conv => whnf
      refine cond_i (fun h1 => ?_) (fun h1 => ?_)
      · have hlt : i < ks.length := by have := of_decide_eq_true h1; rw [exsD_len] at this; omega
        rw [errL_step hlt] at hR
        have hg : (exsD ks)[((i : Int)).toNat]? = some (ks[i]).ds := exsD_get hlt
        have hm : ks[i] ∈ ks := List.getElem_mem hlt
        generalize ks[i] = k at *
        have ihk := ih k hm
        obtain ⟨op1, nm1, v1, ks1⟩ := k
        conv => whnf
        refine ⟨by omega, _, hg, rfl, ?_⟩
        conv => whnf
        refine Sat.mono (ihk) ?_
        rintro _ rfl
        conv => whnf
        generalize (Ex.err (.mk op1 nm1 v1 ks1)) = x at *
        refine cond_i (fun h2 => ?_) (fun h2 => ?_)
        · have h2 : (x != 0) = true := h2
          rw [h2, cond_true] at hR
          conv => whnf
          rw [hR]
          rfl
        · have h2 : (x != 0) = false := h2
          rw [h2, cond_false] at hR
          conv => whnf
          refine ⟨hlt, hR, normW_of ?_⟩
          conv => whnf
          rw [wrapS hlt hlen]
          rfl
      · have hge : ks.length ≤ i := by have := of_decide_eq_false h1; rw [exsD_len] at this; omega
        rw [List.drop_eq_nil_of_le hge] at hR
        conv => whnf
        rw [hR]; rfl
termination_by SizeOf.sizeOf e
decreasing_by
  simp_wf
  have := List.sizeOf_lt_of_mem hk
  omega

def Ex.chk (e : Ex) : Int := bif decide ((e.meas 0).1 > 200) then 7 else bif decide ((e.meas 0).2 > 16) then 20 else e.err
theorem sat_Expr (e : Ex) : Sat Pg k_syntax_Expr [e.w] (fun r => r = rI e.chk) := by
  have h1 := sat_measure e 0 (by omega) (by omega)
  have h2 := sat_nodes e
  unfold Ex.chk
  obtain ⟨op, nm, v, ks⟩ := e
  refine Sat_of T4 c_syntax_Expr_ok (by kernel_rfl) ?_
  conv => whnf
  refine Sat.mono (h1) ?_
  rintro _ rfl
  generalize (Ex.meas (.mk op nm v ks) 0) = m at *
  obtain ⟨m1, m2⟩ := m
  conv => whnf
  refine cond_i (fun k1 => ?_) (fun k1 => ?_)
  · have k1 : decide (m1 > 200) = true := k1
    conv => whnf
    rw [k1]; rfl
  · have k1 : decide (m1 > 200) = false := k1
    conv => whnf
    refine cond_i (fun k2 => ?_) (fun k2 => ?_)
    · have k2 : decide (m2 > 16) = true := k2
      conv => whnf
      rw [k1, k2]; rfl
    · have k2 : decide (m2 > 16) = false := k2
      conv => whnf
      refine Sat.mono (h2) ?_
      rintro _ rfl
      conv => whnf
      rw [k1, k2]; rfl
end Go.Proofs.YtekkjilpdohieaaGreat

namespace Go.Proofs.YtekkjilpdohieaaGreat
open Go Go.AM
attribute [local irreducible] Sat SatH LoopP
set_option maxRecDepth 100000

/-- The places of a list of names: nil, or a slice of its own. -/
def lstP : List ByteArray → List Pl
  | [] => [.box [.nil]]
  | s :: l => [.box [.own 1 1 (s :: l).length], .arr 1 (strsD (s :: l)) false]
def addErr (l : List ByteArray) (s : ByteArray) : Int := bif !identB s then 3 else bif hasB l s then 4 else 0
def addP (l : List ByteArray) (s : ByteArray) : List Pl :=
  match l with
  | [] => [.box [.own 1 1 1], .arr 1 (strsD [s]) false]
  | x :: r => [.box [.own 2 1 ((x :: r).length + 1)], .gone, .arr 1 (strsD ((x :: r) ++ [s])) false]
def addR (l : List ByteArray) (s : ByteArray) : Res := ⟨.w (.c (int (addErr l s))), bif addErr l s != 0 then lstP l else addP l s⟩
theorem addErr_3 {l : List ByteArray} {s : ByteArray} (h : (!identB s) = true) : addErr l s = 3 := by unfold addErr; rw [h]; rfl
theorem addErr_4 {l : List ByteArray} {s : ByteArray} (h : (!identB s) = false) (h2 : hasB l s = true) : addErr l s = 4 := by unfold addErr; rw [h, h2]; rfl
theorem addErr_0 {l : List ByteArray} {s : ByteArray} (h : (!identB s) = false) (h2 : hasB l s = false) : addErr l s = 0 := by unfold addErr; rw [h, h2]; rfl
theorem strsD_sz (l : List ByteArray) : ∀ y ∈ strsD l, y.length = 1 := by
  intro y hy
  obtain ⟨r, _, rfl⟩ := List.mem_map.1 hy
  rfl
theorem sat_add (l : List ByteArray) (s : ByteArray) (hl : l.length ≤ 1000000) : SatH Pg k_syntax_list_add [.c (.ptr 0 0), .c (str s)] (lstP l) (fun r => r = addR l s) := by
  cases l with
  | nil =>
    unfold addR
    refine SatH_of T4 c_syntax_list_add_ok (by kernel_rfl) (Nat.le_of_ble_eq_true rfl) ?_
    conv => whnf
    refine cond_i (fun h => ?_) (fun h => ?_)
    · have h : (!identB s) = true := h
      conv => whnf
      rw [addErr_3 h]; rfl
    · have h : (!identB s) = false := h
      conv => whnf
      refine Sat.mono (sat_Contains_string [] s) ?_
      rintro _ rfl
      conv => whnf
      refine ⟨by simp, by unfold fits; simp, by simp, ?_⟩
      conv => whnf
      rw [addErr_0 h rfl]
      rfl
  | cons x r =>
    unfold addR
    have htk : (strsD (x :: r)).take ((x :: r).length) = strsD (x :: r) := by rw [← strsD_len, List.take_length]
    refine SatH_of T4 c_syntax_list_add_ok (by kernel_rfl) (Nat.le_of_ble_eq_true rfl) ?_
    conv => whnf
    refine cond_i (fun h => ?_) (fun h => ?_)
    · have h : (!identB s) = true := h
      conv => whnf
      rw [addErr_3 h]; rfl
    · have h : (!identB s) = false := h
      conv => whnf
      have hc := sat_Contains_string (x :: r) s
      unfold strsC at hc
      rw [← htk] at hc
      refine Sat.mono (hc) ?_
      rintro _ rfl
      conv => whnf
      refine cond_i (fun h2 => ?_) (fun h2 => ?_)
      · have h2 : hasB (x :: r) s = true := h2
        conv => whnf
        rw [addErr_4 h h2]; rfl
      · have h2 : hasB (x :: r) s = false := h2
        conv => whnf
        refine ⟨by simp, by unfold fits; simp at hl ⊢; omega, by simp at hl ⊢; omega, ?_⟩
        conv => whnf
        rw [addErr_0 h h2]
        show _ = (⟨_, [.box [.own 2 1 ((x :: r).length + 1)], .gone, .arr 1 (strsD ((x :: r) ++ [s])) false]⟩ : Res)
        rw [show strsD ((x :: r) ++ [s]) = (strsD (x :: r)).take ((x :: r).length) ++ strsD [s] by rw [htk]; simp [strsD]]
        rfl

def allErr : List ByteArray → List ByteArray → Int
  | _, [] => 0
  | acc, s :: r => bif addErr acc s != 0 then addErr acc s else allErr (acc ++ [s]) r
def allAcc : List ByteArray → List ByteArray → List ByteArray
  | acc, [] => acc
  | acc, s :: r => bif addErr acc s != 0 then acc else allAcc (acc ++ [s]) r
def allR (acc l : List ByteArray) : Res := ⟨.w (.c (int (allErr acc l))), lstP (allAcc acc l)⟩
theorem allR_stop {acc r : List ByteArray} {s : ByteArray} (h : (addErr acc s != 0) = true) : allR acc (s :: r) = ⟨.w (.c (int (addErr acc s))), lstP acc⟩ := by
  simp only [allR, allErr, allAcc, h, cond_true]
theorem allR_go {acc r : List ByteArray} {s : ByteArray} (h : (addErr acc s != 0) = false) : allR acc (s :: r) = allR (acc ++ [s]) r := by
  simp only [allR, allErr, allAcc, h, cond_false]
def allS (l : List ByteArray) (i : Nat) : List ByteArray → S
  | [] => ⟨[(0, cV (.ptr 100000 0)), (8, .w (strsC l)), (9, intV (strsD l).length), (10, intV i)], [(100000, .box [.nil])]⟩
  | x :: r => ⟨[(0, cV (.ptr 100000 0)), (8, .w (strsC l)), (9, intV (strsD l).length), (10, intV i)], [(100000, .box [.own 600256 1 (x :: r).length]), (600256, .arr 1 (strsD (x :: r)) false)]⟩
theorem take_snoc {α : Type} {l : List α} {i : Nat} (h : i < l.length) : l.take (i + 1) = l.take i ++ [l[i]] := List.take_succ_eq_append_getElem h
theorem sat_all (l : List ByteArray) (hl : l.length ≤ 1000) : SatH Pg k_syntax_list_all [.c (.ptr 0 0), strsC l] [.box [.nil]] (fun r => r = allR [] l) := by
  refine SatH_of T4 c_syntax_list_all_ok (by kernel_rfl) (Nat.le_of_ble_eq_true rfl) ?_
  conv => whnf
  refine loopF (P := Pg) (f := T4.f) (body := c_syntax_list_all_L0) (fun x : Nat × List ByteArray => allS l x.1 x.2) (fun x => l.length - x.1) (fun x => x.1 ≤ l.length ∧ x.2.length = x.1 ∧ allR [] l = allR x.2 (l.drop x.1)) ⟨(0, []), ⟨Nat.zero_le _, rfl, rfl⟩, normW_of ?_⟩ ?_
  · conv => whnf
    rfl
  · rintro ⟨i, acc⟩ hx
    obtain ⟨hi, ha, hR⟩ : i ≤ l.length ∧ acc.length = i ∧ allR [] l = allR acc (l.drop i) := hx
    have wi : i < l.length → IntKind.i64.wrap ((i : Int) + 1) = ((i + 1 : Nat) : Int) := fun h => wrapS h (by omega)
    cases acc with
    | nil =>
      conv => whnf
      refine cond_i (fun h1 => ?_) (fun h1 => ?_)
      · have hlt : i < l.length := by have h1 : decide ((i : Int) < ((strsD l).length : Int)) = true := h1; have := of_decide_eq_true h1; rw [strsD_len] at this; omega
        have hg := strsD_get hlt
        rw [drop_cons hlt] at hR
        generalize l[i] = s at *
        conv => whnf
        refine ⟨by omega, _, hg, rfl, ?_⟩
        conv => whnf
        refine SatH.mono (sat_add [] s (by simp)) ?_
        rintro _ rfl
        by_cases he : (addErr [] s != 0) = true
        · have e : addR [] s = ⟨.w (.c (int (addErr [] s))), [.box [.nil]]⟩ := by unfold addR; rw [he]; rfl
          rw [allR_stop he] at hR
          rw [e, hR]
          conv => whnf
          refine cond_i (fun k => ?_) (fun k => ?_)
          · conv => whnf
            rfl
          · exact absurd (he.symm.trans k) (by simp)
        · have he : (addErr [] s != 0) = false := by simpa using he
          have he0 : addErr [] s = 0 := by simpa using he
          have e : addR [] s = ⟨.w (.c (int 0)), [.box [.own 1 1 1], .arr 1 (strsD [s]) false]⟩ := by unfold addR; rw [he, he0]; rfl
          rw [allR_go he] at hR
          rw [e]
          conv => whnf
          refine ⟨(i + 1, [s]), ⟨⟨hlt, by simp at ha ⊢; omega, hR⟩, by show l.length - (i + 1) < l.length - i; omega⟩, normW_of ?_⟩
          conv => whnf
          rw [wi hlt]
          rfl
      · have hge : l.length ≤ i := by have h1 : decide ((i : Int) < ((strsD l).length : Int)) = false := h1; have := of_decide_eq_false h1; rw [strsD_len] at this; omega
        rw [List.drop_eq_nil_of_le hge] at hR
        rw [hR]
        conv => whnf
        rfl
    | cons x r =>
      conv => whnf
      refine cond_i (fun h1 => ?_) (fun h1 => ?_)
      · have hlt : i < l.length := by have h1 : decide ((i : Int) < ((strsD l).length : Int)) = true := h1; have := of_decide_eq_true h1; rw [strsD_len] at this; omega
        have hg := strsD_get hlt
        rw [drop_cons hlt] at hR
        generalize l[i] = s at *
        conv => whnf
        refine ⟨by omega, _, hg, rfl, ?_⟩
        conv => whnf
        refine SatH.mono (sat_add (x :: r) s (by omega)) ?_
        rintro _ rfl
        by_cases he : (addErr (x :: r) s != 0) = true
        · have e : addR (x :: r) s = ⟨.w (.c (int (addErr (x :: r) s))), [.box [.own 1 1 (x :: r).length], .arr 1 (strsD (x :: r)) false]⟩ := by unfold addR; rw [he]; rfl
          rw [allR_stop he] at hR
          rw [e, hR]
          conv => whnf
          refine cond_i (fun k => ?_) (fun k => ?_)
          · conv => whnf
            rfl
          · exact absurd (he.symm.trans k) (by simp)
        · have he : (addErr (x :: r) s != 0) = false := by simpa using he
          have he0 : addErr (x :: r) s = 0 := by simpa using he
          have e : addR (x :: r) s = ⟨.w (.c (int 0)), [.box [.own 2 1 ((x :: r).length + 1)], .gone, .arr 1 (strsD ((x :: r) ++ [s])) false]⟩ := by unfold addR; rw [he, he0]; rfl
          rw [allR_go he] at hR
          rw [e]
          conv => whnf
          refine ⟨(i + 1, (x :: r) ++ [s]), ⟨⟨hlt, by simp at ha ⊢; omega, hR⟩, by show l.length - (i + 1) < l.length - i; omega⟩, normW_of ?_⟩
          conv => whnf
          rw [wi hlt]
          show _ = S.mk _ [(100000, .box [.own 600256 1 (x :: (r ++ [s])).length]), _]
          rw [show (x :: (r ++ [s])).length = (x :: r).length + 1 by simp]
          rfl
      · have hge : l.length ≤ i := by have h1 : decide ((i : Int) < ((strsD l).length : Int)) = false := h1; have := of_decide_eq_false h1; rw [strsD_len] at this; omega
        rw [List.drop_eq_nil_of_le hge] at hR
        rw [hR]
        conv => whnf
        rfl
end Go.Proofs.YtekkjilpdohieaaGreat

namespace Go.Proofs.YtekkjilpdohieaaGreat
open Go Go.AM
attribute [local irreducible] Sat SatH LoopP
set_option maxRecDepth 100000
set_option maxHeartbeats 1000000

def intsD (l : List Int) : List (List D) := l.map fun n => [D.lit (.int .i64 n)]
theorem intsD_len (l : List Int) : (intsD l).length = l.length := by simp [intsD]
theorem intsD_get {r : List Int} {i : Nat} (h : i < r.length) : (intsD r)[((i : Int)).toNat]? = some [D.lit (.int .i64 r[i])] := by simp [intsD, List.getElem?_eq_getElem h]
theorem sat_Index_StepOp (l : List Int) (s : Int) : Sat Pg k_slices_Index_StepOp [.c (.d (.sl (intsD l))), .c (int s)] (fun r => r = rI (findI (fun x => s == x) 0 l)) := by
  refine sat_len 0 (by kernel_rfl) rfl fun hlen => ?_
  rw [intsD_len] at hlen
  refine Sat_of T4 c_slices_Index_StepOp_ok (by kernel_rfl) ?_
  conv => whnf
  refine loopI (P := Pg) (f := T4.f) (body := c_slices_Index_StepOp_L0) l.length (fun i => ⟨[(0, .w (.c (.d (.sl (intsD l))))), (1, .w (.c (int s))), (7, intV (intsD l).length), (8, intV i)], []⟩)
    (fun i => findI (fun x => s == x) 0 l = findI (fun x => s == x) i (l.drop i)) ⟨rfl, normW_of ?_⟩ ?_
  · conv => whnf
    rfl
  · intro i hi hR
    conv => whnf
    refine cond_i (fun h1 => ?_) (fun h1 => ?_)
    · have hlt : i < l.length := by have := of_decide_eq_true h1; rw [intsD_len] at this; omega
      rw [drop_cons hlt] at hR
      conv => whnf
      refine ⟨by omega, _, intsD_get hlt, rfl, ?_⟩
      conv => whnf
      refine cond_i (fun h3 => ?_) (fun h3 => ?_)
      · simp only [findI, h3, cond_true] at hR
        conv => whnf
        exact congrArg rI hR.symm
      · simp only [findI, h3, cond_false] at hR
        conv => whnf
        refine ⟨hlt, hR, normW_of ?_⟩
        conv => whnf
        rw [wrapS hlt hlen]
        rfl
    · have hge : l.length ≤ i := by have := of_decide_eq_false h1; rw [intsD_len] at this; omega
      rw [List.drop_eq_nil_of_le hge] at hR
      conv => whnf
      exact congrArg rI hR.symm

def hasI (l : List Int) (s : Int) : Bool := l.any fun x => s == x
theorem sat_Contains_StepOp (l : List Int) (s : Int) : Sat Pg k_slices_Contains_StepOp [.c (.d (.sl (intsD l))), .c (int s)] (fun r => r = rB (hasI l s)) := by
  refine Sat_of T4 c_slices_Contains_StepOp_ok (by kernel_rfl) ?_
  conv => whnf
  refine Sat.mono (sat_Index_StepOp l s) ?_
  rintro _ rfl
  conv => whnf
  exact congrArg rB (findI_ge _ l 0)
def intsOf : List (List D) → List Int
  | [.lit (.int _ m)] :: r => m :: intsOf r
  | _ => []
theorem sat_uses_1 (L : List (List D)) (op : Int) (rest : List D) (h : intsD (intsOf L) = L) : Sat Pg k_syntax_uses_1 [.c (.d (.sl L)), .c (.fp (.lit (.int .i64 op) :: rest))] (fun r => r = rB (hasI (intsOf L) op)) := by
  rw [← h]
  generalize intsOf L = l at *
  have e : intsOf (intsD l) = l := by
    clear h
    induction l with
    | nil => rfl
    | cons x r ih => show x :: intsOf (intsD r) = _; rw [ih]
  rw [e]
  refine Sat_of T4 c_syntax_uses_1_ok (by kernel_rfl) ?_
  conv => whnf
  refine Sat.mono (sat_Contains_StepOp l op) ?_
  rintro _ rfl
  rfl

def zeroB (op : Int) (nm : ByteArray) (v : Val) (nk : Int) : Bool := ((op == 0 && beqS nm ⟨#[]⟩) && eqV v ⟨0, 0, ⟨#[]⟩⟩) && nk == 0
def Ex.zero : Ex → Bool
  | .mk op nm v ks => zeroB op nm v ks.length
theorem sat_zero (op : Int) (nm : ByteArray) (k n : Int) (s : ByteArray) (l : List (List D)) : Sat Pg k_syntax_zero [.agg [int op, str nm, int k, int n, str s, .d (.sl l)]] (fun r => r = rB (zeroB op nm ⟨k, n, s⟩ l.length)) := by
  refine Sat_of T4 c_syntax_zero_ok (by kernel_rfl) ?_
  repeat' (conv => whnf
           refine cond_i (fun h => ?_) (fun h => ?_))
  all_goals refine congrArg rB ?_
  all_goals unfold zeroB eqV
  all_goals try simp only [cond_true, cond_false, Bool.true_or, Bool.false_or, Bool.or_true, Bool.or_false, Bool.and_true, Bool.and_false, Bool.true_and, Bool.false_and, Bool.not_true, Bool.not_false, bne_self_eq_false, beq_self_eq_true, Bool.false_eq_true, Bool.true_eq_false, reduceCtorEq] at *
  all_goals first | done | (simp only [*, cond_true, cond_false, Bool.true_or, Bool.false_or, Bool.or_true, Bool.or_false, Bool.and_true, Bool.and_false, Bool.true_and, Bool.false_and, Bool.not_true, Bool.not_false, bne_self_eq_false, beq_self_eq_true, Bool.false_eq_true, Bool.true_eq_false, reduceCtorEq]; done) | (simp_all only [cond_true, cond_false, Bool.true_or, Bool.false_or, Bool.or_true, Bool.or_false, Bool.and_true, Bool.and_false, Bool.true_and, Bool.false_and, Bool.not_true, Bool.not_false, bne_self_eq_false, beq_self_eq_true, Bool.false_eq_true, Bool.true_eq_false, reduceCtorEq]; done) | skip

def litI : C → Option Int | .d (.lit (.int .i64 n)) => some n | _ => none
def litS : C → Option ByteArray | .d (.lit (.string n)) => some n | _ => none
def slD : C → Option (List (List D)) | .d (.sl n) => some n | _ => none
theorem litI_eq {c : C} {n : Int} (h : litI c = some n) : c = int n := by
  unfold litI at h; split at h
  · cases h; rfl
  · cases h
theorem litS_eq {c : C} {n : ByteArray} (h : litS c = some n) : c = str n := by
  unfold litS at h; split at h
  · cases h; rfl
  · cases h
theorem slD_eq {c : C} {n : List (List D)} (h : slD c = some n) : c = .d (.sl n) := by
  unfold slD at h; split at h
  · cases h; rfl
  · cases h
def zc : List C → Option W
  | [a, b, c, d, e, f] => (litI a).bind fun op => (litS b).bind fun nm => (litI c).bind fun k => (litI d).bind fun n => (litS e).bind fun s => (slD f).bind fun l => some (.c (bool (zeroB op nm ⟨k, n, s⟩ l.length)))
  | _ => none
def T5f (k : FuncId) (l : List W) : Option W :=
  bif Nat.beq k k_syntax_zero then (match l with | [.agg cs] => zc cs | _ => none) else T4f k l
theorem T5ok (k : FuncId) (l : List W) (w : W) (h : T5f k l = some w) : Sat Pg k l (fun r => r = ⟨.w w, []⟩) := by
  unfold T5f at h
  cases hk : Nat.beq k k_syntax_zero
  · rw [hk, cond_false] at h
    exact T4ok k l w h
  · rw [hk, cond_true] at h
    rw [Nat.eq_of_beq_eq_true hk]
    split at h
    · rename_i cs
      unfold zc at h
      split at h
      · obtain ⟨op, h1, h⟩ := Option.bind_eq_some_iff.1 h
        obtain ⟨nm, h2, h⟩ := Option.bind_eq_some_iff.1 h
        obtain ⟨v, h3, h⟩ := Option.bind_eq_some_iff.1 h
        obtain ⟨n, h4, h⟩ := Option.bind_eq_some_iff.1 h
        obtain ⟨s, h5, h⟩ := Option.bind_eq_some_iff.1 h
        obtain ⟨l, h6, h⟩ := Option.bind_eq_some_iff.1 h
        cases h
        rw [litI_eq h1, litS_eq h2, litI_eq h3, litI_eq h4, litS_eq h5, slD_eq h6]
        exact sat_zero _ _ _ _ _ _
      · cases h
    · cases h
def T5 : Tab Pg := ⟨T5f, T5ok⟩

structure Itm where
  e : Ex
  nm : ByteArray
def Itm.ds (x : Itm) : List D := x.e.ds ++ [.lit (.string x.nm)]
structure Agg where
  fn : ByteArray
  col : ByteArray
  nm : ByteArray
def Agg.ds (x : Agg) : List D := [.lit (.string x.fn), .lit (.string x.col), .lit (.string x.nm)]
structure Srt where
  col : ByteArray
  desc : Bool
def Srt.ds (x : Srt) : List D := [.lit (.string x.col), .lit (.bool x.desc)]
structure Stp where
  op : Int
  cond : Ex
  items : List Itm
  cols : List ByteArray
  aggs : List Agg
  sorts : List Srt
  n : Int
  table : ByteArray
def Stp.ds (s : Stp) : List D := [.lit (.int .i64 s.op)] ++ (s.cond.ds ++ [.sl (s.items.map Itm.ds), .sl (strsD s.cols), .sl (s.aggs.map Agg.ds), .sl (s.sorts.map Srt.ds), .lit (.int .i64 s.n), .lit (.string s.table)])
def Stp.w (s : Stp) : W := .agg (s.ds.map .d)
def usesB (op : Int) (z : Bool) (items cols aggs sorts n : Int) (tb : ByteArray) : Bool :=
  bif decide (op < 1) || decide (op > 9) then false else
  bif ((!hasI [1] op && !z) || ((!hasI [2] op && decide (items > 0)) || ((!hasI [3] op && decide (aggs > 0)) || ((!hasI [4] op && decide (sorts > 0)) || (!hasI [5] op && n != 0))))) then false else
  bif !hasI [6, 7, 8] op && !beqS tb ⟨#[]⟩ then false else
  hasI [3, 6, 7, 8, 9] op || cols == 0
def Stp.uses (s : Stp) : Bool := usesB s.op s.cond.zero s.items.length s.cols.length s.aggs.length s.sorts.length s.n s.table
theorem sat_uses (op : Int) (eo : Int) (nm : ByteArray) (k n : Int) (s : ByteArray) (ks items cols aggs sorts : List (List D)) (m : Int) (tb : ByteArray) :
    Sat Pg k_syntax_uses [.agg [int op, int eo, str nm, int k, int n, str s, .d (.sl ks), .d (.sl items), .d (.sl cols), .d (.sl aggs), .d (.sl sorts), int m, str tb]] (fun r => r = rB (usesB op (zeroB eo nm ⟨k, n, s⟩ ks.length) items.length cols.length aggs.length sorts.length m tb)) := by
  refine Sat_of T5 c_syntax_uses_ok (by kernel_rfl) ?_
  repeat' (conv => whnf
           first | refine cond_i (fun h => ?_) (fun h => ?_) | (refine Sat.mono (sat_uses_1 _ _ _ rfl) ?_; rintro _ rfl))
  all_goals refine congrArg rB ?_
  all_goals unfold usesB
  all_goals try simp only [List.take_length, intsOf] at *
  all_goals generalize ((List.length cols : Nat) : Int) = lc at *
  all_goals try simp only [cond_true, cond_false, Bool.true_or, Bool.false_or, Bool.or_true, Bool.or_false, Bool.and_true, Bool.and_false, Bool.true_and, Bool.false_and, Bool.not_true, Bool.not_false, bne_self_eq_false, beq_self_eq_true, Bool.false_eq_true, Bool.true_eq_false, reduceCtorEq] at *
  all_goals first | done | (simp only [*, cond_true, cond_false, Bool.true_or, Bool.false_or, Bool.or_true, Bool.or_false, Bool.and_true, Bool.and_false, Bool.true_and, Bool.false_and, Bool.not_true, Bool.not_false, bne_self_eq_false, beq_self_eq_true, Bool.false_eq_true, Bool.true_eq_false, reduceCtorEq]; done) | (simp_all only [cond_true, cond_false, Bool.true_or, Bool.false_or, Bool.or_true, Bool.or_false, Bool.and_true, Bool.and_false, Bool.true_and, Bool.false_and, Bool.not_true, Bool.not_false, bne_self_eq_false, beq_self_eq_true, Bool.false_eq_true, Bool.true_eq_false, reduceCtorEq]; done) | skip
end Go.Proofs.YtekkjilpdohieaaGreat

namespace Go.Proofs.YtekkjilpdohieaaGreat
open Go Go.AM
attribute [local irreducible] Sat SatH LoopP
set_option maxRecDepth 100000
set_option maxHeartbeats 1000000

def itmsD (l : List Itm) : List (List D) := l.map Itm.ds
theorem itmsD_len (l : List Itm) : (itmsD l).length = l.length := by simp [itmsD]
theorem itmsD_get {r : List Itm} {i : Nat} (h : i < r.length) : (itmsD r)[((i : Int)).toNat]? = some (r[i]).ds := by simp [itmsD, List.getElem?_eq_getElem h]
theorem addR_bad {acc : List ByteArray} {s : ByteArray} (h : (addErr acc s != 0) = true) : addR acc s = ⟨.w (.c (int (addErr acc s))), lstP acc⟩ := by unfold addR; rw [h]; rfl
theorem addR_ok {acc : List ByteArray} {s : ByteArray} (h : (addErr acc s != 0) = false) : addR acc s = ⟨.w (.c (int 0)), addP acc s⟩ := by
  unfold addR; rw [h]; rw [bne_eq_false_iff_eq] at h; rw [h]; rfl

def itemsErr : List ByteArray → List Itm → Int
  | _, [] => 0
  | acc, x :: r => bif x.e.chk != 0 then x.e.chk else bif addErr acc x.nm != 0 then addErr acc x.nm else itemsErr (acc ++ [x.nm]) r
def itS (l : List Itm) (i : Nat) : List ByteArray → S
  | [] => ⟨[(3, cV (.ptr 3 0)), (8, .w (.c (.d (.sl (itmsD l))))), (9, intV (itmsD l).length), (10, intV i)], [(3, .box [.nil])]⟩
  | x :: r => ⟨[(3, cV (.ptr 3 0)), (8, .w (.c (.d (.sl (itmsD l))))), (9, intV (itmsD l).length), (10, intV i)], [(3, .box [.own 600352 1 (x :: r).length]), (600352, .arr 1 (strsD (x :: r)) false)]⟩
theorem sat_items (l : List Itm) (hl : l.length ≤ 1000) : Sat Pg k_syntax_items [.c (.d (.sl (itmsD l)))] (fun r => r = rI (itemsErr [] l)) := by
  refine Sat_of T5 c_syntax_items_ok (by kernel_rfl) ?_
  conv => whnf
  refine loopF (P := Pg) (f := T5.f) (body := c_syntax_items_L0) (fun x : Nat × List ByteArray => itS l x.1 x.2) (fun x => l.length - x.1) (fun x => x.1 ≤ l.length ∧ x.2.length = x.1 ∧ itemsErr [] l = itemsErr x.2 (l.drop x.1)) ⟨(0, []), ⟨Nat.zero_le _, rfl, rfl⟩, normW_of ?_⟩ ?_
  · conv => whnf
    rfl
  · rintro ⟨i, acc⟩ hx
    obtain ⟨hi, ha, hR⟩ : i ≤ l.length ∧ acc.length = i ∧ itemsErr [] l = itemsErr acc (l.drop i) := hx
    have wi : i < l.length → IntKind.i64.wrap ((i : Int) + 1) = ((i + 1 : Nat) : Int) := fun h => wrapS h (by omega)
    have hlt' : decide ((i : Int) < ((itmsD l).length : Int)) = true → i < l.length := fun h => by have := of_decide_eq_true h; rw [itmsD_len] at this; omega
    have hend : decide ((i : Int) < ((itmsD l).length : Int)) = false → itemsErr [] l = 0 := fun h => by
      have := of_decide_eq_false h
      rw [itmsD_len] at this
      rw [hR, List.drop_eq_nil_of_le (by omega)]
      cases acc <;> rfl
    have hgo : ∀ hlt : i < l.length, itemsErr [] l = bif l[i].e.chk != 0 then l[i].e.chk else bif addErr acc l[i].nm != 0 then addErr acc l[i].nm else itemsErr (acc ++ [l[i].nm]) (l.drop (i + 1)) := fun hlt => by
      rw [hR, drop_cons hlt]; rfl
    cases acc with
    | nil =>
      conv => whnf
      refine cond_i (fun h1 => ?_) (fun h1 => ?_)
      · have hlt := hlt' h1
        have hg := itmsD_get hlt
        have hR := hgo hlt
        generalize l[i] = x at *
        obtain ⟨⟨op1, nm1, v1, ks1⟩, s⟩ := x
        conv => whnf
        refine ⟨by omega, _, hg, rfl, ?_⟩
        conv => whnf
        refine Sat.mono (sat_Expr (.mk op1 nm1 v1 ks1)) ?_
        rintro _ rfl
        generalize (Ex.chk (.mk op1 nm1 v1 ks1)) = e1 at *
        conv => whnf
        refine cond_i (fun h2 => ?_) (fun h2 => ?_)
        · have h2 : (e1 != 0) = true := h2
          simp only [h2, cond_true] at hR
          conv => whnf
          rw [hR]; rfl
        · have h2 : (e1 != 0) = false := h2
          simp only [h2, cond_false] at hR
          conv => whnf
          refine SatH.mono (sat_add [] s (by simp)) ?_
          rintro _ rfl
          by_cases he : (addErr [] s != 0) = true
          · rw [addR_bad he]
            simp only [he, cond_true] at hR
            generalize addErr [] s = e2 at *
            conv => whnf
            refine cond_i (fun k => ?_) (fun k => ?_)
            · conv => whnf
              rw [hR]; rfl
            · exact absurd (he.symm.trans k) (by simp)
          · have he : (addErr [] s != 0) = false := by simpa using he
            rw [addR_ok he]
            simp only [he, cond_false] at hR
            conv => whnf
            refine ⟨(i + 1, [s]), ⟨⟨hlt, by simp at ha ⊢; omega, hR⟩, by show l.length - (i + 1) < l.length - i; omega⟩, normW_of ?_⟩
            conv => whnf
            rw [wi hlt]
            rfl
      · have hE := hend h1
        rw [hE]
        conv => whnf
        rfl
    | cons y r =>
      conv => whnf
      refine cond_i (fun h1 => ?_) (fun h1 => ?_)
      · have hlt := hlt' h1
        have hg := itmsD_get hlt
        have hR := hgo hlt
        generalize l[i] = x at *
        obtain ⟨⟨op1, nm1, v1, ks1⟩, s⟩ := x
        conv => whnf
        refine ⟨by omega, _, hg, rfl, ?_⟩
        conv => whnf
        refine Sat.mono (sat_Expr (.mk op1 nm1 v1 ks1)) ?_
        rintro _ rfl
        generalize (Ex.chk (.mk op1 nm1 v1 ks1)) = e1 at *
        conv => whnf
        refine cond_i (fun h2 => ?_) (fun h2 => ?_)
        · have h2 : (e1 != 0) = true := h2
          simp only [h2, cond_true] at hR
          conv => whnf
          rw [hR]; rfl
        · have h2 : (e1 != 0) = false := h2
          simp only [h2, cond_false] at hR
          conv => whnf
          refine SatH.mono (sat_add (y :: r) s (by omega)) ?_
          rintro _ rfl
          by_cases he : (addErr (y :: r) s != 0) = true
          · rw [addR_bad he]
            simp only [he, cond_true] at hR
            generalize addErr (y :: r) s = e2 at *
            conv => whnf
            refine cond_i (fun k => ?_) (fun k => ?_)
            · conv => whnf
              rw [hR]; rfl
            · exact absurd (he.symm.trans k) (by simp)
          · have he : (addErr (y :: r) s != 0) = false := by simpa using he
            rw [addR_ok he]
            simp only [he, cond_false] at hR
            conv => whnf
            refine ⟨(i + 1, (y :: r) ++ [s]), ⟨⟨hlt, by simp at ha ⊢; omega, hR⟩, by show l.length - (i + 1) < l.length - i; omega⟩, normW_of ?_⟩
            conv => whnf
            rw [wi hlt]
            show _ = S.mk _ [(3, .box [.own 600352 1 (y :: (r ++ [s])).length]), _]
            rw [show (y :: (r ++ [s])).length = (y :: r).length + 1 by simp]
            rfl
      · have hE := hend h1
        rw [hE]
        conv => whnf
        rfl

def colsErr (l : List ByteArray) (least : Int) : Int := bif sizeE l.length least != 0 then sizeE l.length least else allErr [] l
theorem sizeE_le {n least : Int} (h : (sizeE n least != 0) = false) : n ≤ 16 := by
  rw [bne_eq_false_iff_eq] at h
  unfold sizeE at h
  obtain ⟨_, h⟩ := bif_ne' (by omega) h
  obtain ⟨h, _⟩ := bif_ne' (by omega) h
  have := of_decide_eq_false h
  omega
theorem sat_columns (l : List ByteArray) (least : Int) : Sat Pg k_syntax_columns [strsC l, .c (int least)] (fun r => r = rI (colsErr l least)) := by
  unfold colsErr
  rw [← strsD_len]
  refine Sat_of T5 c_syntax_columns_ok (by kernel_rfl) ?_
  conv => whnf
  refine cond_i (fun h => ?_) (fun h => ?_)
  · have h : (sizeE (strsD l).length least != 0) = true := h
    conv => whnf
    rw [h]; rfl
  · have h : (sizeE (strsD l).length least != 0) = false := h
    have hl := sizeE_le h
    rw [strsD_len] at hl
    conv => whnf
    refine SatH.mono (sat_all l (by omega)) ?_
    rintro _ rfl
    rw [h, cond_false]
    unfold allR
    generalize allErr [] l = e
    cases allAcc [] l with
    | nil =>
      conv => whnf
      rfl
    | cons x r =>
      conv => whnf
      rfl
end Go.Proofs.YtekkjilpdohieaaGreat

namespace Go.Proofs.YtekkjilpdohieaaGreat
open Go Go.AM
attribute [local irreducible] Sat SatH LoopP
set_option maxRecDepth 100000
set_option maxHeartbeats 1000000

def aggD (l : List Agg) : List (List D) := l.map Agg.ds
theorem aggD_len (l : List Agg) : (aggD l).length = l.length := by simp [aggD]
theorem aggD_get {r : List Agg} {i : Nat} (h : i < r.length) : (aggD r)[((i : Int)).toNat]? = some (r[i]).ds := by simp [aggD, List.getElem?_eq_getElem h]
def fns : List ByteArray := [⟨#[115, 117, 109]⟩, ⟨#[109, 105, 110]⟩, ⟨#[109, 97, 120]⟩, ⟨#[102, 105, 114, 115, 116]⟩]
def cntB : ByteArray := ⟨#[99, 111, 117, 110, 116]⟩
def aggBad (x : Agg) : Bool := bif !beqS x.fn cntB && !hasB fns x.fn then true else beqS x.fn cntB == !beqS x.col ⟨#[]⟩
def aggErr (x : Agg) : Int := bif aggBad x then 5 else bif !beqS x.col ⟨#[]⟩ && !identB x.col then 3 else 0
def aggsErr : List ByteArray → List Agg → Int
  | _, [] => 0
  | acc, x :: r => bif aggErr x != 0 then aggErr x else bif addErr acc x.nm != 0 then addErr acc x.nm else aggsErr (acc ++ [x.nm]) r
def groupErr (cols : List ByteArray) (aggs : List Agg) : Int :=
  bif IntKind.i64.wrap ((cols.length : Int) + aggs.length) == 0 then 8 else bif decide ((cols.length : Int) > 16) || decide ((aggs.length : Int) > 16) then 7 else
  bif allErr [] cols != 0 then allErr [] cols else aggsErr cols aggs
def grS (l : List Agg) (i p : Nat) : List ByteArray → S
  | [] => ⟨[(3, cV (.ptr 3 0)), (36, .w (.c (.d (.sl (aggD l))))), (37, intV (aggD l).length), (38, intV i)], [(3, .box [.nil])]⟩
  | x :: r => ⟨[(3, cV (.ptr 3 0)), (36, .w (.c (.d (.sl (aggD l))))), (37, intV (aggD l).length), (38, intV i)], [(3, .box [.own p 1 (x :: r).length]), (p, .arr 1 (strsD (x :: r)) false)]⟩
theorem allErr_acc : ∀ (l acc : List ByteArray), (allErr acc l != 0) = false → allAcc acc l = acc ++ l
  | [], acc, _ => by simp [allAcc]
  | s :: r, acc, h => by
    simp only [allErr] at h
    simp only [allAcc]
    cases he : (addErr acc s != 0)
    · rw [he, cond_false] at h
      rw [cond_false, allErr_acc r _ h]; simp
    · rw [he, cond_true] at h
      rw [he] at h; cases h
theorem fns_eq : strsD fns = [[D.lit (.string ⟨#[115, 117, 109]⟩)], [D.lit (.string ⟨#[109, 105, 110]⟩)], [D.lit (.string ⟨#[109, 97, 120]⟩)], [D.lit (.string ⟨#[102, 105, 114, 115, 116]⟩)]] := rfl

theorem gr_loop (aggs : List Agg) (cols : List ByteArray) (ha0 : aggs.length ≤ 16) (hc0 : cols.length ≤ 16) (s : S) (p0 : Nat) (hp0 : p0 = 600496 ∨ p0 = 601152) (hs : normW s [3, 36, 37, 38] (· = grS aggs 0 p0 cols)) :
    LoopP (mwpR Pg T5.f c_syntax_group_L0) [3, 36, 37, 38] (blockK 1 (seqK (mwpR Pg T5.f (.seq (.reg [⟨(some 2), none, false, .mov (.k (intV 0)), [3, 36, 37, 38]⟩]) .ret)) (endK c_syntax_group.res [] fun r => r = rI (aggsErr cols aggs)))) s := by
  refine loopF (P := Pg) (f := T5.f) (body := c_syntax_group_L0) (fun x : Nat × Nat × List ByteArray => grS aggs x.1 x.2.1 x.2.2) (fun x => aggs.length - x.1) (fun x => x.1 ≤ aggs.length ∧ (x.2.1 = 600496 ∨ x.2.1 = 601152) ∧ x.2.2.length = x.1 + cols.length ∧ aggsErr cols aggs = aggsErr x.2.2 (aggs.drop x.1)) ⟨(0, p0, cols), ⟨Nat.zero_le _, hp0, by simp, rfl⟩, hs⟩ ?_
  rintro ⟨i, p, acc⟩ hx
  obtain ⟨hi, hp, ha, hR0⟩ : i ≤ aggs.length ∧ (p = 600496 ∨ p = 601152) ∧ acc.length = i + cols.length ∧ aggsErr cols aggs = aggsErr acc (aggs.drop i) := hx
  have wi : i < aggs.length → IntKind.i64.wrap ((i : Int) + 1) = ((i + 1 : Nat) : Int) := fun h => wrapS h (by omega)
  have hlt' : decide ((i : Int) < ((aggD aggs).length : Int)) = true → i < aggs.length := fun h => by have := of_decide_eq_true h; rw [aggD_len] at this; omega
  have hend : decide ((i : Int) < ((aggD aggs).length : Int)) = false → aggsErr cols aggs = 0 := fun h => by
    have := of_decide_eq_false h
    rw [aggD_len] at this
    rw [hR0, List.drop_eq_nil_of_le (by omega)]
    cases acc <;> rfl
  have hgo : ∀ hlt : i < aggs.length, aggsErr cols aggs = bif aggErr aggs[i] != 0 then aggErr aggs[i] else bif addErr acc aggs[i].nm != 0 then addErr acc aggs[i].nm else aggsErr (acc ++ [aggs[i].nm]) (aggs.drop (i + 1)) := fun hlt => by
    rw [hR0, drop_cons hlt]; rfl
  cases acc with
  | nil =>
    conv => whnf
    refine cond_i (fun h1 => ?_) (fun h1 => ?_)
    · have hlt := hlt' h1
      have hg := aggD_get hlt
      have hR := hgo hlt
      generalize aggs[i] = x at *
      obtain ⟨fn, col, s⟩ := x
      have hfn := sat_Contains_string fns fn
      have hadd := sat_add [] s (by first | (simp; done) | (simp at ha ⊢; omega))
      by_cases he : (addErr [] s != 0) = true
      · rw [addR_bad he] at hadd
        simp only [he, cond_true] at hR
        generalize addErr [] s = e2 at *
        conv => whnf
        refine ⟨by omega, _, hg, rfl, ?_⟩
        repeat' ((conv => whnf); first | ((with_reducible show Sat _ _ _ _); refine Sat.mono hfn ?_; rintro _ rfl) | ((with_reducible show SatH _ _ _ _ _); refine SatH.mono hadd ?_; rintro _ rfl) | refine cond_i (fun h => ?_) (fun h => ?_))
        all_goals first | (exfalso; simp_all; done) | skip
        all_goals (conv => whnf)
        all_goals rw [hR]
        all_goals clear hfn hadd hgo hend hlt' hs hR hR0 wi hg
        all_goals unfold aggErr aggBad
        all_goals refine congrArg rI ?_
        all_goals ((try unfold cntB at *); (try generalize beqS fn ⟨#[99, 111, 117, 110, 116]⟩ = a at *); (try generalize hasB fns fn = b at *); (try generalize beqS col ⟨#[]⟩ = c at *); (try generalize identB col = d at *); (try cases a) <;> (try cases b) <;> (try cases c) <;> (try cases d) <;> simp_all; done)
      · have he : (addErr [] s != 0) = false := by simpa using he
        rw [addR_ok he] at hadd
        simp only [he, cond_false] at hR
        unfold aggErr aggBad at hR
        conv => whnf
        refine ⟨by omega, _, hg, rfl, ?_⟩
        repeat' ((conv => whnf); first | ((with_reducible show Sat _ _ _ _); refine Sat.mono hfn ?_; rintro _ rfl) | ((with_reducible show SatH _ _ _ _ _); refine SatH.mono hadd ?_; rintro _ rfl) | refine cond_i (fun h => ?_) (fun h => ?_))
        all_goals first | ((conv => whnf); (with_reducible show _ = _); rw [hR]; refine congrArg rI ?_; clear hfn hadd hgo hend hlt' hs hR hR0 wi hg; ((try unfold cntB at *); (try generalize beqS fn ⟨#[99, 111, 117, 110, 116]⟩ = a at *); (try generalize hasB fns fn = b at *); (try generalize beqS col ⟨#[]⟩ = c at *); (try generalize identB col = d at *); (try cases a) <;> (try cases b) <;> (try cases c) <;> (try cases d) <;> simp_all; done)) | skip
        all_goals
          (conv => whnf)
          refine ⟨(i + 1, 601152, [] ++ [s]), ⟨⟨hlt, .inr rfl, by simp at ha ⊢; omega, ?_⟩, by show aggs.length - (i + 1) < aggs.length - i; omega⟩, normW_of ?_⟩
          · rw [hR]; clear hfn hadd hgo hend hlt' hs hR hR0 wi hg; ((try unfold cntB at *); (try generalize beqS fn ⟨#[99, 111, 117, 110, 116]⟩ = a at *); (try generalize hasB fns fn = b at *); (try generalize beqS col ⟨#[]⟩ = c at *); (try generalize identB col = d at *); (try cases a) <;> (try cases b) <;> (try cases c) <;> (try cases d) <;> simp_all; done)
          · conv => whnf
            rw [wi hlt]
            rfl
    · have hE := hend h1
      rw [hE]
      conv => whnf
      rfl
  | cons y r =>
    rcases hp with rfl | rfl
    all_goals
      conv => whnf
      refine cond_i (fun h1 => ?_) (fun h1 => ?_)
      · have hlt := hlt' h1
        have hg := aggD_get hlt
        have hR := hgo hlt
        generalize aggs[i] = x at *
        obtain ⟨fn, col, s⟩ := x
        have hfn := sat_Contains_string fns fn
        have hadd := sat_add (y :: r) s (by first | (simp; done) | (simp at ha ⊢; omega))
        by_cases he : (addErr (y :: r) s != 0) = true
        · rw [addR_bad he] at hadd
          simp only [he, cond_true] at hR
          generalize addErr (y :: r) s = e2 at *
          conv => whnf
          refine ⟨by omega, _, hg, rfl, ?_⟩
          repeat' ((conv => whnf); first | ((with_reducible show Sat _ _ _ _); refine Sat.mono hfn ?_; rintro _ rfl) | ((with_reducible show SatH _ _ _ _ _); refine SatH.mono hadd ?_; rintro _ rfl) | refine cond_i (fun h => ?_) (fun h => ?_))
          all_goals first | (exfalso; simp_all; done) | skip
          all_goals (conv => whnf)
          all_goals rw [hR]
          all_goals clear hfn hadd hgo hend hlt' hs hR hR0 wi hg
          all_goals unfold aggErr aggBad
          all_goals refine congrArg rI ?_
          all_goals ((try unfold cntB at *); (try generalize beqS fn ⟨#[99, 111, 117, 110, 116]⟩ = a at *); (try generalize hasB fns fn = b at *); (try generalize beqS col ⟨#[]⟩ = c at *); (try generalize identB col = d at *); (try cases a) <;> (try cases b) <;> (try cases c) <;> (try cases d) <;> simp_all; done)
        · have he : (addErr (y :: r) s != 0) = false := by simpa using he
          rw [addR_ok he] at hadd
          simp only [he, cond_false] at hR
          unfold aggErr aggBad at hR
          conv => whnf
          refine ⟨by omega, _, hg, rfl, ?_⟩
          repeat' ((conv => whnf); first | ((with_reducible show Sat _ _ _ _); refine Sat.mono hfn ?_; rintro _ rfl) | ((with_reducible show SatH _ _ _ _ _); refine SatH.mono hadd ?_; rintro _ rfl) | refine cond_i (fun h => ?_) (fun h => ?_))
          all_goals first | ((conv => whnf); (with_reducible show _ = _); rw [hR]; refine congrArg rI ?_; clear hfn hadd hgo hend hlt' hs hR hR0 wi hg; ((try unfold cntB at *); (try generalize beqS fn ⟨#[99, 111, 117, 110, 116]⟩ = a at *); (try generalize hasB fns fn = b at *); (try generalize beqS col ⟨#[]⟩ = c at *); (try generalize identB col = d at *); (try cases a) <;> (try cases b) <;> (try cases c) <;> (try cases d) <;> simp_all; done)) | skip
          all_goals
            (conv => whnf)
            refine ⟨(i + 1, 601152, (y :: r) ++ [s]), ⟨⟨hlt, .inr rfl, by simp at ha ⊢; omega, ?_⟩, by show aggs.length - (i + 1) < aggs.length - i; omega⟩, normW_of ?_⟩
            · rw [hR]; clear hfn hadd hgo hend hlt' hs hR hR0 wi hg; ((try unfold cntB at *); (try generalize beqS fn ⟨#[99, 111, 117, 110, 116]⟩ = a at *); (try generalize hasB fns fn = b at *); (try generalize beqS col ⟨#[]⟩ = c at *); (try generalize identB col = d at *); (try cases a) <;> (try cases b) <;> (try cases c) <;> (try cases d) <;> simp_all; done)
            · conv => whnf
              rw [wi hlt]
              show _ = S.mk _ [(3, .box [.own 601152 1 (y :: (r ++ [s])).length]), _]
              rw [show (y :: (r ++ [s])).length = (y :: r).length + 1 by simp]
              rfl
      · have hE := hend h1
        rw [hE]
        conv => whnf
        rfl

theorem sat_group (op eo : Int) (nm : ByteArray) (k n : Int) (s : ByteArray) (ks items : List (List D)) (cols : List ByteArray) (aggs : List Agg) (sorts : List (List D)) (m : Int) (tb : ByteArray) :
    Sat Pg k_syntax_group [.agg [int op, int eo, str nm, int k, int n, str s, .d (.sl ks), .d (.sl items), .d (.sl (strsD cols)), .d (.sl (aggD aggs)), .d (.sl sorts), int m, str tb]] (fun r => r = rI (groupErr cols aggs)) := by
  unfold groupErr
  rw [← strsD_len, ← aggD_len]
  refine Sat_of T5 c_syntax_group_ok (by kernel_rfl) ?_
  conv => whnf
  refine cond_i (fun h => ?_) (fun h => ?_)
  · have h : (IntKind.i64.wrap (((strsD cols).length : Int) + (aggD aggs).length) == 0) = true := h
    conv => whnf
    rw [h]; rfl
  · have h : (IntKind.i64.wrap (((strsD cols).length : Int) + (aggD aggs).length) == 0) = false := h
    rw [h, cond_false]
    conv => whnf
    refine cond_i (fun h1 => ?_) (fun h1 => ?_)
    · have h1 : (decide (((strsD cols).length : Int) > 16) || decide (((aggD aggs).length : Int) > 16)) = true := h1
      conv => whnf
      rw [h1]; rfl
    · have h1 : (decide (((strsD cols).length : Int) > 16) || decide (((aggD aggs).length : Int) > 16)) = false := h1
      rw [h1, cond_false]
      simp only [Bool.or_eq_false_iff, decide_eq_false_iff_not, strsD_len, aggD_len] at h1
      conv => whnf
      refine SatH.mono (sat_all cols (by omega)) ?_
      rintro _ rfl
      have hacc := allErr_acc cols []
      unfold allR
      generalize allErr [] cols = e at *
      by_cases he : (e != 0) = true
      · rw [he, cond_true]
        cases allAcc [] cols with
        | nil =>
          conv => whnf
          refine cond_i (fun h2 => ?_) (fun h2 => ?_)
          · conv => whnf
            rfl
          · exact absurd (he.symm.trans h2) (by simp)
        | cons x r =>
          conv => whnf
          refine cond_i (fun h2 => ?_) (fun h2 => ?_)
          · conv => whnf
            rfl
          · exact absurd (he.symm.trans h2) (by simp)
      · have he : (e != 0) = false := by simpa using he
        have he0 : e = 0 := by simpa using he
        rw [hacc he, List.nil_append, he, cond_false, he0]
        have hc16 : cols.length ≤ 16 := by omega
        cases hcc : cols with
        | nil =>
          rw [hcc] at hc16
          conv => whnf
          refine gr_loop aggs [] (by omega) hc16 _ 600496 (.inl rfl) (normW_of ?_)
          conv => whnf
          rfl
        | cons x r =>
          rw [hcc] at hc16
          conv => whnf
          refine gr_loop aggs (x :: r) (by omega) hc16 _ 600496 (.inl rfl) (normW_of ?_)
          conv => whnf
          rfl
end Go.Proofs.YtekkjilpdohieaaGreat

namespace Go.Proofs.YtekkjilpdohieaaGreat
open Go Go.AM
attribute [local irreducible] Sat SatH LoopP
set_option maxRecDepth 100000
set_option maxHeartbeats 1000000

def srtD (l : List Srt) : List (List D) := l.map Srt.ds
theorem srtD_len (l : List Srt) : (srtD l).length = l.length := by simp [srtD]
theorem srtD_get {r : List Srt} {i : Nat} (h : i < r.length) : (srtD r)[((i : Int)).toNat]? = some (r[i]).ds := by simp [srtD, List.getElem?_eq_getElem h]
def Stp.err (s : Stp) : Int :=
  bif !s.uses then 1 else bif s.op == 1 then s.cond.chk else
  bif s.op == 2 then (bif sizeE s.items.length 1 != 0 then sizeE s.items.length 1 else itemsErr [] s.items) else
  bif s.op == 3 then groupErr s.cols s.aggs else bif s.op == 4 then colsErr (s.sorts.map Srt.col) 1 else
  bif s.op == 5 then (bif decide (s.n < 0) || decide (s.n > 20000) then 2 else 0) else bif s.op == 9 then colsErr s.cols 0 else
  bif !identB s.table then 3 else colsErr s.cols (bif s.op == 6 then 1 else 0)
def stpS (l : List Srt) (i : Nat) : List ByteArray → S
  | [] => ⟨[(4, cV .nil), (37, .w (.c (.d (.sl (srtD l))))), (38, intV (srtD l).length), (39, intV i)], []⟩
  | x :: r => ⟨[(4, cV (.own 47 1 (x :: r).length)), (37, .w (.c (.d (.sl (srtD l))))), (38, intV (srtD l).length), (39, intV i)], [(47, .arr 1 (strsD (x :: r)) false)]⟩
theorem sat_Step (s : Stp) (hs : s.sorts.length ≤ 1000000) : Sat Pg k_syntax_Step [s.w] (fun r => r = rI s.err) := by
  obtain ⟨op, ⟨eo, nm, ⟨vk, vn, vs⟩, ks⟩, items, cols, aggs, sorts, n, tb⟩ := s
  have hu : Sat Pg k_syntax_uses [Stp.w ⟨op, ⟨eo, nm, ⟨vk, vn, vs⟩, ks⟩, items, cols, aggs, sorts, n, tb⟩] (fun r => r = rB (Stp.uses ⟨op, ⟨eo, nm, ⟨vk, vn, vs⟩, ks⟩, items, cols, aggs, sorts, n, tb⟩)) := by
    have := sat_uses op eo nm vk vn vs (exsD ks) (itmsD items) (strsD cols) (aggD aggs) (srtD sorts) n tb
    rw [exsD_len, itmsD_len, strsD_len, aggD_len, srtD_len] at this
    exact this
  have hg := sat_group op eo nm vk vn vs (exsD ks) (itmsD items) cols aggs (srtD sorts) n tb
  have he := sat_Expr ⟨eo, nm, ⟨vk, vn, vs⟩, ks⟩
  have hi := sat_items items
  have hc := sat_columns cols
  have hs : sorts.length ≤ 1000000 := hs
  unfold Stp.err
  simp only
  generalize (Stp.uses ⟨op, ⟨eo, nm, ⟨vk, vn, vs⟩, ks⟩, items, cols, aggs, sorts, n, tb⟩) = u at *
  generalize Ex.chk ⟨eo, nm, ⟨vk, vn, vs⟩, ks⟩ = ce at *
  generalize groupErr cols aggs = ge at *
  rw [← itmsD_len]
  refine Sat_of T5 c_syntax_Step_ok (by kernel_rfl) ?_
  conv => whnf
  refine Sat.mono (hu) ?_
  rintro _ rfl
  conv => whnf
  refine cond_i (fun h1 => ?_) (fun h1 => ?_)
  · have h1 : (!u) = true := h1
    conv => whnf
    rw [h1]; rfl
  · have h1 : (!u) = false := h1
    rw [h1, cond_false]
    clear h1
    conv => whnf
    refine cond_i (fun h2 => ?_) (fun h2 => ?_)
    · have h2 : (op == 1) = true := h2
      conv => whnf
      refine Sat.mono (he) ?_
      rintro _ rfl
      conv => whnf
      rw [h2]; rfl
    · have h2 : (op == 1) = false := h2
      rw [h2, cond_false]
      conv => whnf
      refine cond_i (fun h3 => ?_) (fun h3 => ?_)
      · have h3 : (op == 2) = true := h3
        rw [h3, cond_true]
        conv => whnf
        refine cond_i (fun h4 => ?_) (fun h4 => ?_)
        · have h4 : (sizeE (itmsD items).length 1 != 0) = true := h4
          conv => whnf
          rw [h4]; rfl
        · have h4 : (sizeE (itmsD items).length 1 != 0) = false := h4
          have hl := sizeE_le h4
          rw [itmsD_len] at hl
          rw [h4, cond_false]
          conv => whnf
          refine Sat.mono (hi (by omega)) ?_
          rintro _ rfl
          rfl
      · have h3 : (op == 2) = false := h3
        rw [h3, cond_false]
        conv => whnf
        refine cond_i (fun h4 => ?_) (fun h4 => ?_)
        · have h4 : (op == 3) = true := h4
          rw [h4, cond_true]
          conv => whnf
          refine Sat.mono (hg) ?_
          rintro _ rfl
          rfl
        · have h4 : (op == 3) = false := h4
          rw [h4, cond_false]
          conv => whnf
          refine cond_i (fun h5 => ?_) (fun h5 => ?_)
          · have h5 : (op == 4) = true := h5
            rw [h5, cond_true]
            conv => whnf
            refine loopI (P := Pg) (f := T5.f) (body := c_syntax_Step_L0) sorts.length (fun i => stpS sorts i ((sorts.map Srt.col).take i)) (fun _ => True) ⟨trivial, normW_of ?_⟩ ?_
            · conv => whnf
              rfl
            · intro i hi' _
              have wi : i < sorts.length → IntKind.i64.wrap ((i : Int) + 1) = ((i + 1 : Nat) : Int) := fun h => wrapS h (by omega)
              have hlt' : decide ((i : Int) < ((srtD sorts).length : Int)) = true → i < sorts.length := fun h => by have := of_decide_eq_true h; rw [srtD_len] at this; omega
              have hend : decide ((i : Int) < ((srtD sorts).length : Int)) = false → (sorts.map Srt.col).take i = sorts.map Srt.col := fun h => by
                have := of_decide_eq_false h
                rw [srtD_len] at this
                rw [List.take_of_length_le]
                rw [List.length_map]; omega
              have hnx : ∀ h : i < sorts.length, (sorts.map Srt.col).take (i + 1) = (sorts.map Srt.col).take i ++ [sorts[i].col] := fun h => by
                rw [take_snoc (by rw [List.length_map]; exact h), List.getElem_map]
              have hal : ((sorts.map Srt.col).take i).length ≤ 1000000 := by rw [List.length_take, List.length_map]; omega
              cases hacc : (sorts.map Srt.col).take i with
              | nil =>
                rw [hacc] at hnx hend
                conv => whnf
                refine cond_i (fun k1 => ?_) (fun k1 => ?_)
                · have hlt := hlt' k1
                  have hg := srtD_get hlt
                  have hnx := hnx hlt
                  generalize sorts[i] = x at *
                  obtain ⟨c, b⟩ := x
                  conv => whnf
                  refine ⟨by omega, _, hg, rfl, ?_⟩
                  conv => whnf
                  refine ⟨by simp, by unfold fits; simp, by simp, ?_⟩
                  conv => whnf
                  refine ⟨hlt, trivial, normW_of ?_⟩
                  conv => whnf
                  rw [hnx, wi hlt]
                  rfl
                · have hE := hend k1
                  rw [← hE]
                  conv => whnf
                  refine Sat.mono (sat_columns [] 1) ?_
                  rintro _ rfl
                  rfl
              | cons y r =>
                rw [hacc] at hnx hend hal
                conv => whnf
                refine cond_i (fun k1 => ?_) (fun k1 => ?_)
                · have hlt := hlt' k1
                  have hg := srtD_get hlt
                  have hnx := hnx hlt
                  generalize sorts[i] = x at *
                  obtain ⟨c, b⟩ := x
                  conv => whnf
                  refine ⟨by omega, _, hg, rfl, ?_⟩
                  conv => whnf
                  refine ⟨by simp, by unfold fits; simp at hal ⊢; omega, by simp at hal ⊢; omega, ?_⟩
                  conv => whnf
                  refine ⟨hlt, trivial, normW_of ?_⟩
                  conv => whnf
                  rw [hnx, wi hlt]
                  have htk : (strsD (y :: r)).take ((y :: r).length) = strsD (y :: r) := by rw [← strsD_len, List.take_length]
                  show _ = S.mk [(4, cV (.own 47 1 (y :: (r ++ [c])).length)), _, _, _] [(47, .arr 1 (strsD ((y :: r) ++ [c])) false)]
                  rw [show (y :: (r ++ [c])).length = (y :: r).length + 1 by simp, show strsD ((y :: r) ++ [c]) = (strsD (y :: r)).take ((y :: r).length) ++ strsD [c] by rw [htk]; simp [strsD]]
                  rfl
                · have hE := hend k1
                  have htk : (strsD (y :: r)).take ((y :: r).length) = strsD (y :: r) := by rw [← strsD_len, List.take_length]
                  have hcc := sat_columns (y :: r) 1
                  unfold strsC at hcc
                  rw [← htk] at hcc
                  rw [← hE]
                  conv => whnf
                  refine Sat.mono (hcc) ?_
                  rintro _ rfl
                  rfl
          · have h5 : (op == 4) = false := h5
            rw [h5, cond_false]
            conv => whnf
            refine cond_i (fun h6 => ?_) (fun h6 => ?_)
            · have h6 : (op == 5) = true := h6
              rw [h6, cond_true]
              conv => whnf
              refine cond_i (fun h7 => ?_) (fun h7 => ?_)
              · have h7 : (decide (n < 0) || decide (n > 20000)) = true := h7
                rw [h7, cond_true]
                conv => whnf
                rfl
              · have h7 : (decide (n < 0) || decide (n > 20000)) = false := h7
                rw [h7, cond_false]
                conv => whnf
                rfl
            · have h6 : (op == 5) = false := h6
              rw [h6, cond_false]
              conv => whnf
              refine cond_i (fun h7 => ?_) (fun h7 => ?_)
              · have h7 : (op == 9) = true := h7
                rw [h7, cond_true]
                conv => whnf
                refine Sat.mono (hc 0) ?_
                rintro _ rfl
                rfl
              · have h7 : (op == 9) = false := h7
                rw [h7, cond_false]
                conv => whnf
                refine cond_i (fun h8 => ?_) (fun h8 => ?_)
                · have h8 : (!identB tb) = true := h8
                  rw [h8, cond_true]
                  conv => whnf
                  rfl
                · have h8 : (!identB tb) = false := h8
                  rw [h8, cond_false]
                  conv => whnf
                  refine cond_i (fun h9 => ?_) (fun h9 => ?_)
                  · have h9 : (op == 6) = true := h9
                    rw [h9, cond_true]
                    conv => whnf
                    refine Sat.mono (hc 1) ?_
                    rintro _ rfl
                    rfl
                  · have h9 : (op == 6) = false := h9
                    rw [h9, cond_false]
                    conv => whnf
                    refine Sat.mono (hc 0) ?_
                    rintro _ rfl
                    rfl

structure Qry where
  src : ByteArray
  steps : List Stp
def stpD (l : List Stp) : List (List D) := l.map Stp.ds
theorem stpD_len (l : List Stp) : (stpD l).length = l.length := by simp [stpD]
theorem stpD_get {r : List Stp} {i : Nat} (h : i < r.length) : (stpD r)[((i : Int)).toNat]? = some (r[i]).ds := by simp [stpD, List.getElem?_eq_getElem h]
def Qry.w (q : Qry) : W := .agg [str q.src, .d (.sl (stpD q.steps))]
def stepsErr : List Stp → Int
  | [] => 0
  | s :: r => bif s.err != 0 then s.err else stepsErr r
def Qry.err (q : Qry) : Int := bif !identB q.src then 3 else bif decide ((q.steps.length : Int) > 16) then 7 else stepsErr q.steps
theorem sat_Query (q : Qry) (hs : ∀ s ∈ q.steps, s.sorts.length ≤ 1000000) : Sat Pg k_syntax_Query [q.w] (fun r => r = rI q.err) := by
  obtain ⟨src, l⟩ := q
  have hs : ∀ s ∈ l, s.sorts.length ≤ 1000000 := hs
  unfold Qry.err
  simp only
  rw [← stpD_len]
  refine Sat_of T5 c_syntax_Query_ok (by kernel_rfl) ?_
  conv => whnf
  refine cond_i (fun h1 => ?_) (fun h1 => ?_)
  · have h1 : (!identB src) = true := h1
    rw [h1, cond_true]
    conv => whnf
    rfl
  · have h1 : (!identB src) = false := h1
    rw [h1, cond_false]
    conv => whnf
    refine cond_i (fun h2 => ?_) (fun h2 => ?_)
    · have h2 : decide (((stpD l).length : Int) > 16) = true := h2
      rw [h2, cond_true]
      conv => whnf
      rfl
    · have h2 : decide (((stpD l).length : Int) > 16) = false := h2
      rw [h2, cond_false]
      have h2 := of_decide_eq_false h2
      rw [stpD_len] at h2
      conv => whnf
      refine loopI (P := Pg) (f := T5.f) (body := c_syntax_Query_L0) l.length (fun i => ⟨[(17, .w (.c (.d (.sl (stpD l))))), (18, intV (stpD l).length), (19, intV i)], []⟩) (fun i => stepsErr l = stepsErr (l.drop i)) ⟨rfl, normW_of ?_⟩ ?_
      · conv => whnf
        rfl
      · intro i hi hR
        conv => whnf
        refine cond_i (fun k1 => ?_) (fun k1 => ?_)
        · have hlt : i < l.length := by have := of_decide_eq_true k1; rw [stpD_len] at this; omega
          rw [drop_cons hlt] at hR
          have hg := stpD_get hlt
          have hm := hs _ (List.getElem_mem hlt)
          generalize l[i] = s at *
          have hst := sat_Step s hm
          simp only [stepsErr] at hR
          generalize s.err = e at *
          obtain ⟨op, ⟨eo, nm, ⟨vk, vn, vs⟩, ks⟩, items, cols, aggs, sorts, n, tb⟩ := s
          conv => whnf
          refine ⟨by omega, _, hg, rfl, ?_⟩
          conv => whnf
          refine Sat.mono (hst) ?_
          rintro _ rfl
          conv => whnf
          refine cond_i (fun k2 => ?_) (fun k2 => ?_)
          · have k2 : (e != 0) = true := k2
            rw [k2, cond_true] at hR
            conv => whnf
            rw [hR]; rfl
          · have k2 : (e != 0) = false := k2
            rw [k2, cond_false] at hR
            conv => whnf
            refine ⟨hlt, hR, normW_of ?_⟩
            conv => whnf
            rw [wrapS hlt (by omega)]
            rfl
        · have hge : l.length ≤ i := by have := of_decide_eq_false k1; rw [stpD_len] at this; omega
          rw [List.drop_eq_nil_of_le hge] at hR
          conv => whnf
          rw [hR]; rfl
end Go.Proofs.YtekkjilpdohieaaGreat

namespace Go.Proofs.YtekkjilpdohieaaGreat
open Go Go.AM
attribute [local irreducible] Sat SatH LoopP
set_option maxRecDepth 100000
set_option maxHeartbeats 1000000

def linBad (s : Stp) (name : ByteArray) : Bool := bif s.op == 1 || s.op == 2 then false else bif s.op == 6 || s.op == 7 then beqS s.table name else true
def linB (q : Qry) (name : ByteArray) : Bool := bif q.err != 0 || !beqS q.src name then false else !q.steps.any fun s => linBad s name
end Go.Proofs.YtekkjilpdohieaaGreat

namespace Go.AM

/-- Consecutive fields. -/
def laid (P : Program) : Nat → List Field → Option Nat
  | o, [] => some o
  | o, f :: r => bif Nat.beq f.offset o then laid P (o + P.cellsOf f.type) r else none

def plainTy (P : Program) : Nat → TypeId → Bool
  | 0, _ => false
  | n + 1, t => match P.underlying t with
    | some .bool => true
    | some (.int _) => true
    | some .string => true
    | some (.slice e) => Nat.blt 0 (P.cellsOf e) && plainTy P n e
    | some (.struct fs) => (match laid P 0 fs.toList with | some m => Nat.beq m (P.cellsOf t) | none => false) && fs.toList.all fun f => plainTy P n f.type
    | _ => false

def All2 {α β : Type} (R : α → β → Prop) : List α → List β → Prop
  | [], [] => True
  | x :: xs, y :: ys => R x y ∧ All2 R xs ys
  | _, _ => False

/-- The data that a type's values read as. -/
def Ty (P : Program) : Nat → TypeId → List D → Prop
  | 0, _, _ => False
  | n + 1, t, ds => match P.underlying t with
    | some .bool => ∃ b, ds = [.lit (.bool b)]
    | some (.int k) => ∃ m, ds = [.lit (.int k m)] ∧ (Lit.int k m).wf = true
    | some .string => ∃ s : ByteArray, ds = [.lit (.string s)] ∧ s.size ≤ maxLen
    | some (.slice e) => ∃ els, ds = [.sl els] ∧ els.length ≤ maxLen ∧ ∀ y ∈ els, Ty P n e y
    | some (.struct fs) => ∃ dss : List (List D), ds = dss.flatten ∧ All2 (fun f d => Ty P n f.type d) fs.toList dss
    | _ => False

end Go.AM

namespace Go.AM

section
variable {H : Type} {enc : TypeId × Value → H} {P : Program} {w : World} {base : Nat} {spare : Nat → Bool} {held : Bool} {ι : Nat → Gh}

def Okw (w : World) (b : Nat) : Prop := b < w.heap.size

theorem addr_add' (a : Addr) (j : Nat) (h : a.spot = none) : a.add j = ⟨a.block, a.off + j, none⟩ := by
  cases a with
  | mk b o s => cases h; exact addr_add b o j

theorem cell_spot {a : Addr} {v : Value} (h : w.cell? a = some v) : a.spot = none ∧ a.block < w.heap.size := by
  unfold World.cell? at h
  split at h
  · rename_i hb
    cases hs : a.spot with
    | none => exact ⟨rfl, (Array.getElem?_eq_some_iff.1 hb).1⟩
    | some s => rw [hs] at h; simp at h
  · cases h

theorem RDc_of_CRs {b : Nat} : ∀ {ds : List D} {vs : List Value} {o : Nat}, CRs ι w (Okw w) (ds.map .d) vs → (∀ j v, vs[j]? = some v → w.cell? ⟨b, o + j, none⟩ = some v) → RDc w (Okw w) b o ds
  | [], _, _, _, _ => by simp only [RDc]
  | d :: ds, [], _, h, _ => h.elim
  | d :: ds, v :: vs, o, h, hc => by
    simp only [RDc]
    refine ⟨⟨v, hc 0 v rfl, h.1⟩, RDc_of_CRs h.2 fun j u hu => ?_⟩
    rw [show o + 1 + j = o + (j + 1) by omega]
    exact hc (j + 1) u (by simpa using hu)

theorem RDs_of {b sz : Nat} : ∀ (els : List (List D)) (o : Nat), (∀ (i : Nat) (e : List D), els[i]? = some e → e.length = sz ∧ RDc w (Okw w) b (o + i * sz) e) → RDs w (Okw w) b sz o els
  | [], _, _ => by simp only [RDs]
  | e :: r, o, h => by
    simp only [RDs]
    refine ⟨(h 0 e rfl).1, by simpa using (h 0 e rfl).2, RDs_of r (o + sz) fun i x hx => ?_⟩
    have := h (i + 1) x (by simpa using hx)
    refine ⟨this.1, ?_⟩
    rw [show o + sz + i * sz = o + (i + 1) * sz by rw [Nat.add_mul, Nat.one_mul]; omega]
    exact this.2
end

end Go.AM

namespace Go.AM

section
variable {H : Type} {enc : TypeId × Value → H} {P : Program} {w : World} {base : Nat} {spare : Nat → Bool} {held : Bool} {ι : Nat → Gh}

theorem RDc_len {ok : Nat → Prop} : ∀ {ds : List D} {vs : List Value}, CRs ι w ok (ds.map .d) vs → ds.length = vs.length := fun h => by
  have := h.length
  simpa using this

/-- The elements of a row, each of which reads. -/
theorem els_of {R : List D → Prop} {ok : Nat → Prop} {g : Nat → Option (List Value)} : ∀ (len : Nat), (∀ i, i < len → ∃ cs ds, g i = some cs ∧ R ds ∧ CRs ι w ok (ds.map .d) cs) →
    ∃ els : List (List D), els.length = len ∧ (∀ y ∈ els, R y) ∧ ∀ i e, els[i]? = some e → ∃ cs, g i = some cs ∧ CRs ι w ok (e.map .d) cs
  | 0, _ => ⟨[], rfl, fun _ h => (by cases h), fun i e h => (by simp at h)⟩
  | n + 1, h => by
    obtain ⟨els, h1, h2, h3⟩ := els_of (R := R) (ok := ok) (g := g) n (fun i hi => h i (by omega))
    obtain ⟨cs, ds, h4, h5, h6⟩ := h n (by omega)
    refine ⟨els ++ [ds], by simp [h1], fun y hy => ?_, fun i e he => ?_⟩
    · rcases List.mem_append.1 hy with hy | hy
      · exact h2 y hy
      · simp at hy; subst hy; exact h5
    · by_cases hi : i < els.length
      · rw [List.getElem?_append_left hi] at he
        exact h3 i e he
      · rw [List.getElem?_append_right (by omega)] at he
        have : i - els.length = 0 := by
          rcases Nat.eq_zero_or_pos (i - els.length) with h | h
          · exact h
          · rw [List.getElem?_eq_none (by simp; omega)] at he; cases he
        rw [this] at he
        simp at he
        subst he
        rw [show i = n by omega]
        exact ⟨cs, h4, h6⟩

/-- Fields one behind the other. -/
theorem fields_of {ok : Nat → Prop} {n : Nat} (cs : List Value) : ∀ (fs : List Field) (o m : Nat), laid P o fs = some m → m ≤ cs.length →
    (∀ f ∈ fs, ∃ ds, Ty P n f.type ds ∧ CRs ι w ok (ds.map .d) ((cs.drop f.offset).take (P.cellsOf f.type))) →
    o ≤ m ∧ ∃ dss : List (List D), All2 (fun f d => Ty P n f.type d) fs dss ∧ CRs ι w ok (dss.flatten.map .d) ((cs.drop o).take (m - o))
  | [], o, m, h, _, _ => by
    cases h
    exact ⟨Nat.le_refl _, [], trivial, by simp; trivial⟩
  | f :: fs, o, m, h, hm, hall => by
    simp only [laid] at h
    cases hb : Nat.beq f.offset o with
    | false => rw [hb] at h; cases h
    | true =>
      rw [hb] at h
      have hb := Nat.eq_of_beq_eq_true hb
      obtain ⟨ds, h1, h2⟩ := hall f List.mem_cons_self
      obtain ⟨h3, dss, h4, h5⟩ := fields_of cs fs _ m h hm fun f' hf => hall f' (List.mem_cons_of_mem _ hf)
      refine ⟨by omega, ds :: dss, ⟨h1, h4⟩, ?_⟩
      rw [hb] at h2
      rw [List.flatten_cons, List.map_append]
      have : (cs.drop o).take (m - o) = (cs.drop o).take (P.cellsOf f.type) ++ (cs.drop (o + P.cellsOf f.type)).take (m - (o + P.cellsOf f.type)) := by
        rw [show m - o = P.cellsOf f.type + (m - (o + P.cellsOf f.type)) by omega, List.take_add, List.drop_drop]
      rw [this]
      exact CRs.append h2 h5
end

end Go.AM

namespace Go.AM

section
variable {H : Type} {enc : TypeId × Value → H} {P : Program} {w : World} {base : Nat} {spare : Nat → Bool} {held : Bool} {ι : Nat → Gh}

theorem readD : ∀ (n : Nat) (t : TypeId), plainTy P n t = true → ∀ (fuel : Nat) (cs : List Value) (x : DataW H × List MemPlace), DataW.trod enc P w base spare held fuel t cs = some x →
    ∃ ds, Ty P n t ds ∧ CRs ι w (Okw w) (ds.map .d) cs := by
  intro n
  induction n with
  | zero => intro t h; cases h
  | succ n ih =>
    intro t hp fuel cs x hx
    simp only [plainTy] at hp
    simp only [Ty]
    split at hp
    · rename_i hu
      obtain ⟨b, rfl, _⟩ := DataW.trod_bool hu hx
      exact ⟨_, ⟨b, rfl⟩, ⟨by simp only [CR, RD]; exact ⟨trivial, rfl⟩, trivial⟩⟩
    · rename_i k hu
      obtain ⟨m, rfl, _, hw⟩ := DataW.trod_int hu hx
      exact ⟨_, ⟨m, rfl, hw⟩, ⟨by simp only [CR, RD]; exact ⟨trivial, rfl⟩, trivial⟩⟩
    · rename_i hu
      obtain ⟨s, rfl, _, hw⟩ := DataW.trod_string hu hx
      exact ⟨_, ⟨s, rfl, hw⟩, ⟨by simp only [CR, RD]; exact ⟨trivial, rfl⟩, trivial⟩⟩
    · rename_i e hu
      rw [Bool.and_eq_true] at hp
      have hpos : 0 < P.cellsOf e := Nat.le_of_ble_eq_true hp.1
      rcases DataW.trod_slice hu hx with ⟨rfl, _⟩ | ⟨a, len, cap, elems, rest, m, _, rfl, _, hb, hl, hm, hlen, hel, _, _⟩
      · exact ⟨_, ⟨[], rfl, Nat.zero_le _, fun _ h => (by cases h)⟩, ⟨by simp only [CR, RD]; exact ⟨none, 0, 0, rfl, rfl, Nat.le_refl _, Nat.zero_le _, .inl trivial⟩, trivial⟩⟩
      · obtain ⟨els, h1, h2, h3⟩ := els_of (w := w) (ι := ι) (R := Ty P n e) (ok := Okw w) (g := fun i => w.cells? base (a.add (i * P.cellsOf e)) (P.cellsOf e)) len (fun i hi => by
          have h := hel i hi
          rw [List.getElem?_eq_getElem (by omega)] at h
          obtain ⟨cs', g1, g2⟩ := Option.bind_eq_some_iff.1 h
          obtain ⟨ds, g3, g4⟩ := ih e hp.2 m cs' _ g2
          exact ⟨cs', ds, g1, g3, g4⟩)
        refine ⟨_, ⟨els, rfl, by omega, h2⟩, ⟨?_, trivial⟩⟩
        simp only [CR, RD]
        refine ⟨some a, len, cap, rfl, h1.symm, hl, hm, ?_⟩
        cases hels : els with
        | nil => exact .inl rfl
        | cons e0 r =>
          right
          have hcell : ∀ i y, els[i]? = some y → ∃ cs', cs'.length = P.cellsOf e ∧ (∀ j, j < P.cellsOf e → w.cell? ((a.add (i * P.cellsOf e)).add j) = cs'[j]?) ∧ CRs ι w (Okw w) (y.map .d) cs' := fun i y hy => by
            obtain ⟨cs', g1, g2⟩ := h3 i y hy
            obtain ⟨_, g3, g4⟩ := World.cells?_some g1
            exact ⟨cs', g3, g4, g2⟩
          obtain ⟨cs0, c1, c2, _⟩ := hcell 0 e0 (by rw [hels]; rfl)
          have hc0 := c2 0 hpos
          rw [List.getElem?_eq_getElem (by omega)] at hc0
          have hspot : a.spot = none ∧ a.block < w.heap.size := by
            have := cell_spot hc0
            refine ⟨?_, ?_⟩
            · cases hs : a.spot with
              | none => rfl
              | some s => exfalso; have h5 := this.1; simp [Addr.add, hs] at h5
            · have h5 := this.2
              unfold Addr.add at h5
              (repeat' split at h5) <;> exact h5
          refine ⟨a.block, a.off, P.cellsOf e, ?_, hspot.2, ?_⟩
          · obtain ⟨b, o, s⟩ := a
            cases hspot.1; rfl
          · rw [← hels]
            refine RDs_of els a.off fun i y hy => ?_
            obtain ⟨cs', g1, g2, g3⟩ := hcell i y hy
            refine ⟨by rw [RDc_len g3, g1], RDc_of_CRs g3 fun j v hv => ?_⟩
            have hj : j < P.cellsOf e := by rw [← g1]; exact (List.getElem?_eq_some_iff.1 hv).1
            have := g2 j hj
            rw [addr_add' a _ hspot.1, addr_add] at this
            rw [this, hv]
    · rename_i fs hu
      rw [Bool.and_eq_true] at hp
      obtain ⟨hp1, hp2⟩ := hp
      split at hp1
      · rename_i m hm
        have hm' := Nat.eq_of_beq_eq_true hp1
        obtain ⟨xs, k, _, _, hlen, hxs, hf⟩ := DataW.trod_struct hu hx
        obtain ⟨_, dss, h1, h2⟩ := fields_of (w := w) (ι := ι) (ok := Okw w) (n := n) cs fs.toList 0 m hm (by omega) (fun f hfm => by
          obtain ⟨i, hi⟩ := List.getElem?_of_mem hfm
          have hi' : fs[i]? = some f := by rw [← Array.getElem?_toList]; exact hi
          have hlt : i < xs.length := by rw [hxs]; exact (Array.getElem?_eq_some_iff.1 hi').1
          have h := hf i f hi'
          rw [List.getElem?_eq_getElem hlt] at h
          exact ih f.type (List.all_eq_true.1 hp2 f hfm) k _ _ h)
        refine ⟨dss.flatten, ⟨dss, rfl, h1⟩, ?_⟩
        rw [List.drop_zero, Nat.sub_zero, List.take_of_length_le (by omega)] at h2
        exact h2
      · cases hp1
    · cases hp
end

end Go.AM

namespace Go.AM
open Go.RowKit Go.WideShapes Go.ChangeShapes

section
variable {H : Type} {enc : TypeId × Value → H} {P : Program}

def isAggTy (P : Program) (t : TypeId) : Bool := match P.underlying t with | some (.struct _) => true | some (.array _ _) => true | _ => false

/-- An argument of this type, as the machine has it. -/
def Arg (P : Program) (n : Nat) (t : TypeId) (x : W) : Prop := ∃ ds, Ty P n t ds ∧ (isAggTy P t = true → x = .agg (ds.map .d)) ∧ (isAggTy P t = false → ∃ d, ds = [d] ∧ x = .c (.d d))

theorem cells_of_ok {W : World} {b0 : Nat} {t : TypeId} {v : Value} (hval : Value.okWide P W .any b0 t v) (ha : isAggTy P t = false) : v.cells = #[v] := by
  unfold Value.okWide at hval
  unfold isAggTy at ha
  split at hval
  · rename_i h; rw [h] at ha; cases ha
  · rename_i h; rw [h] at ha; cases ha
  · cases v with
    | agg cs =>
      unfold Cell.okWide at hval
      unfold Cell.ok at hval
      (repeat' split at hval) <;> first | exact hval.elim | (rename_i h _; cases h) | skip
      all_goals simp_all
    | _ => rfl

theorem agg_of_ok {W : World} {b0 : Nat} {t : TypeId} {v : Value} (hval : Value.okWide P W .any b0 t v) (ha : isAggTy P t = true) : ∃ cs, v = .agg cs := by
  unfold Value.okWide at hval
  unfold isAggTy at ha
  split at hval
  · exact ⟨_, hval.choose_spec.1⟩
  · exact ⟨_, hval.choose_spec.1⟩
  · rename_i h1 h2
    split at ha
    · rename_i h; exact absurd h (h1 _)
    · rename_i h; exact absurd h (h2 _ _)
    · cases ha

theorem readArg {W : World} {b0 : Nat} {n : Nat} {t : TypeId} {v : Value} {d : DataW H} {p : List MemPlace} {ι : Nat → Gh} (hp : plainTy P n t = true) (hval : Value.okWide P W .any b0 t v)
    (h : DataW.Trod enc P W 0 (fun _ => true) true t v d p) : ∃ x, Arg P n t x ∧ WR ι W (Okw W) x v := by
  obtain ⟨fuel, hf⟩ := h
  obtain ⟨ds, hty, hcs⟩ := readD (ι := ι) n t hp fuel _ _ hf
  cases ha : isAggTy P t with
  | true =>
    obtain ⟨cs, rfl⟩ := agg_of_ok hval ha
    refine ⟨.agg (ds.map .d), ⟨ds, hty, fun _ => rfl, fun h => (by rw [ha] at h; cases h)⟩, cs.toList, by simp, ?_⟩
    simpa [Value.cells] using hcs
  | false =>
    rw [cells_of_ok hval ha] at hcs
    match ds, hcs with
    | [d], hcs => exact ⟨.c (.d d), ⟨[d], hty, fun h => (by rw [ha] at h; cases h), fun _ => ⟨d, rfl, rfl⟩⟩, hcs.1⟩
    | [], hcs => exact hcs.elim
    | _ :: _ :: _, hcs => exact hcs.2.elim

theorem readArgs {W : World} {b0 : Nat} {n : Nat} {ι : Nat → Gh} : ∀ (ts : List TypeId) (vs : List Value) (ds : List (DataW H)) (p : List MemPlace), (∀ t ∈ ts, plainTy P n t = true) →
    (∀ (j : Nat) t v, ts[j]? = some t → vs[j]? = some v → Value.okWide P W .any b0 t v) → DataW.TrodAll enc P W 0 (fun _ => true) true ts vs ds p →
    ∃ xs, All2 (Arg P n) ts xs ∧ WRs ι W (Okw W) xs vs ∧ ds.length = ts.length
  | [], vs, ds, p, _, _, h => by
    obtain ⟨rfl, rfl, rfl⟩ := trodAll_nil h
    exact ⟨[], trivial, trivial, rfl⟩
  | t :: ts, vs, ds, p, hp, hval, h => by
    obtain ⟨v, vs1, d, ds1, a, b, rfl, rfl, rfl, h1, h2⟩ := trodAll_cons h
    obtain ⟨x, hx1, hx2⟩ := readArg (ι := ι) (hp t List.mem_cons_self) (hval 0 t v rfl rfl) h1
    obtain ⟨xs, hxs1, hxs2, hl⟩ := readArgs (ι := ι) ts vs1 ds1 b (fun t ht => hp t (List.mem_cons_of_mem _ ht)) (fun j t v hj hv => hval (j + 1) t v hj hv) h2
    exact ⟨x :: xs, ⟨hx1, hxs1⟩, ⟨hx2, hxs2⟩, by simp [hl]⟩

theorem argsStay {W W' : World} (hl : laidOutB P = true) (hb : Below W.heap.size W W') (sp : Nat → Bool) : ∀ (ts : List TypeId) (vs : List Value) (ds : List (DataW H)) (p : List MemPlace), (∀ t ∈ ts, P.readableRec t = true ∧ t < P.types.size) →
    (∀ x ∈ p, sp x.block = true) → (∀ x ∈ p, x.block < W.heap.size) → DataW.TrodAll enc P W 0 (fun _ => true) true ts vs ds p → DataW.TrodAll enc P W' 0 sp true ts vs ds p
  | [], vs, ds, p, _, _, _, h => by
    obtain ⟨rfl, rfl, rfl⟩ := trodAll_nil h
    exact rfl
  | t :: ts, vs, ds, p, ht, hsp, hlt, h => by
    obtain ⟨v, vs1, d, ds1, a, b, rfl, rfl, rfl, h1, h2⟩ := trodAll_cons h
    exact ⟨a, b, WideElems.Trod_stays hl (ht t List.mem_cons_self).1 (ht t List.mem_cons_self).2 h1 (fun x hx => hb.same (hlt x (List.mem_append_left _ hx))) (fun x hx => hsp x (List.mem_append_left _ hx)),
      argsStay hl hb sp ts vs1 ds1 b (fun t h => ht t (List.mem_cons_of_mem _ h)) (fun x hx => hsp x (List.mem_append_right _ hx)) (fun x hx => hlt x (List.mem_append_right _ hx)) h2, rfl⟩

theorem post_of_below {f : Func} {s : ChangeSpec} {apart fresh handsOn again : Bool} {W W' : World} {args : Array Value} {v : Value} {ds gs : List (DataW H)} {before pa pv : List MemPlace}
    (hW : DataW.Whole enc P f.params.toList s.vars apart W args.toList ds gs before)
    (hres : ∀ (b : Nat) (sp : Nat → Bool) (hd : Bool), DataW.TrodAll enc P W' b sp hd f.resultTypes.toList (v.resultList f.resultTypes.size) (s.fn H (ds ++ gs)).results [])
    (hargs : ∀ sp : Nat → Bool, (∀ p ∈ before, sp p.block = true) → DataW.TrodAll enc P W' 0 sp true f.params.toList args.toList (s.fn H (ds ++ gs)).args pa)
    (hvars : ∀ sp : Nat → Bool, (∀ p ∈ before, sp p.block = true) → DataW.TrodVars enc P W' sp s.vars (s.fn H (ds ++ gs)).vars pv)
    (hps : before = pa ++ pv) (hb : Below W.heap.size W W')
    (hok : ∀ (j : Nat) (t : TypeId) (r : Value), f.resultTypes[j]? = some t → (v.resultList f.resultTypes.size)[j]? = some r → Value.okWide P W' .any 0 t r) :
    s.post enc P f apart fresh handsOn again W args v W' := by
  have hlt : ∀ p ∈ before, p.block < W.heap.size := fun p hp => hW.lt p hp
  have hold : ∀ p ∈ before, (fun b => decide (b < W.heap.size)) p.block = true := fun p hp => by simpa using hlt p hp
  refine ⟨ds, gs, before, [], pa, pv, hW, hres _ _ _, hargs _ hold, hvars _ hold, World.keptBut_mono (fun p hp => ⟨hp, ?_⟩) (hb.frame (· ∈ before)), fun _ => ?_⟩
  · rw [hps, List.mem_append] at hp
    exact Or.inr hp
  · obtain ⟨_, _, _, _, _, hz, hn⟩ := hW
    refine ⟨hok, _, _, ([] ++ pa) ++ pv, ⟨[] ++ pa, pv, trodAll_append (hargs _ (fun _ _ => rfl)) (hres _ _ _), hvars _ (fun _ _ => rfl), rfl, ?_, ?_⟩, ?_⟩
    · intro b off hp
      have hin : MemPlace.cell b off ∈ before := by rw [hps]; simpa using hp
      rw [hb.frozen (hlt _ hin)]
      exact hz b off hin
    · intro ha
      have := hn ha
      rw [hps] at this
      simpa using this
    · intro p hp _
      rw [hps]
      simpa using hp

def trueRes : Res := ⟨.w (.c (.d (.lit (.bool true)))), []⟩

/-- What is asked of a law's parameters. -/
def lawTys (P : Program) (n : Nat) (ts : List TypeId) : Bool := ts.all fun t => plainTy P n t && P.readableRec t && decide (t < P.types.size)

theorem law_step {f : FuncId} {fn : Func} {s : ChangeSpec} {n : Nat} {tb : TypeId} (hl : laidOutB P = true) (htys : lawTys P n fn.params.toList = true) (hvars : s.vars = []) (hres : fn.resultTypes = #[tb]) (hb : P.underlying tb = some .bool)
    (hspec : ∀ (H : Type) (ds : List (DataW H)), ds.length = fn.params.toList.length → (s.fn H ds).results = [.lit (.bool true)] ∧ (s.fn H ds).args = ds ∧ (s.fn H ds).vars = [])
    (hsat : ∀ xs, All2 (Arg P n) fn.params.toList xs → Sat P f xs (fun r => r = trueRes)) {apart fresh handsOn again : Bool}
    (W : World) (hglb : Glb (Okw W) W) (base : Nat) (args : Array Value) (ds gs : List (DataW H)) (before : List MemPlace)
    (hval : ∀ (j : Nat) t v, fn.params[j]? = some t → args[j]? = some v → Value.okWide P W .any base t v)
    (hW : DataW.Whole enc P fn.params.toList s.vars apart W args.toList ds gs before) :
    Calls P f args W fun e W' => ∃ v, e = .returned v ∧ s.post enc P fn apart fresh handsOn again W args v W' := by
  have hW' := hW
  obtain ⟨p, q, hA, hV, rfl, hfz, hnd⟩ := hW
  rw [hvars] at hV
  obtain ⟨rfl, rfl⟩ := trodVars_none hV
  simp only [lawTys, List.all_eq_true, Bool.and_eq_true, decide_eq_true_eq] at htys
  obtain ⟨xs, h1, h2, h3⟩ := readArgs (ι := fun _ => ⟨none, 0⟩) fn.params.toList args.toList ds p (fun t ht => (htys t ht).1.1) (fun j t v hj hv => hval j t v (by simpa using hj) (by simpa using hv)) hA
  have hc := (hsat xs h1).2 W (Okw W) args.toList ⟨fun b h => h, hglb⟩ h2
  rw [Array.toArray_toList] at hc
  refine hc.mono fun e W' ⟨v, r, he, hr, hres', hg⟩ => ⟨v, he, ?_⟩
  subst hr
  obtain ⟨_, ι, hv, _⟩ := hres'
  have hv : v = .bool true := by
    simp only [VR, WR, CR, RD, trueRes] at hv
    exact hv.1
  subst hv
  obtain ⟨s1, s2, s3⟩ := hspec H (ds ++ []) (by simpa using h3)
  have hbel : Below W.heap.size W W' := ⟨hg.os, hg.tape, hg.output.1, hg.size, fun k hk => hg.block k hk fun h => h⟩
  refine post_of_below (pa := p) (pv := []) hW' ?_ ?_ ?_ (by simp) hbel ?_
  · intro b sp hd
    rw [s1, hres]
    exact trodAll_cons_mk (shut_bool hb _) trodAll_mk0
  · intro sp hsp
    rw [s2, List.append_nil]
    exact argsStay hl hbel sp _ _ _ _ (fun t ht => ⟨(htys t ht).1.2, (htys t ht).2⟩) (fun x hx => hsp x (by simpa using hx)) (fun x hx => hW'.lt x (by simpa using hx)) hA
  · intro sp _
    rw [s3, hvars]
    rfl
  · exact ok_one hres rfl (okWide_bool_mk hb _)
end

end Go.AM

namespace Go.AM
open Go.RowKit Go.WideShapes Go.ChangeShapes

/-- What a field or an element may be; 'ref' names a row of the table. -/
inductive Fd where
  | bool
  | int (k : IntKind)
  | str
  | ref (i : Nat)
inductive Sh where
  | sl (e : Fd)
  | st (fs : List Fd)

/-- The data that values of these shapes read as. -/
def TyT (tab : List Sh) : Nat → Fd → List D → Prop
  | _, .bool, ds => ∃ b, ds = [.lit (.bool b)]
  | _, .int k, ds => ∃ m, ds = [.lit (.int k m)] ∧ (Lit.int k m).wf = true
  | _, .str, ds => ∃ s : ByteArray, ds = [.lit (.string s)] ∧ s.size ≤ maxLen
  | 0, .ref _, _ => False
  | n + 1, .ref i, ds => match tab[i]? with
    | some (.sl e) => ∃ els, ds = [.sl els] ∧ els.length ≤ maxLen ∧ ∀ y ∈ els, TyT tab n e y
    | some (.st fs) => ∃ dss : List (List D), ds = dss.flatten ∧ All2 (fun f d => TyT tab n f d) fs dss
    | none => False

def okFd (P : Program) (nums : List TypeId) (t : TypeId) : Fd → Bool
  | .bool => match P.underlying t with | some .bool => true | _ => false
  | .int k => match P.underlying t with | some (.int k1) => kindEq k1 k | _ => false
  | .str => match P.underlying t with | some .string => true | _ => false
  | .ref i => match nums[i]? with | some u => Nat.beq t u | none => false
def okFds (P : Program) (nums : List TypeId) : List Field → List Fd → Bool
  | [], [] => true
  | f :: fs, d :: ds => okFd P nums f.type d && okFds P nums fs ds
  | _, _ => false
def okSh (P : Program) (nums : List TypeId) (t : TypeId) : Sh → Bool
  | .sl e => match P.underlying t with
    | some (.slice u) => Nat.blt 0 (P.cellsOf u) && okFd P nums u e
    | _ => false
  | .st fs => match P.underlying t with
    | some (.struct l) => (match laid P 0 l.toList with | some m => Nat.beq m (P.cellsOf t) | none => false) && okFds P nums l.toList fs
    | _ => false
def okTabL (P : Program) (nums : List TypeId) : List TypeId → List Sh → Bool
  | [], [] => true
  | t :: ts, s :: ss => okSh P nums t s && okTabL P nums ts ss
  | _, _ => false
def okTab (P : Program) (nums : List TypeId) (tab : List Sh) : Bool := okTabL P nums nums tab

theorem okTabL_get {P : Program} {nums : List TypeId} : ∀ {ts : List TypeId} {ss : List Sh} {i : Nat} {t : TypeId}, okTabL P nums ts ss = true → ts[i]? = some t → ∃ s, ss[i]? = some s ∧ okSh P nums t s = true
  | [], _, i, t, _, h => by simp at h
  | t :: ts, [], i, u, h, _ => by cases h
  | t :: ts, s :: ss, i, u, h, hi => by
    simp only [okTabL, Bool.and_eq_true] at h
    cases i with
    | zero => simp at hi; subst hi; exact ⟨s, rfl, h.1⟩
    | succ i =>
      simp at hi
      obtain ⟨x, hx, ho⟩ := okTabL_get h.2 hi
      exact ⟨x, by simpa using hx, ho⟩

section
variable {H : Type} {enc : TypeId × Value → H} {P : Program} {w : World} {base : Nat} {spare : Nat → Bool} {held : Bool} {ι : Nat → Gh} {nums : List TypeId} {tab : List Sh}

theorem fieldsT {ok : Nat → Prop} {n : Nat} (cs : List Value) : ∀ (fs : List Field) (gs : List Fd) (o m : Nat), laid P o fs = some m → m ≤ cs.length → okFds P nums fs gs = true →
    (∀ f ∈ fs, ∀ g, okFd P nums f.type g = true → ∃ ds, TyT tab n g ds ∧ CRs ι w ok (ds.map .d) ((cs.drop f.offset).take (P.cellsOf f.type))) →
    o ≤ m ∧ ∃ dss : List (List D), All2 (fun f d => TyT tab n f d) gs dss ∧ CRs ι w ok (dss.flatten.map .d) ((cs.drop o).take (m - o))
  | [], [], o, m, h, _, _, _ => by
    cases h
    exact ⟨Nat.le_refl _, [], trivial, by simp; trivial⟩
  | [], _ :: _, _, _, _, _, h, _ => by cases h
  | _ :: _, [], _, _, _, _, h, _ => by cases h
  | f :: fs, g :: gs, o, m, h, hm, hg, hall => by
    simp only [okFds, Bool.and_eq_true] at hg
    simp only [laid] at h
    cases hb : Nat.beq f.offset o with
    | false => rw [hb] at h; cases h
    | true =>
      rw [hb] at h
      have hb := Nat.eq_of_beq_eq_true hb
      obtain ⟨ds, h1, h2⟩ := hall f List.mem_cons_self g hg.1
      obtain ⟨h3, dss, h4, h5⟩ := fieldsT cs fs gs _ m h hm hg.2 fun f' hf => hall f' (List.mem_cons_of_mem _ hf)
      refine ⟨by omega, ds :: dss, ⟨h1, h4⟩, ?_⟩
      rw [hb] at h2
      rw [List.flatten_cons, List.map_append]
      have : (cs.drop o).take (m - o) = (cs.drop o).take (P.cellsOf f.type) ++ (cs.drop (o + P.cellsOf f.type)).take (m - (o + P.cellsOf f.type)) := by
        rw [show m - o = P.cellsOf f.type + (m - (o + P.cellsOf f.type)) by omega, List.take_add, List.drop_drop]
      rw [this]
      exact CRs.append h2 h5

theorem kindEq_eq {a b : IntKind} (h : kindEq a b = true) : a = b := by cases a <;> cases b <;> first | rfl | cases h
theorem readT (hok : okTab P nums tab = true) : ∀ (fuel : Nat) (t : TypeId) (g : Fd), okFd P nums t g = true → ∀ (cs : List Value) (x : DataW H × List MemPlace), DataW.trod enc P w base spare held fuel t cs = some x →
    ∃ ds, TyT tab fuel g ds ∧ CRs ι w (Okw w) (ds.map .d) cs := by
  intro fuel
  induction fuel with
  | zero => intro t g _ cs x hx; simp [DataW.trod] at hx
  | succ n ih =>
    intro t g hg cs x hx
    cases g with
    | bool =>
      simp only [okFd] at hg
      split at hg
      · rename_i hu
        obtain ⟨b, rfl, _⟩ := DataW.trod_bool hu hx
        exact ⟨[.lit (.bool b)], by simp only [TyT]; exact ⟨b, rfl⟩, ⟨by simp only [CR, RD]; exact ⟨trivial, rfl⟩, trivial⟩⟩
      · cases hg
    | int k =>
      simp only [okFd] at hg
      split at hg
      · rename_i k1 hu
        have := kindEq_eq hg
        subst this
        obtain ⟨m, rfl, _, hw⟩ := DataW.trod_int hu hx
        exact ⟨[.lit (.int k1 m)], by simp only [TyT]; exact ⟨m, rfl, hw⟩, ⟨by simp only [CR, RD]; exact ⟨trivial, rfl⟩, trivial⟩⟩
      · cases hg
    | str =>
      simp only [okFd] at hg
      split at hg
      · rename_i hu
        obtain ⟨s, rfl, _, hw⟩ := DataW.trod_string hu hx
        exact ⟨[.lit (.string s)], by simp only [TyT]; exact ⟨s, rfl, hw⟩, ⟨by simp only [CR, RD]; exact ⟨trivial, rfl⟩, trivial⟩⟩
      · cases hg
    | ref i =>
      simp only [okFd] at hg
      split at hg
      · rename_i u hnu
        have := Nat.eq_of_beq_eq_true hg
        subst this
        obtain ⟨s, hs, hsh⟩ := okTabL_get hok hnu
        cases s with
        | sl e =>
          simp only [okSh] at hsh
          split at hsh
          · rename_i u hu
            rw [Bool.and_eq_true] at hsh
            have hpos : 0 < P.cellsOf u := Nat.le_of_ble_eq_true hsh.1
            simp only [TyT, hs]
            rcases DataW.trod_slice hu hx with ⟨rfl, _⟩ | ⟨a, len, cap, elems, rest, m, hfu, rfl, _, hb, hl, hm, hlen, hel, _, _⟩
            · exact ⟨_, ⟨[], rfl, Nat.zero_le _, fun _ h => (by cases h)⟩, ⟨by simp only [CR, RD]; exact ⟨none, 0, 0, rfl, rfl, Nat.le_refl _, Nat.zero_le _, .inl trivial⟩, trivial⟩⟩
            · cases hfu
              obtain ⟨els, h1, h2, h3⟩ := els_of (w := w) (ι := ι) (R := TyT tab n e) (ok := Okw w) (g := fun i => w.cells? base (a.add (i * P.cellsOf u)) (P.cellsOf u)) len (fun i hi => by
                have h := hel i hi
                rw [List.getElem?_eq_getElem (by omega)] at h
                obtain ⟨cs', g1, g2⟩ := Option.bind_eq_some_iff.1 h
                obtain ⟨ds, g3, g4⟩ := ih u e hsh.2 cs' _ g2
                exact ⟨cs', ds, g1, g3, g4⟩)
              refine ⟨_, ⟨els, rfl, by omega, h2⟩, ⟨?_, trivial⟩⟩
              simp only [CR, RD]
              refine ⟨some a, len, cap, rfl, h1.symm, hl, hm, ?_⟩
              cases hels : els with
              | nil => exact .inl rfl
              | cons e0 r =>
                right
                have hcell : ∀ i y, els[i]? = some y → ∃ cs', cs'.length = P.cellsOf u ∧ (∀ j, j < P.cellsOf u → w.cell? ((a.add (i * P.cellsOf u)).add j) = cs'[j]?) ∧ CRs ι w (Okw w) (y.map .d) cs' := fun i y hy => by
                  obtain ⟨cs', g1, g2⟩ := h3 i y hy
                  obtain ⟨_, g3, g4⟩ := World.cells?_some g1
                  exact ⟨cs', g3, g4, g2⟩
                obtain ⟨cs0, c1, c2, _⟩ := hcell 0 e0 (by rw [hels]; rfl)
                have hc0 := c2 0 hpos
                rw [List.getElem?_eq_getElem (by omega)] at hc0
                have hspot : a.spot = none ∧ a.block < w.heap.size := by
                  have := cell_spot hc0
                  refine ⟨?_, ?_⟩
                  · cases hs : a.spot with
                    | none => rfl
                    | some s => exfalso; have h5 := this.1; simp [Addr.add, hs] at h5
                  · have h5 := this.2
                    unfold Addr.add at h5
                    (repeat' split at h5) <;> exact h5
                refine ⟨a.block, a.off, P.cellsOf u, ?_, hspot.2, ?_⟩
                · obtain ⟨b, o, s⟩ := a
                  cases hspot.1; rfl
                · rw [← hels]
                  refine RDs_of els a.off fun i y hy => ?_
                  obtain ⟨cs', g1, g2, g3⟩ := hcell i y hy
                  refine ⟨by rw [RDc_len g3, g1], RDc_of_CRs g3 fun j v hv => ?_⟩
                  have hj : j < P.cellsOf u := by rw [← g1]; exact (List.getElem?_eq_some_iff.1 hv).1
                  have := g2 j hj
                  rw [addr_add' a _ hspot.1, addr_add] at this
                  rw [this, hv]
          · cases hsh
        | st gs =>
          simp only [okSh] at hsh
          split at hsh
          · rename_i fs hu
            rw [Bool.and_eq_true] at hsh
            obtain ⟨hp1, hp2⟩ := hsh
            split at hp1
            · rename_i m hm
              have hm' := Nat.eq_of_beq_eq_true hp1
              obtain ⟨xs, k, hfu, _, hlen, hxs, hf⟩ := DataW.trod_struct hu hx
              cases hfu
              simp only [TyT, hs]
              obtain ⟨_, dss, h1, h2⟩ := fieldsT (w := w) (ι := ι) (ok := Okw w) (n := n) (tab := tab) (nums := nums) cs fs.toList gs 0 m hm (by omega) hp2 (fun f hfm g hg => by
                obtain ⟨i, hi⟩ := List.getElem?_of_mem hfm
                have hi' : fs[i]? = some f := by rw [← Array.getElem?_toList]; exact hi
                have hlt : i < xs.length := by rw [hxs]; exact (Array.getElem?_eq_some_iff.1 hi').1
                have h := hf i f hi'
                rw [List.getElem?_eq_getElem hlt] at h
                exact ih f.type g hg _ _ h)
              refine ⟨dss.flatten, ⟨dss, rfl, h1⟩, ?_⟩
              rw [List.drop_zero, Nat.sub_zero, List.take_of_length_le (by omega)] at h2
              exact h2
            · cases hp1
          · cases hsh
      · cases hg

/-- An argument of this shape, as the machine has it. -/
def Fd.isAgg (tab : List Sh) : Fd → Bool
  | .ref i => match tab[i]? with | some (.st _) => true | _ => false
  | _ => false
def ArgT (tab : List Sh) (g : Fd) (x : W) : Prop := ∃ n ds, TyT tab n g ds ∧ (g.isAgg tab = true → x = .agg (ds.map .d)) ∧ (g.isAgg tab = false → ∃ d, ds = [d] ∧ x = .c (.d d))

theorem isAgg_eq (hok : okTab P nums tab = true) {t : TypeId} {g : Fd} (hg : okFd P nums t g = true) : g.isAgg tab = isAggTy P t := by
  unfold isAggTy
  cases g with
  | bool =>
    simp only [okFd] at hg
    split at hg
    · rename_i h
      rw [h]; rfl
    · cases hg
  | int k =>
    simp only [okFd] at hg
    split at hg
    · rename_i h
      rw [h]; rfl
    · cases hg
  | str =>
    simp only [okFd] at hg
    split at hg
    · rename_i h
      rw [h]; rfl
    · cases hg
  | ref i =>
    simp only [okFd] at hg
    split at hg
    · rename_i u hnu
      have := Nat.eq_of_beq_eq_true hg
      subst this
      obtain ⟨s, hs, hsh⟩ := okTabL_get hok hnu
      simp only [Fd.isAgg, hs]
      cases s with
      | sl e =>
        simp only [okSh] at hsh
        split at hsh
        · rename_i h
          rw [h]
        · cases hsh
      | st e =>
        simp only [okSh] at hsh
        split at hsh
        · rename_i h
          rw [h]
        · cases hsh
    · cases hg

theorem readArgT (hok : okTab P nums tab = true) {W : World} {b0 : Nat} {t : TypeId} {g : Fd} {v : Value} {d : DataW H} {p : List MemPlace} {ι : Nat → Gh} (hg : okFd P nums t g = true) (hval : Value.okWide P W .any b0 t v)
    (h : DataW.Trod enc P W 0 (fun _ => true) true t v d p) : ∃ x, ArgT tab g x ∧ WR ι W (Okw W) x v := by
  obtain ⟨fuel, hf⟩ := h
  obtain ⟨ds, hty, hcs⟩ := readT (ι := ι) hok fuel t g hg _ _ hf
  cases ha : isAggTy P t with
  | true =>
    obtain ⟨cs, rfl⟩ := agg_of_ok hval ha
    refine ⟨.agg (ds.map .d), ⟨fuel, ds, hty, fun _ => rfl, fun h => (by rw [isAgg_eq hok hg, ha] at h; cases h)⟩, cs.toList, by simp, ?_⟩
    simpa [Value.cells] using hcs
  | false =>
    rw [cells_of_ok hval ha] at hcs
    match ds, hcs with
    | [d], hcs => exact ⟨.c (.d d), ⟨fuel, [d], hty, fun h => (by rw [isAgg_eq hok hg, ha] at h; cases h), fun _ => ⟨d, rfl, rfl⟩⟩, hcs.1⟩
    | [], hcs => exact hcs.elim
    | _ :: _ :: _, hcs => exact hcs.2.elim

def okArgsT (P : Program) (nums : List TypeId) : List TypeId → List Fd → Bool
  | [], [] => true
  | t :: ts, g :: gs => okFd P nums t g && okArgsT P nums ts gs
  | _, _ => false
theorem readArgsT (hok : okTab P nums tab = true) {W : World} {b0 : Nat} {ι : Nat → Gh} : ∀ (ts : List TypeId) (gs : List Fd) (vs : List Value) (ds : List (DataW H)) (p : List MemPlace), okArgsT P nums ts gs = true →
    (∀ (j : Nat) t v, ts[j]? = some t → vs[j]? = some v → Value.okWide P W .any b0 t v) → DataW.TrodAll enc P W 0 (fun _ => true) true ts vs ds p →
    ∃ xs, All2 (ArgT tab) gs xs ∧ WRs ι W (Okw W) xs vs ∧ ds.length = ts.length
  | [], [], vs, ds, p, _, _, h => by
    obtain ⟨rfl, rfl, rfl⟩ := trodAll_nil h
    exact ⟨[], trivial, trivial, rfl⟩
  | [], _ :: _, _, _, _, h, _, _ => by cases h
  | _ :: _, [], _, _, _, h, _, _ => by cases h
  | t :: ts, g :: gs, vs, ds, p, hp, hval, h => by
    simp only [okArgsT, Bool.and_eq_true] at hp
    obtain ⟨v, vs1, d, ds1, a, b, rfl, rfl, rfl, h1, h2⟩ := trodAll_cons h
    obtain ⟨x, hx1, hx2⟩ := readArgT (ι := ι) hok hp.1 (hval 0 t v rfl rfl) h1
    obtain ⟨xs, hxs1, hxs2, hl⟩ := readArgsT (ι := ι) hok ts gs vs1 ds1 b hp.2 (fun j t v hj hv => hval (j + 1) t v hj hv) h2
    exact ⟨x :: xs, ⟨hx1, hxs1⟩, ⟨hx2, hxs2⟩, by simp [hl]⟩

def lawTysT (P : Program) (ts : List TypeId) : Bool := ts.all fun t => P.readableRec t && decide (t < P.types.size)

theorem law_stepT {f : FuncId} {fn : Func} {s : ChangeSpec} {tb : TypeId} {gs0 : List Fd} (hl : laidOutB P = true) (hok : okTab P nums tab = true) (hargs : okArgsT P nums fn.params.toList gs0 = true) (htys : lawTysT P fn.params.toList = true) (hvars : s.vars = []) (hres : fn.resultTypes = #[tb]) (hb : P.underlying tb = some .bool)
    (hspec : ∀ (H : Type) (ds : List (DataW H)), ds.length = fn.params.toList.length → (s.fn H ds).results = [.lit (.bool true)] ∧ (s.fn H ds).args = ds ∧ (s.fn H ds).vars = [])
    (hsat : ∀ xs, All2 (ArgT tab) gs0 xs → Sat P f xs (fun r => r = trueRes)) {apart fresh handsOn again : Bool}
    (W : World) (hglb : Glb (Okw W) W) (base : Nat) (args : Array Value) (ds gs : List (DataW H)) (before : List MemPlace)
    (hval : ∀ (j : Nat) t v, fn.params[j]? = some t → args[j]? = some v → Value.okWide P W .any base t v)
    (hW : DataW.Whole enc P fn.params.toList s.vars apart W args.toList ds gs before) :
    Calls P f args W fun e W' => ∃ v, e = .returned v ∧ s.post enc P fn apart fresh handsOn again W args v W' := by
  have hW' := hW
  obtain ⟨p, q, hA, hV, rfl, hfz, hnd⟩ := hW
  rw [hvars] at hV
  obtain ⟨rfl, rfl⟩ := trodVars_none hV
  simp only [lawTysT, List.all_eq_true, Bool.and_eq_true, decide_eq_true_eq] at htys
  obtain ⟨xs, h1, h2, h3⟩ := readArgsT (ι := fun _ => ⟨none, 0⟩) hok fn.params.toList gs0 args.toList ds p hargs (fun j t v hj hv => hval j t v (by simpa using hj) (by simpa using hv)) hA
  have hc := (hsat xs h1).2 W (Okw W) args.toList ⟨fun b h => h, hglb⟩ h2
  rw [Array.toArray_toList] at hc
  refine hc.mono fun e W' ⟨v, r, he, hr, hres', hg⟩ => ⟨v, he, ?_⟩
  subst hr
  obtain ⟨_, ι, hv, _⟩ := hres'
  have hv : v = .bool true := by
    simp only [VR, WR, CR, RD, trueRes] at hv
    exact hv.1
  subst hv
  obtain ⟨s1, s2, s3⟩ := hspec H (ds ++ []) (by simpa using h3)
  have hbel : Below W.heap.size W W' := ⟨hg.os, hg.tape, hg.output.1, hg.size, fun k hk => hg.block k hk fun h => h⟩
  refine post_of_below (pa := p) (pv := []) hW' ?_ ?_ ?_ (by simp) hbel ?_
  · intro b sp hd
    rw [s1, hres]
    exact trodAll_cons_mk (shut_bool hb _) trodAll_mk0
  · intro sp hsp
    rw [s2, List.append_nil]
    exact argsStay hl hbel sp _ _ _ _ (fun t ht => ⟨(htys t ht).1, (htys t ht).2⟩) (fun x hx => hsp x (by simpa using hx)) (fun x hx => hW'.lt x (by simpa using hx)) hA
  · intro sp _
    rw [s3, hvars]
    rfl
  · exact ok_one hres rfl (okWide_bool_mk hb _)

theorem all2_nil {α β : Type} {R : α → β → Prop} {xs : List β} (h : All2 R [] xs) : xs = [] := by cases xs with | nil => rfl | cons _ _ => exact h.elim
theorem all2_cons {α β : Type} {R : α → β → Prop} {a : α} {l : List α} {xs : List β} (h : All2 R (a :: l) xs) : ∃ x r, xs = x :: r ∧ R a x ∧ All2 R l r := by
  cases xs with | nil => exact h.elim | cons x r => exact ⟨x, r, rfl, h.1, h.2⟩
/-- A list of elements, each of which is some datum's. -/
theorem listT {α : Type} {f : α → List D} {R : List D → Prop} (h : ∀ y, R y → ∃ x, y = f x) : ∀ {els : List (List D)}, (∀ y ∈ els, R y) → ∃ l : List α, els = l.map f
  | [], _ => ⟨[], rfl⟩
  | e :: r, hr => by
    obtain ⟨l, hl⟩ := listT (f := f) h fun y hy => hr y (List.mem_cons_of_mem _ hy)
    obtain ⟨x, hx⟩ := h e (hr e List.mem_cons_self)
    exact ⟨x :: l, by rw [hx, hl]; rfl⟩
end
end Go.AM

namespace Go.Proofs.YtekkjilpdohieaaGreat
open Go Go.AM
set_option maxRecDepth 100000

def apiTab : List Sh := [.st [.int .i64, .int .i64, .str], .sl (.ref 0), .sl (.ref 1), .st [.str, .int .i64], .sl (.ref 3), .st [.ref 4, .ref 2], .st [.int .i64, .int .i64, .str], .sl (.ref 0),
  .st [.int .i64, .str, .ref 0, .ref 9], .sl (.ref 8), .st [.ref 8, .str], .sl (.ref 10), .sl .str, .st [.str, .str, .str], .sl (.ref 13), .st [.str, .bool], .sl (.ref 15),
  .st [.int .i64, .ref 8, .ref 11, .ref 12, .ref 14, .ref 16, .int .i64, .str], .sl (.ref 17), .st [.str, .ref 18]]
def apiNums : List TypeId := [29, 50, 23, 54, 22, 25, 29, 50,
  32, 30, 111, 40, 41, 49, 42, 86, 43, 45, 61, 63]
theorem own : ownKnob Pg.godebug = none := by kernel_rfl
theorem laidOut : laidOutB Pg = true := by kernel_rfl
theorem api_ok : okTab Pg apiNums apiTab = true := by kernel_rfl
theorem ty_int {n : Nat} {ds : List D} (h : TyT apiTab n (.int .i64) ds) : ∃ x : Int, ds = [.lit (.int .i64 x)] := by
  cases n <;> (simp only [TyT] at h; obtain ⟨m, h, _⟩ := h; exact ⟨m, h⟩)
theorem ty_str {n : Nat} {ds : List D} (h : TyT apiTab n .str ds) : ∃ x : ByteArray, ds = [.lit (.string x)] := by
  cases n <;> (simp only [TyT] at h; obtain ⟨m, h, _⟩ := h; exact ⟨m, h⟩)
theorem ty_bool {n : Nat} {ds : List D} (h : TyT apiTab n .bool ds) : ∃ x : Bool, ds = [.lit (.bool x)] := by
  cases n <;> (simp only [TyT] at h; exact h)
theorem ty_val {n : Nat} {ds : List D} (h : TyT apiTab n (.ref 0) ds) : ∃ x : Val, ds = x.ds := by
  cases n with
  | zero => simp only [TyT] at h
  | succ n =>
    simp only [TyT, show apiTab[0]? = some (.st [.int .i64, .int .i64, .str]) from rfl] at h
    obtain ⟨dss, rfl, h⟩ := h
    obtain ⟨d0, _, rfl, h0, h⟩ := all2_cons h
    obtain ⟨d1, _, rfl, h1, h⟩ := all2_cons h
    obtain ⟨d2, _, rfl, h2, h⟩ := all2_cons h
    cases all2_nil h
    obtain ⟨x0, rfl⟩ := ty_int h0
    obtain ⟨x1, rfl⟩ := ty_int h1
    obtain ⟨x2, rfl⟩ := ty_str h2
    exact ⟨⟨x0, x1, x2⟩, rfl⟩
theorem ty_row {n : Nat} {ds : List D} (h : TyT apiTab n (.ref 1) ds) : ∃ x : List Val, ds = [.sl (x.map Val.ds)] := by
  cases n with
  | zero => simp only [TyT] at h
  | succ n =>
    simp only [TyT, show apiTab[1]? = some (.sl (.ref 0)) from rfl] at h
    obtain ⟨els, rfl, _, h⟩ := h
    obtain ⟨l, rfl⟩ := listT (f := Val.ds) (R := TyT apiTab n (.ref 0)) (fun y hy => ty_val hy) h
    exact ⟨l, rfl⟩
theorem ty_rows {n : Nat} {ds : List D} (h : TyT apiTab n (.ref 2) ds) : ∃ x : List (List Val), ds = [.sl (rowsD x)] := by
  cases n with
  | zero => simp only [TyT] at h
  | succ n =>
    simp only [TyT, show apiTab[2]? = some (.sl (.ref 1)) from rfl] at h
    obtain ⟨els, rfl, _, h⟩ := h
    obtain ⟨l, rfl⟩ := listT (f := fun r : List Val => [D.sl (rowD r)]) (R := TyT apiTab n (.ref 1)) (fun y hy => ty_row hy) h
    exact ⟨l, rfl⟩
theorem ty_col {n : Nat} {ds : List D} (h : TyT apiTab n (.ref 3) ds) : ∃ x : Col, ds = x.ds := by
  cases n with
  | zero => simp only [TyT] at h
  | succ n =>
    simp only [TyT, show apiTab[3]? = some (.st [.str, .int .i64]) from rfl] at h
    obtain ⟨dss, rfl, h⟩ := h
    obtain ⟨d0, _, rfl, h0, h⟩ := all2_cons h
    obtain ⟨d1, _, rfl, h1, h⟩ := all2_cons h
    cases all2_nil h
    obtain ⟨x0, rfl⟩ := ty_str h0
    obtain ⟨x1, rfl⟩ := ty_int h1
    exact ⟨⟨x0, x1⟩, rfl⟩
theorem ty_cols {n : Nat} {ds : List D} (h : TyT apiTab n (.ref 4) ds) : ∃ x : List Col, ds = [.sl (x.map Col.ds)] := by
  cases n with
  | zero => simp only [TyT] at h
  | succ n =>
    simp only [TyT, show apiTab[4]? = some (.sl (.ref 3)) from rfl] at h
    obtain ⟨els, rfl, _, h⟩ := h
    obtain ⟨l, rfl⟩ := listT (f := Col.ds) (R := TyT apiTab n (.ref 3)) (fun y hy => ty_col hy) h
    exact ⟨l, rfl⟩
theorem ty_tbl {n : Nat} {ds : List D} (h : TyT apiTab n (.ref 5) ds) : ∃ x : Tbl, ds = x.ds := by
  cases n with
  | zero => simp only [TyT] at h
  | succ n =>
    simp only [TyT, show apiTab[5]? = some (.st [.ref 4, .ref 2]) from rfl] at h
    obtain ⟨dss, rfl, h⟩ := h
    obtain ⟨d0, _, rfl, h0, h⟩ := all2_cons h
    obtain ⟨d1, _, rfl, h1, h⟩ := all2_cons h
    cases all2_nil h
    obtain ⟨x0, rfl⟩ := ty_cols h0
    obtain ⟨x1, rfl⟩ := ty_rows h1
    exact ⟨⟨x0, x1⟩, rfl⟩
theorem ty_ex : ∀ {n : Nat} {ds : List D} (_ : TyT apiTab n (.ref 8) ds), ∃ x : Ex, ds = x.ds := by
  intro n
  induction n using Nat.strongRecOn with
  | ind n ih =>
    intro ds h
    cases n with
    | zero => simp only [TyT] at h
    | succ n =>
      simp only [TyT, show apiTab[8]? = some (.st [.int .i64, .str, .ref 0, .ref 9]) from rfl] at h
      obtain ⟨dss, rfl, h⟩ := h
      obtain ⟨d0, _, rfl, h0, h⟩ := all2_cons h
      obtain ⟨d1, _, rfl, h1, h⟩ := all2_cons h
      obtain ⟨d2, _, rfl, h2, h⟩ := all2_cons h
      obtain ⟨d3, _, rfl, h3, h⟩ := all2_cons h
      cases all2_nil h
      obtain ⟨x0, rfl⟩ := ty_int h0
      obtain ⟨x1, rfl⟩ := ty_str h1
      obtain ⟨x2, rfl⟩ := ty_val h2
      cases n with
      | zero => simp only [TyT] at h3
      | succ n =>
        simp only [TyT, show apiTab[9]? = some (.sl (.ref 8)) from rfl] at h3
        obtain ⟨els, rfl, _, h3⟩ := h3
        obtain ⟨l, rfl⟩ := listT (f := Ex.ds) (R := TyT apiTab n (.ref 8)) (fun y hy => ih n (by omega) hy) h3
        exact ⟨⟨x0, x1, x2, l⟩, by rw [← exsD_map]; rfl⟩
theorem ty_itm {n : Nat} {ds : List D} (h : TyT apiTab n (.ref 10) ds) : ∃ x : Itm, ds = x.ds := by
  cases n with
  | zero => simp only [TyT] at h
  | succ n =>
    simp only [TyT, show apiTab[10]? = some (.st [.ref 8, .str]) from rfl] at h
    obtain ⟨dss, rfl, h⟩ := h
    obtain ⟨d0, _, rfl, h0, h⟩ := all2_cons h
    obtain ⟨d1, _, rfl, h1, h⟩ := all2_cons h
    cases all2_nil h
    obtain ⟨x0, rfl⟩ := ty_ex h0
    obtain ⟨x1, rfl⟩ := ty_str h1
    exact ⟨⟨x0, x1⟩, rfl⟩
theorem ty_itms {n : Nat} {ds : List D} (h : TyT apiTab n (.ref 11) ds) : ∃ x : List Itm, ds = [.sl (x.map Itm.ds)] := by
  cases n with
  | zero => simp only [TyT] at h
  | succ n =>
    simp only [TyT, show apiTab[11]? = some (.sl (.ref 10)) from rfl] at h
    obtain ⟨els, rfl, _, h⟩ := h
    obtain ⟨l, rfl⟩ := listT (f := Itm.ds) (R := TyT apiTab n (.ref 10)) (fun y hy => ty_itm hy) h
    exact ⟨l, rfl⟩
theorem ty_strs {n : Nat} {ds : List D} (h : TyT apiTab n (.ref 12) ds) : ∃ x : List ByteArray, ds = [.sl (x.map (fun b => [D.lit (.string b)]))] := by
  cases n with
  | zero => simp only [TyT] at h
  | succ n =>
    simp only [TyT, show apiTab[12]? = some (.sl .str) from rfl] at h
    obtain ⟨els, rfl, _, h⟩ := h
    obtain ⟨l, rfl⟩ := listT (f := (fun b => [D.lit (.string b)])) (R := fun y => ∃ s : ByteArray, y = [D.lit (.string s)] ∧ s.size ≤ maxLen) (fun y ⟨s, e, _⟩ => ⟨s, e⟩) h
    exact ⟨l, rfl⟩
theorem ty_agg {n : Nat} {ds : List D} (h : TyT apiTab n (.ref 13) ds) : ∃ x : Agg, ds = x.ds := by
  cases n with
  | zero => simp only [TyT] at h
  | succ n =>
    simp only [TyT, show apiTab[13]? = some (.st [.str, .str, .str]) from rfl] at h
    obtain ⟨dss, rfl, h⟩ := h
    obtain ⟨d0, _, rfl, h0, h⟩ := all2_cons h
    obtain ⟨d1, _, rfl, h1, h⟩ := all2_cons h
    obtain ⟨d2, _, rfl, h2, h⟩ := all2_cons h
    cases all2_nil h
    obtain ⟨x0, rfl⟩ := ty_str h0
    obtain ⟨x1, rfl⟩ := ty_str h1
    obtain ⟨x2, rfl⟩ := ty_str h2
    exact ⟨⟨x0, x1, x2⟩, rfl⟩
theorem ty_aggs {n : Nat} {ds : List D} (h : TyT apiTab n (.ref 14) ds) : ∃ x : List Agg, ds = [.sl (x.map Agg.ds)] := by
  cases n with
  | zero => simp only [TyT] at h
  | succ n =>
    simp only [TyT, show apiTab[14]? = some (.sl (.ref 13)) from rfl] at h
    obtain ⟨els, rfl, _, h⟩ := h
    obtain ⟨l, rfl⟩ := listT (f := Agg.ds) (R := TyT apiTab n (.ref 13)) (fun y hy => ty_agg hy) h
    exact ⟨l, rfl⟩
theorem ty_srt {n : Nat} {ds : List D} (h : TyT apiTab n (.ref 15) ds) : ∃ x : Srt, ds = x.ds := by
  cases n with
  | zero => simp only [TyT] at h
  | succ n =>
    simp only [TyT, show apiTab[15]? = some (.st [.str, .bool]) from rfl] at h
    obtain ⟨dss, rfl, h⟩ := h
    obtain ⟨d0, _, rfl, h0, h⟩ := all2_cons h
    obtain ⟨d1, _, rfl, h1, h⟩ := all2_cons h
    cases all2_nil h
    obtain ⟨x0, rfl⟩ := ty_str h0
    obtain ⟨x1, rfl⟩ := ty_bool h1
    exact ⟨⟨x0, x1⟩, rfl⟩
theorem ty_srts {n : Nat} {ds : List D} (h : TyT apiTab n (.ref 16) ds) : ∃ x : List Srt, ds = [.sl (x.map Srt.ds)] := by
  cases n with
  | zero => simp only [TyT] at h
  | succ n =>
    simp only [TyT, show apiTab[16]? = some (.sl (.ref 15)) from rfl] at h
    obtain ⟨els, rfl, _, h⟩ := h
    obtain ⟨l, rfl⟩ := listT (f := Srt.ds) (R := TyT apiTab n (.ref 15)) (fun y hy => ty_srt hy) h
    exact ⟨l, rfl⟩
theorem ty_stp {n : Nat} {ds : List D} (h : TyT apiTab n (.ref 17) ds) : ∃ x : Stp, ds = x.ds := by
  cases n with
  | zero => simp only [TyT] at h
  | succ n =>
    simp only [TyT, show apiTab[17]? = some (.st [.int .i64, .ref 8, .ref 11, .ref 12, .ref 14, .ref 16, .int .i64, .str]) from rfl] at h
    obtain ⟨dss, rfl, h⟩ := h
    obtain ⟨d0, _, rfl, h0, h⟩ := all2_cons h
    obtain ⟨d1, _, rfl, h1, h⟩ := all2_cons h
    obtain ⟨d2, _, rfl, h2, h⟩ := all2_cons h
    obtain ⟨d3, _, rfl, h3, h⟩ := all2_cons h
    obtain ⟨d4, _, rfl, h4, h⟩ := all2_cons h
    obtain ⟨d5, _, rfl, h5, h⟩ := all2_cons h
    obtain ⟨d6, _, rfl, h6, h⟩ := all2_cons h
    obtain ⟨d7, _, rfl, h7, h⟩ := all2_cons h
    cases all2_nil h
    obtain ⟨x0, rfl⟩ := ty_int h0
    obtain ⟨x1, rfl⟩ := ty_ex h1
    obtain ⟨x2, rfl⟩ := ty_itms h2
    obtain ⟨x3, rfl⟩ := ty_strs h3
    obtain ⟨x4, rfl⟩ := ty_aggs h4
    obtain ⟨x5, rfl⟩ := ty_srts h5
    obtain ⟨x6, rfl⟩ := ty_int h6
    obtain ⟨x7, rfl⟩ := ty_str h7
    exact ⟨⟨x0, x1, x2, x3, x4, x5, x6, x7⟩, rfl⟩
theorem ty_stps {n : Nat} {ds : List D} (h : TyT apiTab n (.ref 18) ds) : ∃ x : List Stp, ds = [.sl (x.map Stp.ds)] := by
  cases n with
  | zero => simp only [TyT] at h
  | succ n =>
    simp only [TyT, show apiTab[18]? = some (.sl (.ref 17)) from rfl] at h
    obtain ⟨els, rfl, _, h⟩ := h
    obtain ⟨l, rfl⟩ := listT (f := Stp.ds) (R := TyT apiTab n (.ref 17)) (fun y hy => ty_stp hy) h
    exact ⟨l, rfl⟩
theorem arg_of {g : AM.Fd} {x : W} (h : ArgT apiTab g x) (hg : g.isAgg apiTab = true) : ∃ n ds, TyT apiTab n g ds ∧ x = .agg (ds.map .d) := by
  obtain ⟨n, ds, h1, h2, _⟩ := h
  exact ⟨n, ds, h1, h2 hg⟩
theorem arg_of' {g : AM.Fd} {x : W} (h : ArgT apiTab g x) (hg : g.isAgg apiTab = false) : ∃ n d, TyT apiTab n g [d] ∧ x = .c (.d d) := by
  obtain ⟨n, ds, h1, _, h2⟩ := h
  obtain ⟨d, rfl, rfl⟩ := h2 hg
  exact ⟨n, d, h1, rfl⟩
theorem arg_tbl {x : W} (h : ArgT apiTab (.ref 5) x) : ∃ t : Tbl, x = t.w := by
  obtain ⟨n, ds, hx, rfl⟩ := arg_of h rfl
  clear h
  have h := hx
  clear hx
  obtain ⟨t, rfl⟩ := ty_tbl h
  exact ⟨t, rfl⟩
theorem arg_ex {x : W} (h : ArgT apiTab (.ref 8) x) : ∃ t : Ex, x = t.w := by
  obtain ⟨n, ds, hx, rfl⟩ := arg_of h rfl
  clear h
  have h := hx
  clear hx
  obtain ⟨t, rfl⟩ := ty_ex h
  obtain ⟨op, nm, ⟨v1, v2, v3⟩, ks⟩ := t
  exact ⟨⟨op, nm, ⟨v1, v2, v3⟩, ks⟩, rfl⟩
theorem arg_strs {x : W} (h : ArgT apiTab (.ref 12) x) : ∃ t : List ByteArray, x = .c (.d (.sl (strsD t))) := by
  obtain ⟨n, d, hx, rfl⟩ := arg_of' h rfl
  clear h
  have h := hx
  clear hx
  obtain ⟨t, h⟩ := ty_strs h
  cases h
  exact ⟨t, rfl⟩
theorem arg_int {x : W} (h : ArgT apiTab (.int .i64) x) : ∃ t : Int, x = .c (int t) := by
  obtain ⟨n, d, hx, rfl⟩ := arg_of' h rfl
  clear h
  have h := hx
  clear hx
  obtain ⟨t, h⟩ := ty_int h
  cases h
  exact ⟨t, rfl⟩
theorem arg_str {x : W} (h : ArgT apiTab .str x) : ∃ t : ByteArray, x = .c (str t) := by
  obtain ⟨n, d, hx, rfl⟩ := arg_of' h rfl
  clear h
  have h := hx
  clear hx
  obtain ⟨t, h⟩ := ty_str h
  cases h
  exact ⟨t, rfl⟩
theorem arg_qry {x : W} (h : ArgT apiTab (.ref 19) x) : ∃ t : Qry, x = t.w := by
  obtain ⟨n, ds, hx, rfl⟩ := arg_of h rfl
  clear h
  have h := hx
  clear hx
  cases n with
  | zero => simp only [TyT] at h
  | succ n =>
    simp only [TyT, show apiTab[19]? = some (.st [.str, .ref 18]) from rfl] at h
    obtain ⟨dss, rfl, h⟩ := h
    obtain ⟨d0, _, rfl, h0, h⟩ := all2_cons h
    obtain ⟨d1, _, rfl, h1, h⟩ := all2_cons h
    cases all2_nil h
    obtain ⟨x0, rfl⟩ := ty_str h0
    obtain ⟨x1, rfl⟩ := ty_stps h1
    exact ⟨⟨x0, x1⟩, rfl⟩
end Go.Proofs.YtekkjilpdohieaaGreat

namespace Go.Proofs.YtekkjilpdohieaaGreat
open Go Go.AM
attribute [local irreducible] Sat SatH LoopP
set_option maxRecDepth 100000
set_option maxHeartbeats 1000000

theorem sat_ref34_numbers (a b : Int) : Sat Pg k_ref34_numbers [.c (int a), .c (int b)] (fun r => r = rI (cmpI a b)) := by
  unfold cmpI
  refine Sat_of T5 c_ref34_numbers_ok (by kernel_rfl) ?_
  repeat' (conv => whnf
           refine cond_i (fun h => ?_) (fun h => ?_))
  all_goals refine congrArg rI ?_
  all_goals first | (simp only [*, cond_true, cond_false]; done) | (simp_all only [Bool.false_eq_true, cond_true, cond_false]; done) | (simp_all; done)
def T6f (k : FuncId) (l : List W) : Option W :=
  match l with
  | [.c (.d (.lit (.int .i64 m))), .c (.d (.lit (.int .i64 n)))] => bif Nat.beq k k_ref34_numbers then some (.c (int (cmpI m n))) else T5f k l
  | _ => T5f k l
theorem T6ok (k : FuncId) (l : List W) (w : W) (h : T6f k l = some w) : Sat Pg k l (fun r => r = ⟨.w w, []⟩) := by
  unfold T6f at h
  split at h
  · rcases bif_some h with ⟨h1, rfl⟩ | ⟨_, h⟩
    · rw [Nat.eq_of_beq_eq_true h1]; exact sat_ref34_numbers _ _
    · exact T5ok k _ w h
  · exact T5ok k l w h
def T6 : Tab Pg := ⟨T6f, T6ok⟩

def ordV' (a b : Val) : Int := bif a.k != b.k then cmpI a.k b.k else bif a.k == 1 || a.k == 2 then cmpI a.n b.n else bif a.k != 3 || beqS a.s b.s then 0 else bif ltS a.s b.s then -1 else 1
theorem ordV'_eq (a b : Val) : ordV' a b = ordV a b := by
  unfold ordV' ordV cmpS
  by_cases h : a.k = b.k
  · rw [show (a.k != b.k) = false by simpa using h]
    simp only [cond_false]
    by_cases h3 : a.k = 3
    · rw [h3]
      cases h4 : beqS a.s b.s
      · cases h5 : ltS a.s b.s <;> rfl
      · have : a.s = b.s := (AM.beqS_iff _ _).1 h4
        rw [this]
        cases h5 : ltS b.s b.s
        · rfl
        · exact absurd h5 (by rw [AM.ltS_irrefl]; simp)
    · have h3' : (a.k == 3) = false := by simpa using h3
      have h3'' : (a.k != 3) = true := by simpa using h3
      rw [h3', h3'']
      cases (a.k == 1 || a.k == 2) <;> rfl
  · rw [show (a.k != b.k) = true by simpa using h]
    rfl
theorem sat_ref34_Order (a b : Val) : Sat Pg k_ref34_Order [a.w, b.w] (fun r => r = rI (ordV a b)) := by
  rw [← ordV'_eq]
  obtain ⟨a1, a2, a3⟩ := a
  obtain ⟨b1, b2, b3⟩ := b
  unfold ordV'
  refine Sat_of T6 c_ref34_Order_ok (by kernel_rfl) ?_
  repeat' (conv => whnf
           refine cond_i (fun h => ?_) (fun h => ?_))
  all_goals refine congrArg rI ?_
  all_goals first | (simp only [*, cond_true, cond_false]; done) | (simp_all only [Bool.false_eq_true, cond_true, cond_false]; done) | (simp_all; done)

theorem sat_ref42_Compare (a b : List Val) : Sat Pg k_ref42_Compare [rowC a, rowC b] (fun r => r = rI (ordR a b)) := by
  refine sat_len 0 (by kernel_rfl) rfl fun hlen => ?_
  rw [rowD_len] at hlen
  refine Sat_of T6 c_ref42_Compare_ok (by kernel_rfl) ?_
  conv => whnf
  refine loopI (P := Pg) (f := T6.f) (body := c_ref42_Compare_L0) a.length (fun i => ⟨[(0, .w (rowC a)), (1, .w (rowC b)), (5, intV i)], []⟩) (fun i => i ≤ b.length ∧ ordR a b = ordR (a.drop i) (b.drop i)) ⟨⟨Nat.zero_le _, rfl⟩, normW_of ?_⟩ ?_
  · conv => whnf
    rfl
  · intro i hi hR
    obtain ⟨hib, hR0⟩ := hR
    conv => whnf
    refine cond_i (fun h1 => ?_) (fun h1 => ?_)
    · have h1 : (decide ((i : Int) < ((rowD a).length : Int)) && decide ((i : Int) < ((rowD b).length : Int))) = true := h1
      simp only [Bool.and_eq_true, decide_eq_true_eq, rowD_len] at h1
      have hlt : i < a.length := by omega
      have hlb : i < b.length := by omega
      have hg := rowD_get hlt
      have hg2 := rowD_get hlb
      rw [drop_cons hlt, drop_cons hlb] at hR0
      have hR : ordR a b = bif ordV a[i] b[i] != 0 then ordV a[i] b[i] else ordR (a.drop (i + 1)) (b.drop (i + 1)) := hR0
      clear hR0
      have ho := sat_ref34_Order a[i] b[i]
      generalize ordV a[i] b[i] = o at *
      generalize a[i] = x at *
      generalize b[i] = y at *
      obtain ⟨x1, x2, x3⟩ := x
      obtain ⟨y1, y2, y3⟩ := y
      conv => whnf
      refine ⟨by omega, _, hg, rfl, ?_⟩
      conv => whnf
      refine ⟨by omega, _, hg2, rfl, ?_⟩
      conv => whnf
      refine Sat.mono (ho) ?_
      rintro _ rfl
      conv => whnf
      refine cond_i (fun h3 => ?_) (fun h3 => ?_)
      · have h3 : (o != 0) = true := h3
        rw [h3, cond_true] at hR
        conv => whnf
        rw [hR]; rfl
      · have h3 : (o != 0) = false := h3
        rw [h3, cond_false] at hR
        conv => whnf
        refine ⟨hlt, ⟨hlb, hR⟩, normW_of ?_⟩
        conv => whnf
        rw [wrapS hlt hlen]
        rfl
    · have h1 : (decide ((i : Int) < ((rowD a).length : Int)) && decide ((i : Int) < ((rowD b).length : Int))) = false := h1
      simp only [Bool.and_eq_false_iff, decide_eq_false_iff_not, rowD_len] at h1
      conv => whnf
      refine cond_i (fun h2 => ?_) (fun h2 => ?_)
      · have h2 : decide (((rowD a).length : Int) < ((rowD b).length : Int)) = true := h2
        have h2 := of_decide_eq_true h2
        simp only [rowD_len] at h2
        rw [List.drop_eq_nil_of_le (by omega : a.length ≤ i), drop_cons (by omega : i < b.length)] at hR0
        have hR : ordR a b = -1 := hR0
        conv => whnf
        rw [hR]; rfl
      · have h2 : decide (((rowD a).length : Int) < ((rowD b).length : Int)) = false := h2
        have h2 := of_decide_eq_false h2
        simp only [rowD_len] at h2
        conv => whnf
        refine cond_i (fun h4 => ?_) (fun h4 => ?_)
        · have h4 : decide (((rowD a).length : Int) > ((rowD b).length : Int)) = true := h4
          have h4 := of_decide_eq_true h4
          simp only [rowD_len] at h4
          rw [List.drop_eq_nil_of_le (by omega : b.length ≤ i), drop_cons (by omega : i < a.length)] at hR0
          have hR : ordR a b = 1 := hR0
          conv => whnf
          rw [hR]; rfl
        · have h4 : decide (((rowD a).length : Int) > ((rowD b).length : Int)) = false := h4
          have h4 := of_decide_eq_false h4
          simp only [rowD_len] at h4
          rw [List.drop_eq_nil_of_le (by omega : b.length ≤ i), List.drop_eq_nil_of_le (by omega : a.length ≤ i)] at hR0
          have hR : ordR a b = 0 := hR0
          conv => whnf
          rw [hR]; rfl

theorem sat_ref34_SameRow (a b : List Val) : Sat Pg k_ref34_SameRow [rowC a, rowC b] (fun r => r = rB (sameRow a b)) := by
  have h := sat_ref33_Same a b
  generalize sameRow a b = x at *
  refine Sat_of T6 c_ref34_SameRow_ok (by kernel_rfl) ?_
  conv => whnf
  refine Sat.mono (h) ?_
  rintro _ rfl
  rfl
def sameT (a b : Tbl) : Bool := bif (((a.cols.length : Int)) != b.cols.length) || (((a.rows.length : Int)) != b.rows.length) then false else bif !allEq eqC a.cols b.cols then false else allEq sameRow a.rows b.rows
theorem allEq_step {α : Type} (e : α → α → Bool) {a b : List α} {i : Nat} (h : i < a.length) (h2 : i < b.length) : allEq e (a.drop i) (b.drop i) = bif !e a[i] b[i] then false else allEq e (a.drop (i + 1)) (b.drop (i + 1)) := by
  rw [drop_cons h, drop_cons h2]; rfl
theorem sat_ref34_Same (a b : Tbl) : Sat Pg k_ref34_Same [a.w, b.w] (fun r => r = rB (sameT a b)) := by
  obtain ⟨ac, ar⟩ := a
  obtain ⟨bc, br⟩ := b
  unfold sameT
  simp only
  rw [← colD_len, ← colD_len, ← rowsD_len, ← rowsD_len]
  refine sat_bnd (by kernel_rfl) fun hb => ?_
  have hb := hb _ (List.mem_cons_self ..)
  have hlc : (colD ac).length ≤ 9223372036854775807 := by
    have := hb (.d (.sl (colD ac))) (by simp)
    simp only [bndC, bnd] at this
    exact this.1
  have hlr : (rowsD ar).length ≤ 9223372036854775807 := by
    have := hb (.d (.sl (rowsD ar))) (by simp)
    simp only [bndC, bnd] at this
    exact this.1
  clear hb
  rw [colD_len] at hlc
  rw [rowsD_len] at hlr
  refine Sat_of T6 c_ref34_Same_ok (by kernel_rfl) ?_
  conv => whnf
  refine cond_i (fun h => ?_) (fun h => ?_)
  · have h : ((((colD ac).length : Int)) != ((colD bc).length : Int) || (((rowsD ar).length : Int)) != ((rowsD br).length : Int)) = true := h
    rw [h, cond_true]
    conv => whnf
    rfl
  · have h : ((((colD ac).length : Int)) != ((colD bc).length : Int) || (((rowsD ar).length : Int)) != ((rowsD br).length : Int)) = false := h
    rw [h, cond_false]
    simp only [Bool.or_eq_false_iff, bne_eq_false_iff_eq, colD_len, rowsD_len] at h
    conv => whnf
    refine loopI (P := Pg) (f := T6.f) (body := c_ref34_Same_L0) ac.length (fun i => ⟨[(2, cV (.ptr 2 0)), (3, cV (.ptr 3 0)), (5, intV i)], [(2, .box [.d (.sl (colD ac)), .d (.sl (rowsD ar))]), (3, .box [.d (.sl (colD bc)), .d (.sl (rowsD br))])]⟩) (fun i => allEq eqC ac bc = allEq eqC (ac.drop i) (bc.drop i)) ⟨rfl, normW_of ?_⟩ ?_
    · conv => whnf
      rfl
    · intro i hi hR
      conv => whnf
      refine cond_i (fun h1 => ?_) (fun h1 => ?_)
      · have hlt : i < ac.length := by have := of_decide_eq_true h1; rw [colD_len] at this; omega
        have hlb : i < bc.length := by omega
        rw [allEq_step _ hlt hlb] at hR
        have hg := colD_get hlt
        have hg2 := colD_get hlb
        generalize ac[i] = x at *
        generalize bc[i] = y at *
        obtain ⟨x1, x2⟩ := x
        obtain ⟨y1, y2⟩ := y
        conv => whnf
        refine ⟨by omega, _, hg, rfl, ?_⟩
        conv => whnf
        refine ⟨by omega, _, hg2, rfl, ?_⟩
        conv => whnf
        refine cond_i (fun h2 => ?_) (fun h2 => ?_)
        · have h2 : (!eqC ⟨x1, x2⟩ ⟨y1, y2⟩) = true := h2
          rw [h2, cond_true] at hR
          conv => whnf
          rw [hR]; rfl
        · have h2 : (!eqC ⟨x1, x2⟩ ⟨y1, y2⟩) = false := h2
          rw [h2, cond_false] at hR
          conv => whnf
          refine ⟨hlt, hR, normW_of ?_⟩
          conv => whnf
          rw [wrapS hlt hlc]
          rfl
      · have hge : ac.length ≤ i := by have := of_decide_eq_false h1; rw [colD_len] at this; omega
        rw [allEq_end _ hge (by omega)] at hR
        rw [hR, Bool.not_true, cond_false]
        conv => whnf
        refine loopI (P := Pg) (f := T6.f) (body := c_ref34_Same_L1) ar.length (fun i => ⟨[(2, cV (.ptr 2 0)), (3, cV (.ptr 3 0)), (6, intV i)], [(2, .box [.d (.sl (colD ac)), .d (.sl (rowsD ar))]), (3, .box [.d (.sl (colD bc)), .d (.sl (rowsD br))])]⟩) (fun i => allEq sameRow ar br = allEq sameRow (ar.drop i) (br.drop i)) ⟨rfl, normW_of ?_⟩ ?_
        · conv => whnf
          rfl
        · intro i hi hR
          conv => whnf
          refine cond_i (fun h1 => ?_) (fun h1 => ?_)
          · have hlt : i < ar.length := by have := of_decide_eq_true h1; rw [rowsD_len] at this; omega
            have hlb : i < br.length := by omega
            rw [allEq_step _ hlt hlb] at hR
            have hg := rowsD_get hlt
            have hg2 := rowsD_get hlb
            have hs := sat_ref34_SameRow ar[i] br[i]
            generalize sameRow ar[i] br[i] = o at *
            generalize ar[i] = x at *
            generalize br[i] = y at *
            conv => whnf
            refine ⟨by omega, _, hg, rfl, ?_⟩
            conv => whnf
            refine ⟨by omega, _, hg2, rfl, ?_⟩
            conv => whnf
            refine Sat.mono (hs) ?_
            rintro _ rfl
            conv => whnf
            refine cond_i (fun h2 => ?_) (fun h2 => ?_)
            · have h2 : (!o) = true := h2
              rw [h2, cond_true] at hR
              conv => whnf
              rw [hR]; rfl
            · have h2 : (!o) = false := h2
              rw [h2, cond_false] at hR
              conv => whnf
              refine ⟨hlt, hR, normW_of ?_⟩
              conv => whnf
              rw [wrapS hlt hlr]
              rfl
          · have hge : ar.length ≤ i := by have := of_decide_eq_false h1; rw [rowsD_len] at this; omega
            rw [allEq_end _ hge (by omega)] at hR
            rw [hR]
            conv => whnf
            rfl
end Go.Proofs.YtekkjilpdohieaaGreat

namespace Go.Proofs.YtekkjilpdohieaaGreat
open Go Go.AM
attribute [local irreducible] Sat SatH LoopP
set_option maxRecDepth 100000
set_option maxHeartbeats 1000000

mutual
def Ex.deep : Ex → Int → Int → Int
  | .mk _ nm v ks, lv, lf => bif ((decide (lv < 1) || decide (lf - 1 < 0)) || decide ((nm.size : Int) > 300)) || decide ((v.s.size : Int) > 300) then -1 else deepL ks (lv - 1) (lf - 1)
def deepL : List Ex → Int → Int → Int
  | [], _, lf => lf
  | k :: r, lv, lf => bif decide (k.deep lv lf < 0) then -1 else deepL r lv (k.deep lv lf)
end
theorem deepL_le : ∀ (ks : List Ex) (lv lf : Int), -1 ≤ lf → (∀ k ∈ ks, ∀ lv lf : Int, 0 ≤ lf → -1 ≤ k.deep lv lf ∧ k.deep lv lf ≤ lf) → 0 ≤ lf → -1 ≤ deepL ks lv lf ∧ deepL ks lv lf ≤ lf
  | [], _, lf, h, _, _ => by simp only [deepL]; omega
  | k :: r, lv, lf, h, hk, h0 => by
    simp only [deepL]
    have h1 := hk k (List.mem_cons_self ..) lv lf h0
    by_cases e : k.deep lv lf < 0
    · rw [decide_eq_true e, cond_true]; omega
    · rw [decide_eq_false e, cond_false]
      have := deepL_le r lv (k.deep lv lf) (by omega) (fun x hx => hk x (List.mem_cons_of_mem _ hx)) (by omega)
      omega
theorem deep_le : ∀ (e : Ex) (lv lf : Int), 0 ≤ lf → -1 ≤ e.deep lv lf ∧ e.deep lv lf ≤ lf
  | .mk op nm v ks, lv, lf, h0 => by
    simp only [Ex.deep]
    cases hb : (((decide (lv < 1) || decide (lf - 1 < 0)) || decide ((nm.size : Int) > 300)) || decide ((v.s.size : Int) > 300))
    · rw [cond_false]
      simp only [Bool.or_eq_false_iff, decide_eq_false_iff_not] at hb
      have := deepL_le ks (lv - 1) (lf - 1) (by omega) (fun k hk lv lf h => deep_le k lv lf h) (by omega)
      omega
    · rw [cond_true]; omega
theorem deepL_step {ks : List Ex} {i : Nat} (h : i < ks.length) (lv lf : Int) : deepL (ks.drop i) lv lf = bif decide (ks[i].deep lv lf < 0) then -1 else deepL (ks.drop (i + 1)) lv (ks[i].deep lv lf) := by
  rw [drop_cons h]; rfl
theorem sat_Deep (e : Ex) (lv lf : Int) (h1 : 0 ≤ lv) (h2 : lv ≤ 40) (h3 : 0 ≤ lf) (h4 : lf ≤ 300) : Sat Pg k_ref36_Deep [e.w, .c (int lv), .c (int lf)] (fun r => r = rI (e.deep lv lf)) := by
  obtain ⟨op, nm, v, ks⟩ := e
  have ih : ∀ k ∈ ks, ∀ lv lf : Int, 0 ≤ lv → lv ≤ 40 → 0 ≤ lf → lf ≤ 300 → Sat Pg k_ref36_Deep [k.w, .c (int lv), .c (int lf)] (fun r => r = rI (k.deep lv lf)) := fun k hk lv lf a b c d => sat_Deep k lv lf a b c d
  refine sat_bnd (by kernel_rfl) fun hb => ?_
  have hlen := exs_bnd (hb _ (List.mem_cons_self ..))
  clear hb
  simp only [Ex.deep]
  have w1 : IntKind.i64.wrap (lf - 1) = lf - 1 := wrapI (by omega) (by omega)
  rw [← w1]
  refine Sat_of T5 c_ref36_Deep_ok (by kernel_rfl) ?_
  conv => whnf
  refine cond_i (fun k1 => ?_) (fun k1 => ?_)
  · have k1 : (((decide (lv < 1) || decide (IntKind.i64.wrap (lf - 1) < 0)) || decide ((nm.size : Int) > 300)) || decide ((v.s.size : Int) > 300)) = true := k1
    rw [k1, cond_true]
    conv => whnf
    rfl
  · have k1 : (((decide (lv < 1) || decide (IntKind.i64.wrap (lf - 1) < 0)) || decide ((nm.size : Int) > 300)) || decide ((v.s.size : Int) > 300)) = false := k1
    rw [k1, cond_false]
    rw [w1] at k1 ⊢
    simp only [Bool.or_eq_false_iff, decide_eq_false_iff_not] at k1
    have w2 : IntKind.i64.wrap (lv - 1) = lv - 1 := wrapI (by omega) (by omega)
    conv => whnf
    refine loopF (P := Pg) (f := T5.f) (body := c_ref36_Deep_L0) (fun x : Nat × Int => ⟨[(1, intV lv), (2, intV x.2), (3, cV (.ptr 3 0)), (7, intV x.1)], [(3, .box [int op, str nm, int v.k, int v.n, str v.s, .d (.sl (exsD ks))])]⟩) (fun x => ks.length - x.1) (fun x => x.1 ≤ ks.length ∧ 0 ≤ x.2 ∧ x.2 ≤ 300 ∧ deepL ks (lv - 1) (lf - 1) = deepL (ks.drop x.1) (lv - 1) x.2) ⟨(0, lf - 1), ⟨Nat.zero_le _, by show 0 ≤ lf - 1; omega, by show lf - 1 ≤ 300; omega, rfl⟩, normW_of ?_⟩ ?_
    · conv => whnf
      rw [← w1]
      rfl
    · rintro ⟨i, l1⟩ hx
      obtain ⟨hi, hl0, hl1, hR⟩ : i ≤ ks.length ∧ 0 ≤ l1 ∧ l1 ≤ 300 ∧ deepL ks (lv - 1) (lf - 1) = deepL (ks.drop i) (lv - 1) l1 := hx
      have wi : i < ks.length → IntKind.i64.wrap ((i : Int) + 1) = ((i + 1 : Nat) : Int) := fun h => wrapS h (by omega)
      conv => whnf
      refine cond_i (fun k2 => ?_) (fun k2 => ?_)
      · have hlt : i < ks.length := by have k2 : decide ((i : Int) < ((exsD ks).length : Int)) = true := k2; have := of_decide_eq_true k2; rw [exsD_len] at this; omega
        rw [deepL_step hlt] at hR
        have hg : (exsD ks)[((i : Int)).toNat]? = some (ks[i]).ds := exsD_get hlt
        have hm : ks[i] ∈ ks := List.getElem_mem hlt
        generalize ks[i] = k at *
        have ihk := ih k hm (lv - 1) l1 (by omega) (by omega) hl0 hl1
        have hkl := deep_le k (lv - 1) l1 hl0
        rw [← w2] at ihk
        rw [← w2] at hR hkl
        obtain ⟨op1, nm1, v1, ks1⟩ := k
        conv => whnf
        refine ⟨by omega, _, hg, rfl, ?_⟩
        conv => whnf
        refine Sat.mono (ihk) ?_
        rintro _ rfl
        conv => whnf
        generalize (Ex.deep (.mk op1 nm1 v1 ks1) (IntKind.i64.wrap (lv - 1)) l1) = x at *
        refine cond_i (fun k3 => ?_) (fun k3 => ?_)
        · have k3 : decide (x < 0) = true := k3
          rw [k3, cond_true] at hR
          conv => whnf
          rw [← w2, hR]; rfl
        · have k3 : decide (x < 0) = false := k3
          rw [k3, cond_false] at hR
          have k3 := of_decide_eq_false k3
          rw [w2] at hR
          conv => whnf
          refine ⟨(i + 1, x), ⟨⟨hlt, by show 0 ≤ x; omega, by show x ≤ 300; omega, hR⟩, by show ks.length - (i + 1) < ks.length - i; omega⟩, normW_of ?_⟩
          conv => whnf
          rw [wi hlt]
          rfl
      · have hge : ks.length ≤ i := by have k2 : decide ((i : Int) < ((exsD ks).length : Int)) = false := k2; have := of_decide_eq_false k2; rw [exsD_len] at this; omega
        rw [List.drop_eq_nil_of_le hge] at hR
        rw [hR]
        conv => whnf
        rfl
termination_by SizeOf.sizeOf e
decreasing_by
  simp_wf
  have := List.sizeOf_lt_of_mem hk
  omega

def Ex.small (e : Ex) : Bool := decide (e.deep 40 300 ≥ 0)
theorem sat_Small (e : Ex) : Sat Pg k_ref36_Small [e.w] (fun r => r = rB e.small) := by
  have h := sat_Deep e 40 300 (by omega) (by omega) (by omega) (by omega)
  unfold Ex.small
  generalize e.deep 40 300 = x at *
  obtain ⟨op, nm, v, ks⟩ := e
  refine Sat_of T5 c_ref36_Small_ok (by kernel_rfl) ?_
  conv => whnf
  refine Sat.mono (h) ?_
  rintro _ rfl
  rfl

def itmFew (x : Itm) : Bool := !(!x.e.small || decide ((x.nm.size : Int) > 300))
def aggFew (x : Agg) : Bool := !(decide ((x.col.size : Int) > 300) || decide ((x.nm.size : Int) > 300))
def strFew (x : ByteArray) : Bool := !decide ((x.size : Int) > 300)
def Stp.few (s : Stp) : Bool :=
  bif ((((!s.cond.small || decide ((s.items.length : Int) > 30)) || decide ((s.cols.length : Int) > 30)) || decide ((s.aggs.length : Int) > 30)) || decide ((s.sorts.length : Int) > 30)) || decide ((s.table.size : Int) > 300) then false else
  bif !allB itmFew s.items then false else bif !allB strFew s.cols then false else allB aggFew s.aggs
def fsS (cs : List C) (k : Nat) (i : Nat) : S := ⟨[(1, cV (.ptr 1 0)), (k, intV i)], [(1, .box cs)]⟩
def Qry.few (q : Qry) : Bool := bif decide ((q.steps.length : Int) > 30) || decide ((q.src.size : Int) > 300) then false else allB Stp.few q.steps
end Go.Proofs.YtekkjilpdohieaaGreat

namespace Go.Proofs.YtekkjilpdohieaaGreat
open Go Go.AM
attribute [local irreducible] Sat SatH LoopP
set_option maxRecDepth 100000
set_option maxHeartbeats 1000000

theorem sat_column_1 (x : Col) (name : ByteArray) : Sat Pg k_typing_column_1 [x.w, .c (.fp [.lit (.string name)])] (fun r => r = rB (beqS x.name name)) := by
  obtain ⟨a, b⟩ := x
  refine Sat_of T6 c_typing_column_1_ok (by kernel_rfl) ?_
  conv => whnf
  rfl
theorem sat_column (l : List Col) (name : ByteArray) : Sat Pg k_typing_column [.c (.d (.sl (colD l))), .c (str name)] (fun r => r = rI (colAt l name)) := by
  refine Sat_of T6 c_typing_column_ok (by kernel_rfl) ?_
  conv => whnf
  refine Sat.mono (sat_IndexFunc_Column k_typing_column_1 [.lit (.string name)] (fun x => beqS x.name name) (fun x => sat_column_1 x name) l) ?_
  rintro _ rfl
  conv => whnf
  rfl
def fitK (k want : Int) : Bool := k == want || k == 0
theorem sat_fits (k want : Int) : Sat Pg k_typing_fits [.c (int k), .c (int want)] (fun r => r = rB (fitK k want)) := by
  unfold fitK
  refine Sat_of T6 c_typing_fits_ok (by kernel_rfl) ?_
  repeat' (conv => whnf
           refine cond_i (fun h => ?_) (fun h => ?_))
  all_goals refine congrArg rB ?_
  all_goals first | (simp only [*, cond_true, cond_false]; done) | (simp_all only [Bool.false_eq_true, cond_true, cond_false]; done) | (simp_all; done)
theorem sat_all_1 (k want : Int) : Sat Pg k_typing_all_1 [.c (int k), .c (.fp [.lit (.int .i64 want)])] (fun r => r = rB (!fitK k want)) := by
  refine Sat_of T6 c_typing_all_1_ok (by kernel_rfl) ?_
  conv => whnf
  refine Sat.mono (sat_fits k want) ?_
  rintro _ rfl
  conv => whnf
  rfl
theorem sat_IndexFunc_ValueKind (g : FuncId) (cap : List D) (p : Int → Bool) (hp : ∀ x : Int, Sat Pg g [.c (int x), .c (.fp cap)] (fun r => r = rB (p x))) (l : List Int) :
    Sat Pg k_slices_IndexFunc_ValueKind [.c (.d (.sl (intsD l))), .c (.d (.fn g [cap]))] (fun r => r = rI (findI p 0 l)) := by
  refine sat_len 0 (by kernel_rfl) rfl fun hlen => ?_
  rw [intsD_len] at hlen
  refine Sat_of T6 c_slices_IndexFunc_ValueKind_ok (by kernel_rfl) ?_
  conv => whnf
  refine loopI (P := Pg) (f := T6.f) (body := c_slices_IndexFunc_ValueKind_L0) l.length (fun i => ⟨[(0, .w (.c (.d (.sl (intsD l))))), (1, .w (.c (.d (.fn g [cap])))), (7, intV (intsD l).length), (8, intV i)], []⟩)
    (fun i => findI p 0 l = findI p i (l.drop i)) ⟨rfl, normW_of ?_⟩ ?_
  · conv => whnf
    rfl
  · intro i hi hR
    conv => whnf
    refine cond_i (fun h1 => ?_) (fun h1 => ?_)
    · have hlt : i < l.length := by have := of_decide_eq_true h1; rw [intsD_len] at this; omega
      conv => whnf
      refine ⟨by omega, _, intsD_get hlt, rfl, ?_⟩
      conv => whnf
      refine Sat.mono (hp l[i]) ?_
      rintro _ rfl
      rw [drop_cons hlt] at hR
      conv => whnf
      refine cond_i (fun h3 => ?_) (fun h3 => ?_)
      · simp only [findI, h3, cond_true] at hR
        conv => whnf
        exact congrArg rI hR.symm
      · simp only [findI, h3, cond_false] at hR
        conv => whnf
        refine ⟨hlt, hR, normW_of ?_⟩
        conv => whnf
        rw [wrapS hlt hlen]
        rfl
    · have hge : l.length ≤ i := by have := of_decide_eq_false h1; rw [intsD_len] at this; omega
      rw [List.drop_eq_nil_of_le hge] at hR
      conv => whnf
      exact congrArg rI hR.symm
theorem sat_ContainsFunc_ValueKind (g : FuncId) (cap : List D) (p : Int → Bool) (hp : ∀ x : Int, Sat Pg g [.c (int x), .c (.fp cap)] (fun r => r = rB (p x))) (l : List Int) :
    Sat Pg k_slices_ContainsFunc_ValueKind [.c (.d (.sl (intsD l))), .c (.d (.fn g [cap]))] (fun r => r = rB (l.any p)) := by
  refine Sat_of T6 c_slices_ContainsFunc_ValueKind_ok (by kernel_rfl) ?_
  conv => whnf
  refine Sat.mono (sat_IndexFunc_ValueKind g cap p hp l) ?_
  rintro _ rfl
  conv => whnf
  exact congrArg rB (findI_ge _ l 0)
def allK (l : List Int) (want : Int) : Bool := !l.any fun k => !fitK k want
theorem sat_allK (l : List Int) (want : Int) : Sat Pg k_typing_all [.c (.d (.sl (intsD l))), .c (int want)] (fun r => r = rB (allK l want)) := by
  refine Sat_of T6 c_typing_all_ok (by kernel_rfl) ?_
  conv => whnf
  refine Sat.mono (sat_ContainsFunc_ValueKind k_typing_all_1 [.lit (.int .i64 want)] (fun k => !fitK k want) (fun x => sat_all_1 x want) l) ?_
  rintro _ rfl
  conv => whnf
  rfl
def rII (x : Int × Int) : Res := ⟨.tup [.c (int x.1), .c (int x.2)], []⟩
def whenK (b : Bool) (k : Int) : Int × Int := bif b then (k, 0) else (0, 14)
theorem sat_when (b : Bool) (k : Int) : Sat Pg k_typing_when [.c (bool b), .c (int k)] (fun r => r = rII (whenK b k)) := by
  cases b <;>
  · refine Sat_of T6 c_typing_when_ok (by kernel_rfl) ?_
    conv => whnf
    rfl
def callK (nm : ByteArray) (l : List Int) : Int × Int :=
  bif beqS nm ⟨#[109, 105, 110]⟩ || beqS nm ⟨#[109, 97, 120]⟩ then whenK (allK l 2 || allK l 3) (mmI true (l.getD 0 0) (l.getD 1 0)) else
  bif beqS nm ⟨#[97, 98, 115]⟩ then whenK (allK l 2) 2 else bif beqS nm ⟨#[108, 101, 110]⟩ then whenK (allK l 3) 2 else whenK (allK l 3) 1
theorem sat_callK (nm : ByteArray) (l : List Int) (hl : (beqS nm ⟨#[109, 105, 110]⟩ || beqS nm ⟨#[109, 97, 120]⟩) = true → 2 ≤ l.length) : Sat Pg k_typing_call [.c (str nm), .c (.d (.sl (intsD l)))] (fun r => r = rII (callK nm l)) := by
  unfold callK
  have h2 := sat_allK l 2
  have h3 := sat_allK l 3
  have g0 : 2 ≤ l.length → (intsD l)[(0 : Int).toNat]? = some [D.lit (.int .i64 (l.getD 0 0))] := fun h => by
    have := intsD_get (r := l) (i := 0) (by omega)
    rw [show l.getD 0 0 = l[0] by simp [List.getD, List.getElem?_eq_getElem (show 0 < l.length by omega)]]
    exact this
  have g1 : 2 ≤ l.length → (intsD l)[(1 : Int).toNat]? = some [D.lit (.int .i64 (l.getD 1 0))] := fun h => by
    have := intsD_get (r := l) (i := 1) (by omega)
    rw [show l.getD 1 0 = l[1] by simp [List.getD, List.getElem?_eq_getElem (show 1 < l.length by omega)]]
    exact this
  generalize l.getD 0 0 = x0 at *
  generalize l.getD 1 0 = x1 at *
  generalize allK l 2 = b2 at *
  generalize allK l 3 = b3 at *
  refine Sat_of T6 c_typing_call_ok (by kernel_rfl) ?_
  conv => whnf
  generalize beqS nm ⟨#[109, 105, 110]⟩ = p1 at *
  cases p1 with
  | true =>
    have hl := hl rfl
    have g0 := g0 hl
    have g1 := g1 hl
    conv => whnf
    refine ⟨by omega, _, g0, rfl, ?_⟩
    conv => whnf
    refine ⟨by omega, _, g1, rfl, ?_⟩
    conv => whnf
    refine Sat.mono (h2) ?_
    rintro _ rfl
    conv => whnf
    cases b2 with
    | true =>
      conv => whnf
      refine Sat.mono (sat_when true (mmI true x0 x1)) ?_
      rintro _ rfl
      conv => whnf
      rfl
    | false =>
      conv => whnf
      refine Sat.mono (h3) ?_
      rintro _ rfl
      conv => whnf
      refine Sat.mono (sat_when b3 (mmI true x0 x1)) ?_
      rintro _ rfl
      conv => whnf
      rfl
  | false =>
    conv => whnf
    generalize beqS nm ⟨#[109, 97, 120]⟩ = p2 at *
    cases p2 with
    | true =>
      have hl := hl rfl
      have g0 := g0 hl
      have g1 := g1 hl
      conv => whnf
      refine ⟨by omega, _, g0, rfl, ?_⟩
      conv => whnf
      refine ⟨by omega, _, g1, rfl, ?_⟩
      conv => whnf
      refine Sat.mono (h2) ?_
      rintro _ rfl
      conv => whnf
      cases b2 with
      | true =>
        conv => whnf
        refine Sat.mono (sat_when true (mmI true x0 x1)) ?_
        rintro _ rfl
        conv => whnf
        rfl
      | false =>
        conv => whnf
        refine Sat.mono (h3) ?_
        rintro _ rfl
        conv => whnf
        refine Sat.mono (sat_when b3 (mmI true x0 x1)) ?_
        rintro _ rfl
        conv => whnf
        rfl
    | false =>
      conv => whnf
      generalize beqS nm ⟨#[97, 98, 115]⟩ = p3 at *
      cases p3 with
      | true =>
        conv => whnf
        refine Sat.mono (h2) ?_
        rintro _ rfl
        conv => whnf
        refine Sat.mono (sat_when b2 2) ?_
        rintro _ rfl
        conv => whnf
        rfl
      | false =>
        conv => whnf
        generalize beqS nm ⟨#[108, 101, 110]⟩ = p4 at *
        cases p4 with
        | true =>
          conv => whnf
          refine Sat.mono (h3) ?_
          rintro _ rfl
          conv => whnf
          refine Sat.mono (sat_when b3 2) ?_
          rintro _ rfl
          conv => whnf
          rfl
        | false =>
          conv => whnf
          refine Sat.mono (h3) ?_
          rintro _ rfl
          conv => whnf
          refine Sat.mono (sat_when b3 1) ?_
          rintro _ rfl
          conv => whnf
          rfl
end Go.Proofs.YtekkjilpdohieaaGreat

namespace Go.Proofs.YtekkjilpdohieaaGreat
open Go Go.AM
attribute [local irreducible] Sat SatH LoopP
set_option maxRecDepth 100000
set_option maxHeartbeats 1000000

def needK (op : Int) (nm : ByteArray) : Int := bif op == 1 || op == 2 then 0 else bif op == 3 || op == 4 then 1 else bif op == 16 then arityI nm else 2
theorem nodeTail_nk {op : Int} {nm : ByteArray} {v : Val} {nk kids : Int} {name vv : Bool} (h : nodeTail op nm v nk kids name vv = 0) : nk = kids := by
  unfold nodeTail at h
  have h1 := (bif_ne' (by omega) h).1
  simp only [Bool.or_eq_false_iff] at h1
  simpa using h1.1
theorem nodeTail_ar {op : Int} {nm : ByteArray} {v : Val} {nk kids : Int} (ho : (op == 16) = true) (h : nodeTail op nm v nk kids true false = 0) : kids = arityI nm := by
  unfold nodeTail at h
  have h1 := (bif_ne' (by omega) h).2
  simp only [cond_false] at h1
  have h2 := (bif_ne' (by omega) h1).2
  have h3 := (bif_ne' (by omega) h2).2
  have h4 := (bif_ne' (by omega) h3).1
  rw [ho, Bool.true_and] at h4
  have : arityI nm = kids := by simpa using h4
  exact this.symm
theorem nodeErr_nk {op : Int} {nm : ByteArray} {v : Val} {nk : Int} (h : nodeErr op nm v nk = 0) : nk = needK op nm ∧ 1 ≤ op ∧ op ≤ 16 := by
  unfold nodeErr at h
  unfold needK
  cases h1 : (op == 1)
  · rw [h1, cond_false] at h
    cases h2 : (op == 2)
    · rw [h2, cond_false] at h
      cases h3 : (op == 3 || op == 4)
      · rw [h3, cond_false] at h
        cases h4 : (op == 16)
        · rw [h4, cond_false] at h
          obtain ⟨h5, h6⟩ := bif_ne' (by omega) h
          simp only [Bool.or_eq_false_iff, decide_eq_false_iff_not] at h5
          exact ⟨nodeTail_nk h6, by omega, by omega⟩
        · rw [h4, cond_true] at h
          have : op = 16 := by simpa using h4
          exact ⟨nodeTail_ar h4 h, by omega, by omega⟩
      · rw [h3, cond_true] at h
        simp only [Bool.or_eq_true, beq_iff_eq] at h3
        exact ⟨nodeTail_nk h, by omega, by omega⟩
    · rw [h2, cond_true] at h
      have : op = 2 := by simpa using h2
      exact ⟨nodeTail_nk h, by omega, by omega⟩
  · rw [h1, cond_true] at h
    have : op = 1 := by simpa using h1
    exact ⟨nodeTail_nk h, by omega, by omega⟩
theorem arityI_le (nm : ByteArray) : 0 ≤ arityI nm ∧ arityI nm ≤ 2 := by
  unfold arityI
  cases (beqS nm ⟨#[109, 105, 110]⟩ || (beqS nm ⟨#[109, 97, 120]⟩ || (beqS nm ⟨#[104, 97, 115]⟩ || beqS nm ⟨#[115, 116, 97, 114, 116, 115]⟩)))
  · cases (beqS nm ⟨#[97, 98, 115]⟩ || beqS nm ⟨#[108, 101, 110]⟩) <;> simp
  · simp
theorem needK_le (op : Int) (nm : ByteArray) : needK op nm ≤ 2 := by
  have := arityI_le nm
  unfold needK
  cases (op == 1 || op == 2)
  · cases (op == 3 || op == 4)
    · cases (op == 16) <;> simp <;> omega
    · simp
  · simp
theorem arity_mm {nm : ByteArray} (h : (beqS nm ⟨#[109, 105, 110]⟩ || beqS nm ⟨#[109, 97, 120]⟩) = true) : arityI nm = 2 := by
  unfold arityI
  rw [← Bool.or_assoc, h]
  rfl

def typeAt (cols : List Col) (i : Int) : Int := ((cols[i.toNat]?).map Col.t).getD 0
def tyOp (cols : List Col) (op : Int) (nm : ByteArray) (v : Val) (l : List Int) : Int × Int :=
  bif op == 1 then (v.k, 0) else
  bif op == 2 then (bif decide (colAt cols nm < 0) then (0, 16) else (typeAt cols (colAt cols nm), 0)) else
  bif op == 3 || (op == 14 || op == 15) then whenK (allK l 1) 1 else
  bif op == 10 || op == 11 then whenK (fitK (l.getD 0 0) (l.getD 1 0) || fitK (l.getD 1 0) (l.getD 0 0)) 1 else
  bif op == 12 || op == 13 then whenK (allK l 2 || allK l 3) 1 else
  bif op == 16 then callK nm l else whenK (allK l 2) 2
mutual
def Ex.ty (cols : List Col) : Ex → Int × Int
  | .mk op nm v ks => bif (tyL cols ks).1 != 0 then (0, (tyL cols ks).1) else tyOp cols op nm v (tyL cols ks).2
def tyL (cols : List Col) : List Ex → Int × List Int
  | [] => (0, [])
  | k :: r => bif (k.ty cols).2 != 0 then ((k.ty cols).2, []) else ((tyL cols r).1, (k.ty cols).1 :: (tyL cols r).2)
end
theorem tyL_step (cols : List Col) {ks : List Ex} {i : Nat} (h : i < ks.length) : tyL cols (ks.drop i) = bif (ks[i].ty cols).2 != 0 then ((ks[i].ty cols).2, []) else ((tyL cols (ks.drop (i + 1))).1, (ks[i].ty cols).1 :: (tyL cols (ks.drop (i + 1))).2) := by
  rw [drop_cons h]; rfl
theorem tyL_len (cols : List Col) : ∀ ks : List Ex, (tyL cols ks).1 = 0 → (tyL cols ks).2.length = ks.length
  | [], _ => rfl
  | k :: r, h => by
    simp only [tyL] at h ⊢
    cases hb : ((k.ty cols).2 != 0)
    · rw [hb, cond_false] at h
      simp only [cond_false, List.length_cons]
      rw [tyL_len cols r h]
    · rw [hb, cond_true] at h
      simp only at h
      rw [h] at hb; cases hb
theorem errL_mem : ∀ {ks : List Ex}, errL ks = 0 → ∀ k ∈ ks, k.err = 0
  | [], _, k, hk => by cases hk
  | a :: r, h, k, hk => by
    simp only [errL] at h
    cases hb : (a.err != 0)
    · rw [hb, cond_false] at h
      rcases List.mem_cons.1 hk with rfl | hk
      · simpa using hb
      · exact errL_mem h k hk
    · rw [hb, cond_true] at h
      rw [h] at hb; cases hb
theorem colAt_lt : ∀ (p : Col → Bool) (l : List Col) (i : Int), 0 ≤ i → findI p i l < 0 ∨ (i ≤ findI p i l ∧ findI p i l < i + l.length)
  | p, [], i, h => .inl (by simp [findI])
  | p, a :: r, i, h => by
    simp only [findI]
    cases p a
    · rw [cond_false]
      rcases colAt_lt p r (i + 1) (by omega) with h1 | h1
      · exact .inl h1
      · exact .inr ⟨by omega, by rw [List.length_cons]; omega⟩
    · rw [cond_true]; exact .inr ⟨by omega, by rw [List.length_cons]; omega⟩
def tnS (cols : List Col) (op : Int) (nm : ByteArray) (v : Val) (ks : List Ex) (i : Nat) (acc : List Int) : S := ⟨[(0, .w (.c (.d (.sl (colD cols))))), (3, cV (.ptr 3 0)), (6, cV (.own 31 1 acc.length)), (13, .w (.c (.d (.sl (exsD ks))))), (14, intV (exsD ks).length), (15, intV i)], [(3, .box [int op, str nm, int v.k, int v.n, str v.s, .d (.sl (exsD ks))]), (31, .arr 1 (intsD acc) false)]⟩
theorem intsD_app (a b : List Int) : intsD a ++ intsD b = intsD (a ++ b) := by simp [intsD]
theorem sat_tnode (cols : List Col) : ∀ (e : Ex), e.err = 0 → Sat Pg k_typing_node [.c (.d (.sl (colD cols))), e.w] (fun r => r = rII (e.ty cols))
  | .mk op nm v ks, he => by
    have he0 : nodeErr op nm v ks.length = 0 ∧ errL ks = 0 := by
      simp only [Ex.err] at he
      cases hb : (nodeErr op nm v ks.length != 0)
      · rw [hb, cond_false] at he
        exact ⟨by simpa using hb, he⟩
      · rw [hb, cond_true] at he
        rw [he] at hb; cases hb
    have hks := errL_mem he0.2
    have ih : ∀ k ∈ ks, Sat Pg k_typing_node [.c (.d (.sl (colD cols))), k.w] (fun r => r = rII (k.ty cols)) := fun k hk => sat_tnode cols k (hks k hk)
    obtain ⟨hnk, ho1, ho2⟩ := nodeErr_nk he0.1
    have hle := needK_le op nm
    have hlen : ks.length ≤ 2 := by omega
    have hty : Ex.ty cols (.mk op nm v ks) = bif (tyL cols ks).1 != 0 then (0, (tyL cols ks).1) else tyOp cols op nm v (tyL cols ks).2 := by simp only [Ex.ty]
    rw [hty]
    have htl := tyL_len cols ks
    clear he he0 hks hty
    refine Sat_of T6 c_typing_node_ok (by kernel_rfl) ?_
    conv => whnf
    refine loopF (P := Pg) (f := T6.f) (body := c_typing_node_L0) (fun x : Nat × List Int => tnS cols op nm v ks x.1 x.2) (fun x => ks.length - x.1) (fun x => x.1 ≤ ks.length ∧ x.2.length = x.1 ∧ (tyL cols ks).1 = (tyL cols (ks.drop x.1)).1 ∧ ((tyL cols ks).1 = 0 → (tyL cols ks).2 = x.2 ++ (tyL cols (ks.drop x.1)).2)) ⟨(0, []), ⟨Nat.zero_le _, rfl, rfl, fun _ => rfl⟩, ⟨_, weak_ownNil 6 31 1 (by omega) (by omega) rfl, ?_⟩⟩ ?_
    · conv => whnf
      rfl
    · rintro ⟨i, acc⟩ hx
      obtain ⟨hi, ha, hR, hL⟩ : i ≤ ks.length ∧ acc.length = i ∧ (tyL cols ks).1 = (tyL cols (ks.drop i)).1 ∧ ((tyL cols ks).1 = 0 → (tyL cols ks).2 = acc ++ (tyL cols (ks.drop i)).2) := hx
      have hax : (intsD acc).take acc.length = intsD acc := by rw [← intsD_len, List.take_length]
      obtain ⟨vk, vn, vs⟩ := v
      have wi : i < ks.length → IntKind.i64.wrap ((i : Int) + 1) = ((i + 1 : Nat) : Int) := fun h => wrapS h (by omega)
      conv => whnf
      refine cond_i (fun h1 => ?_) (fun h1 => ?_)
      · have hlt : i < ks.length := by have := of_decide_eq_true h1; rw [exsD_len] at this; omega
        rw [tyL_step cols hlt] at hR hL
        have hg : (exsD ks)[((i : Int)).toNat]? = some (ks[i]).ds := exsD_get hlt
        have hm : ks[i] ∈ ks := List.getElem_mem hlt
        generalize ks[i] = k at *
        have ihk := ih k hm
        obtain ⟨op1, nm1, v1, ks1⟩ := k
        generalize (Ex.ty cols (.mk op1 nm1 v1 ks1)) = x at *
        obtain ⟨x1, x2⟩ := x
        simp only at hR hL
        conv => whnf
        refine ⟨by omega, _, hg, rfl, ?_⟩
        conv => whnf
        refine Sat.mono (ihk) ?_
        rintro _ rfl
        conv => whnf
        refine cond_i (fun h2 => ?_) (fun h2 => ?_)
        · have h2 : (x2 != 0) = true := h2
          rw [h2, cond_true] at hR
          have hR : (tyL cols ks).1 = x2 := hR
          rw [hR, h2, cond_true]
          conv => whnf
          rfl
        · have h2 : (x2 != 0) = false := h2
          rw [h2, cond_false] at hR hL
          conv => whnf
          refine ⟨by simp, by unfold fits; simp; omega, by simp; omega, ?_⟩
          conv => whnf
          refine ⟨(i + 1, acc ++ [x1]), ⟨⟨hlt, by rw [List.length_append, ha]; rfl, hR, fun h => by rw [hL h]; simp⟩, by show ks.length - (i + 1) < ks.length - i; omega⟩, normW_of ?_⟩
          conv => whnf
          rw [wi hlt, hax]
          show _ = S.mk [_, _, (6, cV (.own 31 1 (acc ++ [x1]).length)), _, _, _] [_, (31, .arr 1 (intsD (acc ++ [x1])) false)]
          rw [← intsD_app, List.length_append]
          rfl
      · have hge : i = ks.length := by have := of_decide_eq_false h1; rw [exsD_len] at this; omega
        rw [hge, List.drop_length] at hR hL
        have hR : (tyL cols ks).1 = 0 := hR
        have hL := hL hR
        have hL : (tyL cols ks).2 = acc := by rw [hL]; simp [tyL]
        have htl := htl hR
        rw [hR, hL]
        rw [hL] at htl
        simp only [bne_self_eq_false, cond_false]
        have hA : ∀ w, Sat Pg k_typing_all [.c (.d (.sl ((intsD acc).take acc.length))), .c (int w)] (fun r => r = rB (allK acc w)) := fun w => by rw [hax]; exact sat_allK acc w
        have hC : (op == 16) = true → Sat Pg k_typing_call [.c (str nm), .c (.d (.sl ((intsD acc).take acc.length)))] (fun r => r = rII (callK nm acc)) := fun h => by
          rw [hax]
          refine sat_callK nm acc fun hmm => ?_
          have ho : op = 16 := by simpa using h
          rw [ho] at hnk
          have hn2 : (ks.length : Int) = arityI nm := hnk
          rw [arity_mm hmm] at hn2
          omega
        have h2 : (op == 10 || op == 11) = true → acc.length = 2 := fun h => by
          simp only [Bool.or_eq_true, beq_iff_eq] at h
          have : needK op nm = 2 := by
            rcases h with rfl | rfl <;> rfl
          omega
        have g0 : (op == 10 || op == 11) = true → (intsD acc)[(0 : Int).toNat]? = some [D.lit (.int .i64 (acc.getD 0 0))] := fun h => by
          have h2 := h2 h
          have := intsD_get (r := acc) (i := 0) (by omega)
          rw [show acc.getD 0 0 = acc[0] by simp [List.getD, List.getElem?_eq_getElem (show 0 < acc.length by omega)]]
          exact this
        have g1 : (op == 10 || op == 11) = true → (intsD acc)[(1 : Int).toNat]? = some [D.lit (.int .i64 (acc.getD 1 0))] := fun h => by
          have h2 := h2 h
          have := intsD_get (r := acc) (i := 1) (by omega)
          rw [show acc.getD 1 0 = acc[1] by simp [List.getD, List.getElem?_eq_getElem (show 1 < acc.length by omega)]]
          exact this
        have hcol := sat_column cols nm
        have hlt : decide (colAt cols nm < 0) = false → (colD cols)[(colAt cols nm).toNat]? = some [D.lit (.string ((cols[(colAt cols nm).toNat]?).map Col.name |>.getD nm)), D.lit (.int .i64 (typeAt cols (colAt cols nm)))] ∧ 0 ≤ colAt cols nm := fun h => by
          have h := of_decide_eq_false h
          have h3 := colAt_lt (fun x => beqS x.name nm) cols 0 (Int.le_refl _)
          have h4 : 0 ≤ colAt cols nm ∧ colAt cols nm < cols.length := by
            unfold colAt at h ⊢
            omega
          refine ⟨?_, h4.1⟩
          generalize colAt cols nm = j at *
          have hj : j.toNat < cols.length := by omega
          unfold typeAt
          rw [List.getElem?_eq_getElem hj]
          simp [colD, List.getElem?_eq_getElem hj, Col.ds]
        obtain ⟨T, hT⟩ : ∃ T, T = tyOp cols op nm ⟨vk, vn, vs⟩ acc := ⟨_, rfl⟩
        rw [← hT]
        unfold tyOp at hT
        generalize colAt cols nm = ci at *
        generalize typeAt cols ci = ct at *
        generalize acc.getD 0 0 = x0 at *
        generalize acc.getD 1 0 = x1 at *
        conv => whnf
        generalize (op == 1) = p1 at *
        cases p1 with
        | true =>
          conv => whnf
          rw [hT]
          rfl
        | false =>
          conv => whnf
          generalize (op == 2) = p2 at *
          cases p2 with
          | true =>
            conv => whnf
            refine Sat.mono (hcol) ?_
            rintro _ rfl
            conv => whnf
            refine cond_i (fun c => ?_) (fun c => ?_)
            · have c : decide (ci < 0) = true := c
              rw [c] at hT
              conv => whnf
              rw [hT]
              rfl
            · have c : decide (ci < 0) = false := c
              obtain ⟨hg, hc0⟩ := hlt c
              rw [c] at hT
              conv => whnf
              refine ⟨hc0, _, hg, rfl, ?_⟩
              conv => whnf
              rw [hT]
              rfl
          | false =>
            conv => whnf
            generalize (op == 3) = p3 at *
            cases p3 with
            | true =>
              conv => whnf
              refine Sat.mono (hA 1) ?_
              rintro _ rfl
              conv => whnf
              refine Sat.mono (sat_when (allK acc 1) 1) ?_
              rintro _ rfl
              conv => whnf
              rw [hT]
              rfl
            | false =>
              conv => whnf
              generalize (op == 14) = p14 at *
              cases p14 with
              | true =>
                conv => whnf
                refine Sat.mono (hA 1) ?_
                rintro _ rfl
                conv => whnf
                refine Sat.mono (sat_when (allK acc 1) 1) ?_
                rintro _ rfl
                conv => whnf
                rw [hT]
                rfl
              | false =>
                conv => whnf
                generalize (op == 15) = p15 at *
                cases p15 with
                | true =>
                  conv => whnf
                  refine Sat.mono (hA 1) ?_
                  rintro _ rfl
                  conv => whnf
                  refine Sat.mono (sat_when (allK acc 1) 1) ?_
                  rintro _ rfl
                  conv => whnf
                  rw [hT]
                  rfl
                | false =>
                  conv => whnf
                  generalize (op == 10) = p10 at *
                  cases p10 with
                  | true =>
                    have h2 := h2 rfl
                    have g0 := g0 rfl
                    have g1 := g1 rfl
                    conv => whnf
                    refine ⟨by omega, by omega, ?_⟩
                    conv => whnf
                    refine ⟨_, g0, ?_⟩
                    conv => whnf
                    refine ⟨by omega, by omega, ?_⟩
                    conv => whnf
                    refine ⟨_, g1, ?_⟩
                    conv => whnf
                    refine Sat.mono (sat_fits x0 x1) ?_
                    rintro _ rfl
                    conv => whnf
                    generalize fitK x0 x1 = f at *
                    cases f with
                    | true =>
                      conv => whnf
                      refine Sat.mono (sat_when true 1) ?_
                      rintro _ rfl
                      conv => whnf
                      rw [hT]
                      rfl
                    | false =>
                      conv => whnf
                      refine ⟨by omega, by omega, ?_⟩
                      conv => whnf
                      refine ⟨_, g1, ?_⟩
                      conv => whnf
                      refine ⟨by omega, by omega, ?_⟩
                      conv => whnf
                      refine ⟨_, g0, ?_⟩
                      conv => whnf
                      refine Sat.mono (sat_fits x1 x0) ?_
                      rintro _ rfl
                      conv => whnf
                      refine Sat.mono (sat_when (fitK x1 x0) 1) ?_
                      rintro _ rfl
                      conv => whnf
                      rw [hT]
                      rfl
                  | false =>
                    conv => whnf
                    generalize (op == 11) = p11 at *
                    cases p11 with
                    | true =>
                      have h2 := h2 rfl
                      have g0 := g0 rfl
                      have g1 := g1 rfl
                      conv => whnf
                      refine ⟨by omega, by omega, ?_⟩
                      conv => whnf
                      refine ⟨_, g0, ?_⟩
                      conv => whnf
                      refine ⟨by omega, by omega, ?_⟩
                      conv => whnf
                      refine ⟨_, g1, ?_⟩
                      conv => whnf
                      refine Sat.mono (sat_fits x0 x1) ?_
                      rintro _ rfl
                      conv => whnf
                      generalize fitK x0 x1 = f at *
                      cases f with
                      | true =>
                        conv => whnf
                        refine Sat.mono (sat_when true 1) ?_
                        rintro _ rfl
                        conv => whnf
                        rw [hT]
                        rfl
                      | false =>
                        conv => whnf
                        refine ⟨by omega, by omega, ?_⟩
                        conv => whnf
                        refine ⟨_, g1, ?_⟩
                        conv => whnf
                        refine ⟨by omega, by omega, ?_⟩
                        conv => whnf
                        refine ⟨_, g0, ?_⟩
                        conv => whnf
                        refine Sat.mono (sat_fits x1 x0) ?_
                        rintro _ rfl
                        conv => whnf
                        refine Sat.mono (sat_when (fitK x1 x0) 1) ?_
                        rintro _ rfl
                        conv => whnf
                        rw [hT]
                        rfl
                    | false =>
                      conv => whnf
                      generalize (op == 12) = p12 at *
                      cases p12 with
                      | true =>
                        conv => whnf
                        refine Sat.mono (hA 2) ?_
                        rintro _ rfl
                        conv => whnf
                        generalize allK acc 2 = b2 at *
                        cases b2 with
                        | true =>
                          conv => whnf
                          refine Sat.mono (sat_when true 1) ?_
                          rintro _ rfl
                          conv => whnf
                          rw [hT]
                          rfl
                        | false =>
                          conv => whnf
                          refine Sat.mono (hA 3) ?_
                          rintro _ rfl
                          conv => whnf
                          refine Sat.mono (sat_when (allK acc 3) 1) ?_
                          rintro _ rfl
                          conv => whnf
                          rw [hT]
                          rfl
                      | false =>
                        conv => whnf
                        generalize (op == 13) = p13 at *
                        cases p13 with
                        | true =>
                          conv => whnf
                          refine Sat.mono (hA 2) ?_
                          rintro _ rfl
                          conv => whnf
                          generalize allK acc 2 = b2 at *
                          cases b2 with
                          | true =>
                            conv => whnf
                            refine Sat.mono (sat_when true 1) ?_
                            rintro _ rfl
                            conv => whnf
                            rw [hT]
                            rfl
                          | false =>
                            conv => whnf
                            refine Sat.mono (hA 3) ?_
                            rintro _ rfl
                            conv => whnf
                            refine Sat.mono (sat_when (allK acc 3) 1) ?_
                            rintro _ rfl
                            conv => whnf
                            rw [hT]
                            rfl
                        | false =>
                          conv => whnf
                          generalize (op == 16) = p16 at *
                          cases p16 with
                          | true =>
                            conv => whnf
                            refine Sat.mono (hC rfl) ?_
                            rintro _ rfl
                            conv => whnf
                            rw [hT]
                            rfl
                          | false =>
                            conv => whnf
                            refine Sat.mono (hA 2) ?_
                            rintro _ rfl
                            conv => whnf
                            refine Sat.mono (sat_when (allK acc 2) 2) ?_
                            rintro _ rfl
                            conv => whnf
                            rw [hT]
                            rfl
termination_by e => SizeOf.sizeOf e
decreasing_by
  simp_wf
  have := List.sizeOf_lt_of_mem hk
  omega
end Go.Proofs.YtekkjilpdohieaaGreat

namespace Go.Proofs.YtekkjilpdohieaaGreat
open Go Go.AM
attribute [local irreducible] Sat SatH LoopP
set_option maxRecDepth 100000
set_option maxHeartbeats 1000000

def truthV (b : Bool) : Val := ⟨1, bif b then 1 else 0, ⟨#[]⟩⟩
def nullV : Val := ⟨0, 0, ⟨#[]⟩⟩
def numV (n : Int) (ok : Bool) : Val := bif ok then ⟨2, n, ⟨#[]⟩⟩ else nullV
def rV (v : Val) : Res := ⟨.w v.w, []⟩
/-- A value of a string that is not too long. -/
def Sml (v : Val) : Prop := v.s.size ≤ 100000
theorem sml_truth (b : Bool) : Sml (truthV b) := by unfold Sml; show (0 : Nat) ≤ _; omega
theorem sml_null : Sml nullV := by unfold Sml; show (0 : Nat) ≤ _; omega
theorem sml_num (n : Int) (b : Bool) : Sml (numV n b) := by cases b <;> (unfold Sml; show (0 : Nat) ≤ _; omega)
theorem sml_mk (k n : Int) : Sml ⟨k, n, ⟨#[]⟩⟩ := by unfold Sml; show (0 : Nat) ≤ _; omega
theorem sml_bif {b : Bool} {x y : Val} (hx : Sml x) (hy : Sml y) : Sml (bif b then x else y) := by cases b <;> assumption
theorem sat_truth (b : Bool) : Sat Pg k_eval_truth [.c (bool b)] (fun r => r = rV (truthV b)) := by
  cases b <;>
  · refine Sat_of T6 c_eval_truth_ok (by kernel_rfl) ?_
    conv => whnf
    rfl
theorem sat_number (n : Int) (b : Bool) : Sat Pg k_eval_number [.c (int n), .c (bool b)] (fun r => r = rV (numV n b)) := by
  cases b <;>
  · refine Sat_of T6 c_eval_number_ok (by kernel_rfl) ?_
    conv => whnf
    rfl
def T8f (k : FuncId) (l : List W) : Option W :=
  match l with
  | [.c (.d (.lit (.bool b)))] => bif Nat.beq k k_eval_truth then some (.agg [int 1, int (bif b then 1 else 0), str ⟨#[]⟩]) else T6f k l
  | [.c (.d (.lit (.int .i64 n))), .c (.d (.lit (.bool b)))] => bif Nat.beq k k_eval_number then some (.agg [int (bif b then 2 else 0), int (bif b then n else 0), str ⟨#[]⟩]) else T6f k l
  | _ => T6f k l
theorem T8ok (k : FuncId) (l : List W) (w : W) (h : T8f k l = some w) : Sat Pg k l (fun r => r = ⟨.w w, []⟩) := by
  unfold T8f at h
  split at h
  · rcases bif_some h with ⟨h1, rfl⟩ | ⟨_, h⟩
    · rw [Nat.eq_of_beq_eq_true h1]; exact sat_truth _
    · exact T6ok k _ w h
  · rename_i n b
    rcases bif_some h with ⟨h1, rfl⟩ | ⟨_, h⟩
    · rw [Nat.eq_of_beq_eq_true h1]
      have := sat_number n b
      cases b <;> exact this
    · exact T6ok k _ w h
  · exact T6ok k l w h
def T8 : Tab Pg := ⟨T8f, T8ok⟩

def bothV (a b : Val) : Val := bif eqV a (truthV false) || eqV b (truthV false) then truthV false else bif a.k == 0 || b.k == 0 then nullV else truthV true
theorem sat_both (a b : Val) : Sat Pg k_eval_both [a.w, b.w] (fun r => r = rV (bothV a b)) := by
  obtain ⟨a1, a2, a3⟩ := a
  obtain ⟨b1, b2, b3⟩ := b
  unfold bothV
  refine Sat_of T8 c_eval_both_ok (by kernel_rfl) ?_
  conv => whnf
  refine cond_i (fun h => ?_) (fun h => ?_)
  · have h : (eqV ⟨a1, a2, a3⟩ (truthV false) || eqV ⟨b1, b2, b3⟩ (truthV false)) = true := h
    conv => whnf
    rw [h]
    rfl
  · have h : (eqV ⟨a1, a2, a3⟩ (truthV false) || eqV ⟨b1, b2, b3⟩ (truthV false)) = false := h
    conv => whnf
    refine cond_i (fun h2 => ?_) (fun h2 => ?_)
    · have h2 : (a1 == 0 || b1 == 0) = true := h2
      conv => whnf
      rw [h, h2]
      rfl
    · have h2 : (a1 == 0 || b1 == 0) = false := h2
      conv => whnf
      rw [h, h2]
      rfl
def notV (a : Val) : Val := bif a.k == 0 then a else truthV (a.n == 0)
theorem sat_not (a : Val) : Sat Pg k_eval_not [a.w] (fun r => r = rV (notV a)) := by
  obtain ⟨a1, a2, a3⟩ := a
  unfold notV
  refine Sat_of T8 c_eval_not_ok (by kernel_rfl) ?_
  conv => whnf
  refine cond_i (fun h => ?_) (fun h => ?_)
  · have h : (a1 == 0) = true := h
    conv => whnf
    rw [h]
    rfl
  · have h : (a1 == 0) = false := h
    conv => whnf
    rw [h]
    rfl
theorem sml_not {a : Val} (h : Sml a) : Sml (notV a) := sml_bif h (sml_truth _)
theorem sml_both (a b : Val) : Sml (bothV a b) := sml_bif (sml_truth _) (sml_bif sml_null (sml_truth _))
theorem num_ex {P : Val → Prop} (h : ∃ n b, P (numV n b)) : ∃ v, P v := by
  obtain ⟨n, b, h⟩ := h
  exact ⟨_, h⟩
theorem ex_divided (a b : Int) (rest : Bool) : ∃ v : Val, Sml v ∧ Sat Pg k_eval_divided [.c (int a), .c (int b), .c (bool rest)] (fun r => r = rV v) := by
  cases hb : (b == 0) with
  | true =>
    refine ⟨nullV, sml_null, ?_⟩
    refine Sat_of T8 c_eval_divided_ok (by kernel_rfl) ?_
    conv => whnf
    refine cond_i (fun h => ?_) (fun h => ?_)
    · conv => whnf
      rfl
    · have h : (b == 0) = false := h
      rw [hb] at h; cases h
  | false =>
    have hb0 : b ≠ 0 := by simpa using hb
    cases rest with
    | true =>
      refine ⟨⟨2, Int.tmod a b, ⟨#[]⟩⟩, sml_mk _ _, ?_⟩
      refine Sat_of T8 c_eval_divided_ok (by kernel_rfl) ?_
      conv => whnf
      rw [hb]
      conv => whnf
      refine ⟨hb0, ?_⟩
      conv => whnf
      rfl
    | false =>
      refine ⟨⟨2, IntKind.i64.wrap (Int.tdiv a b), ⟨#[]⟩⟩, sml_mk _ _, ?_⟩
      refine Sat_of T8 c_eval_divided_ok (by kernel_rfl) ?_
      conv => whnf
      rw [hb]
      conv => whnf
      refine ⟨hb0, ?_⟩
      conv => whnf
      rfl
/-- A number with a mark, of which no more is asked. -/
def rNB (n : Int) (b : Bool) : Res := ⟨.tup [.c (int n), .c (bool b)], []⟩
theorem sat_within (n : Int) (b : Bool) : Sat Pg k_num_within [.c (int n), .c (bool b)] (fun r => r = rNB (bif !b || !inB n then 0 else n) (!(!b || !inB n))) := by
  refine Sat_of T8 c_num_within_ok (by kernel_rfl) ?_
  conv => whnf
  refine cond_i (fun h => ?_) (fun h => ?_)
  · have h : (!b || !inB n) = true := h
    conv => whnf
    rw [h]
    rfl
  · have h : (!b || !inB n) = false := h
    conv => whnf
    rw [h]
    rfl
theorem ex_Add (a b : Int) : ∃ n c, Sat Pg k_num_Add [.c (int a), .c (int b)] (fun r => r = rNB n c) := by
  cases hb : (!inB a || !inB b) with
  | true =>
    refine ⟨0, false, ?_⟩
    refine Sat_of T8 c_num_Add_ok (by kernel_rfl) ?_
    conv => whnf
    refine cond_i (fun h => ?_) (fun h => ?_)
    · conv => whnf
      rfl
    · have h : (!inB a || !inB b) = false := h
      rw [hb] at h; cases h
  | false =>
    refine ⟨bif !true || !inB (IntKind.i64.wrap (a + b)) then 0 else IntKind.i64.wrap (a + b), !(!true || !inB (IntKind.i64.wrap (a + b))), ?_⟩
    refine Sat_of T8 c_num_Add_ok (by kernel_rfl) ?_
    conv => whnf
    refine cond_i (fun h => ?_) (fun h => ?_)
    · have h : (!inB a || !inB b) = true := h
      rw [hb] at h; cases h
    · conv => whnf
      refine Sat.mono (sat_within (IntKind.i64.wrap (a + b)) true) ?_
      rintro _ rfl
      conv => whnf
      rfl
def u64W (n : Int) : W := .c (.d (.lit (.int .u64 n)))
def magI (a : Int) : Int := IntKind.u64.wrap (bif decide (a < 0) then IntKind.i64.wrap (0 - a) else a)
theorem sat_magnitude (a : Int) : Sat Pg k_num_magnitude [.c (int a)] (fun r => r = ⟨.tup [u64W (magI a), .c (bool (decide (a < 0)))], []⟩) := by
  unfold magI
  cases hb : decide (a < 0) with
  | true =>
    refine Sat_of T8 c_num_magnitude_ok (by kernel_rfl) ?_
    conv => whnf
    rw [hb]
    conv => whnf
    rfl
  | false =>
    refine Sat_of T8 c_num_magnitude_ok (by kernel_rfl) ?_
    conv => whnf
    rw [hb]
    conv => whnf
    rfl
theorem wrapU_nn (x : Int) : 0 ≤ IntKind.u64.wrap x := by
  show 0 ≤ x % _
  exact Int.emod_nonneg _ (by decide)
theorem ex_Mul64 (x y : Int) : ∃ h l : Int, Sat Pg k_math_bits_Mul64 [u64W x, u64W y] (fun r => r = ⟨.tup [u64W (IntKind.u64.wrap h), u64W l], []⟩) := by
  refine ⟨?n, ?l, ?m⟩
  case' m =>
    refine Sat_of T8 c_math_bits_Mul64_ok (by kernel_rfl) ?_
    conv => whnf
    refine ⟨by decide, ?_⟩
    conv => whnf
    refine ⟨by decide, ?_⟩
    conv => whnf
    refine ⟨by decide, ?_⟩
    conv => whnf
    refine ⟨by decide, ?_⟩
    conv => whnf
    refine ⟨by decide, ?_⟩
    conv => whnf
    exact rfl
theorem ex_Div64 (l : Int) : ∃ q r : Int, Sat Pg k_math_bits_Div64 [u64W 0, u64W l, u64W 1] (fun z => z = ⟨.tup [u64W q, u64W r], []⟩) := by
  refine ⟨?n, ?l, ?m⟩
  case' m =>
    refine Sat_of T8 c_math_bits_Div64_ok (by kernel_rfl) ?_
    conv => whnf
    refine ⟨by decide, ?_⟩
    conv => whnf
    refine ⟨by decide, ?_⟩
    conv => whnf
    exact rfl
theorem ex_quotient (a b : Int) : ∃ (q r : Int) (s t : Bool), Sat Pg k_num_quotient [.c (int a), .c (int b), .c (int 1)] (fun z => z = ⟨.tup [u64W q, u64W r, .c (bool s), .c (bool t)], []⟩) := by
  obtain ⟨h, l, hm⟩ := ex_Mul64 (magI a) (magI b)
  obtain ⟨q, r, hd⟩ := ex_Div64 l
  have ha := sat_magnitude a
  have hb := sat_magnitude b
  have hh := wrapU_nn h
  generalize magI a = ma at *
  generalize magI b = mb at *
  generalize IntKind.u64.wrap h = hi at *
  generalize decide (a < 0) = sa at *
  generalize decide (b < 0) = sb at *
  cases hr : (!inB a || !inB b) with
  | true =>
    refine ⟨0, 0, false, false, ?_⟩
    refine Sat_of T8 c_num_quotient_ok (by kernel_rfl) ?_
    conv => whnf
    refine cond_i (fun h0 => ?_) (fun h0 => ?_)
    · conv => whnf
      rfl
    · have h0 : (((!inB a || !inB b) || decide ((1 : Int) < 1)) || !inB 1) = false := h0
      rw [hr] at h0
      simp at h0
  | false =>
    by_cases h1 : hi = 0
    · subst h1
      refine ⟨q, r, !(sa == sb), decide (q ≤ 1000000000000000), ?_⟩
      refine Sat_of T8 c_num_quotient_ok (by kernel_rfl) ?_
      conv => whnf
      refine cond_i (fun h0 => ?_) (fun h0 => ?_)
      · have h0 : (((!inB a || !inB b) || decide ((1 : Int) < 1)) || !inB 1) = true := h0
        rw [hr] at h0
        exact absurd h0 (by decide)
      · conv => whnf
        refine Sat.mono (ha) ?_
        rintro _ rfl
        conv => whnf
        refine Sat.mono (hb) ?_
        rintro _ rfl
        conv => whnf
        refine Sat.mono (hm) ?_
        rintro _ rfl
        conv => whnf
        refine Sat.mono (hd) ?_
        rintro _ rfl
        conv => whnf
        rfl
    · refine ⟨0, 0, false, false, ?_⟩
      refine Sat_of T8 c_num_quotient_ok (by kernel_rfl) ?_
      conv => whnf
      refine cond_i (fun h0 => ?_) (fun h0 => ?_)
      · have h0 : (((!inB a || !inB b) || decide ((1 : Int) < 1)) || !inB 1) = true := h0
        rw [hr] at h0
        exact absurd h0 (by decide)
      · conv => whnf
        refine Sat.mono (ha) ?_
        rintro _ rfl
        conv => whnf
        refine Sat.mono (hb) ?_
        rintro _ rfl
        conv => whnf
        refine Sat.mono (hm) ?_
        rintro _ rfl
        conv => whnf
        refine cond_i (fun h2 => ?_) (fun h2 => ?_)
        · conv => whnf
          rfl
        · have h2 : decide (hi ≥ 1) = false := h2
          have := of_decide_eq_false h2
          omega
theorem ex_Floor (a b : Int) : ∃ n c, Sat Pg k_num_Floor [.c (int a), .c (int b), .c (int 1)] (fun r => r = rNB n c) := by
  obtain ⟨q, r, s, t, hq⟩ := ex_quotient a b
  cases s with
  | false =>
    refine ⟨bif !t || !inB (IntKind.i64.wrap q) then 0 else IntKind.i64.wrap q, !(!t || !inB (IntKind.i64.wrap q)), ?_⟩
    refine Sat_of T8 c_num_Floor_ok (by kernel_rfl) ?_
    conv => whnf
    refine Sat.mono (hq) ?_
    rintro _ rfl
    conv => whnf
    refine Sat.mono (sat_within (IntKind.i64.wrap q) t) ?_
    rintro _ rfl
    conv => whnf
    rfl
  | true =>
    cases hr : decide (r > 0) with
    | false =>
      refine ⟨bif !t || !inB (IntKind.i64.wrap (0 - IntKind.i64.wrap q)) then 0 else IntKind.i64.wrap (0 - IntKind.i64.wrap q), !(!t || !inB (IntKind.i64.wrap (0 - IntKind.i64.wrap q))), ?_⟩
      refine Sat_of T8 c_num_Floor_ok (by kernel_rfl) ?_
      conv => whnf
      refine Sat.mono (hq) ?_
      rintro _ rfl
      conv => whnf
      rw [hr]
      conv => whnf
      refine Sat.mono (sat_within (IntKind.i64.wrap (0 - IntKind.i64.wrap q)) t) ?_
      rintro _ rfl
      conv => whnf
      rfl
    | true =>
      refine ⟨bif !t || !inB (IntKind.i64.wrap (IntKind.i64.wrap (0 - IntKind.i64.wrap q) - 1)) then 0 else IntKind.i64.wrap (IntKind.i64.wrap (0 - IntKind.i64.wrap q) - 1), !(!t || !inB (IntKind.i64.wrap (IntKind.i64.wrap (0 - IntKind.i64.wrap q) - 1))), ?_⟩
      refine Sat_of T8 c_num_Floor_ok (by kernel_rfl) ?_
      conv => whnf
      refine Sat.mono (hq) ?_
      rintro _ rfl
      conv => whnf
      rw [hr]
      conv => whnf
      refine Sat.mono (sat_within (IntKind.i64.wrap (IntKind.i64.wrap (0 - IntKind.i64.wrap q) - 1)) t) ?_
      rintro _ rfl
      conv => whnf
      rfl
theorem ex_Mul (a b : Int) : ∃ n c, Sat Pg k_num_Mul [.c (int a), .c (int b)] (fun r => r = rNB n c) := by
  obtain ⟨n, c, h⟩ := ex_Floor a b
  refine ⟨n, c, ?_⟩
  refine Sat_of T8 c_num_Mul_ok (by kernel_rfl) ?_
  conv => whnf
  refine Sat.mono (h) ?_
  rintro _ rfl
  conv => whnf
  rfl
end Go.Proofs.YtekkjilpdohieaaGreat

namespace Go.Proofs.YtekkjilpdohieaaGreat
open Go Go.AM
attribute [local irreducible] Sat SatH LoopP
set_option maxRecDepth 100000
set_option maxHeartbeats 1000000

theorem ex_slPrefix (s p : ByteArray) : ∃ b, Sat Pg k_internal_stringslite_HasPrefix [.c (str s), .c (str p)] (fun r => r = rB b) := by
  cases h : decide ((s.size : Int) ≥ (p.size : Int)) with
  | false =>
    refine ⟨false, ?_⟩
    refine Sat_of T8 c_internal_stringslite_HasPrefix_ok (by kernel_rfl) ?_
    conv => whnf
    rw [h]
    conv => whnf
    rfl
  | true =>
    refine ⟨?b, ?m⟩
    case' m =>
      refine Sat_of T8 c_internal_stringslite_HasPrefix_ok (by kernel_rfl) ?_
      conv => whnf
      rw [h]
      conv => whnf
      refine ⟨by show (0 : Int) ≤ 0; omega, by show (0 : Int) ≤ p.size; omega, of_decide_eq_true h, ?_⟩
      conv => whnf
      exact rfl
theorem ex_HasPrefix (s p : ByteArray) : ∃ b, Sat Pg k_strings_HasPrefix [.c (str s), .c (str p)] (fun r => r = rB b) := by
  obtain ⟨b, h⟩ := ex_slPrefix s p
  refine ⟨b, ?_⟩
  refine Sat_of T8 c_strings_HasPrefix_ok (by kernel_rfl) ?_
  conv => whnf
  refine Sat.mono (h) ?_
  rintro _ rfl
  conv => whnf
  rfl
/-- What is still to be shown of strings.Contains. -/
def HasC : Prop := ∀ s t : ByteArray, s.size ≤ 100000 → ∃ b, Sat Pg k_strings_Contains [.c (str s), .c (str t)] (fun r => r = rB b)
/-- What kind of value a call gives. -/
def CK (p1 p2 p3 p4 : Bool) (l : List Val) (u : Val) : Prop :=
  (p1 = true ∨ p2 = true → u.k = 2) ∧ (p1 = false → p2 = false → p3 = true ∨ p4 = true → ∃ b, u = truthV b) ∧ (p1 = false → p2 = false → p3 = false → p4 = false → u ∈ l)
theorem ex_callV (hC : HasC) (nm : ByteArray) (l : List Val) (hn : arityI nm ≠ 0) (hl : (l.length : Int) = arityI nm) (hs : ∀ v ∈ l, Sml v) : ∃ v, Sml v ∧ Sat Pg k_eval_call [.c (str nm), rowC l] (fun r => r = rV v) ∧ CK (beqS nm ⟨#[97, 98, 115]⟩) (beqS nm ⟨#[108, 101, 110]⟩) (beqS nm ⟨#[104, 97, 115]⟩) (beqS nm ⟨#[115, 116, 97, 114, 116, 115]⟩) l v := by
  unfold arityI at hn hl
  generalize e1 : beqS nm ⟨#[97, 98, 115]⟩ = p1 at *
  generalize e2 : beqS nm ⟨#[108, 101, 110]⟩ = p2 at *
  generalize e3 : beqS nm ⟨#[104, 97, 115]⟩ = p3 at *
  generalize e4 : beqS nm ⟨#[115, 116, 97, 114, 116, 115]⟩ = p4 at *
  generalize e5 : beqS nm ⟨#[109, 105, 110]⟩ = p5 at *
  generalize beqS nm ⟨#[109, 97, 120]⟩ = p6 at *
  have h1 : 1 ≤ l.length := by
    cases p1 <;> cases p2 <;> cases p3 <;> cases p4 <;> cases p5 <;> cases p6 <;> simp at hn hl <;> omega
  have h2 : p1 = false → p2 = false → l.length = 2 := by
    rintro rfl rfl
    cases p3 <;> cases p4 <;> cases p5 <;> cases p6 <;> simp at hn hl <;> omega
  clear hn hl
  match l, h1, h2, hs with
  | x :: r, _, h2, hs =>
  have hx := hs x (List.mem_cons_self ..)
  obtain ⟨x1, x2, x3⟩ := x
  cases p1 with
  | true =>
    refine ⟨numV (mmI true x2 (IntKind.i64.wrap (0 - x2))) true, sml_num _ _, ?_, ⟨fun _ => rfl, fun h => (by cases h), fun h => (by cases h)⟩⟩
    refine Sat_of T8 c_eval_call_ok (by kernel_rfl) ?_
    conv => whnf
    rw [e1]
    conv => whnf
    refine ⟨by omega, _, rfl, rfl, ?_⟩
    conv => whnf
    refine ⟨by omega, _, rfl, rfl, ?_⟩
    conv => whnf
    rfl
  | false =>
    cases p2 with
    | true =>
      refine ⟨numV x3.size true, sml_num _ _, ?_, ⟨fun _ => rfl, fun _ h => (by cases h), fun _ h => (by cases h)⟩⟩
      refine Sat_of T8 c_eval_call_ok (by kernel_rfl) ?_
      conv => whnf
      rw [e1]
      conv => whnf
      rw [e2]
      conv => whnf
      refine ⟨by omega, _, rfl, rfl, ?_⟩
      conv => whnf
      rfl
    | false =>
      have h2 := h2 rfl rfl
      match r, h2, hs with
      | [y], _, hs =>
      obtain ⟨y1, y2, y3⟩ := y
      cases p3 with
      | true =>
        obtain ⟨b, hb⟩ := hC x3 y3 hx
        refine ⟨truthV b, sml_truth _, ?_, ⟨fun h => (by rcases h with h | h <;> cases h), fun _ _ _ => ⟨_, rfl⟩, fun _ _ h => (by cases h)⟩⟩
        refine Sat_of T8 c_eval_call_ok (by kernel_rfl) ?_
        conv => whnf
        rw [e1]
        conv => whnf
        rw [e2]
        conv => whnf
        rw [e3]
        conv => whnf
        refine ⟨by omega, _, rfl, rfl, ?_⟩
        conv => whnf
        refine ⟨by omega, _, rfl, rfl, ?_⟩
        conv => whnf
        refine Sat.mono (hb) ?_
        rintro _ rfl
        conv => whnf
        rfl
      | false =>
        cases p4 with
        | true =>
          obtain ⟨b, hb⟩ := ex_HasPrefix x3 y3
          refine ⟨truthV b, sml_truth _, ?_, ⟨fun h => (by rcases h with h | h <;> cases h), fun _ _ _ => ⟨_, rfl⟩, fun _ _ _ h => (by cases h)⟩⟩
          refine Sat_of T8 c_eval_call_ok (by kernel_rfl) ?_
          conv => whnf
          rw [e1]
          conv => whnf
          rw [e2]
          conv => whnf
          rw [e3]
          conv => whnf
          rw [e4]
          conv => whnf
          refine ⟨by omega, _, rfl, rfl, ?_⟩
          conv => whnf
          refine ⟨by omega, _, rfl, rfl, ?_⟩
          conv => whnf
          refine Sat.mono (hb) ?_
          rintro _ rfl
          conv => whnf
          rfl
        | false =>
          refine ⟨bif decide (ordV ⟨y1, y2, y3⟩ ⟨x1, x2, x3⟩ < 0) == p5 then ⟨y1, y2, y3⟩ else ⟨x1, x2, x3⟩, sml_bif (hs _ (by simp)) (hs _ (by simp)), ?_, ⟨fun h => (by rcases h with h | h <;> cases h), fun _ _ h => (by rcases h with h | h <;> cases h), fun _ _ _ _ => by cases (decide (ordV ⟨y1, y2, y3⟩ ⟨x1, x2, x3⟩ < 0) == p5) <;> simp⟩⟩
          refine Sat_of T8 c_eval_call_ok (by kernel_rfl) ?_
          conv => whnf
          rw [e1]
          conv => whnf
          rw [e2]
          conv => whnf
          rw [e3]
          conv => whnf
          rw [e4]
          conv => whnf
          refine ⟨by omega, _, rfl, rfl, ?_⟩
          conv => whnf
          refine ⟨by omega, _, rfl, rfl, ?_⟩
          conv => whnf
          refine cond_i (fun c => ?_) (fun c => ?_)
          · have c : (decide (ordV ⟨y1, y2, y3⟩ ⟨x1, x2, x3⟩ < 0) == p5) = true := by rw [← e5]; exact c
            rw [c]
            conv => whnf
            refine ⟨by omega, _, rfl, rfl, ?_⟩
            conv => whnf
            rfl
          · have c : (decide (ordV ⟨y1, y2, y3⟩ ⟨x1, x2, x3⟩ < 0) == p5) = false := by rw [← e5]; exact c
            rw [c]
            conv => whnf
            refine ⟨by omega, _, rfl, rfl, ?_⟩
            conv => whnf
            rfl
end Go.Proofs.YtekkjilpdohieaaGreat

namespace Go.Proofs.YtekkjilpdohieaaGreat
open Go Go.AM
attribute [local irreducible] Sat SatH LoopP
set_option maxRecDepth 100000
set_option maxHeartbeats 1000000

/-- Which operations give bools. -/
def BK (op : Int) (nm : ByteArray) (l : List Val) (u : Val) : Prop :=
  ((op == 3) = true → (∀ v ∈ l, v.k ≠ 0) → ∃ b, u = truthV b) ∧
  ((op == 3) = false → (op == 4) = false → (op == 5) = false → (op == 6) = false → (op == 7) = false → (op == 8) = false → (op == 9) = false → (op == 16) = false → ∃ b, u = truthV b) ∧
  ((op == 16) = true → CK (beqS nm ⟨#[97, 98, 115]⟩) (beqS nm ⟨#[108, 101, 110]⟩) (beqS nm ⟨#[104, 97, 115]⟩) (beqS nm ⟨#[115, 116, 97, 114, 116, 115]⟩) l u)
theorem ex_oper (hC : HasC) (op : Int) (nm : ByteArray) (v : Val) (ks : List Ex) (l : List Val) (hne : nodeErr op nm v ks.length = 0) (ho : 3 ≤ op) (hl : l.length = ks.length) (har : op = 16 → arityI nm ≠ 0) (hs : ∀ v ∈ l, Sml v) :
    ∃ u, (Sml u ∧ BK op nm l u) ∧ Sat Pg k_eval_operation [(Ex.mk op nm v ks).w, rowC l] (fun r => r = rV u) := by
  unfold BK
  obtain ⟨hnk, _, ho2⟩ := nodeErr_nk hne
  have hk16 : op = 16 → needK op nm = arityI nm := fun h => by rw [h]; rfl
  have hk2 : op ≠ 3 → op ≠ 4 → op ≠ 16 → needK op nm = 2 := fun h3 h4 h5 => by
    unfold needK
    rw [show (op == 1 || op == 2) = false by simp; omega, show (op == 3 || op == 4) = false by simp; omega, show (op == 16) = false by simpa using h5]
    rfl
  have hk1 : op = 3 ∨ op = 4 → needK op nm = 1 := fun h => by
    rcases h with rfl | rfl <;> rfl
  have h16 : (op == 16) = true → ∃ u, (Sml u ∧ CK (beqS nm ⟨#[97, 98, 115]⟩) (beqS nm ⟨#[108, 101, 110]⟩) (beqS nm ⟨#[104, 97, 115]⟩) (beqS nm ⟨#[115, 116, 97, 114, 116, 115]⟩) l u) ∧ Sat Pg k_eval_call [.c (str nm), rowC l] (fun r => r = rV u) := fun h => by
    have h : op = 16 := by simpa using h
    obtain ⟨u, hu1, hu2, hu3⟩ := ex_callV hC nm l (har h) (by have := hk16 h; omega) hs
    exact ⟨u, ⟨hu1, hu3⟩, hu2⟩
  have hE : (op == 3) = false → (op == 4) = false → (op == 16) = false → l.length = 2 := fun h3 h4 h5 => by
    have := hk2 (by simpa using h3) (by simpa using h4) (by simpa using h5)
    omega
  have h1 : 1 ≤ l.length := by
    by_cases h3 : op = 3 ∨ op = 4
    · have := hk1 h3; omega
    · by_cases h5 : op = 16
      · have := hk16 h5
        have := har h5
        have := arityI_le nm
        omega
      · have := hk2 (fun h => h3 (.inl h)) (fun h => h3 (.inr h)) h5
        omega
  have h5 : (op == 5) = true → l.length = 2 := fun h => by
    have h : op = 5 := by simpa using h
    have := hk2 (by omega) (by omega) (by omega)
    omega
  have h6 : (op == 6) = true → l.length = 2 := fun h => by
    have h : op = 6 := by simpa using h
    have := hk2 (by omega) (by omega) (by omega)
    omega
  have h7 : (op == 7) = true → l.length = 2 := fun h => by
    have h : op = 7 := by simpa using h
    have := hk2 (by omega) (by omega) (by omega)
    omega
  have h8 : (op == 8) = true → l.length = 2 := fun h => by
    have h : op = 8 := by simpa using h
    have := hk2 (by omega) (by omega) (by omega)
    omega
  have h9 : (op == 9) = true → l.length = 2 := fun h => by
    have h : op = 9 := by simpa using h
    have := hk2 (by omega) (by omega) (by omega)
    omega
  have n16 : ∀ k : Int, (op == k) = true → k ≠ 16 → ∀ {X : Prop}, (op == 16) = true → X := fun k h1 h2 _ h3 => by
    have h1 : op = k := by simpa using h1
    have h3 : op = 16 := by simpa using h3
    omega
  clear hk2 hk1 hk16 hnk hne hl har ho ho2
  generalize e3 : (op == 3) = p3 at *
  generalize e4 : (op == 4) = p4 at *
  generalize e5 : (op == 5) = p5 at *
  generalize e6 : (op == 6) = p6 at *
  generalize e7 : (op == 7) = p7 at *
  generalize e8 : (op == 8) = p8 at *
  generalize e16 : (op == 16) = p16 at *
  obtain ⟨vk, vn, vs⟩ := v
  match l, h1, h16, hE, h5, h6, h7, h8, h9, hs with
  | x :: r, _, h16, hE, h5, h6, h7, h8, h9, hs =>
  have hx := hs x (List.mem_cons_self ..)
  clear hs
  obtain ⟨x1, x2, x3⟩ := x
  cases p3 with
  | true =>
    refine ⟨notV ⟨x1, x2, x3⟩, ⟨sml_not hx, fun _ hk => ⟨(x2 == 0), by unfold notV; rw [show (Val.mk x1 x2 x3).k = x1 from rfl, show (x1 == 0) = false by simpa using hk ⟨x1, x2, x3⟩ (by simp)]; rfl⟩, fun h => (by cases h), n16 3 e3 (by omega)⟩, ?_⟩
    refine Sat_of T8 c_eval_operation_ok (by kernel_rfl) ?_
    conv => whnf
    rw [e3]
    conv => whnf
    refine ⟨by omega, _, rfl, rfl, ?_⟩
    conv => whnf
    refine Sat.mono (sat_not ⟨x1, x2, x3⟩) ?_
    rintro _ rfl
    conv => whnf
    rfl
  | false =>
    cases p4 with
    | true =>
      refine ⟨numV (IntKind.i64.wrap (0 - x2)) true, ⟨sml_num _ _, fun h => (by cases h), fun _ h => (by cases h), n16 4 e4 (by omega)⟩, ?_⟩
      refine Sat_of T8 c_eval_operation_ok (by kernel_rfl) ?_
      conv => whnf
      rw [e3]
      conv => whnf
      rw [e4]
      conv => whnf
      refine ⟨by omega, _, rfl, rfl, ?_⟩
      conv => whnf
      rfl
    | false =>
      cases p5 with
      | true =>
        have H2 := h5 rfl
        match r, H2 with
        | [y], _ =>
        obtain ⟨y1, y2, y3⟩ := y
        obtain ⟨n, c, hf⟩ := ex_Add x2 y2
        refine ⟨numV n c, ⟨sml_num _ _, fun h => (by cases h), fun _ _ h => (by cases h), n16 5 e5 (by omega)⟩, ?_⟩
        refine Sat_of T8 c_eval_operation_ok (by kernel_rfl) ?_
        conv => whnf
        rw [e3]
        conv => whnf
        rw [e4]
        conv => whnf
        rw [e5]
        conv => whnf
        refine ⟨by omega, _, rfl, rfl, ?_⟩
        conv => whnf
        refine ⟨by omega, _, rfl, rfl, ?_⟩
        conv => whnf
        refine Sat.mono (hf) ?_
        rintro _ rfl
        conv => whnf
        cases c <;> rfl
      | false =>
        cases p6 with
        | true =>
          have H2 := h6 rfl
          match r, H2 with
          | [y], _ =>
          obtain ⟨y1, y2, y3⟩ := y
          obtain ⟨n, c, hf⟩ := ex_Add x2 (IntKind.i64.wrap (0 - y2))
          refine ⟨numV n c, ⟨sml_num _ _, fun h => (by cases h), fun _ _ _ h => (by cases h), n16 6 e6 (by omega)⟩, ?_⟩
          refine Sat_of T8 c_eval_operation_ok (by kernel_rfl) ?_
          conv => whnf
          rw [e3]
          conv => whnf
          rw [e4]
          conv => whnf
          rw [e5]
          conv => whnf
          rw [e6]
          conv => whnf
          refine ⟨by omega, _, rfl, rfl, ?_⟩
          conv => whnf
          refine ⟨by omega, _, rfl, rfl, ?_⟩
          conv => whnf
          refine Sat.mono (hf) ?_
          rintro _ rfl
          conv => whnf
          cases c <;> rfl
        | false =>
          cases p7 with
          | true =>
            have H2 := h7 rfl
            match r, H2 with
            | [y], _ =>
            obtain ⟨y1, y2, y3⟩ := y
            obtain ⟨n, c, hf⟩ := ex_Mul x2 y2
            refine ⟨numV n c, ⟨sml_num _ _, fun h => (by cases h), fun _ _ _ _ h => (by cases h), n16 7 e7 (by omega)⟩, ?_⟩
            refine Sat_of T8 c_eval_operation_ok (by kernel_rfl) ?_
            conv => whnf
            rw [e3]
            conv => whnf
            rw [e4]
            conv => whnf
            rw [e5]
            conv => whnf
            rw [e6]
            conv => whnf
            rw [e7]
            conv => whnf
            refine ⟨by omega, _, rfl, rfl, ?_⟩
            conv => whnf
            refine ⟨by omega, _, rfl, rfl, ?_⟩
            conv => whnf
            refine Sat.mono (hf) ?_
            rintro _ rfl
            conv => whnf
            cases c <;> rfl
          | false =>
            cases p8 with
            | true =>
              have H2 := h8 rfl
              match r, H2 with
              | [y], _ =>
              obtain ⟨y1, y2, y3⟩ := y
              obtain ⟨v1, hv1, hf⟩ := ex_divided x2 y2 (op == 9)
              refine ⟨v1, ⟨hv1, fun h => (by cases h), fun _ _ _ _ _ h => (by cases h), n16 8 e8 (by omega)⟩, ?_⟩
              obtain ⟨u1, u2, u3⟩ := v1
              refine Sat_of T8 c_eval_operation_ok (by kernel_rfl) ?_
              conv => whnf
              rw [e3]
              conv => whnf
              rw [e4]
              conv => whnf
              rw [e5]
              conv => whnf
              rw [e6]
              conv => whnf
              rw [e7]
              conv => whnf
              rw [e8]
              conv => whnf
              refine ⟨by omega, _, rfl, rfl, ?_⟩
              conv => whnf
              refine ⟨by omega, _, rfl, rfl, ?_⟩
              conv => whnf
              refine Sat.mono (hf) ?_
              rintro _ rfl
              conv => whnf
              rfl
            | false =>
              cases e9 : (op == 9) with
              | true =>
                have H2 := h9 e9
                match r, H2 with
                | [y], _ =>
                obtain ⟨y1, y2, y3⟩ := y
                obtain ⟨v1, hv1, hf⟩ := ex_divided x2 y2 (op == 9)
                refine ⟨v1, ⟨hv1, fun h => (by cases h), fun _ _ _ _ _ _ h => (by cases h), n16 9 e9 (by omega)⟩, ?_⟩
                obtain ⟨u1, u2, u3⟩ := v1
                refine Sat_of T8 c_eval_operation_ok (by kernel_rfl) ?_
                conv => whnf
                rw [e3]
                conv => whnf
                rw [e4]
                conv => whnf
                rw [e5]
                conv => whnf
                rw [e6]
                conv => whnf
                rw [e7]
                conv => whnf
                rw [e8]
                conv => whnf
                rw [e9]
                conv => whnf
                refine ⟨by omega, _, rfl, rfl, ?_⟩
                conv => whnf
                refine ⟨by omega, _, rfl, rfl, ?_⟩
                conv => whnf
                refine Sat.mono (hf) ?_
                rintro _ rfl
                conv => whnf
                rfl
              | false =>
                cases p16 with
                | true =>
                  obtain ⟨v1, ⟨hv1, hck⟩, hf⟩ := h16 rfl
                  refine ⟨v1, ⟨hv1, fun h => (by cases h), fun _ _ _ _ _ _ _ h => (by cases h), fun _ => hck⟩, ?_⟩
                  obtain ⟨u1, u2, u3⟩ := v1
                  refine Sat_of T8 c_eval_operation_ok (by kernel_rfl) ?_
                  conv => whnf
                  rw [e3]
                  conv => whnf
                  rw [e4]
                  conv => whnf
                  rw [e5]
                  conv => whnf
                  rw [e6]
                  conv => whnf
                  rw [e7]
                  conv => whnf
                  rw [e8]
                  conv => whnf
                  rw [e9]
                  conv => whnf
                  rw [e16]
                  conv => whnf
                  refine Sat.mono (hf) ?_
                  rintro _ rfl
                  conv => whnf
                  rfl
                | false =>
                  have H2 := hE rfl rfl rfl
                  match r, H2 with
                  | [y], _ =>
                  obtain ⟨y1, y2, y3⟩ := y
                  refine ⟨truthV ((((op == 10 && (ordV ⟨x1, x2, x3⟩ ⟨y1, y2, y3⟩ == 0)) || (op == 11 && (ordV ⟨x1, x2, x3⟩ ⟨y1, y2, y3⟩ != 0))) || (op == 12 && decide (ordV ⟨x1, x2, x3⟩ ⟨y1, y2, y3⟩ < 0))) || (op == 13 && decide (ordV ⟨x1, x2, x3⟩ ⟨y1, y2, y3⟩ ≤ 0))), ⟨sml_truth _, fun h => (by cases h), fun _ _ _ _ _ _ _ _ => ⟨_, rfl⟩, fun h => (by cases h)⟩, ?_⟩
                  refine Sat_of T8 c_eval_operation_ok (by kernel_rfl) ?_
                  conv => whnf
                  rw [e3]
                  conv => whnf
                  rw [e4]
                  conv => whnf
                  rw [e5]
                  conv => whnf
                  rw [e6]
                  conv => whnf
                  rw [e7]
                  conv => whnf
                  rw [e8]
                  conv => whnf
                  rw [e9]
                  conv => whnf
                  rw [e16]
                  conv => whnf
                  refine ⟨by omega, _, rfl, rfl, ?_⟩
                  conv => whnf
                  refine ⟨by omega, _, rfl, rfl, ?_⟩
                  conv => whnf
                  rfl
end Go.Proofs.YtekkjilpdohieaaGreat

namespace Go.Proofs.YtekkjilpdohieaaGreat
open Go Go.AM
attribute [local irreducible] Sat SatH LoopP
set_option maxRecDepth 100000
set_option maxHeartbeats 1000000

instance : Nonempty Val := ⟨nullV⟩
/-- What operation gives. -/
noncomputable def operV (op : Int) (nm : ByteArray) (v : Val) (ks : List Ex) (l : List Val) : Val :=
  Classical.epsilon fun u => (Sml u ∧ BK op nm l u) ∧ Sat Pg k_eval_operation [(Ex.mk op nm v ks).w, rowC l] (fun r => r = rV u)
def at0 (l : List Val) (i : Nat) : Val := l.getD i nullV
def anyNull (l : List Val) : Bool := l.any fun v => v.k == 0
mutual
noncomputable def Ex.val (cols : List Col) (row : List Val) : Ex → Val
  | .mk op nm v ks => bif op == 1 then v else bif op == 2 then at0 row (colAt cols nm).toNat else
    bif op == 14 then bothV (at0 (valL cols row ks) 0) (at0 (valL cols row ks) 1) else
    bif op == 15 then notV (bothV (notV (at0 (valL cols row ks) 0)) (notV (at0 (valL cols row ks) 1))) else
    bif anyNull (valL cols row ks) then nullV else operV op nm v ks (valL cols row ks)
noncomputable def valL (cols : List Col) (row : List Val) : List Ex → List Val
  | [] => []
  | k :: r => k.val cols row :: valL cols row r
end
theorem valL_map (cols : List Col) (row : List Val) : ∀ ks, valL cols row ks = ks.map (Ex.val cols row)
  | [] => rfl
  | k :: r => by simp only [valL, List.map_cons, valL_map cols row r]
theorem sat_value_1 (x : Col) (op : Int) (nm : ByteArray) (rest : List D) : Sat Pg k_eval_value_1 [x.w, .c (.fp (.lit (.int .i64 op) :: .lit (.string nm) :: rest))] (fun r => r = rB (beqS x.name nm)) := by
  obtain ⟨a, b⟩ := x
  refine Sat_of T8 c_eval_value_1_ok (by kernel_rfl) ?_
  conv => whnf
  rfl
def vlS (cols : List Col) (row : List Val) (op : Int) (nm : ByteArray) (v : Val) (ks : List Ex) (i : Nat) (acc : List Val) : S := ⟨[(0, .w (.c (.d (.sl (colD cols))))), (1, .w (rowC row)), (5, cV (.ptr 5 0)), (6, cV (.ptr 6 0)), (7, cV (.own 46 3 acc.length)), (8, boolV (anyNull acc)), (27, .w (.c (.d (.sl (exsD ks))))), (28, intV (exsD ks).length), (29, intV i)],
  [(5, .box [int op, str nm, int v.k, int v.n, str v.s, .d (.sl (exsD ks))]), (6, .box [int 0, int 0, str ⟨#[]⟩]), (46, .arr 3 (rowD acc) false)]⟩
theorem rowD_app (a b : List Val) : rowD a ++ rowD b = rowD (a ++ b) := by simp [rowD]
theorem anyNull_snoc (l : List Val) (v : Val) : anyNull (l ++ [v]) = (anyNull l || (v.k == 0)) := by simp [anyNull]
theorem conErr_sml {v : Val} (h : conErr v = 0) : Sml v := by
  unfold conErr at h
  cases hb : (valErr v.k v != 0)
  · have := valErr_size hb
    unfold Sml; omega
  · rw [hb, cond_true] at h
    rw [h] at hb; cases hb
theorem nodeErr_con {op : Int} {nm : ByteArray} {v : Val} {nk : Int} (ho : (op == 1) = true) (h : nodeErr op nm v nk = 0) : conErr v = 0 := by
  unfold nodeErr at h
  rw [ho, cond_true] at h
  unfold nodeTail at h
  exact (bif_ne' (by omega) h).2
theorem nodeErr_ar {op : Int} {nm : ByteArray} {v : Val} {nk : Int} (ho : op = 16) (h : nodeErr op nm v nk = 0) : arityI nm ≠ 0 := by
  subst ho
  have h : nodeTail 16 nm v nk nk true false = 0 := h
  unfold nodeTail at h
  have h1 := (bif_ne' (by omega) h).2
  simp only [cond_false] at h1
  have h2 := (bif_ne' (by omega) h1).2
  have h3 := (bif_ne' (by omega) h2).1
  intro e
  rw [e] at h3
  cases h3
theorem tyL_mem (cols : List Col) : ∀ {ks : List Ex}, (tyL cols ks).1 = 0 → ∀ k ∈ ks, (k.ty cols).2 = 0
  | [], _, k, hk => by cases hk
  | a :: r, h, k, hk => by
    simp only [tyL] at h
    cases hb : ((a.ty cols).2 != 0)
    · rw [hb, cond_false] at h
      rcases List.mem_cons.1 hk with rfl | hk
      · simpa using hb
      · exact tyL_mem cols h k hk
    · rw [hb, cond_true] at h
      simp only at h
      rw [h] at hb; cases hb
theorem ty_kids {cols : List Col} {op : Int} {nm : ByteArray} {v : Val} {ks : List Ex} (h : (Ex.ty cols (.mk op nm v ks)).2 = 0) : (tyL cols ks).1 = 0 ∧ (tyOp cols op nm v (tyL cols ks).2).2 = 0 := by
  simp only [Ex.ty] at h
  cases hb : ((tyL cols ks).1 != 0)
  · rw [hb, cond_false] at h
    exact ⟨by simpa using hb, h⟩
  · rw [hb, cond_true] at h
    simp only at h
    rw [h] at hb; cases hb
theorem operV_ok (hC : HasC) (op : Int) (nm : ByteArray) (v : Val) (ks : List Ex) (l : List Val) (hne : nodeErr op nm v ks.length = 0) (ho : 3 ≤ op) (hl : l.length = ks.length) (hs : ∀ v ∈ l, Sml v) :
    (Sml (operV op nm v ks l) ∧ BK op nm l (operV op nm v ks l)) ∧ Sat Pg k_eval_operation [(Ex.mk op nm v ks).w, rowC l] (fun r => r = rV (operV op nm v ks l)) :=
  Classical.epsilon_spec (ex_oper hC op nm v ks l hne ho hl (fun h => nodeErr_ar h hne) hs)
theorem sat_value (hC : HasC) (cols : List Col) (row : List Val) (hrow : ∀ v ∈ row, Sml v) (hlen : row.length = cols.length) : ∀ (e : Ex), e.err = 0 → (e.ty cols).2 = 0 → Sml (e.val cols row) ∧ Sat Pg k_eval_value [.c (.d (.sl (colD cols))), rowC row, e.w] (fun r => r = rV (e.val cols row))
  | .mk op nm v ks, he, hty => by
    have he0 : nodeErr op nm v ks.length = 0 ∧ errL ks = 0 := by
      simp only [Ex.err] at he
      cases hb : (nodeErr op nm v ks.length != 0)
      · rw [hb, cond_false] at he
        exact ⟨by simpa using hb, he⟩
      · rw [hb, cond_true] at he
        rw [he] at hb; cases hb
    have hks := errL_mem he0.2
    obtain ⟨ht1, ht2⟩ := ty_kids hty
    have htk := tyL_mem cols ht1
    have ih0 : ∀ k ∈ ks, Sml (k.val cols row) ∧ Sat Pg k_eval_value [.c (.d (.sl (colD cols))), rowC row, k.w] (fun r => r = rV (k.val cols row)) := fun k hk => sat_value hC cols row hrow hlen k (hks k hk) (htk k hk)
    have hsm : ∀ x ∈ valL cols row ks, Sml x := fun x hx => by
      rw [valL_map] at hx
      obtain ⟨k, hk, rfl⟩ := List.mem_map.1 hx
      exact (ih0 k hk).1
    have ih := fun k hk => (ih0 k hk).2
    obtain ⟨hnk, ho1, ho2⟩ := nodeErr_nk he0.1
    have hle := needK_le op nm
    have hkl : ks.length ≤ 2 := by omega
    have hvl : (valL cols row ks).length = ks.length := by rw [valL_map, List.length_map]
    have h14 : (op == 14 || op == 15) = true → (valL cols row ks).length = 2 := fun h => by
      simp only [Bool.or_eq_true, beq_iff_eq] at h
      have : needK op nm = 2 := by rcases h with rfl | rfl <;> rfl
      omega
    have hcon : (op == 1) = true → Sml v := fun h => conErr_sml (nodeErr_con h he0.1)
    have hfld : (op == 2) = true → 0 ≤ colAt cols nm ∧ colAt cols nm < row.length := fun h => by
      have h : op = 2 := by simpa using h
      subst h
      have h2 : (bif decide (colAt cols nm < 0) then ((0 : Int), (16 : Int)) else (typeAt cols (colAt cols nm), 0)).2 = 0 := ht2
      have h3 := colAt_lt (fun x => beqS x.name nm) cols 0 (Int.le_refl _)
      have h4 : ¬ colAt cols nm < 0 := fun h => by
        rw [decide_eq_true h] at h2
        cases h2
      unfold colAt at h4 ⊢
      omega
    have hop := operV_ok hC op nm v ks (valL cols row ks) he0.1
    have hval : Ex.val cols row (.mk op nm v ks) = bif op == 1 then v else bif op == 2 then at0 row (colAt cols nm).toNat else
      bif op == 14 then bothV (at0 (valL cols row ks) 0) (at0 (valL cols row ks) 1) else
      bif op == 15 then notV (bothV (notV (at0 (valL cols row ks) 0)) (notV (at0 (valL cols row ks) 1))) else
      bif anyNull (valL cols row ks) then nullV else operV op nm v ks (valL cols row ks) := by simp only [Ex.val]
    have hmem : ∀ {l : List Val} {i : Nat}, i < l.length → (∀ x ∈ l, Sml x) → Sml (at0 l i) := fun {l i} h1 h2 => by
      unfold at0
      rw [show l.getD i nullV = l[i] by simp [List.getD, List.getElem?_eq_getElem h1]]
      exact h2 _ (List.getElem_mem h1)
    have hop3 : (op == 1) = false → (op == 2) = false → 3 ≤ op := fun h1 h2 => by
      have h1 : op ≠ 1 := by simpa using h1
      have h2 : op ≠ 2 := by simpa using h2
      omega
    rw [hval]
    refine ⟨?_, ?_⟩
    · cases e1 : (op == 1)
      · cases e2 : (op == 2)
        · cases e3 : (op == 14)
          · cases e4 : (op == 15)
            · simp only [cond_false]
              exact sml_bif sml_null (hop (hop3 e1 e2) hvl hsm).1.1
            · simp only [cond_false, cond_true]
              exact sml_not (sml_both _ _)
          · simp only [cond_false, cond_true]
            exact sml_both _ _
        · simp only [cond_false, cond_true]
          exact hmem (by have := hfld e2; omega) hrow
      · exact hcon e1
    · clear hty ht1 ht2 htk ih0 he hks hval hcon
      obtain ⟨V, hV⟩ : ∃ V, V = valL cols row ks := ⟨_, rfl⟩
      rw [← hV] at hsm hvl h14 hop ⊢
      have hVi : ∀ i (h : i < ks.length) (h2 : i < V.length), V[i] = ks[i].val cols row := fun i h h2 => by
        subst hV
        simp [valL_map]
      have hg0 : V.length = 2 → (rowD V)[(0 : Int).toNat]? = some (at0 V 0).ds := fun h => by
        have := rowD_get (r := V) (i := 0) (by omega)
        rw [show at0 V 0 = V[0] by simp [at0, List.getD, List.getElem?_eq_getElem (show 0 < V.length by omega)]]
        exact this
      have hg1 : V.length = 2 → (rowD V)[(1 : Int).toNat]? = some (at0 V 1).ds := fun h => by
        have := rowD_get (r := V) (i := 1) (by omega)
        rw [show at0 V 1 = V[1] by simp [at0, List.getD, List.getElem?_eq_getElem (show 1 < V.length by omega)]]
        exact this
      have hgf : (op == 2) = true → (rowD row)[(colAt cols nm).toNat]? = some (at0 row (colAt cols nm).toNat).ds := fun h => by
        have h5 := hfld h
        have h6 : (colAt cols nm).toNat < row.length := by omega
        rw [show at0 row (colAt cols nm).toNat = row[(colAt cols nm).toNat] by simp [at0, List.getD, List.getElem?_eq_getElem h6]]
        simp [rowD, List.getElem?_eq_getElem h6]
      have hidx := sat_IndexFunc_Column k_eval_value_1 [.lit (.int .i64 op), .lit (.string nm), .lit (.int .i64 v.k), .lit (.int .i64 v.n), .lit (.string v.s), .sl (exsD ks)] (fun x => beqS x.name nm) (fun x => sat_value_1 x op nm _) cols
      have hidx : Sat Pg k_slices_IndexFunc_Column _ (fun r => r = rI (colAt cols nm)) := hidx
      clear hV hmem
      obtain ⟨vk, vn, vs⟩ := v
      generalize at0 row (colAt cols nm).toNat = fv at *
      generalize colAt cols nm = ci at *
      generalize at0 V 0 = a0 at *
      generalize at0 V 1 = a1 at *
      cases e1 : (op == 1) with
      | true =>
        refine Sat_of T8 c_eval_value_ok (by kernel_rfl) ?_
        conv => whnf
        rw [e1]
        conv => whnf
        rfl
      | false =>
        cases e2 : (op == 2) with
        | true =>
          have hf := hfld e2
          have hg := hgf e2
          obtain ⟨f1, f2, f3⟩ := fv
          refine Sat_of T8 c_eval_value_ok (by kernel_rfl) ?_
          conv => whnf
          rw [e1]
          conv => whnf
          rw [e2]
          conv => whnf
          refine Sat.mono (hidx) ?_
          rintro _ rfl
          conv => whnf
          refine ⟨hf.1, _, hg, rfl, ?_⟩
          conv => whnf
          rfl
        | false =>
          have hop := hop (hop3 e1 e2) hvl hsm
          refine Sat_of T8 c_eval_value_ok (by kernel_rfl) ?_
          conv => whnf
          rw [e1]
          conv => whnf
          rw [e2]
          conv => whnf
          refine loopI (P := Pg) (f := T8.f) (body := c_eval_value_L0) ks.length (fun i => vlS cols row op nm ⟨vk, vn, vs⟩ ks i (V.take i)) (fun _ => True) ⟨trivial, ⟨_, weak_ownNil 7 46 3 (by omega) (by omega) rfl, ?_⟩⟩ ?_
          · conv => whnf
            rfl
          · intro i hi _
            obtain ⟨T, hT⟩ : ∃ T, T = V.take i := ⟨_, rfl⟩
            have hTl : T.length = i := by rw [hT, List.length_take]; omega
            have hta : (rowD T).take T.length = rowD T := by rw [← rowD_len, List.take_length]
            have wi : i < ks.length → IntKind.i64.wrap ((i : Int) + 1) = ((i + 1 : Nat) : Int) := fun h => wrapS h (by omega)
            have hnx : ∀ h : i < ks.length, V.take (i + 1) = T ++ [ks[i].val cols row] := fun h => by
              rw [take_snoc (by omega), hVi i h (by omega), ← hT]
            have hend : ks.length ≤ i → V = T := fun h => by rw [hT, List.take_of_length_le (by omega)]
            show mwpR Pg T8.f c_eval_value_L0 _ (vlS cols row op nm ⟨vk, vn, vs⟩ ks i (V.take i))
            unfold vlS
            rw [← hT]
            clear hT
            conv => whnf
            refine cond_i (fun h1 => ?_) (fun h1 => ?_)
            · have hlt : i < ks.length := by have := of_decide_eq_true h1; rw [exsD_len] at this; omega
              have hg : (exsD ks)[((i : Int)).toNat]? = some (ks[i]).ds := exsD_get hlt
              have hm : ks[i] ∈ ks := List.getElem_mem hlt
              have hnx := hnx hlt
              generalize ks[i] = k at *
              have ihk := ih k hm
              obtain ⟨op1, nm1, v1, ks1⟩ := k
              generalize (Ex.val cols row (.mk op1 nm1 v1 ks1)) = x at *
              obtain ⟨x1, x2, x3⟩ := x
              conv => whnf
              refine ⟨by omega, _, hg, rfl, ?_⟩
              conv => whnf
              refine Sat.mono (ihk) ?_
              rintro _ rfl
              conv => whnf
              refine ⟨by simp, by unfold fits; simp; omega, by simp; omega, ?_⟩
              conv => whnf
              refine ⟨hlt, trivial, normW_of ?_⟩
              conv => whnf
              rw [wi hlt, hta, hnx, anyNull_snoc, ← rowD_app, List.length_append]
              rfl
            · have hge : ks.length ≤ i := by have := of_decide_eq_false h1; rw [exsD_len] at this; omega
              have hTV := hend hge
              subst hTV
              clear hnx hend hVi
              cases e3 : (op == 14) with
              | true =>
                have h2 := h14 (by rw [e3]; rfl)
                have hg0 := hg0 h2
                have hg1 := hg1 h2
                have hb := sat_both a0 a1
                generalize bothV a0 a1 = u at *
                obtain ⟨u1, u2, u3⟩ := u
                obtain ⟨a01, a02, a03⟩ := a0
                obtain ⟨a11, a12, a13⟩ := a1
                conv => whnf
                rw [e3]
                conv => whnf
                refine ⟨by omega, by omega, ?_⟩
                conv => whnf
                refine ⟨_, hg0, ?_⟩
                conv => whnf
                refine ⟨by omega, by omega, ?_⟩
                conv => whnf
                refine ⟨_, hg1, ?_⟩
                conv => whnf

                refine Sat.mono (hb) ?_
                rintro _ rfl
                conv => whnf
                rfl
              | false =>
                cases e4 : (op == 15) with
                | true =>
                  have h2 := h14 (by rw [e4, Bool.or_true])
                  have hg0 := hg0 h2
                  have hg1 := hg1 h2
                  have hn0 := sat_not a0
                  have hn1 := sat_not a1
                  generalize notV a0 = n0 at *
                  generalize notV a1 = n1 at *
                  have hb := sat_both n0 n1
                  generalize bothV n0 n1 = u at *
                  have hn := sat_not u
                  generalize notV u = z at *
                  obtain ⟨u1, u2, u3⟩ := u
                  obtain ⟨z1, z2, z3⟩ := z
                  obtain ⟨n01, n02, n03⟩ := n0
                  obtain ⟨n11, n12, n13⟩ := n1
                  obtain ⟨a01, a02, a03⟩ := a0
                  obtain ⟨a11, a12, a13⟩ := a1
                  conv => whnf
                  rw [e3]
                  conv => whnf
                  rw [e4]
                  conv => whnf
                  refine ⟨by omega, by omega, ?_⟩
                  conv => whnf
                  refine ⟨_, hg0, ?_⟩
                  conv => whnf
                  refine ⟨by omega, by omega, ?_⟩
                  conv => whnf
                  refine ⟨_, hg1, ?_⟩
                  conv => whnf

                  refine Sat.mono (hn0) ?_
                  rintro _ rfl
                  conv => whnf
                  refine Sat.mono (hn1) ?_
                  rintro _ rfl
                  conv => whnf
                  refine Sat.mono (hb) ?_
                  rintro _ rfl
                  conv => whnf
                  refine Sat.mono (hn) ?_
                  rintro _ rfl
                  conv => whnf
                  rfl
                | false =>
                  cases e5 : anyNull V with
                  | true =>
                    conv => whnf
                    rw [e3]
                    conv => whnf
                    rw [e4]
                    conv => whnf
                    rfl
                  | false =>
                    have hop2 : Sat Pg k_eval_operation [(Ex.mk op nm ⟨vk, vn, vs⟩ ks).w, .c (.d (.sl ((rowD V).take V.length)))] (fun r => r = rV (operV op nm ⟨vk, vn, vs⟩ ks V)) := by rw [hta]; exact hop.2
                    generalize operV op nm ⟨vk, vn, vs⟩ ks V = u at *
                    obtain ⟨u1, u2, u3⟩ := u
                    conv => whnf
                    rw [e3]
                    conv => whnf
                    rw [e4]
                    conv => whnf
                    refine Sat.mono (hop2) ?_
                    rintro _ rfl
                    conv => whnf
                    rfl
termination_by e => SizeOf.sizeOf e
decreasing_by
  simp_wf
  have := List.sizeOf_lt_of_mem hk
  omega
end Go.Proofs.YtekkjilpdohieaaGreat

namespace Go.Proofs.YtekkjilpdohieaaGreat
open Go Go.AM
attribute [local irreducible] Sat SatH LoopP
set_option maxRecDepth 100000
set_option maxHeartbeats 1000000

theorem chk_err {e : Ex} (h : e.chk = 0) : e.err = 0 := by
  unfold Ex.chk at h
  exact (bif_ne' (by omega) (bif_ne' (by omega) h).2).2
def Ex.tyE (cols : List Col) (e : Ex) : Int × Int := bif e.chk != 0 then (0, e.chk) else e.ty cols
theorem sat_typing_Expr (cols : List Col) (e : Ex) : Sat Pg k_typing_Expr [.c (.d (.sl (colD cols))), e.w] (fun r => r = rII (e.tyE cols)) := by
  have hx := sat_Expr e
  have hn := sat_tnode cols e
  unfold Ex.tyE
  cases hc : (e.chk != 0) with
  | true =>
    generalize e.chk = c at *
    obtain ⟨op, nm, ⟨vk, vn, vs⟩, ks⟩ := e
    refine Sat_of T8 c_typing_Expr_ok (by kernel_rfl) ?_
    conv => whnf
    refine Sat.mono (hx) ?_
    rintro _ rfl
    conv => whnf
    rw [hc]
    conv => whnf
    rfl
  | false =>
    have hn := hn (chk_err (by simpa using hc))
    generalize e.chk = c at *
    generalize e.ty cols = t at *
    obtain ⟨op, nm, ⟨vk, vn, vs⟩, ks⟩ := e
    refine Sat_of T8 c_typing_Expr_ok (by kernel_rfl) ?_
    conv => whnf
    refine Sat.mono (hx) ?_
    rintro _ rfl
    conv => whnf
    rw [hc]
    conv => whnf
    refine Sat.mono (hn) ?_
    rintro _ rfl
    conv => whnf
    rfl
def fitL : List Col → List Val → Bool
  | c :: cs, v :: vs => bif valErr c.t v != 0 then false else fitL cs vs
  | _, _ => true
def fitB (cols : List Col) (row : List Val) : Bool := bif ((cols.length : Int)) != row.length then false else fitL cols row
theorem sat_efits (cols : List Col) (row : List Val) : Sat Pg k_eval_fits [.c (.d (.sl (colD cols))), rowC row] (fun r => r = rB (fitB cols row)) := by
  refine sat_len 1 (by kernel_rfl) rfl fun hlen => ?_
  rw [rowD_len] at hlen
  unfold fitB
  refine Sat_of T8 c_eval_fits_ok (by kernel_rfl) ?_
  conv => whnf
  rw [colD_len, rowD_len]
  refine cond_i (fun h => ?_) (fun h => ?_)
  · rw [h]
    conv => whnf
    rfl
  · rw [h]
    have hl := lens h
    simp only [cond_false]
    conv => whnf
    refine loopI (P := Pg) (f := T8.f) (body := c_eval_fits_L0) row.length (fun i => ⟨[(0, .w (.c (.d (.sl (colD cols))))), (12, .w (rowC row)), (13, intV (rowD row).length), (14, intV i)], []⟩) (fun i => fitL cols row = fitL (cols.drop i) (row.drop i)) ⟨rfl, normW_of ?_⟩ ?_
    · conv => whnf
      rfl
    · intro i hi hR
      conv => whnf
      refine cond_i (fun h1 => ?_) (fun h1 => ?_)
      · have hlt : i < row.length := by have := of_decide_eq_true h1; rw [rowD_len] at this; omega
        have hlc : i < cols.length := by omega
        rw [drop_cons hlt, drop_cons hlc] at hR
        have hR : fitL cols row = bif valErr cols[i].t row[i] != 0 then false else fitL (cols.drop (i + 1)) (row.drop (i + 1)) := hR
        have hg := rowD_get hlt
        have hg2 := colD_get hlc
        generalize row[i] = x at *
        generalize cols[i] = c at *
        obtain ⟨x1, x2, x3⟩ := x
        obtain ⟨c1, c2⟩ := c
        conv => whnf
        refine ⟨by omega, _, hg, rfl, ?_⟩
        conv => whnf
        refine ⟨by omega, _, hg2, rfl, ?_⟩
        conv => whnf
        refine cond_i (fun h2 => ?_) (fun h2 => ?_)
        · have h2 : (valErr c2 ⟨x1, x2, x3⟩ != 0) = true := h2
          rw [show (Col.mk c1 c2).t = c2 from rfl, h2, cond_true] at hR
          conv => whnf
          rw [hR]
          rfl
        · have h2 : (valErr c2 ⟨x1, x2, x3⟩ != 0) = false := h2
          rw [show (Col.mk c1 c2).t = c2 from rfl, h2, cond_false] at hR
          conv => whnf
          refine ⟨hlt, hR, normW_of ?_⟩
          conv => whnf
          rw [wrapS hlt hlen]
          rfl
      · have hge : row.length ≤ i := by have := of_decide_eq_false h1; rw [rowD_len] at this; omega
        rw [List.drop_eq_nil_of_le hge, List.drop_eq_nil_of_le (by omega)] at hR
        conv => whnf
        rw [hR]
        rfl
theorem fitL_sml : ∀ {cols : List Col} {row : List Val}, fitL cols row = true → row.length = cols.length → ∀ v ∈ row, Sml v
  | _, [], _, _, v, hv => by cases hv
  | [], _ :: _, _, h, _, _ => by cases h
  | c :: cs, x :: r, h, hl, v, hv => by
    simp only [fitL] at h
    cases hb : (valErr c.t x != 0)
    · rw [hb, cond_false] at h
      rcases List.mem_cons.1 hv with rfl | hv
      · have := valErr_size hb
        unfold Sml; omega
      · exact fitL_sml h (by simpa using hl) v hv
    · rw [hb] at h; cases h
noncomputable def exprV (cols : List Col) (row : List Val) (e : Ex) : Val := bif (e.tyE cols).2 != 0 || !fitB cols row then nullV else e.val cols row
theorem sat_eExpr (hC : HasC) (cols : List Col) (row : List Val) (e : Ex) : Sat Pg k_eval_Expr [.c (.d (.sl (colD cols))), rowC row, e.w] (fun r => r = rV (exprV cols row e)) := by
  have ht := sat_typing_Expr cols e
  have hf := sat_efits cols row
  unfold exprV
  cases h1 : ((e.tyE cols).2 != 0) with
  | true =>
    generalize e.tyE cols = t at *
    obtain ⟨t1, t2⟩ := t
    have h1 : (t2 != 0) = true := h1
    obtain ⟨op, nm, ⟨vk, vn, vs⟩, ks⟩ := e
    refine Sat_of T8 c_eval_Expr_ok (by kernel_rfl) ?_
    conv => whnf
    refine Sat.mono (ht) ?_
    rintro _ rfl
    conv => whnf
    refine cond_i (fun c => ?_) (fun c => ?_)
    · conv => whnf
      rfl
    · have c : (t2 != 0) = false := c
      rw [h1] at c; cases c
  | false =>
    cases h2 : fitB cols row with
    | false =>
      rw [h2] at hf
      generalize e.tyE cols = t at *
      obtain ⟨t1, t2⟩ := t
      have h1 : (t2 != 0) = false := h1
      obtain ⟨op, nm, ⟨vk, vn, vs⟩, ks⟩ := e
      refine Sat_of T8 c_eval_Expr_ok (by kernel_rfl) ?_
      conv => whnf
      refine Sat.mono (ht) ?_
      rintro _ rfl
      conv => whnf
      refine cond_i (fun c => ?_) (fun c => ?_)
      · have c : (t2 != 0) = true := c
        rw [h1] at c; cases c
      · conv => whnf
        refine Sat.mono (hf) ?_
        rintro _ rfl
        conv => whnf
        rfl
    | true =>
      have hlen : row.length = cols.length ∧ fitL cols row = true := by
        have h2 := h2
        unfold fitB at h2
        cases hb : (((cols.length : Int)) != row.length)
        · rw [hb, cond_false] at h2
          have hb : ((cols.length : Int)) = row.length := by simpa using hb
          exact ⟨by omega, h2⟩
        · rw [hb] at h2; cases h2
      have hck : e.chk = 0 ∧ (e.ty cols).2 = 0 := by
        have h1 := h1
        unfold Ex.tyE at h1
        cases hb : (e.chk != 0)
        · rw [hb, cond_false] at h1
          exact ⟨by simpa using hb, by simpa using h1⟩
        · rw [hb, cond_true] at h1
          simp only at h1
          rw [h1] at hb; cases hb
      have hv := (sat_value hC cols row (fitL_sml hlen.2 hlen.1) hlen.1 e (chk_err hck.1) hck.2).2
      rw [h2] at hf
      generalize e.tyE cols = t at *
      generalize e.val cols row = u at *
      obtain ⟨t1, t2⟩ := t
      obtain ⟨u1, u2, u3⟩ := u
      have h1 : (t2 != 0) = false := h1
      obtain ⟨op, nm, ⟨vk, vn, vs⟩, ks⟩ := e
      refine Sat_of T8 c_eval_Expr_ok (by kernel_rfl) ?_
      conv => whnf
      refine Sat.mono (ht) ?_
      rintro _ rfl
      conv => whnf
      refine cond_i (fun c => ?_) (fun c => ?_)
      · have c : (t2 != 0) = true := c
        rw [h1] at c; cases c
      · conv => whnf
        refine Sat.mono (hf) ?_
        rintro _ rfl
        conv => whnf
        refine Sat.mono (hv) ?_
        rintro _ rfl
        conv => whnf
        rfl
noncomputable def condB (cols : List Col) (row : List Val) (e : Ex) : Bool := eqV (exprV cols row e) (truthV true)
theorem sat_Cond (hC : HasC) (cols : List Col) (row : List Val) (e : Ex) : Sat Pg k_eval_Cond [.c (.d (.sl (colD cols))), rowC row, e.w] (fun r => r = rB (condB cols row e)) := by
  have hx := sat_eExpr hC cols row e
  unfold condB
  generalize exprV cols row e = u at *
  obtain ⟨u1, u2, u3⟩ := u
  obtain ⟨op, nm, ⟨vk, vn, vs⟩, ks⟩ := e
  refine Sat_of T8 c_eval_Cond_ok (by kernel_rfl) ?_
  conv => whnf
  refine Sat.mono (hx) ?_
  rintro _ rfl
  conv => whnf
  rfl
end Go.Proofs.YtekkjilpdohieaaGreat

namespace Go.Proofs.YtekkjilpdohieaaGreat
open Go Go.AM
attribute [local irreducible] Sat SatH LoopP
set_option maxRecDepth 100000
set_option maxHeartbeats 1000000

theorem rowsD_app (a b : List (List Val)) : rowsD (a ++ b) = rowsD a ++ rowsD b := by simp [rowsD]
def stC (op eo : Int) (nm : ByteArray) (v : Val) (ks : List Ex) (its cs ags sts : List (List D)) (m : Int) (tb : ByteArray) : List C :=
  [int op, int eo, str nm, int v.k, int v.n, str v.s, .d (.sl (exsD ks)), .d (.sl its), .d (.sl cs), .d (.sl ags), .d (.sl sts), int m, str tb]
def whS (cols : List Col) (rows : List (List Val)) (st : List C) (i : Nat) (acc : List (List Val)) : S := ⟨[(4, cV (.ptr 4 0)), (5, cV (.ptr 5 0)), (8, cV (.own 38 1 acc.length)), (23, .w (.c (.d (.sl (rowsD rows))))), (24, intV (rowsD rows).length), (25, intV i)],
  [(4, .box [.d (.sl (colD cols)), .d (.sl (rowsD rows))]), (5, .box st), (38, .arr 1 (rowsD acc) false)]⟩
noncomputable def whereR (cols : List Col) (rows : List (List Val)) (e : Ex) : List (List Val) := rows.filter fun r => condB cols r e
theorem filter_take {α : Type} (p : α → Bool) {l : List α} {i : Nat} (h : i < l.length) : (l.take (i + 1)).filter p = (l.take i).filter p ++ (bif p l[i] then [l[i]] else []) := by
  rw [take_snoc h, List.filter_append]
  cases hp : p l[i] <;> simp [hp]
theorem sat_rows_where (hC : HasC) (d : D) (cols : List Col) (rows : List (List Val)) (hr : rows.length ≤ 20000) (eo : Int) (nm : ByteArray) (v : Val) (ks : List Ex) (its cs ags sts : List (List D)) (m : Int) (tb : ByteArray) :
    Sat Pg k_naive_rows [.c (.d d), .agg [.d (.sl (colD cols)), .d (.sl (rowsD rows))], .agg (stC 1 eo nm v ks its cs ags sts m tb)] (fun r => r = ⟨.tup [.c (.d (.sl (rowsD (whereR cols rows (.mk eo nm v ks))))), .c (bool true)], []⟩) := by
  refine sat_dq ?_
  have hcond := fun row => sat_Cond hC cols row (.mk eo nm v ks)
  obtain ⟨vk, vn, vs⟩ := v
  unfold whereR
  generalize hpp : (fun r => condB cols r (.mk eo nm ⟨vk, vn, vs⟩ ks)) = p at *
  have hcond : ∀ row, Sat Pg k_eval_Cond [.c (.d (.sl (colD cols))), rowC row, (Ex.mk eo nm ⟨vk, vn, vs⟩ ks).w] (fun r => r = rB (p row)) := fun row => by rw [← hpp]; exact hcond row
  refine Sat_of T8 c_naive_rows_ok (by kernel_rfl) ?_
  conv => whnf
  refine loopI (P := Pg) (f := T8.f) (body := c_naive_rows_L0) rows.length (fun i => whS cols rows (stC 1 eo nm ⟨vk, vn, vs⟩ ks its cs ags sts m tb) i ((rows.take i).filter p)) (fun _ => True) ⟨trivial, ⟨_, weak_ownNil 8 38 1 (by omega) (by omega) rfl, ?_⟩⟩ ?_
  · conv => whnf
    rfl
  · intro i hi _
    have wi : i < rows.length → IntKind.i64.wrap ((i : Int) + 1) = ((i + 1 : Nat) : Int) := fun h => wrapS h (by omega)
    obtain ⟨T, hT⟩ : ∃ T, T = (rows.take i).filter p := ⟨_, rfl⟩
    have hTl : T.length ≤ i := by
      rw [hT]
      refine Nat.le_trans (List.length_filter_le _ _) ?_
      rw [List.length_take]; omega
    have htk : (rowsD T).take T.length = rowsD T := by rw [← rowsD_len, List.take_length]
    have hnx : ∀ h : i < rows.length, (rows.take (i + 1)).filter p = T ++ (bif p rows[i] then [rows[i]] else []) := fun h => by rw [filter_take p h, ← hT]
    have hend : rows.length ≤ i → T = rows.filter p := fun h => by rw [hT, List.take_of_length_le h]
    show mwpR Pg T8.f c_naive_rows_L0 _ (whS cols rows (stC 1 eo nm ⟨vk, vn, vs⟩ ks its cs ags sts m tb) i ((rows.take i).filter p))
    unfold whS stC
    rw [← hT]
    clear hT
    conv => whnf
    refine cond_i (fun h1 => ?_) (fun h1 => ?_)
    · have hlt : i < rows.length := by have := of_decide_eq_true h1; rw [rowsD_len] at this; omega
      have hg := rowsD_get hlt
      have hnx := hnx hlt
      generalize rows[i] = x at *
      have hc := hcond x
      generalize p x = b at *
      conv => whnf
      refine ⟨by omega, _, hg, rfl, ?_⟩
      conv => whnf
      refine Sat.mono (hc) ?_
      rintro _ rfl
      conv => whnf
      refine cond_i (fun h2 => ?_) (fun h2 => ?_)
      · have h2 : b = true := h2
        subst h2
        conv => whnf
        refine ⟨by simp, by unfold fits; simp; omega, by simp; omega, ?_⟩
        conv => whnf
        refine ⟨hlt, trivial, normW_of ?_⟩
        conv => whnf
        rw [wi hlt, htk, hnx, cond_true, rowsD_app, List.length_append]
        rfl
      · have h2 : b = false := h2
        subst h2
        conv => whnf
        refine ⟨hlt, trivial, normW_of ?_⟩
        conv => whnf
        rw [wi hlt, hnx, cond_false, List.append_nil]
        rfl
    · have hge : rows.length ≤ i := by have := of_decide_eq_false h1; rw [rowsD_len] at this; omega
      rw [← hend hge]
      conv => whnf
      refine ⟨rfl, ?_⟩
      show Res.mk (.tup [.c (.d (.sl ((rowsD T).take T.length))), .c (bool true)]) [] = _
      rw [htk]
end Go.Proofs.YtekkjilpdohieaaGreat

namespace Go.AM

/-- The loop ends within n rounds. -/
noncomputable def loopU (W : (E → S → Prop) → S → Prop) (keep : List Nat) (Q : E → S → Prop) (n : Nat) : S → Prop :=
  Nat.rec (motive := fun _ => S → Prop) (fun _ => False) (fun _ ih s => normP s keep fun s1 => W (loopK ih Q) s1) n
theorem loopU_of {P : Program} {f : FuncId → List W → Option W} {body : ACode} {keep : List Nat} {Q : E → S → Prop} {s : S} (n : Nat) (h : loopU (mwpR P f body) keep Q n s) : LoopP (mwpR P f body) keep Q s := by
  have step : ∀ (n : Nat) (s : S), loopU (mwpR P f body) keep Q n s → ∃ k, n = k + 1 ∧ mwpR P f body (loopK (loopU (mwpR P f body) keep Q k) Q) (s.norm keep) := by
    intro n s h
    cases n with
    | zero => exact absurd h id
    | succ k =>
      refine ⟨k, rfl, ?_⟩
      have h2 : normP s keep (fun s1 => mwpR P f body (loopK (loopU (mwpR P f body) keep Q k) Q) s1) := h
      rw [normP_eq] at h2
      exact h2
  refine loopF (ι := S × Nat) (fun p => p.1) (fun p => p.2) (fun p => mwpR P f body (loopK (loopU (mwpR P f body) keep Q p.2) Q) p.1) ?_ ?_
  · obtain ⟨k, _, hk⟩ := step n s h
    refine ⟨(s.norm keep, k), hk, normW_of ?_⟩
    rw [normP_eq]
  · rintro ⟨s1, k⟩ h1
    refine mwpR_mono body (fun e s2 h2 => ?_) _ h1
    cases e with
    | normal =>
      obtain ⟨j, hj, h3⟩ := step k s2 h2
      refine ⟨(s2.norm keep, j), ⟨h3, by show j < k; omega⟩, normW_of ?_⟩
      rw [normP_eq]
    | exit i => exact h2
    | ret => exact h2
end Go.AM

namespace Go.Proofs.YtekkjilpdohieaaGreat
open Go Go.AM
attribute [local irreducible] Sat SatH LoopP
set_option maxRecDepth 100000
set_option maxHeartbeats 1000000

theorem sat_CheckAll0 : Sat Pg k_table_CheckAll [.c (.d (.sl []))] (fun r => r = rI 0) := by
  refine Sat_of T8 c_table_CheckAll_ok (by kernel_rfl) ?_
  conv => whnf
  refine loopU_of (P := Pg) (f := T8.f) (body := c_table_CheckAll_L0) 1 ?_
  conv => whnf
  rfl
theorem sat_Find0 (nm : ByteArray) : Sat Pg k_table_Find [.c (.d (.sl [])), .c (str nm)] (fun r => r = ⟨.tup [.agg [.nil, .nil], .c (bool false)], []⟩) := by
  refine Sat_of T8 c_table_Find_ok (by kernel_rfl) ?_
  conv => whnf
  refine loopU_of (P := Pg) (f := T8.f) (body := c_table_Find_L0) 1 ?_
  conv => whnf
  rfl
theorem whereR_len (cols : List Col) (rows : List (List Val)) (e : Ex) : (whereR cols rows e).length ≤ rows.length := List.length_filter_le _ _
def rTE (t : Tbl) (e : Int) : Res := ⟨.tup [t.w, .c (int e)], []⟩
theorem sat_step_where (hC : HasC) (cols cols2 : List Col) (rows : List (List Val)) (hr : rows.length ≤ 20000) (eo : Int) (nm : ByteArray) (v : Val) (ks : List Ex) (its cs ags sts : List (List D)) (m : Int) (tb : ByteArray) :
    Sat Pg k_naive_step [.c (.d (.sl [])), .agg [.d (.sl (colD cols)), .d (.sl (rowsD rows))], .agg (stC 1 eo nm v ks its cs ags sts m tb), .c (.d (.sl (colD cols2)))] (fun r => r = rTE ⟨cols2, whereR cols rows (.mk eo nm v ks)⟩ 0) := by
  have hR := sat_rows_where hC (.sl []) cols rows hr eo nm v ks its cs ags sts m tb
  have hl := whereR_len cols rows (.mk eo nm v ks)
  generalize whereR cols rows (.mk eo nm v ks) = R at *
  obtain ⟨vk, vn, vs⟩ := v
  unfold stC at hR ⊢
  refine Sat_of T8 c_naive_step_ok (by kernel_rfl) ?_
  conv => whnf
  refine Sat.mono (sat_Find0 tb) ?_
  rintro _ rfl
  conv => whnf
  refine Sat.mono (hR) ?_
  rintro _ rfl
  conv => whnf
  refine cond_i (fun h => ?_) (fun h => ?_)
  · have h : decide (((rowsD R).length : Int) > 20000) = true := h
    have := of_decide_eq_true h
    rw [rowsD_len] at this
    omega
  · conv => whnf
    rfl
/-- The error of a where step. -/
def whTy (cols : List Col) (e : Ex) : Int := bif (e.ty cols).2 != 0 then (e.ty cols).2 else bif fitK (e.ty cols).1 1 then 0 else 14
def whStp (e : Ex) : Stp := ⟨1, e, [], [], [], [], 0, ⟨#[]⟩⟩
theorem whStp_chk {e : Ex} (h : (whStp e).err = 0) : e.chk = 0 := by
  unfold whStp Stp.err at h
  simp only at h
  exact (bif_ne' (by omega) h).2
theorem sat_typing_where (cols : List Col) (hl : cols.length ≤ 1000000) (e : Ex) : Sat Pg k_typing_Step [.c (.d (.sl [])), .c (.d (.sl (colD cols))), (whStp e).w] (fun r => r = bif (whStp e).err != 0 then ⟨.tup [.c .nil, .c (int (whStp e).err)], []⟩ else bif whTy cols e != 0 then ⟨.tup [.c .nil, .c (int (whTy cols e))], []⟩ else ⟨.tup [.c (.d (.sl (colD cols))), .c (int 0)], []⟩) := by
  have hS := sat_Step (whStp e) (by show 0 ≤ _; omega)
  have hK := sat_Clone_Column cols hl
  have hN := fun h => sat_tnode cols e (chk_err (whStp_chk h))
  unfold whTy
  cases h1 : ((whStp e).err != 0) with
  | true =>
    generalize (whStp e).err = s at *
    obtain ⟨eo, nm, ⟨vk, vn, vs⟩, ks⟩ := e
    refine Sat_of T8 c_typing_Step_ok (by kernel_rfl) ?_
    conv => whnf
    refine Sat.mono (hS) ?_
    rintro _ rfl
    conv => whnf
    rw [h1]
    conv => whnf
    rfl
  | false =>
    have hN2 := hN (by simpa using h1)
    clear hN
    generalize (whStp e).err = s at *
    generalize e.ty cols = t at *
    obtain ⟨t1, t2⟩ := t
    obtain ⟨eo, nm, ⟨vk, vn, vs⟩, ks⟩ := e
    cases h2 : (t2 != 0) with
    | true =>
      have h2' : (t2 == 0) = false := by
        have : t2 ≠ 0 := by simpa using h2
        simpa using this
      refine Sat_of T8 c_typing_Step_ok (by kernel_rfl) ?_
      conv => whnf
      refine Sat.mono (hS) ?_
      rintro _ rfl
      conv => whnf
      rw [h1]
      conv => whnf
      refine Sat.mono (hN2) ?_
      rintro _ rfl
      conv => whnf
      refine cond_i (fun c => ?_) (fun c => ?_)
      · have c : (t2 == 0) = true := c
        rw [h2'] at c; cases c
      · conv => whnf
        refine cond_i (fun d => ?_) (fun d => ?_)
        · conv => whnf
          simp only [cond_false, cond_true, h2]
          rfl
        · have d : (t2 != 0) = false := d
          rw [h2] at d; cases d
    | false =>
      have h20 : t2 = 0 := by simpa using h2
      subst h20
      cases h3 : fitK t1 1 with
      | true =>
        refine Sat_of T8 c_typing_Step_ok (by kernel_rfl) ?_
        conv => whnf
        refine Sat.mono (hS) ?_
        rintro _ rfl
        conv => whnf
        rw [h1]
        conv => whnf
        refine Sat.mono (hN2) ?_
        rintro _ rfl
        conv => whnf
        have hf := sat_fits t1 1
        rw [h3] at hf
        refine Sat.mono (hf) ?_
        rintro _ rfl
        conv => whnf
        refine Sat.mono (hK) ?_
        rintro _ rfl
        conv => whnf
        rfl
      | false =>
        refine Sat_of T8 c_typing_Step_ok (by kernel_rfl) ?_
        conv => whnf
        refine Sat.mono (hS) ?_
        rintro _ rfl
        conv => whnf
        rw [h1]
        conv => whnf
        refine Sat.mono (hN2) ?_
        rintro _ rfl
        conv => whnf
        have hf := sat_fits t1 1
        rw [h3] at hf
        refine Sat.mono (hf) ?_
        rintro _ rfl
        conv => whnf
        rfl
end Go.Proofs.YtekkjilpdohieaaGreat

namespace Go.Proofs.YtekkjilpdohieaaGreat
open Go Go.AM
attribute [local irreducible] Sat SatH LoopP
set_option maxRecDepth 100000
set_option maxHeartbeats 1000000

theorem tbl_small {t : Tbl} (h : tblErr t = 0) : t.cols.length ≤ 32 ∧ t.rows.length ≤ 20000 := by
  unfold tblErr at h
  obtain ⟨h1, h2⟩ := bif_ne' (by omega) h
  simp only [Bool.or_eq_false_iff, decide_eq_false_iff_not] at h1
  omega
def rNT (e : Int) : Res := ⟨.tup [.agg [.nil, .nil], .c (int e)], []⟩
/-- What Step gives at a where step. -/
noncomputable def whQ (t : Tbl) (e : Ex) : Res :=
  bif tblErr t != 0 then rNT (tblErr t) else bif (whStp e).err != 0 then rNT (whStp e).err else bif whTy t.cols e != 0 then rNT (whTy t.cols e) else rTE ⟨t.cols, whereR t.cols t.rows e⟩ 0
theorem sat_Step_where (hC : HasC) (t : Tbl) (e : Ex) : Sat Pg k_naive_Step [.c (.d (.sl [])), t.w, (whStp e).w] (fun r => r = whQ t e) := by
  have hchk := sat_table_Check t
  have hsm := @tbl_small t
  unfold whQ
  cases h0 : (tblErr t != 0) with
  | true =>
    generalize tblErr t = c at *
    obtain ⟨cols, rows⟩ := t
    obtain ⟨eo, nm, ⟨vk, vn, vs⟩, ks⟩ := e
    refine Sat_of T8 c_naive_Step_ok (by kernel_rfl) ?_
    conv => whnf
    refine Sat.mono (sat_CheckAll0) ?_
    rintro _ rfl
    conv => whnf
    refine Sat.mono (hchk) ?_
    rintro _ rfl
    conv => whnf
    rw [h0]
    conv => whnf
    rfl
  | false =>
    obtain ⟨s1, s2⟩ := hsm (by simpa using h0)
    have hty := sat_typing_where t.cols (by omega) e
    obtain ⟨eo, nm, v, ks⟩ := e
    have hst := sat_step_where hC t.cols t.cols t.rows s2 eo nm v ks [] [] [] [] 0 ⟨#[]⟩
    generalize tblErr t = c at *
    obtain ⟨cols, rows⟩ := t
    obtain ⟨vk, vn, vs⟩ := v
    unfold stC at hst
    simp only at hty hst
    generalize whereR cols rows (.mk eo nm ⟨vk, vn, vs⟩ ks) = R at *
    generalize whTy cols (.mk eo nm ⟨vk, vn, vs⟩ ks) = y at *
    generalize (whStp (.mk eo nm ⟨vk, vn, vs⟩ ks)).err = s at *
    cases h1 : (s != 0) with
    | true =>
      rw [h1, cond_true] at hty
      refine Sat_of T8 c_naive_Step_ok (by kernel_rfl) ?_
      conv => whnf
      refine Sat.mono (sat_CheckAll0) ?_
      rintro _ rfl
      conv => whnf
      refine Sat.mono (hchk) ?_
      rintro _ rfl
      conv => whnf
      rw [h0]
      conv => whnf
      refine Sat.mono (hty) ?_
      rintro _ rfl
      conv => whnf
      rw [h1]
      conv => whnf
      rfl
    | false =>
      rw [h1, cond_false] at hty
      cases h2 : (y != 0) with
      | true =>
        rw [h2, cond_true] at hty
        refine Sat_of T8 c_naive_Step_ok (by kernel_rfl) ?_
        conv => whnf
        refine Sat.mono (sat_CheckAll0) ?_
        rintro _ rfl
        conv => whnf
        refine Sat.mono (hchk) ?_
        rintro _ rfl
        conv => whnf
        rw [h0]
        conv => whnf
        refine Sat.mono (hty) ?_
        rintro _ rfl
        conv => whnf
        rw [h2]
        conv => whnf
        rfl
      | false =>
        rw [h2, cond_false] at hty
        refine Sat_of T8 c_naive_Step_ok (by kernel_rfl) ?_
        conv => whnf
        refine Sat.mono (sat_CheckAll0) ?_
        rintro _ rfl
        conv => whnf
        refine Sat.mono (hchk) ?_
        rintro _ rfl
        conv => whnf
        rw [h0]
        conv => whnf
        refine Sat.mono (hty) ?_
        rintro _ rfl
        conv => whnf
        refine Sat.mono (hst) ?_
        rintro _ rfl
        conv => whnf
        rfl
end Go.Proofs.YtekkjilpdohieaaGreat
