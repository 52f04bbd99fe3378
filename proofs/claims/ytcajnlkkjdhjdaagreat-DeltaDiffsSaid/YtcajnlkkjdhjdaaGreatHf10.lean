/- Merged from the texts: Ds1 Ds2 Shelf Ds3 Ds4 Ds5 Ds6 Ds7 Dt1 Dt2 Dt3 Dt4 Dt5 Dt6 Dt7 Du1 Du2 Du3 Du4 De2 Du5 Dp1 Dp2 Dp3 Dp4 Dp5 Dp6 Dp7 Dp8 De3 Du6 Dz1 Dz2 Dp9 De4 -/
import Derived.Shelf.SlSortCmp.Whole1
import Derived.Sort.Statements
import Derived.Shelf.SlGeneric
import Derived.Ground.SlsfProg
import Derived.Test.YtcajnlkkjdhjdaaGreatProg
import Derived.Shelf.SlSortCmp.NoneTotal
import Derived.RangeFuncBox
import Derived.RangeFuncLeaves
import Derived.RangeFuncGives
import Derived.Maps.AppendAt
import Derived.Shelf.Abstract
import Derived.WalkKit
import Derived.OwnWalkIn
import Derived.TacticsInMore
import Derived.LoopNIn
import Derived.LoopIn
import Derived.RegionIn
import Derived.Maps.RangeWalk
import Derived.RangeFuncSeq
import Derived.Test.YtcajnlkkjdhjdaaGreatHf9
set_option linter.unusedSimpArgs false
set_option linter.unusedVariables false

namespace Go.Proofs.YtcajnlkkjdhjdaaGreat
open Go Go.AM Go.Sort Go.Shelf

theorem grow_of_grows {W w' : World} (h : Grows (fun _ => False) W w') : ∃ q os, w' = grow (W.drewN q) os := by
  refine ⟨w'.drawn - W.drawn, w'.heap.extract W.heap.size w'.heap.size, ?_⟩
  have hd : W.drawn + (w'.drawn - W.drawn) = w'.drawn := by have := h.output.2; omega
  have hh : w'.heap = W.heap ++ w'.heap.extract W.heap.size w'.heap.size := by
    apply Array.ext_getElem?
    intro i
    rw [Array.getElem?_append]
    split
    · rename_i hi
      exact h.block i hi (fun h => h)
    · rename_i hi
      have hs := h.size
      rw [Array.getElem?_extract]
      by_cases hi2 : i < w'.heap.size
      · rw [if_pos (by omega)]
        congr 1; omega
      · rw [if_neg (by omega)]
        exact Array.getElem?_eq_none (by omega)
  have h1 := h.os
  have h2 := h.tape
  have h3 := h.output.1
  obtain ⟨a, b, c, d, e⟩ := w'
  obtain ⟨a', b', c', d', e'⟩ := W
  simp only at hd hh h1 h2 h3
  subst h1 h2 h3
  simp only [grow, World.drewN]
  rw [hd, ← hh]

section
variable {P : Program} {ρ : Ren} {X : Type}

/-- An element with the value that stands for it. -/
abbrev El (w : World) (A : Nat → Prop) (δ : X → D) := { p : Value × X // RD w A (δ p.2) p.1 }

theorem els_of {w : World} {A : Nat → Prop} {δ : X → D} {b : Nat} : ∀ (xs : List X) (o : Nat), RDs w A b 1 o (xs.map fun x => [δ x]) → ∃ ds : List (El w A δ), ds.map (fun p => p.1.2) = xs ∧ ∀ j p, ds[j]? = some p → w.cell? ⟨b, o + j, none⟩ = some p.1.1
  | [], _, _ => ⟨[], rfl, fun j p h => by simp at h⟩
  | x :: r, o, h => by
    simp only [List.map_cons, RDs, RDc] at h
    obtain ⟨_, ⟨⟨v, h1, h2⟩, _⟩, h3⟩ := h
    obtain ⟨ds, h4, h5⟩ := els_of r (o + 1) h3
    refine ⟨⟨(v, x), h2⟩ :: ds, by simp [h4], fun j p hj => ?_⟩
    cases j with
    | zero => simp at hj; subst hj; exact h1
    | succ j =>
      have := h5 j p (by simpa using hj)
      rw [← this]; congr 2; omega

theorem rds_mk {w : World} {ok : Nat → Prop} {δ : X → D} {b : Nat} : ∀ (xs : List X) (o : Nat), (∀ j x, xs[j]? = some x → ∃ v, w.cell? ⟨b, o + j, none⟩ = some v ∧ RD w ok (δ x) v) → RDs w ok b 1 o (xs.map fun x => [δ x])
  | [], _, _ => by simp only [List.map_nil, RDs]
  | x :: r, o, h => by
    simp only [List.map_cons, RDs, RDc]
    refine ⟨rfl, ⟨?_, trivial⟩, rds_mk r (o + 1) fun j x hj => ?_⟩
    · exact h 0 x rfl
    · obtain ⟨v, h1, h2⟩ := h (j + 1) x (by simpa using hj)
      exact ⟨v, by rw [← h1]; congr 2; omega, h2⟩

theorem heap_sort {α : Type} [Inhabited α] (enc : α → Value) (w : World) (blk m : Nat) (dk : Array α) (os : Array Obj) {b : Nat} (hb : b < w.heap.size) (hne : b ≠ blk) : (sortWorld enc w blk 0 m dk os).heap[b]? = w.heap[b]? := by
  unfold sortWorld
  rw [heap_grow_old _ _ (by simpa using hb)]
  simp only [putRow, mapBlock, heap_ahead]
  rw [Array.getElem?_modify, if_neg (Ne.symm hne)]

theorem heap_sort_row {α : Type} [Inhabited α] (enc : α → Value) (w : World) (blk m : Nat) (dk : Array α) (os : Array Obj) {c : Array Value} {e : TypeId} {fr : Nat × Nat} (hc : w.heap[blk]? = some (.cells c e fr)) :
    (sortWorld enc w blk 0 m dk os).heap[blk]? = some (.cells (putCells enc 0 dk c) e fr) := by
  have hb : blk < w.heap.size := (Array.getElem?_eq_some_iff.1 hc).1
  unfold sortWorld
  rw [heap_grow_old _ _ (by simpa using hb)]
  simp only [putRow, mapBlock, heap_ahead]
  rw [Array.getElem?_modify, if_pos rfl, hc]
  rfl

theorem size_putCells {α : Type} [Inhabited α] (enc : α → Value) (dk : Array α) (c : Array Value) : (putCells enc 0 dk c).size = c.size := by simp [putCells]
theorem get_putCells {α : Type} [Inhabited α] (enc : α → Value) (dk : Array α) (c : Array Value) {j : Nat} (hj : j < dk.size) (hc : j < c.size) : (putCells enc 0 dk c)[j]? = some (enc dk[j]!) := by
  simp [putCells, hj, hc]

/-- slices.SortFunc over a slice of one cell an element, not empty: sorted, a permutation. -/
theorem sort_bridge [Inhabited X] (L : SlLaysF.n6 P ρ) (hcall : callable P (ρ.f 6) = true) (δ : X → D) (cf : X → X → Int) (hO : SWO (fun x y => decide (cf x y < 0))) (g : FuncId)
    (hc : ∀ x y, Sat P g [.c (.d (δ x)), .c (.d (δ y))] (fun r => r = rI (cf x y))) (xs : List X) (hne : xs ≠ []) (hlen : xs.length < 4611686018427387904) :
    SatH P (ρ.f 6) [.c (.own 0 1 xs.length), .c (.d (.fn g []))] [.arr 1 (xs.map fun x => [δ x]) false]
      (fun r => ∃ ys : List X, ys.Perm xs ∧ ys.Pairwise (fun a b => ¬ cf b a < 0) ∧ r = ⟨.tup [], [.arr 1 (ys.map fun x => [δ x]) false]⟩) := by
  refine ⟨hcall, fun w A ι vals hA hH hP hinj hW => ?_⟩
  obtain ⟨⟨_, hn, hrow⟩, _⟩ := hP 0 _ rfl
  rw [List.length_map] at hn
  rcases hrow with ⟨_, h0⟩ | ⟨b, hb, hrds, _, hlive⟩
  · exact absurd (by simpa using h0) hne
  obtain ⟨cur, ⟨te, hcur⟩, hroom⟩ := hlive rfl
  rw [List.length_map, Nat.mul_one] at hroom
  have hMb : Go.AM.Handed ι [.arr 1 (xs.map fun x => [δ x]) false] b := ⟨0, _, rfl, hb⟩
  have hbs : b < w.heap.size := hH b hMb
  have hAb : ∀ b', A b' → b' ≠ b := fun b' h e => (hA b' h).2 (e ▸ hMb)
  -- the arguments
  match vals, hW with
  | [], hW => exact hW.elim
  | [_], hW => exact hW.2.elim
  | _ :: _ :: _ :: _, hW => exact hW.2.2.elim
  | [v1, v2], hW =>
  obtain ⟨hv1, hv2, _⟩ := hW
  have hv2 : ∃ vs : List Value, v2 = .func (.func g) #[] vs.toArray ∧ vs = [] := by
    have : RD w A (.fn g []) v2 := hv2
    simp only [RD, RDf] at this
    exact this
  obtain ⟨vs, rfl, rfl⟩ := hv2
  have hv1 : ∃ cap, v1 = .slice (some ⟨b, 0, none⟩) xs.length cap := by
    rcases hv1 with ⟨h, _⟩ | ⟨b', cap, t, h1, h2, h3, _⟩
    · rw [hb] at h; cases h
    · rw [hb] at h1; cases h1; exact ⟨cap, h3⟩
  obtain ⟨cap, rfl⟩ := hv1
  obtain ⟨ds, hds, hcells⟩ := els_of xs 0 hrds
  have hdl : ds.length = xs.length := by rw [← hds]; simp
  obtain ⟨d0, hd0⟩ : ∃ d0, d0 ∈ ds := List.exists_mem_of_ne_nil ds (fun e => hne (by rw [← hds, e]; rfl))
  have : Inhabited (El w A δ) := ⟨d0⟩
  have hone : OneCell (fun p : El w A δ => p.1.1) := fun p => CR.one (ι := ι) (w := w) (ok := A) (c := .d (δ p.1.2)) p.2 rfl
  have hSWO : SWO (ltOf fun x y : El w A δ => cf x.1.2 y.1.2) := ⟨fun x => hO.irrefl _, fun x y z => hO.trans _ _ _, fun x y z => hO.ntrans _ _ _⟩
  have hholds : Holds (fun p : El w A δ => p.1.1) w b 0 ds.toArray := by
    intro j hj
    have hj' : j < ds.length := by simpa using hj
    constructor
    · have := hcells j ds[j] (List.getElem?_eq_getElem hj')
      rw [this, getElem!_pos ds.toArray j hj]
      rfl
    · simp only [World.frozen?, hcur]
      simp
  have hlays : CmpLays1 P g #[] (fun p : El w A δ => p.1.1) (fun x y => cf x.1.2 y.1.2) b 0 ds.toArray.size w := by
    intro m os dk hdk x y
    have hk : Keeps w (sortWorld (fun p : El w A δ => p.1.1) w b 0 m dk os) A A := fun b' h => ⟨h, heap_sort _ w b m dk os (hA b' h).1 (hAb b' h)⟩
    have hsz : ∀ b', A b' → b' < (sortWorld (fun p : El w A δ => p.1.1) w b 0 m dk os).heap.size := fun b' h => by
      have := (hA b' h).1
      unfold sortWorld
      rw [size_grow, size_putRow, heap_ahead]
      omega
    refine ((hc x.1.2 y.1.2).2 (sortWorld (fun p : El w A δ => p.1.1) w b 0 m dk os) A [x.1.1, y.1.1] hsz ⟨RD.keep hk _ _ x.2, RD.keep hk _ _ y.2, trivial⟩).mono ?_
    rintro e w' ⟨v, r, rfl, rfl, hres, hgr⟩
    refine ⟨?_, grow_of_grows hgr⟩
    obtain ⟨_, ι2, hv, _⟩ := hres
    simp only [rI, int, VR, WR, CR, RD] at hv
    rw [hv.1]
  have eg : ∀ args w, (callFunc g args).run P w = .ok (.enter g args) w := fun args w => run_callFunc (hc default default).1 args w
  have hmain := Any.slices_SortFunc L (fun p : El w A δ => p.1.1) hone (fun x y => cf x.1.2 y.1.2) hSWO g #[] b 0 cap ds.toArray w eg hlays hholds hbs (by simpa [hdl] using hlen)
  rw [show ds.toArray.size = xs.length by simp [hdl]] at hmain
  refine hmain.mono ?_
  rintro e w' ⟨rfl, d', n, os, hperm, hsort, rfl⟩
  obtain ⟨p1, _, p3⟩ := hperm
  have hd'l : d'.size = xs.length := by rw [p1]; simp [hdl]
  have hys : (d'.toList.map fun p => p.1.2).length = xs.length := by simp [hd'l]
  refine ⟨_, _, rfl, ⟨d'.toList.map fun p => p.1.2, ?_, ?_, rfl⟩, ⟨Nat.le_refl _, ι, ?_, ?_, ?_, ?_, ?_, ?_⟩, ?_⟩
  · have : d'.toList.Perm ds := by
      have e1 : d'.extract 0 xs.length = d' := by rw [← hd'l]; simp
      have e2 : ds.toArray.extract 0 xs.length = ds.toArray := by rw [← hdl]; simp
      rw [e1, e2] at p3
      exact p3
    rw [← hds]
    exact this.map _
  · rw [List.pairwise_map, List.pairwise_iff_getElem]
    intro i j hi hj hij
    have hi' : i < d'.size := by simpa using hi
    have hj' : j < d'.size := by simpa using hj
    have := hsort i j (Nat.zero_le _) hij (by rw [← hd'l]; exact hj')
    rw [getElem!_pos d' j hj', getElem!_pos d' i hi'] at this
    simpa [ltOf] using this
  · exact ⟨[], rfl, trivial⟩
  · intro p x hp
    have hp : aget [(0, Pl.arr 1 ((d'.toList.map fun p => p.1.2).map fun x => [δ x]) false)] p = some x := hp
    obtain ⟨rfl, rfl⟩ := aget_one hp
    have hrow' := heap_sort_row (fun p : El w A δ => p.1.1) w b n d' os hcur
    have hkeep : Keeps w (sortWorld (fun p : El w A δ => p.1.1) w b 0 n d' os) A (Fr.ok ⟨w, A, Go.AM.Handed ι [.arr 1 (xs.map fun x => [δ x]) false], fun _ => none⟩ ι (zipPl (upFrom 0 1) [Pl.arr 1 ((d'.toList.map fun p => p.1.2).map fun x => [δ x]) false]) (sortWorld (fun p : El w A δ => p.1.1) w b 0 n d' os)) := by
      intro b' h
      refine ⟨⟨.inl h, ?_, ?_⟩, heap_sort _ w b n d' os (hA b' h).1 (hAb b' h)⟩
      · have := (hA b' h).1
        unfold sortWorld
        rw [size_grow, size_putRow, heap_ahead]
        omega
      · rintro ⟨p, x, hx, _, hpb⟩
        have hx : aget [(0, Pl.arr 1 ((d'.toList.map fun p => p.1.2).map fun x => [δ x]) false)] p = some x := hx
        obtain ⟨rfl, rfl⟩ := aget_one hx
        rw [hb] at hpb
        exact hAb b' h (Option.some.inj hpb).symm
    refine ⟨Nat.one_pos, by rw [List.length_map, hys, hn], .inr ⟨b, hb, ?_, (fun h => by cases h), fun _ => ⟨_, ⟨te, hrow'⟩, by rw [size_putCells, List.length_map, hys, Nat.mul_one]; exact hroom⟩⟩⟩
    refine rds_mk _ 0 fun j x hj => ?_
    rw [List.getElem?_map] at hj
    cases hdj : d'.toList[j]? with
    | none => rw [hdj] at hj; cases hj
    | some q =>
      rw [hdj] at hj
      cases hj
      have hjl : j < d'.size := by have := (List.getElem?_eq_some_iff.1 hdj).1; simpa using this
      refine ⟨q.1.1, ?_, RD.keep hkeep _ _ q.2⟩
      simp only [World.cell?, hrow']
      rw [Nat.zero_add, get_putCells _ _ _ hjl (by omega), getElem!_pos d' j hjl]
      rw [Array.getElem?_toList, Array.getElem?_eq_getElem hjl] at hdj
      simp [Option.some.inj hdj]
  · intro p q x y b' hx hy hpq
    have hx : aget [(0, Pl.arr 1 ((d'.toList.map fun p => p.1.2).map fun x => [δ x]) false)] p = some x := hx
    have hy : aget [(0, Pl.arr 1 ((d'.toList.map fun p => p.1.2).map fun x => [δ x]) false)] q = some y := hy
    obtain ⟨rfl, _⟩ := aget_one hx
    obtain ⟨rfl, _⟩ := aget_one hy
    exact absurd rfl hpq
  · intro p x b' hx hpb
    have hx : aget [(0, Pl.arr 1 ((d'.toList.map fun p => p.1.2).map fun x => [δ x]) false)] p = some x := hx
    obtain ⟨rfl, _⟩ := aget_one hx
    rw [hb] at hpb
    cases hpb
    exact .inl hMb
  · intro p x hx
    have hx : aget [(0, Pl.arr 1 ((d'.toList.map fun p => p.1.2).map fun x => [δ x]) false)] p = some x := hx
    obtain ⟨rfl, rfl⟩ := aget_one hx
    rfl
  · intro p x _ _
    rfl
  · refine ⟨rfl, rfl, ⟨rfl, ?_⟩, ?_, fun b' hb' hm => ?_, fun b' t m hs => ?_⟩
    · show w.drawn ≤ w.drawn + n
      omega
    · unfold sortWorld
      rw [size_grow, size_putRow, heap_ahead]
      omega
    · exact heap_sort _ w b n d' os hb' (fun e => hm (e ▸ hMb))
    · by_cases e : b' = b
      · subst e
        simp only [World.shape?, hcur] at hs
        simp only [World.shape?, heap_sort_row (fun p : El w A δ => p.1.1) w b' n d' os hcur, size_putCells]
        exact hs
      · have hlt : b' < w.heap.size := by
          rcases Nat.lt_or_ge b' w.heap.size with h | h
          · exact h
          · simp [World.shape?, Array.getElem?_eq_none h] at hs
        simp only [World.shape?, heap_sort _ w b n d' os hlt e]
        exact hs
end
end Go.Proofs.YtcajnlkkjdhjdaaGreat

namespace Go.Proofs.YtcajnlkkjdhjdaaGreat
open Go Go.AM

/-- A comparison of three answers. -/
structure CmpOK {α : Type} (c : α → α → Int) : Prop where
  refl : ∀ x, c x x = 0
  anti : ∀ x y, c x y < 0 ↔ 0 < c y x
  trans : ∀ x y z, c x y ≤ 0 → c y z ≤ 0 → c x z ≤ 0

namespace CmpOK
variable {α : Type} {c : α → α → Int}
theorem ge (h : CmpOK c) {x y : α} : 0 ≤ c x y ↔ c y x ≤ 0 := by have := h.anti x y; omega
theorem zero (h : CmpOK c) {x y : α} : c x y = 0 ↔ c y x = 0 := by have := h.anti x y; have := h.anti y x; omega
theorem swo (h : CmpOK c) : Go.Sort.SWO (fun x y => decide (c x y < 0)) := by
  refine ⟨fun x => by simp [h.refl], fun x y z h1 h2 => ?_, fun x y z h1 h2 => ?_⟩
  · have h1 := of_decide_eq_true h1
    have h2 := of_decide_eq_true h2
    refine decide_eq_true ?_
    have h3 := h.trans x y z (by omega) (by omega)
    by_cases h4 : c x z = 0
    · have h5 := h.zero.1 h4
      have h6 := h.trans y z x (by omega) (by omega)
      have := (h.anti x y).1 h1
      omega
    · omega
  · have h1 := of_decide_eq_false h1
    have h2 := of_decide_eq_false h2
    refine decide_eq_false ?_
    have h3 := h.trans z y x (h.ge.1 (by omega)) (h.ge.1 (by omega))
    have := h.ge.2 h3
    omega
theorem lt_of (h : CmpOK c) {x y z : α} (h1 : c x y < 0) (h2 : c y z ≤ 0) : c x z < 0 := by
  have h3 := h.trans x y z (by omega) h2
  by_cases h4 : c x z = 0
  · have h5 := h.zero.1 h4
    have h6 := h.trans y z x h2 (by omega)
    have := (h.anti x y).1 h1
    omega
  · omega
theorem lt_of2 (h : CmpOK c) {x y z : α} (h1 : c x y ≤ 0) (h2 : c y z < 0) : c x z < 0 := by
  have h3 := h.trans x y z h1 (by omega)
  by_cases h4 : c x z = 0
  · have h5 := h.zero.1 h4
    have h6 := h.trans z x y (by omega) h1
    have := (h.anti y z).1 h2
    omega
  · omega
end CmpOK

theorem CmpOK.lex {α : Type} {c : α → α → Int} (h : CmpOK c) : CmpOK (cmpL c) := by
  refine ⟨fun x => ?_, fun x y => ?_, fun x y z => ?_⟩
  · induction x with
    | nil => rfl
    | cons a r ih => simp only [cmpL, h.refl]; exact ih
  · induction x generalizing y with
    | nil => cases y <;> simp [cmpL]
    | cons a r ih =>
      cases y with
      | nil => simp [cmpL]
      | cons b s =>
        simp only [cmpL]
        by_cases h1 : c a b = 0
        · have h2 := h.zero.1 h1
          simp only [h1, h2, bne_self_eq_false, cond_false]
          exact ih s
        · have h2 : ¬ c b a = 0 := fun e => h1 (h.zero.1 e)
          have e1 : (c a b != 0) = true := by simpa using h1
          have e2 : (c b a != 0) = true := by simpa using h2
          simp only [e1, e2, cond_true]
          exact h.anti a b
  · induction x generalizing y z with
    | nil => intro _ _; cases z <;> simp [cmpL]
    | cons a r ih =>
      intro h1 h2
      cases y with
      | nil => simp [cmpL] at h1
      | cons b s =>
        cases z with
        | nil => simp [cmpL] at h2
        | cons d t =>
          simp only [cmpL] at h1 h2 ⊢
          by_cases g1 : c a b = 0
          · by_cases g2 : c b d = 0
            · simp only [g1, g2, bne_self_eq_false, cond_false] at h1 h2
              have g3 : c a d = 0 := by
                have i1 := h.trans a b d (by omega) (by omega)
                have i2 := h.trans d b a (by rw [h.zero.1 g2]; exact Int.le_refl _) (by rw [h.zero.1 g1]; exact Int.le_refl _)
                have := h.ge.2 i2
                omega
              simp only [g3, bne_self_eq_false, cond_false]
              exact ih _ _ h1 h2
            · have e2 : (c b d != 0) = true := by simpa using g2
              simp only [e2, cond_true] at h2
              have i1 := h.lt_of2 (x := a) (y := b) (z := d) (by omega) (by omega)
              have e3 : (c a d != 0) = true := by simp; omega
              simp only [e3, cond_true]; omega
          · have e1 : (c a b != 0) = true := by simpa using g1
            simp only [e1, cond_true] at h1
            have h2' : c b d ≤ 0 := by
              by_cases g2 : c b d = 0
              · omega
              · have e2 : (c b d != 0) = true := by simpa using g2
                simp only [e2, cond_true] at h2
                exact h2
            have i1 := h.lt_of (x := a) (y := b) (z := d) (by omega) h2'
            have e3 : (c a d != 0) = true := by simp; omega
            simp only [e3, cond_true]; omega

theorem cmpI_eq (a b : Int) : cmpI a b = if a < b then -1 else if b < a then 1 else 0 := by
  unfold cmpI
  by_cases h1 : a < b
  · simp [h1]
  · by_cases h2 : b < a <;> simp [h1, h2]

theorem cmpI_ok : CmpOK cmpI := by
  refine ⟨fun x => ?_, fun x y => ?_, fun x y z => ?_⟩ <;> simp only [cmpI_eq]
  · simp
  · split <;> split <;> (try split) <;> omega
  · split <;> split <;> (try split) <;> (try split) <;> (try split) <;> omega

theorem cmpS_ok : CmpOK cmpS := by
  have key : ∀ x y, (ltS x y = true ∧ ltS y x = false ∧ beqS x y = false ∧ cmpS x y = -1) ∨ (x = y ∧ cmpS x y = 0) ∨ (ltS x y = false ∧ ltS y x = true ∧ beqS x y = false ∧ cmpS x y = 1) := by
    intro x y
    cases h1 : ltS x y
    · cases h2 : ltS y x
      · have := ltS_tri h1 h2; subst this
        exact .inr (.inl ⟨rfl, by simp [cmpS, h1, AM.beqS_self]⟩)
      · have h3 : beqS x y = false := (beqS_false x y).2 fun e => by subst e; rw [h1] at h2; cases h2
        exact .inr (.inr ⟨rfl, rfl, h3, by simp [cmpS, h1, h3]⟩)
    · have h3 : beqS x y = false := (beqS_false x y).2 fun e => by subst e; rw [ltS_irrefl] at h1; cases h1
      exact .inl ⟨rfl, ltS_asymm h1, h3, by simp [cmpS, h1]⟩
  refine ⟨fun x => ?_, fun x y => ?_, fun x y z h1 h2 => ?_⟩
  · rcases key x x with ⟨h, _⟩ | ⟨_, h⟩ | ⟨_, h, _⟩
    · rw [ltS_irrefl] at h; cases h
    · exact h
    · rw [ltS_irrefl] at h; cases h
  · rcases key x y with ⟨h1, h2, _, h3⟩ | ⟨h1, h3⟩ | ⟨h1, h2, _, h3⟩ <;> rcases key y x with ⟨g1, g2, _, g3⟩ | ⟨g1, g3⟩ | ⟨g1, g2, _, g3⟩ <;> rw [h3, g3] <;> simp_all
    all_goals (rw [ltS_irrefl] at *; simp_all)
  · rcases key x y with ⟨e1, _, _, e3⟩ | ⟨e1, e3⟩ | ⟨_, _, _, e3⟩
    · rcases key y z with ⟨f1, _, _, f3⟩ | ⟨f1, f3⟩ | ⟨_, _, _, f3⟩
      · have := ltS_trans e1 f1
        simp [cmpS, this]
      · subst f1; omega
      · omega
    · subst e1; exact h2
    · omega

/-- A comparison by a first key, and where it says nothing by one that hangs on the key. -/
theorem CmpOK.by_key {α : Type} (key : α → Int) (c : Int → α → α → Int) (h : ∀ k, CmpOK (c k)) : CmpOK (fun x y => bif key x != key y then cmpI (key x) (key y) else c (key x) x y) := by
  have kp : ∀ x y, (key x = key y ∧ (bif key x != key y then cmpI (key x) (key y) else c (key x) x y) = c (key x) x y) ∨ (key x < key y ∧ (bif key x != key y then cmpI (key x) (key y) else c (key x) x y) = -1) ∨ (key y < key x ∧ (bif key x != key y then cmpI (key x) (key y) else c (key x) x y) = 1) := by
    intro x y
    by_cases e : key x = key y
    · exact .inl ⟨e, by rw [show (key x != key y) = false by simp [e]]; rfl⟩
    · have : (key x != key y) = true := by simp [e]
      rw [this, cmpI_eq]
      by_cases e2 : key x < key y
      · exact .inr (.inl ⟨e2, by simp [e2]⟩)
      · exact .inr (.inr ⟨by omega, by simp [e2]; omega⟩)
  refine ⟨fun x => ?_, fun x y => ?_, fun x y z h1 h2 => ?_⟩
  · rcases kp x x with ⟨_, e⟩ | ⟨e, _⟩ | ⟨e, _⟩
    · show (bif key x != key x then cmpI (key x) (key x) else c (key x) x x) = 0
      rw [e, (h _).refl]
    · omega
    · omega
  · show (bif key x != key y then cmpI (key x) (key y) else c (key x) x y) < 0 ↔ 0 < (bif key y != key x then cmpI (key y) (key x) else c (key y) y x)
    rcases kp x y with ⟨e, e'⟩ | ⟨e, e'⟩ | ⟨e, e'⟩ <;> rcases kp y x with ⟨f, f'⟩ | ⟨f, f'⟩ | ⟨f, f'⟩ <;> rw [e', f'] <;> try omega
    rw [← e]; exact (h _).anti x y
  · show (bif key x != key z then cmpI (key x) (key z) else c (key x) x z) ≤ 0
    have h1 : (bif key x != key y then cmpI (key x) (key y) else c (key x) x y) ≤ 0 := h1
    have h2 : (bif key y != key z then cmpI (key y) (key z) else c (key y) y z) ≤ 0 := h2
    rcases kp x y with ⟨e, e'⟩ | ⟨e, e'⟩ | ⟨e, e'⟩ <;> rcases kp y z with ⟨f, f'⟩ | ⟨f, f'⟩ | ⟨f, f'⟩ <;> rcases kp x z with ⟨g, g'⟩ | ⟨g, g'⟩ | ⟨g, g'⟩ <;> rw [e'] at h1 <;> rw [f'] at h2 <;> rw [g'] <;> try omega
    rw [← e] at h2
    exact (h _).trans x y z h1 h2

def ordK (k : Int) (a b : Val) : Int := bif k == 3 then cmpS a.s b.s else bif k == 1 || k == 2 then cmpI a.n b.n else 0
theorem CmpOK.on {α β : Type} {c : β → β → Int} (h : CmpOK c) (f : α → β) : CmpOK (fun x y => c (f x) (f y)) := ⟨fun x => h.refl _, fun x y => h.anti _ _, fun x y z => h.trans _ _ _⟩
theorem ordK_ok (k : Int) : CmpOK (ordK k) := by
  unfold ordK
  cases k == 3
  · cases k == 1 || k == 2
    · exact ⟨fun _ => rfl, fun _ _ => by simp, fun _ _ _ _ _ => by simp⟩
    · exact cmpI_ok.on Val.n
  · exact cmpS_ok.on Val.s
theorem ordV_ok : CmpOK ordV := CmpOK.by_key Val.k ordK ordK_ok
theorem ordR_ok : CmpOK ordR := ordV_ok.lex
end Go.Proofs.YtcajnlkkjdhjdaaGreat

namespace Go.Proofs
open Go.Shelf
def Tryz.sortRows_ren : Go.Shelf.Ren := ⟨fun | 6 => 67 | 15 => 89 | 14 => 88 | 28 => 111 | 29 => 112 | 20 => 103 | 21 => 104 | 22 => 105 | 23 => 106 | 24 => 107 | 25 => 108 | 26 => 109 | 27 => 110 | 46 => 117 | 47 => 118 | 48 => 119 | 49 => 120 | 50 => 121 | 57 => 124 | n => n, fun | 22 => 23 | 24 => 38 | 25 => 70 | 3 => 3 | 39 => 95 | 0 => 0 | 53 => 115 | 55 => 118 | 4 => 4 | 46 => 151 | 45 => 150 | 50 => 155 | 5 => 5 | 9 => 9 | 66 => 161 | 70 => 165 | 76 => 169 | 77 => 140 | n => n, fun | n => n⟩
theorem Tryz.sortRows : Go.Proofs.SlLaysF.n6 Tryz.prog Tryz.sortRows_ren := {
  mixed := by kernel_rfl
  f6 := ⟨Tryz.f67.name, by decide, Tryz.func67.trans (congrArg some (by kernel_rfl))⟩
  f14 := ⟨Tryz.f88.name, by decide, Tryz.func88.trans (congrArg some (by kernel_rfl))⟩
  f15 := Tryz.func89.trans (congrArg some (by kernel_rfl))
  f20 := ⟨Tryz.f103.name, by decide, Tryz.func103.trans (congrArg some (by kernel_rfl))⟩
  f21 := ⟨Tryz.f104.name, by decide, Tryz.func104.trans (congrArg some (by kernel_rfl))⟩
  f22 := ⟨Tryz.f105.name, by decide, Tryz.func105.trans (congrArg some (by kernel_rfl))⟩
  f23 := ⟨Tryz.f106.name, by decide, Tryz.func106.trans (congrArg some (by kernel_rfl))⟩
  f24 := ⟨Tryz.f107.name, by decide, Tryz.func107.trans (congrArg some (by kernel_rfl))⟩
  f25 := ⟨Tryz.f108.name, by decide, Tryz.func108.trans (congrArg some (by kernel_rfl))⟩
  f26 := ⟨Tryz.f109.name, by decide, Tryz.func109.trans (congrArg some (by kernel_rfl))⟩
  f27 := ⟨Tryz.f110.name, by decide, Tryz.func110.trans (congrArg some (by kernel_rfl))⟩
  f28 := Tryz.func111.trans (congrArg some (by kernel_rfl))
  f29 := Tryz.func112.trans (congrArg some (by kernel_rfl))
  f46 := ⟨Tryz.f117.name, by decide, Tryz.func117.trans (congrArg some (by kernel_rfl))⟩
  f47 := Tryz.func118.trans (congrArg some (by kernel_rfl))
  f48 := Tryz.func119.trans (congrArg some (by kernel_rfl))
  f49 := ⟨Tryz.f120.name, by decide, Tryz.func120.trans (congrArg some (by kernel_rfl))⟩
  f50 := ⟨Tryz.f121.name, by decide, Tryz.func121.trans (congrArg some (by kernel_rfl))⟩
  f57 := ⟨Tryz.f124.name, by decide, Tryz.func124.trans (congrArg some (by kernel_rfl))⟩
  t0 := Tryz.underlying0
  a0 := Tryz.isAgg0
  z0 := Tryz.sizeOf0
  v0 := Tryz.zeroValue0
  t3 := Tryz.underlying3
  a3 := Tryz.isAgg3
  z3 := Tryz.sizeOf3
  v3 := Tryz.zeroValue3
  t4 := Tryz.underlying4
  a4 := Tryz.isAgg4
  z4 := Tryz.sizeOf4
  v4 := Tryz.zeroValue4
  t5 := Tryz.underlying5
  a5 := Tryz.isAgg5
  z5 := Tryz.sizeOf5
  v5 := Tryz.zeroValue5
  t9 := Tryz.underlying9
  a9 := Tryz.isAgg9
  z9 := Tryz.sizeOf9
  v9 := Tryz.zeroValue9
  t22 := Tryz.underlying23
  a22 := Tryz.isAgg23
  z22 := Tryz.sizeOf23
  v22 := Tryz.zeroValue23
  a24 := Tryz.isAgg38
  z24 := Tryz.sizeOf38
  t25 := Tryz.underlying70
  a25 := Tryz.isAgg70
  z25 := Tryz.sizeOf70
  v25 := Tryz.zeroValue70
  t39 := Tryz.underlying95
  a39 := Tryz.isAgg95
  z39 := Tryz.sizeOf95
  v39 := Tryz.zeroValue95
  t45 := Tryz.underlying150
  a45 := Tryz.isAgg150
  z45 := Tryz.sizeOf150
  v45 := Tryz.zeroValue150
  t46 := Tryz.underlying151
  a46 := Tryz.isAgg151
  z46 := Tryz.sizeOf151
  v46 := Tryz.zeroValue151
  t50 := Tryz.underlying155
  a50 := Tryz.isAgg155
  z50 := Tryz.sizeOf155
  v50 := Tryz.zeroValue155
  t53 := Tryz.underlying115
  a53 := Tryz.isAgg115
  z53 := Tryz.sizeOf115
  v53 := Tryz.zeroValue115
  t55 := Tryz.underlying118
  a55 := Tryz.isAgg118
  z55 := Tryz.sizeOf118
  v55 := Tryz.zeroValue118
  t66 := Tryz.underlying161
  a66 := Tryz.isAgg161
  z66 := Tryz.sizeOf161
  v66 := Tryz.zeroValue161
  t70 := Tryz.underlying165
  a70 := Tryz.isAgg165
  z70 := Tryz.sizeOf165
  v70 := Tryz.zeroValue165
  t76 := Tryz.underlying169
  a76 := Tryz.isAgg169
  z76 := Tryz.sizeOf169
  v76 := Tryz.zeroValue169
  t77 := Tryz.underlying140
  a77 := Tryz.isAgg140
  z77 := Tryz.sizeOf140
  v77 := Tryz.zeroValue140 }
end Go.Proofs

namespace Go.Proofs.YtcajnlkkjdhjdaaGreat
open Go Go.AM Go.Shelf

theorem sat_SortFunc_nil (g : FuncId) : SatH Pg k_slices_SortFunc_LValue [.c .nil, .c (.d (.fn g []))] [] (fun r => r = ⟨.tup [], []⟩) := by
  refine ⟨by kernel_rfl, fun w A ι vals hA hH hP hinj hW => ?_⟩
  match vals, hW with
  | [], hW => exact hW.elim
  | [_], hW => exact hW.2.elim
  | _ :: _ :: _ :: _, hW => exact hW.2.2.elim
  | [v1, v2], hW =>
  obtain ⟨hv1, _, _⟩ := hW
  have hv1 : v1 = .slice none 0 0 := hv1
  subst hv1
  refine (AnyF.slices_SortFunc_none (P := Pg) (ρ := Tryz.sortRows_ren) { Tryz.sortRows with } none 0 v2 w).mono ?_
  rintro e w' ⟨rfl, rfl⟩
  refine ⟨_, _, rfl, rfl, ⟨Nat.le_refl _, ι, ⟨[], rfl, trivial⟩, ?_, ?_, ?_, ?_, ?_⟩, Grows.refl _ _⟩
  · intro p y hp; cases hp
  · intro p q y z b hp; cases hp
  · intro p y b hp; cases hp
  · intro p y hp; cases hp
  · intro p y hp; cases hp

theorem sat_SortFunc (xs : List (List Val)) (hne : xs ≠ []) (hlen : xs.length < 4611686018427387904) :
    SatH Pg k_slices_SortFunc_LValue [.c (.own 0 1 xs.length), .c (.d (.fn k_delta_order []))] [.arr 1 (rowsD xs) false]
      (fun r => ∃ ys : List (List Val), ys.Perm xs ∧ ys.Pairwise (fun a b => ¬ ordR b a < 0) ∧ r = ⟨.tup [], [.arr 1 (rowsD ys) false]⟩) :=
  sort_bridge (P := Pg) (ρ := Tryz.sortRows_ren) Tryz.sortRows (by kernel_rfl) (fun r => .sl (rowD r)) ordR ordR_ok.swo k_delta_order (fun x y => sat_delta_order x y) xs hne hlen
end Go.Proofs.YtcajnlkkjdhjdaaGreat

namespace Go.Proofs.YtcajnlkkjdhjdaaGreat
open Go Go.Proofs Go.RowKit Go.Maps Go.Shelf

attribute [local go_sem] Oper.semAt_some

abbrev Sl := Option Addr × Nat × Nat
abbrev encS : Sl → Value := fun x => .slice x.1 x.2.1 x.2.2

/-- WHAT HAS COME WHEN k ROUNDS ARE OVER: f 0, .., f (k - 1). -/
def upto {α : Type} (f : Nat → α) (k : Nat) : List α := (List.range k).map f
theorem upto_succ {α : Type} (f : Nat → α) (k : Nat) : upto f (k + 1) = upto f k ++ [f k] := by simp [upto, List.range_succ]
theorem upto_length {α : Type} (f : Nat → α) (k : Nat) : (upto f k).length = k := by simp [upto]
theorem upto_all (zs : List Sl) : upto (fun j => zs[j]?.getD default) zs.length = zs := by
  apply List.ext_getElem
  · simp [upto]
  · intro i h1 h2
    simp [upto, h2]

set_option maxRecDepth 100000 in
set_option maxHeartbeats 2000000 in
/-- **slices.Values's closure: 'for _, v := range s { if !yield(v) { return } }': FOR EVERY LOOP BODY THAT KEEPS WHAT LAY BELOW n₀.** -/
theorem values1_in (F : Fence) (n : Nat) (h57 : F.fn 68) (hro : F.round = none) (hn : 1 ≤ n) (l Bs Bo n₀ b off len cap : Nat) (zs : List Sl) (hreach : len * 8 ≤ 140737488351232) (hb : b < n₀) (J Jx : List Sl → World → Prop)
    (hY : ∀ pre x W, J pre W → pre.length < len → YieldAt F (n - 1) Tryz.prog l #[encS x] W fun e W' =>
      (e = .returned (.bool true) ∧ J (pre ++ [x]) W' ∧ Below n₀ W W') ∨ (e = .returned (.bool false) ∧ Jx (pre ++ [x]) W'))
    (W : World) (hBs : W.cell? ⟨Bs, Bo, none⟩ = some (.slice (some ⟨b, off, none⟩) len cap)) (hc : ∀ j, j < len → W.cell? ⟨b, off + j, none⟩ = some (encS (zs[j]?.getD default))) (h0 : J [] W) :
    CallsIn F n Tryz.prog 68 #[.func (.yield l) #[] #[], .pointer (some ⟨Bs, Bo, none⟩)] W fun e W' => (∃ v, e = .returned v) ∧
      ((∃ ys, ys = upto (fun j => zs[j]?.getD default) len ∧ J ys W') ∨ (∃ pre, (∃ k, k ≤ len ∧ pre = upto (fun j => zs[j]?.getD default) k) ∧ Jx pre W')) := by
  refine callsIn_of_wp Tryz.func68 rfl h57 ?_ hro
  simp only [Tryz.ntmps68, List.size_toArray, List.length_cons, List.length_nil, Nat.reduceAdd, Nat.reduceSub, Array.replicate_succ, Array.replicate_zero, List.push_toArray, List.append_toArray, List.nil_append, List.cons_append]
  gi_wp2
  gi_loopw [7] (fun i wr => ∃ k : Nat, k ≤ len ∧ i = .int .i64 k ∧ J (upto (fun j => zs[j]?.getD default) k) wr ∧ Below n₀ W wr)
    (fun i _ => len - (intOf i).toNat)
  case atStart => exact ⟨0, Nat.zero_le _, rfl, h0, Below.refl _ _⟩
  case round =>
    obtain ⟨k, hk, rfl, hJs, hnx⟩ := hrel
    have hcx : k < len → wr.cell? ⟨b, off + k, none⟩ = some (encS (zs[k]?.getD default)) := fun h => (hnx.cell (p := ⟨b, off + k, none⟩) hb).trans (hc k h)
    by_cases hlt : k < len
    · obtain ⟨fn, tmps, assign, body, hy, hR⟩ := hY _ (zs[k]?.getD default) wr hJs (by rw [upto_length]; exact hlt)
      have hcx' := hcx hlt
      gi_wp2
      refine hR.mono ?_
      rintro e W3 (⟨rfl, hJ3, hk3⟩ | ⟨rfl, hJx3⟩)
      · -- THE ROUND GOES ON
        gi_wp2
        go_roundw
        case rel => exact ⟨k + 1, by omega, by simp, by rw [upto_succ]; exact hJ3, hnx.trans hk3⟩
        case measure => simp [intOf]; omega
      · gi_wp2
        refine bodyPost_ret (results_none rfl _ _ _) rfl ?_
        exact ⟨⟨_, rfl⟩, .inr ⟨_, ⟨k + 1, by omega, (upto_succ _ _).symm⟩, hJx3⟩⟩
    · obtain rfl : k = len := by omega
      gi_wp2
      go_end0
      exact ⟨⟨_, rfl⟩, .inl ⟨_, rfl, hJs⟩⟩

set_option maxRecDepth 100000 in
set_option maxHeartbeats 1000000 in
/-- .. at the nil slice: no round. -/
theorem values1_nil_in (F : Fence) (n : Nat) (h57 : F.fn 68) (hro : F.round = none) (l Bs Bo : Nat) (a : Option Addr) (c : Nat) (J : List Sl → World → Prop) (W : World) (hBs : W.cell? ⟨Bs, Bo, none⟩ = some (.slice a 0 c)) (h0 : J [] W) :
    CallsIn F n Tryz.prog 68 #[.func (.yield l) #[] #[], .pointer (some ⟨Bs, Bo, none⟩)] W fun e W' => (∃ v, e = .returned v) ∧ J [] W' := by
  refine callsIn_of_wp Tryz.func68 rfl h57 ?_ hro
  simp only [Tryz.ntmps68, List.size_toArray, List.length_cons, List.length_nil, Nat.reduceAdd, Nat.reduceSub, Array.replicate_succ, Array.replicate_zero, List.push_toArray, List.append_toArray, List.nil_append, List.cons_append]
  gi_wp2
  gi_loopw [7] (fun i wr => i = .int .i64 0 ∧ J [] wr) (fun _ _ => 0)
  case atStart => exact ⟨rfl, h0⟩
  case round =>
    obtain ⟨rfl, hJs⟩ := hrel
    gi_wp2
    go_end0
    exact ⟨⟨_, rfl⟩, hJs⟩

end Go.Proofs.YtcajnlkkjdhjdaaGreat

namespace Go.Proofs.YtcajnlkkjdhjdaaGreat
open Go Go.Proofs Go.RowKit Go.Maps Go.Shelf

attribute [local go_sem] Oper.semAt_some

def apAssign : Code := (Code.region 2 #[{ dst := some 5, op := Op.assign (Operand.tmp 7), type := 38, pos := "iter.go:51", after := #[], guard := none }] false)
def apBody : Code := (Code.block 1 (Code.region 3 #[{ dst := some 8, op := Op.load 23 (Operand.tmp 2), type := 23, pos := "iter.go:52", after := #[], guard := none }, { dst := some 9, op := Op.move (Operand.tmp 5), type := 38, pos := "iter.go:52", after := #[], guard := none }, { dst := some 10, op := Op.buildSlice 23 1 #[(0, Operand.tmp 9)], type := 23, pos := "iter.go:52", after := #[{ on := 1, ground := Ground.data }], guard := none }, { dst := some 11, op := Op.call { callee := Callee.builtin Builtin.append, args := #[Operand.tmp 8, Operand.tmp 10], argTypes := #[23, 23] }, type := 23, pos := "iter.go:52", after := #[{ on := 0, ground := Ground.data }, { on := 2, ground := Ground.data }], guard := none }, { dst := none, op := Op.store 23 (Operand.tmp 2) (Operand.tmp 11), type := 0, pos := "iter.go:52", after := #[{ on := 3, ground := Ground.data }, { on := 3, ground := Ground.chain }, { on := 0, ground := Ground.phase }, { on := 1, ground := Ground.phase }, { on := 2, ground := Ground.phase }, { on := 3, ground := Ground.phase }], guard := none }] false))
/-- The loop's record: AppendSeq's temporaries as they stood at the entering: 's' boxed in block Bs; sv: the iterator's value. -/
def apRec (fn : FuncId) (sv : Value) (Bs D : Nat) (st : LoopState) (pend : Option Code) : Loop :=
  { state := st, pending := pend, fn, tmps := #[.slice none 0 0, sv, .pointer (some ⟨Bs, 0, none⟩), undef, .slice none 0 0, undef, sv, undef, undef, undef, undef, undef, undef], params := #[7], assign := apAssign, body := apBody, defers := D }

/-- BETWEEN TWO ROUNDS: the box holds a slice that owns, in a block of the call's own, what has come so far; IT IS nil JUST AS LONG AS NOTHING HAS COME; nothing that lay before the call has turned. -/
structure ApAt (w0 : World) (fn : FuncId) (sv : Value) (Bs l D : Nat) (ss : List Sl) (W : World) : Prop where
  box : ∃ v, W.heap[Bs]? = some (.cells #[v] 23 (0, 0)) ∧ W.ownsRow w0.heap.size 38 1 v ss.length (ss.map encS) ∧ (v = .slice none 0 0 ↔ ss = [])
  L : W.heap[l]? = some (.loop (apRec fn sv Bs D .ready none))
  K : W.heap[D]? = some (.deferred (some []))
  below : Below w0.heap.size w0 W
  drawn : w0.drawn ≤ W.drawn

/-- A slice's own row is no walk's object: it abides an iterator's step. -/
theorem ownsRow_abides {W W' : World} {row : Option Nat} {base : Nat} {e : TypeId} {size : Nat} {v : Value} {k : Nat} {xs : List Value} (h : W.ownsRow base e size v k xs) (hg : W.grownBy W' row)
    (hrow : ∀ r, row = some r → ∃ o : Obj, W.heap[r]? = some o ∧ o.isWalk = true) : W'.ownsRow base e size v k xs := by
  refine h.kept hg ?_
  rcases h.2 with ⟨rfl, _⟩ | ⟨g, cap, cur, rfl, _, hgb, _⟩
  · exact .inl rfl
  · refine .inr fun e' => ?_
    obtain ⟨o, ho, hw⟩ := hrow g (by simpa [Value.ownBlock] using e'.symm)
    rw [hgb] at ho; cases ho; cases hw

theorem grownBy_putObj (W : World) (l : Nat) (o : Obj) : W.grownBy (W.putObj l o) (some l) :=
  ⟨rfl, rfl, rfl, by simp, fun k _ hk => World.putObj_heap_other (fun e => hk (by rw [e]))⟩
theorem grownBy_setCell0 (W : World) (b : Nat) (v : Value) : W.grownBy (W.setCell ⟨b, 0, none⟩ v) (some b) :=
  ⟨rfl, rfl, rfl, (KeepsWalks.setCell W _ v).size, fun k _ hk => Below.heap_setCell _ _ _ k (fun e => hk (by rw [e]))⟩
/-- A slice's own row is not a block that holds something else than cells of its element's type. -/
theorem ownsRow_ne {W : World} {base : Nat} {e : TypeId} {size : Nat} {v : Value} {k : Nat} {xs : List Value} (h : W.ownsRow base e size v k xs) {j : Nat} {o : Obj} (hj : W.heap[j]? = some o) (hno : ∀ cur, o ≠ .cells cur e (0, 0)) :
    v.ownBlock = none ∨ v.ownBlock ≠ some j := by
  rcases h.2 with ⟨rfl, _⟩ | ⟨g, cap, cur, rfl, _, hgb, _⟩
  · exact .inl rfl
  · refine .inr fun e' => ?_
    have : g = j := by simpa [Value.ownBlock] using e'
    subst this; rw [hgb] at hj; cases hj; exact hno cur rfl
theorem cell_of_box {W : World} {B : Nat} {v : Value} {t : TypeId} (h : W.heap[B]? = some (.cells #[v] t (0, 0))) : W.cell? ⟨B, 0, none⟩ = some v ∧ W.frozen? ⟨B, 0, none⟩ = false := by
  constructor <;> simp [World.cell?, World.frozen?, h]

theorem heap_setCell_box {W : World} {B : Nat} {v : Value} {t : TypeId} (v' : Value) (h : W.heap[B]? = some (.cells #[v] t (0, 0))) : (W.setCell ⟨B, 0, none⟩ v').heap[B]? = some (.cells #[v'] t (0, 0)) := by
  obtain ⟨hlt, hk⟩ := Array.getElem?_eq_some_iff.1 h
  show (W.heap.modify B _)[B]? = _
  rw [Array.getElem?_eq_getElem (by rw [Array.size_modify]; exact hlt), Array.getElem_modify_self, hk]
  rfl
theorem ownsRow_not_walk {W : World} {base : Nat} {e : TypeId} {size : Nat} {v : Value} {k : Nat} {xs : List Value} (h : W.ownsRow base e size v k xs) : ∀ (j : Nat) (o : Obj), v.ownBlock = some j → W.heap[j]? = some o → o.isWalk = false := by
  intro j o hj ho
  rcases h.2 with ⟨rfl, _⟩ | ⟨g, cap, cur, rfl, _, hgb, _⟩
  · simp [Value.ownBlock] at hj
  · have : g = j := by simpa [Value.ownBlock] using hj
    subst this; rw [hgb] at ho; cases ho; rfl

theorem below_of {B : Nat} {w0 A C : World} (h1 : Below B w0 A) (h2 : Below B w0 C) (hs : A.heap.size ≤ C.heap.size) : Below B A C :=
  ⟨h2.os.trans h1.os.symm, h2.tape.trans h1.tape.symm, h2.output.trans h1.output.symm, hs, fun k hk => (h2.block k hk).trans (h1.block k hk).symm⟩

section
variable {P : Program} (w : World)
theorem append_drawn (base : Nat) (t ty e : TypeId) (i : TypeInfo) (z : Value) (size bytes : Nat) (ht : P.underlying t = some (.slice e)) (hi : P.info? e = some i) (hz : i.zero = some z)
    (hsize : i.size = size) (hby : i.bytes = bytes)
    (v : Value) (n : Nat) (xs : List Value) (hown : w.ownsRow base e size v n xs)
    (a : Addr) (m c : Nat) (news : List Value) (hl : news.length = m * size) (hnews : ∀ j u, news[j]? = some u → w.cell? (a.add j) = some u) (h1 : ∀ u ∈ news, u.oneCell' = true)
    (h63 : n + m ≤ maxLen) (hbytes : (n + m) * bytes ≤ 140737488355328) {v' : Value} {w' : World} (hr : (Builtin.append_ #[t, t] ty #[v, .slice (some a) m c]).run P w = .ok v' w') : w.drawn ≤ w'.drawn := by
  subst hsize
  subst hby
  have hsmall : n + m ≤ 9223372036854775807 := by simp only [maxLen] at h63; omega
  rcases hown.2 with ⟨rfl, rfl⟩ | ⟨g, cap, cur, rfl, hbg, hg, hnc, hcm, hcs, htake⟩
  · by_cases hm : m = 0
    · subst hm
      have hn : news = [] := List.eq_nil_of_length_eq_zero (by simpa using hl)
      subst hn
      simp [Builtin.append_, run_underlying ht, sizeOf, typeInfo, hi, Builtin.lenOf, Builtin.firstCells, loadCells, loadCellsFrom] at hr
      exact hr.2 ▸ Nat.le_refl _
    · have h := run_append_nil (P := P) w t ty e i z ht hi hz a m c news hl hnews (by omega) (by omega) (by have hb := hbytes; simp only [Nat.zero_add] at hb; omega)
      rw [h] at hr
      cases hr
      exact Nat.le_succ _
  · by_cases hroom : n + m ≤ cap
    · have hfit : n * i.size + news.length ≤ cur.size := by rw [hl, hcs, ← Nat.add_mul]; exact Nat.mul_le_mul_right _ hroom
      have h := run_append_room (P := P) w t ty e i ht hi g n cap cur hg a m c news hl hnews h1 hroom hfit
      rw [h] at hr
      cases hr
      exact Nat.le_refl _
    · have holds : ∀ j u, xs[j]? = some u → w.cell? ((⟨g, 0, none⟩ : Addr).add j) = some u := hown.cells (g := g) rfl
      have h := run_append_grow (P := P) w t ty e i z ht hi hz ⟨g, 0, none⟩ n cap xs hown.1 holds a m c news hl hnews (by omega) (by omega) (growslice_fits (by omega) hbytes)
      rw [h] at hr
      cases hr
      exact Nat.le_succ _
end

theorem wpListIn_append_ownD {F : Fence} {n : Nat} {P : Program} (w : World) {ops : Array Oper} {rest : List Oper} {o : Oper} {a : Act} {Q : Exit → Act → World → Prop}
    (hg : o.guard = none) (s x : Operand) (t : TypeId) (hop : o.op = Op.call { callee := Callee.builtin Builtin.append, args := #[s, x], argTypes := #[t, t] })
    (base : Nat) (e : TypeId) (i : TypeInfo) (z : Value) (size bytes : Nat) (h1 : P.underlying t = some (.slice e)) (h2 : P.info? e = some i) (h3 : i.zero = some z) (h4 : i.size = size) (h5 : i.bytes = bytes) (h6 : z.cells.size = size) (h7 : 0 < size)
    (v : Value) (k : Nat) (xs : List Value) (hs : a.eval s = v) (hown : w.ownsRow base e size v k xs) (ad : Addr) (m c : Nat) (news : List Value) (hx : a.eval x = .slice (some ad) m c) (hn : news.length = m * size)
    (hc : ∀ j u, news[j]? = some u → w.cell? (ad.add j) = some u) (h1c : ∀ u ∈ news, u.oneCell' = true) (b1 : k + m ≤ maxLen) (b2 : (k + m) * bytes ≤ 140737488355328) (b3 : base ≤ w.heap.size)
    (hK : ∀ v' w', w'.ownsRow base e size v' (k + m) (xs ++ news) → w.grownBy w' v.ownBlock → w.drawn ≤ w'.drawn → wpListIn F n P ops Q rest (a.put o.dst v') w') :
    wpListIn F n P ops Q (o :: rest) a w := by
  refine wpListIn_plain hg fun K hK' => ?_
  obtain ⟨v', w', hrun, r1, r2, r3⟩ := run_append_own (P := P) w base t o.type e i z size bytes h1 h2 h3 h4 h5 h6 h7 v k xs hown ad m c news hn hc h1c b1 b2 b3
  have r4 := append_drawn w base t o.type e i z size bytes h1 h2 h3 h4 h5 v k xs hown ad m c news hn hc h1c b1 b2 hrun
  unfold Oper.wpIn
  refine ⟨?_, ?_⟩
  · simp [Oper.about, hop, resolve, Target.leads, Sem.run_pure]
  · rw [Oper.semAt_plain F _ _ (by rw [hop]; intro c hc'; cases hc')]
    simp [execOp, hop, resolve, invoke, builtin, hs, hx, hrun, Result.andThen]
    exact hK' _ _ (hK v' w' r1 r2 r4)

theorem info44 : (Tryz.prog.info? 38).map (fun i => (i.zero, i.size, i.bytes)) = some (some (.slice none 0 0), 1, 24) := by kernel_rfl

set_option maxRecDepth 100000 in
set_option maxHeartbeats 2000000 in
theorem apYield (F : Fence) (m : Nat) (w0 : World) (fn : FuncId) (hfn : F.fn fn) (sv : Value) (Bs l D : Nat) (hBl : Bs ≠ l) (hDl : D ≠ l) (hDB : D ≠ Bs) (h0B : w0.heap.size ≤ Bs) (h0l : w0.heap.size ≤ l)
    (N : Nat) (hN : N ≤ maxLen) (hNb : N * 24 ≤ 140737488355328) (ss : List Sl) (x : Sl) (W : World) (h : ApAt w0 fn sv Bs l D ss W) (hlen : ss.length < N) :
    YieldAt F m Tryz.prog l #[encS x] W fun e W' => e = .returned (.bool true) ∧ ApAt w0 fn sv Bs l D (ss ++ [x]) W' ∧ Below w0.heap.size W W' := by
  obtain ⟨i0, hi, hz0, hz1, hz2⟩ := info_parts info44
  obtain ⟨v, hv, hrow, _⟩ := h.box
  refine ⟨fn, #[.slice none 0 0, sv, .pointer (some ⟨Bs, 0, none⟩), undef, .slice none 0 0, undef, sv, encS x, undef, undef, undef, undef, undef], apAssign, apBody, by simpa [apRec] using run_yield (P := Tryz.prog) (args := #[encS x]) h.L rfl, roundIn_of_wpIn hfn ?_⟩
  have hl : l < W.heap.size := (Array.getElem?_eq_some_iff.1 h.L).1
  have hbr := run_beginRound (P := Tryz.prog) h.L rfl
  obtain ⟨W2, hW2⟩ : ∃ W2, W.putObj l (.loop { apRec fn sv Bs D .ready none with state := .busy }) = W2 := ⟨_, rfl⟩
  rw [hW2] at hbr
  have hg2 : W.grownBy W2 (some l) := by rw [← hW2]; exact grownBy_putObj _ _ _
  have hk2 : KeepsWalks W W2 := by rw [← hW2]; exact KeepsWalks.putObj _ h.L rfl
  have hv2 : W2.heap[Bs]? = some (.cells #[v] 23 (0, 0)) := by rw [← hW2]; exact (World.putObj_heap_other hBl).trans hv
  have hK2 : W2.heap[D]? = some (.deferred (some [])) := by rw [← hW2]; exact (World.putObj_heap_other hDl).trans h.K
  have hL2 : W2.heap[l]? = some (.loop { apRec fn sv Bs D .ready none with state := .busy }) := by rw [← hW2]; exact World.putObj_heap_same hl
  have hrow2 : W2.ownsRow w0.heap.size 38 1 v ss.length (ss.map encS) := hrow.kept hg2 (ownsRow_ne hrow h.L (fun cur e => by cases e))
  have hb2 : Below w0.heap.size w0 W2 := h.below.grown hg2 h.below.size (fun k e => by cases e; exact h0l)
  obtain ⟨hc2, hf2⟩ := cell_of_box hv2
  have hBlt : Bs < W2.heap.size := (Array.getElem?_eq_some_iff.1 hv2).1
  have hl2 : l < W2.heap.size := (Array.getElem?_eq_some_iff.1 hL2).1
  have hDlt : D < W2.heap.size := (Array.getElem?_eq_some_iff.1 hK2).1
  have ne_of : ∀ {j : Nat} {o : Obj}, W2.heap[j]? = some o → (∀ cur, o ≠ .cells cur 38 (0, 0)) → some j ≠ v.ownBlock := fun hj hno => by
    rcases ownsRow_ne hrow2 hj hno with e | e
    · rw [e]; simp
    · exact fun e' => e e'.symm
  have hd2 : W2.drawn = W.drawn := by rw [← hW2]; rfl
  clear hW2
  unfold apAssign
  gi_wp2_with (rw [Oper.semAt_eq _ _ _ (fun c h => by cases h)]; go_simp; try go_bits)
  unfold apBody
  gi_wp2_with (first
    | (gi_at_builtin; refine wpListIn_append_ownD _ rfl _ _ 23 rfl w0.heap.size 38 i0 (.slice none 0 0) 1 24 Tryz.underlying23 hi hz0 hz1 hz2 rfl (by decide) _ _ _ rfl (hrow2.alloc _) ⟨W2.heap.size, 0, none⟩ 1 1 [encS x] rfl rfl (cell_one_new _ _ _) (by simp [Value.oneCell', encS]) (by omega) (by omega) (by have := hb2.size; simp; omega) ?_; intro v' w3 hown' hg3 hd3
       have hv3 : w3.heap[Bs]? = some (.cells #[v] 23 (0, 0)) := (hg3.block Bs (by simp; omega) (ne_of hv2 (fun cur e => by cases e))).trans ((Below.heap_alloc _ _ Bs hBlt).trans hv2)
       obtain ⟨hc3, hf3⟩ := cell_of_box hv3
       obtain ⟨g', cap', cur', rfl, hbase', hgb', hr1, hr2, hr3, hr4⟩ : ∃ g' cap' cur', v' = .slice (some ⟨g', 0, none⟩) (ss.length + 1) cap' ∧ w0.heap.size ≤ g' ∧ w3.heap[g']? = some (.cells cur' 38 (0, 0)) ∧ ss.length + 1 ≤ cap' ∧ cap' ≤ maxLen ∧ cur'.size = cap' * 1 ∧ cur'.toList.take ((ss.length + 1) * 1) = ss.map encS ++ [encS x] := by
         rcases hown'.2 with ⟨_, h0⟩ | h'
         · exact absurd h0 (by omega)
         · exact h'
       go_frame)
    | (rw [Oper.semAt_eq _ _ _ (fun c h => by cases h)]; go_simp; try go_bits))
  have hg3' : (W2.alloc (.cells #[encS x] 38)).grownBy w3 v.ownBlock := hg3
  have hL3 : w3.heap[l]? = some (.loop { apRec fn sv Bs D .ready none with state := .busy }) := (hg3'.block l (by simp; omega) (ne_of hL2 (fun cur e => by cases e))).trans ((Below.heap_alloc _ _ l hl2).trans hL2)
  have hK3 : w3.heap[D]? = some (.deferred (some [])) := (hg3'.block D (by simp; omega) (ne_of hK2 (fun cur e => by cases e))).trans ((Below.heap_alloc _ _ D hDlt).trans hK2)
  obtain ⟨w4, hw4⟩ : ∃ w4, w3.setCell ⟨Bs, 0, none⟩ (.slice (some ⟨g', 0, none⟩) (ss.length + 1) cap') = w4 := ⟨_, rfl⟩
  rw [hw4]
  have hg4 : w3.grownBy w4 (some Bs) := by rw [← hw4]; exact grownBy_setCell0 _ _ _
  have hv4 : w4.heap[Bs]? = some (.cells #[.slice (some ⟨g', 0, none⟩) (ss.length + 1) cap'] 23 (0, 0)) := by rw [← hw4]; exact heap_setCell_box _ hv3
  have hL4 : w4.heap[l]? = some (.loop { apRec fn sv Bs D .ready none with state := .busy }) := (hg4.block l (Array.getElem?_eq_some_iff.1 hL3).1 (fun e => hBl (by cases e; rfl))).trans hL3
  have hK4 : w4.heap[D]? = some (.deferred (some [])) := (hg4.block D (Array.getElem?_eq_some_iff.1 hK3).1 (fun e => hDB (by cases e; rfl))).trans hK3
  have hrow4 := hown'.kept hg4 (ownsRow_ne hown' hv3 (fun cur e => by cases e))
  have hl4 : l < w4.heap.size := (Array.getElem?_eq_some_iff.1 hL4).1
  have hb3 : Below w0.heap.size w0 w3 := (hb2.alloc hb2.size _).grown hg3' (by have := hb2.size; simp; omega) (fun k e => (hrow2.lt k e).1)
  have hb4 : Below w0.heap.size w0 w4 := hb3.grown hg4 hb3.size (fun k e => by cases e; exact h0B)
  have hk4 : KeepsWalks W w4 := ((hk2.trans (KeepsWalks.alloc _ _)).trans (KeepsWalks.of_grownBy hg3' (ownsRow_not_walk (hrow2.alloc _)))).trans (by rw [← hw4]; exact KeepsWalks.setCell _ _ _)
  have hd4 : w4.drawn = w3.drawn := by rw [← hw4]; rfl
  clear hw4
  have hd5 : w0.drawn ≤ w4.drawn := by rw [hd4]; exact Nat.le_trans h.drawn (Nat.le_trans (Nat.le_of_eq hd2.symm) hd3)
  refine ⟨_, _, run_endRound none hL4, rfl, ⟨⟨_, (World.putObj_heap_other hBl).trans hv4, ?_, by simp⟩, World.putObj_heap_same hl4, (World.putObj_heap_other hDl).trans hK4, hb4.grown (grownBy_putObj _ _ _) hb4.size (fun k e => by cases e; exact h0l), hd5⟩, below_of h.below (hb4.grown (grownBy_putObj _ _ _) hb4.size (fun k e => by cases e; exact h0l)) (hk4.trans (KeepsWalks.putObj _ hL4 rfl)).size⟩
  have := hrow4.kept (grownBy_putObj w4 l (.loop { { apRec fn sv Bs D .ready none with state := .busy } with state := if (none : Option Code).isNone then .ready else .done, pending := none })) (ownsRow_ne hrow4 hL4 (fun cur e => by cases e))
  simpa using this


set_option maxRecDepth 100000 in
set_option maxHeartbeats 2000000 in
/-- **slices.AppendSeq(nil, seq), AGAINST WHATEVER ITERATOR VALUE THAT 'SeqGives'**: it hands back a slice that owns, in a block of the call's own, JUST WHAT THE ITERATOR GAVE, IN THAT ORDER; nil JUST WHERE IT GAVE NOTHING (as Go: 'slices.Collect' of nothing is nil); nothing that lay before the call has turned. -/
theorem appendSeq_in (F : Fence) (n : Nat) (h74 : F.fn 87) (hro : F.round = none) (hn : 2 ≤ n) (g : Nat) (lb : Array Value) (hFg : F.fn g) (eg : ∀ args w, (callFunc g args).run Tryz.prog w = .ok (.enter g args) w)
    (zs : List Sl) (N : Nat) (hN : N ≤ maxLen) (hNb : N * 24 ≤ 140737488355328) (w : World) (hseq : ∀ (l : Nat) (J : List Sl → World → Prop) (W : World), Below w.heap.size w W →
      (∀ pre x W1, J pre W1 → pre.length < N → YieldAt F (n - 1 - 1) Tryz.prog l #[encS x] W1 fun e W' => e = .returned (.bool true) ∧ J (pre ++ [x]) W' ∧ Below w.heap.size W1 W') →
      J [] W → CallsIn F (n - 1) Tryz.prog g (#[.func (.yield l) #[] #[]] ++ lb) W fun e W' => (∃ v, e = .returned v) ∧ J zs W') :
    CallsIn F n Tryz.prog 87 #[.slice none 0 0, .func (.func g) #[] lb] w fun e w' => ∃ v : Value, e = .returned v ∧ w'.ownsRow w.heap.size 38 1 v zs.length (zs.map encS) ∧ (v = .slice none 0 0 ↔ zs = []) ∧ Below w.heap.size w w' ∧ w.drawn ≤ w'.drawn := by
  have h1 : 1 ≤ n := by omega
  refine callsIn_of_wp_marks Tryz.func87 rfl h74 ?_ hro
  simp only [Tryz.ntmps87, List.size_toArray, List.length_cons, List.length_nil, Nat.reduceAdd, Nat.reduceSub, Array.replicate_succ, Array.replicate_zero, List.push_toArray, List.append_toArray, List.nil_append, List.cons_append]
  gi_wp2
  refine wpIn_rangeFunc ?_
  intro fn hfn
  rw [hro]
  obtain ⟨W0, hW0⟩ : ∃ W0, w.alloc (.cells #[.slice none 0 0] 23) = W0 := ⟨_, rfl⟩
  have hs0 : W0.heap.size = w.heap.size + 1 := by rw [← hW0]; simp
  have hv0 : W0.heap[w.heap.size]? = some (.cells #[.slice none 0 0] 23 (0, 0)) := by rw [← hW0]; exact World.alloc_heap_new w _
  have hb0 : Below w.heap.size w W0 := by rw [← hW0]; exact (Below.refl _ w).alloc (Nat.le_refl _) _
  rw [hW0]
  obtain ⟨W1, hW1⟩ : ∃ W1, (W0.alloc (.deferred (some []))).alloc (.loop (apRec fn (.func (.func g) #[] lb) w.heap.size W0.heap.size .ready none)) = W1 := ⟨_, rfl⟩
  have hold : ∀ k, k < W0.heap.size → W1.heap[k]? = W0.heap[k]? := fun k hk => by
    rw [← hW1]; exact (Below.heap_alloc _ _ k (by simp; omega)).trans (Below.heap_alloc _ _ k hk)
  have hb1 : Below w.heap.size w W1 := by rw [← hW1]; exact (hb0.alloc hb0.size _).alloc (by have := hb0.size; simp; omega) _
  have hs1 : W1.heap.size = W0.heap.size + 2 := by rw [← hW1]; simp
  have hM : ApAt w fn (.func (.func g) #[] lb) w.heap.size (W0.heap.size + 1) W0.heap.size [] W1 :=
    ⟨⟨_, (hold w.heap.size (by omega)).trans hv0, ⟨rfl, .inl ⟨rfl, rfl⟩⟩, by simp⟩,
     by rw [← hW1]; have := World.alloc_heap_new (W0.alloc (.deferred (some []))) (.loop (apRec fn (.func (.func g) #[] lb) w.heap.size W0.heap.size .ready none)); rwa [World.size_alloc] at this,
     by rw [← hW1]; exact (Below.heap_alloc _ _ _ (by simp)).trans (World.alloc_heap_new W0 _), hb1, by rw [← hW1, ← hW0]; exact Nat.le_refl _⟩
  refine ⟨W0.heap.size + 1, [{ target := .collected W0.heap.size, args := #[] }], W1, { target := .fn (.func g) lb, args := #[.func (.yield (W0.heap.size + 1)) #[] #[]] }, W1, g,
    #[.func (.yield (W0.heap.size + 1)) #[] #[]] ++ lb, W1, ?_, ?_, ?_, ?_, fun _ => h1, ?_⟩
  · rw [← hW1]; exact run_enterLoop_outer _ _ _ _ _
  · simp [resolve, go_sem]
  · intro f' hf'; simp [Target.leads] at hf'; subst hf'; exact hFg
  · simp [invoke, go_sem, eg]
  · refine (hseq (W0.heap.size + 1) (ApAt w fn (.func (.func g) #[] lb) w.heap.size (W0.heap.size + 1) W0.heap.size) W1 hb1
      (fun pre x W hJ hl => apYield F (n - 1 - 1) w fn hfn _ w.heap.size (W0.heap.size + 1) W0.heap.size (by omega) (by omega) (by omega) (Nat.le_refl _) (by omega) N hN hNb pre x W hJ hl) hM).mono ?_
    rintro e W2 ⟨⟨v0, rfl⟩, h2⟩
    obtain ⟨v, hv, hrow, hnil⟩ := h2.box
    have hdw := h2.drawn
    have hend := run_endLoop (P := Tryz.prog) h2.L (by simp [apRec])
    obtain ⟨W3, hW3⟩ : ∃ W3, W2.putObj (W0.heap.size + 1) (.loop { apRec fn (.func (.func g) #[] lb) w.heap.size W0.heap.size .ready none with state := .exhausted }) = W3 := ⟨_, rfl⟩
    rw [hW3] at hend
    have hg3 : W2.grownBy W3 (some (W0.heap.size + 1)) := by rw [← hW3]; exact grownBy_putObj _ _ _
    have hv3 : W3.heap[w.heap.size]? = some (.cells #[v] 23 (0, 0)) := by rw [← hW3]; exact (World.putObj_heap_other (by omega)).trans hv
    have hK3 : W3.heap[W0.heap.size]? = some (.deferred (some [])) := by rw [← hW3]; exact (World.putObj_heap_other (by omega)).trans h2.K
    have hrow3 := hrow.kept hg3 (ownsRow_ne hrow h2.L (fun cur e => by cases e))
    have hb3 : Below w.heap.size w W3 := h2.below.grown hg3 h2.below.size (fun k e => by cases e; omega)
    obtain ⟨hc3, hf3⟩ := cell_of_box hv3
    have hd3 : W3.drawn = W2.drawn := by rw [← hW3]; rfl
    clear hW3
    refine ⟨none, W3, hend, ?_⟩
    gi_wp2
    rw [← hs0]
    refine ⟨by simp, .inl ⟨_, _, rfl, run_takeDeferred hK3, ?_⟩⟩
    exact ⟨_, results_tmp rfl _ _ _, v, rfl, hrow3.kept (grownBy_putObj _ _ _) (ownsRow_ne hrow3 hK3 (fun cur e => by cases e)), hnil, hb3.grown (grownBy_putObj _ _ _) hb3.size (fun k e => by cases e; omega), by rw [← hd3] at hdw; exact hdw⟩



end Go.Proofs.YtcajnlkkjdhjdaaGreat

namespace Go.Proofs.YtcajnlkkjdhjdaaGreat
open Go Go.AM Go.Proofs Go.Shelf

def tr : Value → Sl
  | .slice a n c => (a, n, c)
  | _ => default
theorem encS_tr {w : World} {ok : Nat → Prop} {l : List (List D)} {v : Value} (h : RD w ok (.sl l) v) : encS (tr v) = v := by
  simp only [RD] at h
  obtain ⟨a, n, c, rfl, _⟩ := h
  rfl

theorem getD_map {α : Type} (f : α → Sl) (ds : List α) (j : Nat) (h : j < ds.length) : (ds.map f)[j]?.getD default = f ds[j] := by simp [h]

/-- The rows out of an iterator's box, one after the other. -/
theorem sat_AppendSeq (rows : List (List Val)) (hl : rows.length ≤ 1000000) :
    SatH Pg k_slices_AppendSeq_LValue [.c .nil, .c (.d (.fn k_slices_Values_LValue_1 [[.sl (rowsD rows)]]))] []
      (fun r => (rows = [] ∧ r = ⟨.w (.c .nil), []⟩) ∨ (rows ≠ [] ∧ r = ⟨.w (.c (.own 0 1 rows.length)), [.arr 1 (rowsD rows) false]⟩)) := by
  refine ⟨by kernel_rfl, fun w A ι vals hA hH hP hinj hW => ?_⟩
  match vals, hW with
  | [], hW => exact hW.elim
  | [_], hW => exact hW.2.elim
  | _ :: _ :: _ :: _, hW => exact hW.2.2.elim
  | [v1, v2], hW =>
  obtain ⟨hv1, hv2, _⟩ := hW
  have hv1 : v1 = .slice none 0 0 := hv1
  subst hv1
  have hv2 : ∃ vs : List Value, v2 = .func (.func 68) #[] vs.toArray ∧ ∃ b o vs', vs = .pointer (some ⟨b, o, none⟩) :: vs' ∧ A b ∧ RDc w A b o [.sl (rowsD rows)] ∧ vs' = [] := by
    have : RD w A (.fn k_slices_Values_LValue_1 [[.sl (rowsD rows)]]) v2 := hv2
    simp only [RD, RDf] at this
    exact this
  obtain ⟨vs, rfl, Bs, Bo, vs', rfl, hBs, hbox, rfl⟩ := hv2
  have hBlt := (hA Bs hBs).1
  have hbox : ∃ v, w.cell? ⟨Bs, Bo, none⟩ = some v ∧ RD w A (.sl (rowsD rows)) v := by
    simp only [RDc] at hbox
    exact hbox.1
  obtain ⟨sv, hcell, hsv⟩ := hbox
  have hsv' := hsv
  simp only [RD] at hsv'
  obtain ⟨sa, n, sc, rfl, hn, hnc, hcm, hrds⟩ := hsv'
  rw [rowsD_len] at hn
  subst hn
  -- the elements
  have hz : ∃ ds : List (El w A fun r : List Val => D.sl (rowD r)), ds.map (fun p => p.1.2) = rows ∧ (rows = [] ∨ ∃ b off, sa = some ⟨b, off, none⟩ ∧ A b ∧ ∀ j p, ds[j]? = some p → w.cell? ⟨b, off + j, none⟩ = some p.1.1) := by
    rcases hrds with h | ⟨b, off, sz, h1, h2, h3⟩
    · have : rows = [] := by cases rows with | nil => rfl | cons a r => simp [rowsD] at h
      subst this
      exact ⟨[], rfl, .inl rfl⟩
    · cases rows with
      | nil => exact ⟨[], rfl, .inl rfl⟩
      | cons a r =>
        have hs : sz = 1 := by
          simp only [rowsD, List.map_cons, RDs] at h3
          exact h3.1.symm
        subst hs
        obtain ⟨ds, h4, h5⟩ := els_of (δ := fun r : List Val => D.sl (rowD r)) (a :: r) off h3
        exact ⟨ds, h4, .inr ⟨b, off, h1, h2, h5⟩⟩
  obtain ⟨ds, hds, hdat⟩ := hz
  have hdl : ds.length = rows.length := by rw [← hds]; simp
  have hzl : (ds.map fun p => tr p.1.1).length = rows.length := by simp [hdl]
  have eg : ∀ args w, (callFunc 68 args).run Tryz.prog w = .ok (.enter 68 args) w := fun args w => run_callFunc (by kernel_rfl) args w
  have hmain := callsIn_wide.1 (appendSeq_in Fence.wide 3 trivial rfl (by omega) 68 #[.pointer (some ⟨Bs, Bo, none⟩)] trivial eg (ds.map fun p => tr p.1.1) rows.length (by simp only [maxLen]; omega) (by omega) w (by
    intro l J W hb hY h0
    have hcW : W.cell? ⟨Bs, Bo, none⟩ = some (.slice sa rows.length sc) := (hb.cell (p := ⟨Bs, Bo, none⟩) hBlt).trans hcell
    rcases hdat with rfl | ⟨b, off, rfl, hAb, hcells⟩
    · have hd0 : ds = [] := List.eq_nil_of_length_eq_zero (by simpa using hdl)
      subst hd0
      exact values1_nil_in Fence.wide _ trivial rfl l Bs Bo sa sc J W hcW h0
    · refine (values1_in Fence.wide _ trivial rfl (by omega) l Bs Bo w.heap.size b off rows.length sc (ds.map fun p => tr p.1.1) (by omega) (hA b hAb).1 J (fun _ _ => False) ?_ W hcW ?_ h0).mono ?_
      · intro pre x W1 hJ hlt
        obtain ⟨fn, tmps, assign, body, h1, h2⟩ := hY pre x W1 hJ hlt
        exact ⟨fn, tmps, assign, body, h1, h2.mono fun e W' h => .inl h⟩
      · intro j hj
        have hj' : j < ds.length := by omega
        rw [getD_map _ _ _ hj', encS_tr ds[j].2]
        exact (hb.cell (p := ⟨b, off + j, none⟩) (hA b hAb).1).trans (hcells j _ (List.getElem?_eq_getElem hj'))
      · rintro e W' ⟨he, ⟨ys, rfl, hj⟩ | ⟨_, _, hf⟩⟩
        · refine ⟨he, ?_⟩
          have := upto_all (ds.map fun p => tr p.1.1)
          rw [hzl] at this
          rw [this] at hj
          exact hj
        · exact hf.elim))
  refine hmain.mono ?_
  rintro e w' ⟨v, rfl, hown, hnil, hbelow, hdr⟩
  have hkeep : ∀ b, A b → w'.heap[b]? = w.heap[b]? := fun b h => hbelow.block b (hA b h).1
  have hgrows : Grows (Go.AM.Handed ι []) w w' := by
    refine ⟨hbelow.os, hbelow.tape, ⟨hbelow.output, hdr⟩, hbelow.size, fun b hb _ => hbelow.block b hb, fun b t m hs => ?_⟩
    have hlt : b < w.heap.size := by
      rcases Nat.lt_or_ge b w.heap.size with h | h
      · exact h
      · simp [World.shape?, Array.getElem?_eq_none h] at hs
    simp only [World.shape?, hbelow.block b hlt]
    exact hs
  rw [hzl] at hown
  rcases hown.2 with ⟨rfl, h0⟩ | ⟨g, cap, cur, rfl, hbase, hg, hnc', hcm', hcs, htake⟩
  · have hr0 : rows = [] := List.eq_nil_of_length_eq_zero h0
    refine ⟨_, _, rfl, .inl ⟨hr0, rfl⟩, ⟨Nat.le_refl _, ι, rfl, ?_, ?_, ?_, ?_, ?_⟩, hgrows⟩
    · intro p y hp; cases hp
    · intro p q y z b hp; cases hp
    · intro p y b hp; cases hp
    · intro p y hp; cases hp
    · intro p y hp; cases hp
  · by_cases hr0 : rows = []
    · subst hr0
      have hd0 : ds = [] := List.eq_nil_of_length_eq_zero (by simpa using hdl)
      subst hd0
      have := hnil.2 rfl
      cases this
    refine ⟨_, _, rfl, .inr ⟨hr0, rfl⟩, ⟨Nat.zero_le _, fun _ => ⟨some g, rows.length⟩, ?_, ?_, ?_, ?_, ?_, ?_⟩, hgrows⟩
    · refine .inr ⟨g, cap, 38, rfl, Nat.le_refl _, rfl, hnc', hcm', ?_⟩
      simp only [World.shape?, hg, hcs]
    · intro p x hp
      have hp : aget [(0, Pl.arr 1 (rowsD rows) false)] p = some x := hp
      obtain ⟨rfl, rfl⟩ := aget_one hp
      refine ⟨Nat.one_pos, by rw [rowsD_len], .inr ⟨g, rfl, ?_, (fun h => by cases h), fun _ => ⟨cur, ⟨38, hg⟩, by rw [rowsD_len, hcs]; omega⟩⟩⟩
      have hK : Keeps w w' A (Fr.ok ⟨w, A, Go.AM.Handed ι [], fun _ => none⟩ (fun _ => ⟨some g, rows.length⟩) (zipPl (upFrom 0 1) [Pl.arr 1 (rowsD rows) false]) w') := by
        intro b h
        refine ⟨⟨.inl h, Nat.lt_of_lt_of_le (hA b h).1 hbelow.size, ?_⟩, hkeep b h⟩
        rintro ⟨p, x, hx, _, hpb⟩
        have hpb : some g = some b := hpb
        cases hpb
        exact absurd (hA g h).1 (by omega)
      refine rds_mk (δ := fun r : List Val => D.sl (rowD r)) rows 0 fun j x hj => ?_
      rw [← hds, List.getElem?_map] at hj
      cases hdj : ds[j]? with
      | none => rw [hdj] at hj; cases hj
      | some q =>
        rw [hdj] at hj
        cases hj
        refine ⟨q.1.1, ?_, RD.keep hK _ _ q.2⟩
        have hjl : j < ds.length := (List.getElem?_eq_some_iff.1 hdj).1
        have e1 : (cur.toList.take (rows.length * 1))[j]? = some q.1.1 := by
          rw [htake, List.getElem?_map, List.getElem?_map, hdj]
          exact congrArg some (encS_tr q.2)
        rw [List.getElem?_take] at e1
        rw [if_pos (by omega)] at e1
        simp only [World.cell?, hg, Nat.zero_add]
        simpa using e1
    · intro p q x y b' hx hy hpq
      have hx : aget [(0, Pl.arr 1 (rowsD rows) false)] p = some x := hx
      have hy : aget [(0, Pl.arr 1 (rowsD rows) false)] q = some y := hy
      obtain ⟨rfl, _⟩ := aget_one hx
      obtain ⟨rfl, _⟩ := aget_one hy
      exact absurd rfl hpq
    · intro p x b' hx hpb
      have hpb : some g = some b' := hpb
      cases hpb
      exact .inr hbase
    · intro p x hx
      have hx : aget [(0, Pl.arr 1 (rowsD rows) false)] p = some x := hx
      obtain ⟨rfl, rfl⟩ := aget_one hx
      rfl
    · intro p x h _
      exact absurd h (Nat.not_lt_zero _)
end Go.Proofs.YtcajnlkkjdhjdaaGreat

namespace Go.Proofs.YtcajnlkkjdhjdaaGreat
open Go Go.AM
attribute [local irreducible] Sat SatH LoopP
set_option maxRecDepth 100000

def itC (rows : List (List Val)) : C := .d (.fn k_slices_Values_LValue_1 [[.sl (rowsD rows)]])

theorem sat_Values (rows : List (List Val)) : Sat Pg k_slices_Values_LValue [.c (.d (.sl (rowsD rows)))] (fun r => r = rC (itC rows)) := by
  refine sat_dq ?_
  refine Sat_of T0 c_slices_Values_LValue_ok (by kernel_rfl) ?_
  conv => whnf
  exact ⟨rfl, rfl⟩

theorem sat_Collect (rows : List (List Val)) (hl : rows.length ≤ 1000000) : Sat Pg k_slices_Collect_LValue [.c (itC rows)] (fun r => (rows = [] ∧ r = ⟨.w (.c .nil), []⟩) ∨ (rows ≠ [] ∧ r = ⟨.w (.c (.own 0 1 rows.length)), [.arr 1 (rowsD rows) false]⟩)) := by
  refine Sat_of T0 c_slices_Collect_LValue_ok (by kernel_rfl) ?_
  conv => whnf
  refine SatH.mono (sat_AppendSeq rows hl) ?_
  rintro _ (⟨h, rfl⟩ | ⟨h, rfl⟩)
  · conv => whnf
    exact .inl ⟨h, rfl⟩
  · conv => whnf
    exact .inr ⟨h, rfl⟩

theorem sat_SortedFunc (rows : List (List Val)) (hl : rows.length ≤ 1000000) :
    Sat Pg k_slices_SortedFunc_LValue [.c (itC rows), .c (.d (.fn k_delta_order []))] (fun r => ∃ ys : List (List Val), ys.Perm rows ∧ ys.Pairwise (fun a b => ¬ ordR b a < 0) ∧ r = rC (.d (.sl (rowsD ys)))) := by
  refine Sat.data (Q := fun r => ∃ ys : List (List Val), ys.Perm rows ∧ ys.Pairwise (fun a b => ¬ ordR b a < 0) ∧ DQ (rC (.d (.sl (rowsD ys)))) r) ?_ ?_
  · refine Sat_of T0 c_slices_SortedFunc_LValue_ok (by kernel_rfl) ?_
    conv => whnf
    refine Sat.mono (sat_Collect rows hl) ?_
    rintro _ (⟨h, rfl⟩ | ⟨h, rfl⟩)
    · conv => whnf
      refine SatH.mono (sat_SortFunc_nil k_delta_order) ?_
      rintro _ rfl
      conv => whnf
      subst h
      exact ⟨[], List.Perm.refl _, List.Pairwise.nil, rfl, rfl⟩
    · conv => whnf
      refine SatH.mono (sat_SortFunc rows h (by omega)) ?_
      rintro _ ⟨ys, hp, hs, rfl⟩
      have hlen := hp.length_eq
      conv => whnf
      refine ⟨ys, hp, hs, rfl, ?_⟩
      have : (rowsD ys).take rows.length = rowsD ys := by rw [← hlen, ← rowsD_len, List.take_length]
      exact congrArg (fun l => rC (.d (.sl l))) this
  · rintro r ⟨ys, h1, h2, h3, h4⟩
    exact ⟨h3, ys, h1, h2, h4⟩
end Go.Proofs.YtcajnlkkjdhjdaaGreat

namespace Go.Proofs.YtcajnlkkjdhjdaaGreat

section
variable {α : Type}

/-- l' is l with the places a ≤ i < b permuted. -/
structure PermW (a b : Nat) (l l' : List α) : Prop where
  len : l'.length = l.length
  perm : l'.Perm l
  out : ∀ i, i < a ∨ b ≤ i → l'[i]? = l[i]?
  mem : ∀ i x, a ≤ i → i < b → l'[i]? = some x → ∃ j, a ≤ j ∧ j < b ∧ l[j]? = some x

namespace PermW
theorem refl (a b : Nat) (l : List α) : PermW a b l l := ⟨rfl, List.Perm.refl _, fun _ _ => rfl, fun i _ h1 h2 h3 => ⟨i, h1, h2, h3⟩⟩
theorem trans {a b : Nat} {l l' l'' : List α} (h : PermW a b l l') (k : PermW a b l' l'') : PermW a b l l'' :=
  ⟨k.len.trans h.len, k.perm.trans h.perm, fun i hi => (k.out i hi).trans (h.out i hi), fun i x h1 h2 h3 => by
    obtain ⟨j, j1, j2, j3⟩ := k.mem i x h1 h2 h3
    exact h.mem j x j1 j2 j3⟩
theorem mono {a b a' b' : Nat} {l l' : List α} (h : PermW a b l l') (ha : a' ≤ a) (hb : b ≤ b') : PermW a' b' l l' :=
  ⟨h.len, h.perm, fun i hi => h.out i (by omega), fun i x h1 h2 h3 => by
    by_cases hi : i < a ∨ b ≤ i
    · exact ⟨i, h1, h2, by rw [← h.out i hi]; exact h3⟩
    · obtain ⟨j, j1, j2, j3⟩ := h.mem i x (by omega) (by omega) h3
      exact ⟨j, by omega, by omega, j3⟩⟩
end PermW

/-- Two elements change their places. -/
def swp (l : List α) (i j : Nat) (x y : α) : List α := (l.set i y).set j x
theorem swp_len (l : List α) (i j : Nat) (x y : α) : (swp l i j x y).length = l.length := by simp [swp]
theorem swp_get {l : List α} {i j : Nat} {x y : α} (hi : l[i]? = some x) (hj : l[j]? = some y) (k : Nat) :
    (swp l i j x y)[k]? = if k = j then some x else if k = i then some y else l[k]? := by
  have hil : i < l.length := (List.getElem?_eq_some_iff.1 hi).1
  have hjl : j < l.length := (List.getElem?_eq_some_iff.1 hj).1
  simp only [swp, List.getElem?_set, List.length_set]
  by_cases h1 : k = j
  · subst h1; simp [hjl]
  · by_cases h2 : k = i
    · subst h2; simp [Ne.symm h1, hil, h1]
    · simp [Ne.symm h1, Ne.symm h2, h1, h2]
theorem swp_perm {l : List α} {i j : Nat} {x y : α} (hi : l[i]? = some x) (hj : l[j]? = some y) : (swp l i j x y).Perm l := by
  obtain ⟨hil, rfl⟩ := List.getElem?_eq_some_iff.1 hi
  obtain ⟨hjl, rfl⟩ := List.getElem?_eq_some_iff.1 hj
  exact List.set_set_perm hil hjl
theorem swp_w {l : List α} {i j a b : Nat} {x y : α} (hi : l[i]? = some x) (hj : l[j]? = some y) (h1 : a ≤ i) (h2 : i < b) (h3 : a ≤ j) (h4 : j < b) : PermW a b l (swp l i j x y) := by
  refine ⟨swp_len .., swp_perm hi hj, fun k hk => ?_, fun k z h5 h6 h7 => ?_⟩
  · rw [swp_get hi hj, if_neg (by omega), if_neg (by omega)]
  · rw [swp_get hi hj] at h7
    split at h7
    · exact ⟨i, h1, h2, hi.trans h7⟩
    · split at h7
      · exact ⟨j, h3, h4, hj.trans h7⟩
      · exact ⟨k, h5, h6, h7⟩

variable (c : α → α → Int)
/-- Sorted from a on up to b. -/
def SortW (a b : Nat) (l : List α) : Prop := ∀ i j x y, a ≤ i → i < j → j < b → l[i]? = some x → l[j]? = some y → c x y ≤ 0
/-- What is in the first window is not above what is in the second. -/
def LeW (a b a' b' : Nat) (l : List α) : Prop := ∀ i j x y, a ≤ i → i < b → a' ≤ j → j < b' → l[i]? = some x → l[j]? = some y → c x y ≤ 0

variable {c}
theorem SortW.mono {a b a' b' : Nat} {l : List α} (h : SortW c a b l) (h1 : a ≤ a') (h2 : b' ≤ b) : SortW c a' b' l := fun i j x y i1 i2 i3 => h i j x y (by omega) i2 (by omega)
theorem SortW.same {a b : Nat} {l l' : List α} (h : SortW c a b l) (he : ∀ i, a ≤ i → i < b → l'[i]? = l[i]?) : SortW c a b l' := fun i j x y i1 i2 i3 i4 i5 => h i j x y i1 i2 i3 (by rw [← he i (by omega) (by omega)]; exact i4) (by rw [← he j (by omega) (by omega)]; exact i5)
theorem SortW.glue {a m b : Nat} {l : List α} (h1 : SortW c a m l) (h2 : SortW c m b l) (h3 : LeW c a m m b l) : SortW c a b l := by
  intro i j x y i1 i2 i3 i4 i5
  by_cases h : j < m
  · exact h1 i j x y i1 i2 h i4 i5
  · by_cases h' : m ≤ i
    · exact h2 i j x y h' i2 i3 i4 i5
    · exact h3 i j x y i1 (by omega) (by omega) i3 i4 i5
theorem SortW.one (a b : Nat) (l : List α) (h : b ≤ a + 1) : SortW c a b l := fun i j x y i1 i2 i3 => by omega
theorem LeW.perm {a m b : Nat} {l l' : List α} (h : LeW c a m m b l) (h1 : PermW a m l l') : LeW c a m m b l' := by
  intro i j x y i1 i2 i3 i4 i5 i6
  obtain ⟨k, k1, k2, k3⟩ := h1.mem i x i1 i2 i5
  rw [h1.out j (by omega)] at i6
  exact h k j x y k1 k2 i3 i4 k3 i6
theorem LeW.perm2 {a m b : Nat} {l l' : List α} (h : LeW c a m m b l) (h1 : PermW m b l l') : LeW c a m m b l' := by
  intro i j x y i1 i2 i3 i4 i5 i6
  obtain ⟨k, k1, k2, k3⟩ := h1.mem j y i3 i4 i6
  rw [h1.out i (by omega)] at i5
  exact h i k x y i1 i2 k1 k2 i5 k3
theorem SortW.le {a b i j : Nat} {l : List α} {x y : α} (hc : CmpOK c) (h : SortW c a b l) (i1 : a ≤ i) (i2 : i ≤ j) (i3 : j < b) (hx : l[i]? = some x) (hy : l[j]? = some y) : c x y ≤ 0 := by
  rcases Nat.lt_or_ge i j with h' | h'
  · exact h i j x y i1 h' i3 hx hy
  · obtain rfl : i = j := by omega
    rw [hx] at hy; cases hy
    rw [hc.refl]; exact Int.le_refl _

/-- The inner loop of the insertion sort: all of a .. i in order, but for the place j. -/
def InsW (c : α → α → Int) (a i j : Nat) (l : List α) : Prop := ∀ p q x y, a ≤ p → p < q → q ≤ i → q ≠ j → l[p]? = some x → l[q]? = some y → c x y ≤ 0
theorem InsW.start {a i : Nat} {l : List α} (h : SortW c a i l) : InsW c a i i l := fun p q x y h1 h2 h3 h4 => h p q x y h1 h2 (by omega)
theorem InsW.step {a i j : Nat} {l : List α} {x y : α} (hc : CmpOK c) (h : InsW c a i j l) (haj : a < j) (hji : j ≤ i) (hx : l[j - 1]? = some x) (hy : l[j]? = some y) (hlt : c y x < 0) : InsW c a i (j - 1) (swp l j (j - 1) y x) := by
  intro p q u v h1 h2 h3 h4 h5 h6
  rw [swp_get hy hx] at h5 h6
  by_cases e1 : q = j
  · subst e1
    rw [if_neg (by omega), if_pos rfl] at h6
    cases h6
    split at h5
    · cases h5; omega
    · rw [if_neg (by omega)] at h5
      exact h p (q - 1) u x h1 (by omega) (by omega) (by omega) h5 hx
  · rw [if_neg h4, if_neg e1] at h6
    split at h5
    · rename_i e2
      cases h5
      exact h j q y v (by omega) (by omega) h3 e1 hy h6
    · split at h5
      · rename_i e2 e3
        cases h5
        exact h (j - 1) q x v (by omega) (by omega) h3 e1 hx h6
      · exact h p q u v h1 h2 h3 e1 h5 h6
theorem InsW.stop {a i j : Nat} {l : List α} (hc : CmpOK c) (h : InsW c a i j l) (hji : j ≤ i) (hs : j ≤ a ∨ ∃ x y, l[j - 1]? = some x ∧ l[j]? = some y ∧ 0 ≤ c y x) : SortW c a (i + 1) l := by
  intro p q u v h1 h2 h3 h4 h5
  by_cases e : q = j
  · subst e
    rcases hs with h' | ⟨x, y, hx, hy, hxy⟩
    · omega
    · rw [hy] at h5; cases h5
      by_cases e2 : p = q - 1
      · subst e2; rw [hx] at h4; cases h4
        exact hc.ge.1 hxy
      · exact hc.trans _ _ _ (h p (q - 1) u x h1 (by omega) (by omega) (by omega) h4 hx) (hc.ge.1 hxy)
  · exact h p q u v h1 h2 (by omega) e h4 h5
end
end Go.Proofs.YtcajnlkkjdhjdaaGreat

namespace Go.Proofs.YtcajnlkkjdhjdaaGreat
open Go Go.AM
attribute [local irreducible] Sat SatH LoopP
set_option maxRecDepth 100000

theorem chgD_at {l : List Chg} {i : Nat} {x : Chg} (h : l[i]? = some x) : (chgD l)[i]? = some x.ds := by simp [chgD, h]
theorem chgD_set (l : List Chg) (i : Nat) (x : Chg) : (chgD l).set i x.ds = chgD (l.set i x) := by simp [chgD]
theorem chgD_at2 {l : List Chg} {i j : Nat} {x y : Chg} (h : l[j]? = some y) : ∃ z : Chg, ((chgD l).set i x.ds)[j]? = some z.ds := by
  have hj : j < l.length := (List.getElem?_eq_some_iff.1 h).1
  rw [chgD_set]
  exact ⟨(l.set i x)[j]'(by simpa using hj), chgD_at (List.getElem?_eq_getElem _)⟩
theorem some_at {α : Type} {l : List α} {i : Nat} (h : i < l.length) : ∃ x, l[i]? = some x := ⟨l[i], List.getElem?_eq_getElem h⟩
theorem wrapP {j : Nat} (h : 0 < j) (hn : j ≤ 9223372036854775807) : IntKind.i64.wrap ((j : Int) - 1) = ((j - 1 : Nat) : Int) := by
  rw [wrapI (by omega) (by omega)]; omega

def insS (g : FuncId) (n a b i : Nat) (els : List (List D)) : S := ⟨[(0, cV (.own 100000 2 n)), (1, intV a), (2, intV b), (3, .w (.c (.d (.fn g [])))), (8, intV i)], [(100000, .arr 2 els false)]⟩
def insT (g : FuncId) (n a b i j : Nat) (els : List (List D)) : S := ⟨[(0, cV (.own 100000 2 n)), (1, intV a), (2, intV b), (3, .w (.c (.d (.fn g [])))), (8, intV i), (9, intV j)], [(100000, .arr 2 els false)]⟩

theorem sat_insSort (g : FuncId) (c : Chg → Chg → Int) (hcc : CmpOK c) (hg : ∀ x y : Chg, Sat Pg g [x.w, y.w] (fun r => r = rI (c x y))) (l : List Chg) (a b : Nat) (hab : a ≤ b) (hb : b ≤ l.length) (hl : l.length ≤ 1000000) :
    SatH Pg k_slices_insertionSortCmpFunc_Change [.c (.own 0 2 l.length), .c (int a), .c (int b), .c (.d (.fn g []))] [.arr 2 (chgD l) false]
      (fun r => ∃ l' : List Chg, PermW a b l l' ∧ SortW c a b l' ∧ r = ⟨.tup [], [.arr 2 (chgD l') false]⟩) := by
  have wa : IntKind.i64.wrap ((a : Int) + 1) = ((a + 1 : Nat) : Int) := wrapS (n := 1000001) (by omega) (by omega)
  refine SatH_of T3 c_slices_insertionSortCmpFunc_Change_ok (by kernel_rfl) (by simp) ?_
  conv => whnf
  refine loopF (P := Pg) (f := T3.f) (body := c_slices_insertionSortCmpFunc_Change_L1) (fun x : Nat × List Chg => insS g l.length a b x.1 (chgD x.2)) (fun x => b - x.1)
    (fun x => a < x.1 ∧ (x.1 ≤ b ∨ x.1 = a + 1) ∧ PermW a b l x.2 ∧ SortW c a x.1 x.2)
    ⟨(a + 1, l), ⟨by show a < a + 1; omega, .inr rfl, PermW.refl _ _ _, SortW.one _ _ _ (Nat.le_refl _)⟩, normW_of ?_⟩ ?_
  · conv => whnf
    rw [wa]
    rfl
  · rintro ⟨i, l1⟩ hR
    have hS : a < i ∧ (i ≤ b ∨ i = a + 1) ∧ PermW a b l l1 ∧ SortW c a i l1 := hR
    clear hR
    obtain ⟨g1, g2, g3, g4⟩ := hS
    conv => whnf
    refine cond_i (fun h1 => ?_) (fun h1 => ?_)
    · have hib : i < b := by have h1 : decide ((i : Int) < (b : Int)) = true := h1; have := of_decide_eq_true h1; omega
      have wi : IntKind.i64.wrap ((i : Int) + 1) = ((i + 1 : Nat) : Int) := wrapS hib (by omega)
      conv => whnf
      refine loopF (P := Pg) (f := T3.f) (body := c_slices_insertionSortCmpFunc_Change_L0) (fun x : Nat × List Chg => insT g l.length a b i x.1 (chgD x.2)) (fun x => x.1)
        (fun x => a ≤ x.1 ∧ x.1 ≤ i ∧ PermW a b l x.2 ∧ InsW c a i x.1 x.2)
        ⟨(i, l1), ⟨by show a ≤ i; omega, Nat.le_refl _, g3, InsW.start g4⟩, normW_of ?_⟩ ?_
      · conv => whnf
        rfl
      · rintro ⟨j, l2⟩ hR
        have hS : a ≤ j ∧ j ≤ i ∧ PermW a b l l2 ∧ InsW c a i j l2 := hR
        clear hR
        obtain ⟨k1, k2, k3, k4⟩ := hS
        have k5 := k3.len
        conv => whnf
        refine cond_i (fun h2 => ?_) (fun h2 => ?_)
        · have hja : a < j := by have h2 : decide ((j : Int) > (a : Int)) = true := h2; have := of_decide_eq_true h2; omega
          have wj : IntKind.i64.wrap ((j : Int) - 1) = ((j - 1 : Nat) : Int) := wrapP (by omega) (by omega)
          obtain ⟨x, hx⟩ := some_at (l := l2) (i := j - 1) (by omega)
          obtain ⟨y, hy⟩ := some_at (l := l2) (i := j) (by omega)
          conv => whnf
          refine ⟨by show (0 : Int) ≤ (j : Int); omega, by show (j : Int) < (l.length : Int); omega, ?_⟩
          conv => whnf
          refine ⟨_, chgD_at hy, ?_⟩
          conv => whnf
          rw [wj]
          refine ⟨by omega, by omega, ?_⟩
          conv => whnf
          refine ⟨_, chgD_at hx, ?_⟩
          conv => whnf
          refine Sat.mono (hg y x) ?_
          rintro _ rfl
          conv => whnf
          refine cond_i (fun h3 => ?_) (fun h3 => ?_)
          · have hlt : c y x < 0 := of_decide_eq_true h3
            conv => whnf
            rw [wj]
            refine ⟨by omega, by omega, ?_⟩
            conv => whnf
            refine ⟨_, chgD_at hx, ?_⟩
            conv => whnf
            refine ⟨by show (0 : Int) ≤ (j : Int); omega, by show (j : Int) < (l.length : Int); omega, ?_⟩
            conv => whnf
            refine ⟨_, chgD_at hy, ?_⟩
            conv => whnf
            refine ⟨by show (0 : Int) ≤ (j : Int); omega, by show (j : Int) < (l.length : Int); omega, ?_⟩
            conv => whnf
            refine ⟨_, chgD_at hy, Nat.le_refl _, ?_⟩
            conv => whnf
            refine ⟨by omega, by omega, ?_⟩
            obtain ⟨z, hz⟩ := chgD_at2 (i := j) (x := x) hx
            conv => whnf
            refine ⟨_, hz, Nat.le_refl _, ?_⟩
            conv => whnf
            refine ⟨(j - 1, swp l2 j (j - 1) y x), ⟨⟨by show a ≤ j - 1; omega, by show j - 1 ≤ i; omega, k3.trans (swp_w hy hx (by omega) (by omega) (by omega) (by omega)), k4.step hcc hja k2 hx hy hlt⟩, by show j - 1 < j; omega⟩, normW_of ?_⟩
            conv => whnf
            rw [wj]
            have e : ((chgD l2).set j x.ds).set (j - 1) y.ds = chgD (swp l2 j (j - 1) y x) := by rw [chgD_set, chgD_set]; rfl
            exact congrArg (insT g l.length a b i (j - 1)) e
          · have hge : ¬ c y x < 0 := of_decide_eq_false h3
            conv => whnf
            refine ⟨(i + 1, l2), ⟨⟨by show a < i + 1; omega, .inl (by show i + 1 ≤ b; omega), k3, ?_⟩, by show b - (i + 1) < b - i; omega⟩, normW_of ?_⟩
            · exact k4.stop hcc k2 (.inr ⟨x, y, hx, hy, by omega⟩)
            · conv => whnf
              rw [wi]
              rfl
        · have hja : j ≤ a := by have h2 : decide ((j : Int) > (a : Int)) = false := h2; have := of_decide_eq_false h2; omega
          conv => whnf
          refine ⟨(i + 1, l2), ⟨⟨by show a < i + 1; omega, .inl (by show i + 1 ≤ b; omega), k3, ?_⟩, by show b - (i + 1) < b - i; omega⟩, normW_of ?_⟩
          · exact k4.stop hcc k2 (.inl hja)
          · conv => whnf
            rw [wi]
            rfl
    · have hib : b ≤ i := by have h1 : decide ((i : Int) < (b : Int)) = false := h1; have := of_decide_eq_false h1; omega
      conv => whnf
      exact ⟨l1, g3, g4.mono (Nat.le_refl _) hib, rfl⟩
end Go.Proofs.YtcajnlkkjdhjdaaGreat

namespace Go.Proofs.YtcajnlkkjdhjdaaGreat
open Go Go.AM
attribute [local irreducible] Sat SatH LoopP
set_option maxRecDepth 100000

section
variable {α : Type}
theorem app_at1 (P R : List α) (x : α) : (P ++ x :: R)[P.length]? = some x := by simp
theorem app_at2 (P Q R : List α) (x y : α) : (P ++ x :: (Q ++ y :: R))[P.length + 1 + Q.length]? = some y := by
  have h : P ++ x :: (Q ++ y :: R) = (P ++ x :: Q) ++ y :: R := by simp
  have e : P.length + 1 + Q.length = (P ++ x :: Q).length := by simp; omega
  rw [h, e]; exact app_at1 _ _ _
theorem set_app (P R : List α) (x y : α) : (P ++ x :: R).set P.length y = P ++ y :: R := by
  rw [List.set_append_right _ _ (Nat.le_refl _)]; simp
theorem swp_app (P Q R : List α) (x y : α) : swp (P ++ x :: (Q ++ y :: R)) P.length (P.length + 1 + Q.length) x y = P ++ y :: (Q ++ x :: R) := by
  unfold swp
  rw [set_app]
  have h : P ++ y :: (Q ++ y :: R) = (P ++ y :: Q) ++ y :: R := by simp
  have e : P.length + 1 + Q.length = (P ++ y :: Q).length := by simp; omega
  rw [h, e, set_app]; simp

/-- Two ranges, half of them swapped. -/
def swR (P X M Y S : List α) (i : Nat) : List α := P ++ (Y.take i ++ X.drop i) ++ M ++ (X.take i ++ Y.drop i) ++ S
theorem swR_zero (P X M Y S : List α) : swR P X M Y S 0 = P ++ X ++ M ++ Y ++ S := by simp [swR]
theorem swR_all (P X M Y S : List α) (h : X.length = Y.length) : swR P X M Y S X.length = P ++ Y ++ M ++ X ++ S := by
  unfold swR
  rw [List.take_length, List.drop_length, h, List.take_length, List.drop_length]; simp
theorem swR_len (P X M Y S : List α) (i : Nat) (h : X.length = Y.length) (hi : i ≤ X.length) : (swR P X M Y S i).length = (P ++ X ++ M ++ Y ++ S).length := by
  simp [swR]; omega
theorem swR_step (P X M Y S : List α) (i : Nat) (h : X.length = Y.length) (hi : i < X.length) : ∃ x y, (swR P X M Y S i)[P.length + i]? = some x ∧ (swR P X M Y S i)[P.length + X.length + M.length + i]? = some y ∧
    swp (swR P X M Y S i) (P.length + i) (P.length + X.length + M.length + i) x y = swR P X M Y S (i + 1) := by
  have hi2 : i < Y.length := by omega
  have e0 : swR P X M Y S i = (P ++ Y.take i) ++ X[i] :: ((X.drop (i + 1) ++ M ++ X.take i) ++ Y[i] :: (Y.drop (i + 1) ++ S)) := by
    unfold swR
    rw [drop_cons hi, drop_cons hi2]; simp only [List.append_assoc, List.cons_append]
  have l1 : (P ++ Y.take i).length = P.length + i := by simp; omega
  have l2 : (P ++ Y.take i).length + 1 + (X.drop (i + 1) ++ M ++ X.take i).length = P.length + X.length + M.length + i := by simp; omega
  refine ⟨X[i], Y[i], ?_, ?_, ?_⟩
  · rw [e0, ← l1]; exact app_at1 _ _ _
  · rw [e0, ← l2]; exact app_at2 _ _ _ _ _
  · rw [e0, ← l2, ← l1, swp_app]
    unfold swR
    rw [List.take_succ_eq_append_getElem hi, List.take_succ_eq_append_getElem hi2]; simp only [List.append_assoc, List.cons_append, List.nil_append]
end

def swS (n a b k i : Nat) (els : List (List D)) : S := ⟨[(0, cV (.own 100000 2 n)), (1, intV a), (2, intV b), (3, intV k), (10, intV i)], [(100000, .arr 2 els false)]⟩

theorem sat_swapRange (g : FuncId) (P X M Y S : List Chg) (h : X.length = Y.length) (N a b n : Nat) (hN : N = (P ++ X ++ M ++ Y ++ S).length) (ha : a = P.length) (hn : n = X.length) (hb : b = P.length + X.length + M.length) (hl : N ≤ 1000000) :
    SatH Pg k_slices_swapRangeCmpFunc_Change [.c (.own 0 2 N), .c (int a), .c (int b), .c (int n), .c (.d (.fn g []))] [.arr 2 (chgD (P ++ X ++ M ++ Y ++ S)) false]
      (fun r => r = ⟨.tup [], [.arr 2 (chgD (P ++ Y ++ M ++ X ++ S)) false]⟩) := by
  have hsz : P.length + X.length + M.length + Y.length + S.length = N := by rw [hN]; simp; omega
  obtain ⟨l0, hl0⟩ : ∃ l0, l0 = P ++ X ++ M ++ Y ++ S := ⟨_, rfl⟩
  rw [← hl0]
  refine SatH_of T3 c_slices_swapRangeCmpFunc_Change_ok (by kernel_rfl) (by simp) ?_
  conv => whnf
  refine loopI (P := Pg) (f := T3.f) (body := c_slices_swapRangeCmpFunc_Change_L0) n (fun i => swS N a b n i (chgD (swR P X M Y S i))) (fun _ => True) ⟨trivial, normW_of ?_⟩ ?_
  · conv => whnf
    rw [hl0, ← swR_zero]
    rfl
  · intro i hi _
    have hlen := swR_len P X M Y S i h (by omega)
    rw [← hN] at hlen
    conv => whnf
    refine cond_i (fun h1 => ?_) (fun h1 => ?_)
    · have hlt : i < n := by have h1 : decide ((i : Int) < (n : Int)) = true := h1; have := of_decide_eq_true h1; omega
      obtain ⟨x, y, hx, hy, hs⟩ := swR_step P X M Y S i h (by omega)
      rw [← hb] at hy hs
      rw [← ha] at hx hs
      have wi : IntKind.i64.wrap ((i : Int) + 1) = ((i + 1 : Nat) : Int) := wrapS hlt (by omega)
      have wa : IntKind.i64.wrap ((a : Int) + (i : Int)) = ((a + i : Nat) : Int) := by rw [wrapI (by omega) (by omega)]; omega
      have wb : IntKind.i64.wrap ((b : Int) + (i : Int)) = ((b + i : Nat) : Int) := by rw [wrapI (by omega) (by omega)]; omega
      conv => whnf
      rw [wb]
      refine ⟨by omega, by omega, ?_⟩
      conv => whnf
      refine ⟨_, chgD_at hy, ?_⟩
      conv => whnf
      rw [wa]
      refine ⟨by omega, by omega, ?_⟩
      conv => whnf
      refine ⟨_, chgD_at hx, ?_⟩
      conv => whnf
      refine ⟨by omega, by omega, ?_⟩
      conv => whnf
      refine ⟨_, chgD_at hx, Nat.le_refl _, ?_⟩
      conv => whnf
      refine ⟨by omega, by omega, ?_⟩
      obtain ⟨z, hz⟩ := chgD_at2 (i := a + i) (x := y) hy
      conv => whnf
      refine ⟨_, hz, Nat.le_refl _, ?_⟩
      conv => whnf
      refine ⟨hlt, trivial, normW_of ?_⟩
      conv => whnf
      rw [wi]
      have e : ((chgD (swR P X M Y S i)).set (a + i) y.ds).set (b + i) x.ds = chgD (swR P X M Y S (i + 1)) := by rw [chgD_set, chgD_set, ← hs]; rfl
      exact congrArg (swS N a b n (i + 1)) e
    · have hge : n ≤ i := by have h1 : decide ((i : Int) < (n : Int)) = false := h1; have := of_decide_eq_false h1; omega
      obtain rfl : i = n := by omega
      conv => whnf
      have e := swR_all P X M Y S h
      rw [← hn] at e
      exact congrArg (fun l => (⟨.tup [], [.arr 2 (chgD l) false]⟩ : Res)) e
end Go.Proofs.YtcajnlkkjdhjdaaGreat

namespace Go.Proofs.YtcajnlkkjdhjdaaGreat
open Go Go.AM
attribute [local irreducible] Sat SatH LoopP
set_option maxRecDepth 100000

theorem sat_swapRange' (g : FuncId) (P X M Y S l l' : List Chg) (h1 : l = P ++ X ++ M ++ Y ++ S) (h2 : l' = P ++ Y ++ M ++ X ++ S) (h : X.length = Y.length) (N a b n : Nat) (hN : N = l.length) (ha : a = P.length) (hn : n = X.length) (hb : b = P.length + X.length + M.length) (hl : N ≤ 1000000) :
    SatH Pg k_slices_swapRangeCmpFunc_Change [.c (.own 0 2 N), .c (int a), .c (int b), .c (int n), .c (.d (.fn g []))] [.arr 2 (chgD l) false]
      (fun r => r = ⟨.tup [], [.arr 2 (chgD l') false]⟩) := by
  subst h1 h2
  exact sat_swapRange g P X M Y S h N a b n hN ha hn hb hl

structure Rt where
  P : List Chg
  A : List Chg
  B : List Chg
  S : List Chg
def Rt.l (x : Rt) : List Chg := x.P ++ x.A ++ x.B ++ x.S
def Rt.t (x : Rt) : List Chg := x.P ++ x.B ++ x.A ++ x.S

def rotS (g : FuncId) (n m i j : Nat) (els : List (List D)) : S := ⟨[(0, cV (.own 100000 2 n)), (2, intV m), (4, .w (.c (.d (.fn g [])))), (10, intV i), (11, intV j)], [(100000, .arr 2 els false)]⟩

theorem sat_rotate (g : FuncId) (x0 : Rt) (N a m b : Nat) (hN : N = x0.l.length) (ha : a = x0.P.length) (hm : m = a + x0.A.length) (hb : b = m + x0.B.length) (hA : 0 < x0.A.length) (hB : 0 < x0.B.length) (hl : N ≤ 1000000) :
    SatH Pg k_slices_rotateCmpFunc_Change [.c (.own 0 2 N), .c (int a), .c (int m), .c (int b), .c (.d (.fn g []))] [.arr 2 (chgD x0.l) false]
      (fun r => r = ⟨.tup [], [.arr 2 (chgD x0.t) false]⟩) := by
  have hsz : x0.P.length + x0.A.length + x0.B.length + x0.S.length = N := by rw [hN]; simp [Rt.l]; omega
  have w1 : IntKind.i64.wrap ((m : Int) - (a : Int)) = ((x0.A.length : Nat) : Int) := by rw [wrapI (by omega) (by omega)]; omega
  have w2 : IntKind.i64.wrap ((b : Int) - (m : Int)) = ((x0.B.length : Nat) : Int) := by rw [wrapI (by omega) (by omega)]; omega
  refine SatH_of T3 c_slices_rotateCmpFunc_Change_ok (by kernel_rfl) (by simp) ?_
  conv => whnf
  refine loopF (P := Pg) (f := T3.f) (body := c_slices_rotateCmpFunc_Change_L0) (fun x : Rt => rotS g N m x.A.length x.B.length (chgD x.l)) (fun x => x.A.length + x.B.length)
    (fun x => x.P.length + x.A.length = m ∧ 0 < x.A.length ∧ 0 < x.B.length ∧ x.l.length = N ∧ x.t = x0.t)
    ⟨x0, ⟨by omega, hA, hB, hN.symm, rfl⟩, normW_of ?_⟩ ?_
  · conv => whnf
    rw [w1, w2]
    rfl
  · rintro ⟨P, A, B, S⟩ hR
    have hS : P.length + A.length = m ∧ 0 < A.length ∧ 0 < B.length ∧ (P ++ A ++ B ++ S).length = N ∧ P ++ B ++ A ++ S = x0.t := hR
    clear hR
    obtain ⟨g1, g2, g3, g4, g5⟩ := hS
    have g6 : P.length + A.length + B.length + S.length = N := by rw [← g4]; simp; omega
    have wmi : IntKind.i64.wrap ((m : Int) - (A.length : Int)) = ((P.length : Nat) : Int) := by rw [wrapI (by omega) (by omega)]; omega
    conv => whnf
    refine cond_i (fun h1 => ?_) (fun h1 => ?_)
    · have hne : A.length ≠ B.length := by
        intro e
        have h1 : (((A.length : Nat) : Int) != ((B.length : Nat) : Int)) = true := h1
        rw [e] at h1; simp at h1
      conv => whnf
      refine cond_i (fun h2 => ?_) (fun h2 => ?_)
      · have hgt : B.length < A.length := by have h2 : decide ((A.length : Int) > (B.length : Int)) = true := h2; have := of_decide_eq_true h2; omega
        have wij : IntKind.i64.wrap ((A.length : Int) - (B.length : Int)) = (((A.drop B.length).length : Nat) : Int) := by rw [wrapI (by omega) (by omega), List.length_drop]; omega
        have e1 : (A.take B.length).length = B.length := by rw [List.length_take]; omega
        have e2 : (A.drop B.length).length = A.length - B.length := List.length_drop
        have e3 : A.take B.length ++ A.drop B.length = A := List.take_append_drop _ _
        conv => whnf
        rw [wmi]
        obtain ⟨l', hl'⟩ : ∃ l', l' = (P ++ B) ++ A.drop B.length ++ A.take B.length ++ S := ⟨_, rfl⟩
        refine SatH.mono (sat_swapRange' g P (A.take B.length) (A.drop B.length) B S (P ++ A ++ B ++ S) l' ?_ hl' e1 N P.length m B.length g4.symm rfl e1.symm (by omega) hl) ?_
        · rw [List.append_assoc P (A.take _), e3]
        rintro _ rfl
        conv => whnf
        refine ⟨⟨P ++ B, A.drop B.length, A.take B.length, S⟩, ⟨⟨?_, ?_, ?_, ?_, ?_⟩, ?_⟩, normW_of ?_⟩
        · show (P ++ B).length + (A.drop B.length).length = m
          rw [e2, List.length_append]; omega
        · show 0 < (A.drop B.length).length
          omega
        · show 0 < (A.take B.length).length
          omega
        · show ((P ++ B) ++ A.drop B.length ++ A.take B.length ++ S).length = N
          simp only [List.length_append, e1, e2]; omega
        · show (P ++ B) ++ A.take B.length ++ A.drop B.length ++ S = x0.t
          rw [← g5, List.append_assoc (P ++ B) (A.take _), e3]
        · show (A.drop B.length).length + (A.take B.length).length < A.length + B.length
          omega
        · conv => whnf
          rw [wij]
          show rotS g N m (A.drop B.length).length B.length (chgD l') = rotS g N m (A.drop B.length).length (A.take B.length).length (chgD ((P ++ B) ++ A.drop B.length ++ A.take B.length ++ S))
          rw [e1, hl']
      · have hlt : A.length < B.length := by have h2 : decide ((A.length : Int) > (B.length : Int)) = false := h2; have := of_decide_eq_false h2; omega
        have e1 : (B.take (B.length - A.length)).length = B.length - A.length := by rw [List.length_take]; omega
        have e2 : (B.drop (B.length - A.length)).length = A.length := by rw [List.length_drop]; omega
        have e3 : B.take (B.length - A.length) ++ B.drop (B.length - A.length) = B := List.take_append_drop _ _
        have wji : IntKind.i64.wrap ((B.length : Int) - (A.length : Int)) = (((B.take (B.length - A.length)).length : Nat) : Int) := by rw [wrapI (by omega) (by omega), e1]; omega
        have wmj : IntKind.i64.wrap ((m : Int) + (B.length : Int)) = ((m + B.length : Nat) : Int) := by rw [wrapI (by omega) (by omega)]; omega
        have wk : IntKind.i64.wrap (((m + B.length : Nat) : Int) - (A.length : Int)) = ((m + B.length - A.length : Nat) : Int) := by rw [wrapI (by omega) (by omega)]; omega
        conv => whnf
        rw [wmi, wmj, wk]
        obtain ⟨l', hl'⟩ : ∃ l', l' = P ++ B.drop (B.length - A.length) ++ B.take (B.length - A.length) ++ (A ++ S) := ⟨_, rfl⟩
        refine SatH.mono (sat_swapRange' g P A (B.take (B.length - A.length)) (B.drop (B.length - A.length)) S (P ++ A ++ B ++ S) l' ?_ ?_ e2.symm N P.length (m + B.length - A.length) A.length g4.symm rfl rfl (by omega) hl) ?_
        · rw [List.append_assoc (P ++ A) (B.take _), e3]
        · rw [hl']; simp only [List.append_assoc]
        rintro _ rfl
        conv => whnf
        refine ⟨⟨P, B.drop (B.length - A.length), B.take (B.length - A.length), A ++ S⟩, ⟨⟨?_, ?_, ?_, ?_, ?_⟩, ?_⟩, normW_of ?_⟩
        · show P.length + (B.drop (B.length - A.length)).length = m
          omega
        · show 0 < (B.drop (B.length - A.length)).length
          omega
        · show 0 < (B.take (B.length - A.length)).length
          omega
        · show (P ++ B.drop (B.length - A.length) ++ B.take (B.length - A.length) ++ (A ++ S)).length = N
          simp only [List.length_append, e1, e2]; omega
        · show P ++ B.take (B.length - A.length) ++ B.drop (B.length - A.length) ++ (A ++ S) = x0.t
          rw [← g5, List.append_assoc P (B.take _), e3]; simp only [List.append_assoc]
        · show (B.drop (B.length - A.length)).length + (B.take (B.length - A.length)).length < A.length + B.length
          omega
        · conv => whnf
          rw [wji]
          show rotS g N m A.length (B.take (B.length - A.length)).length (chgD l') = rotS g N m (B.drop (B.length - A.length)).length (B.take (B.length - A.length)).length (chgD (P ++ B.drop (B.length - A.length) ++ B.take (B.length - A.length) ++ (A ++ S)))
          rw [e2, hl']
    · have heq : A.length = B.length := by
        have h1 : (((A.length : Nat) : Int) != ((B.length : Nat) : Int)) = false := h1
        rw [bne_eq_false_iff_eq] at h1; omega
      conv => whnf
      rw [wmi]
      refine SatH.mono (sat_swapRange' g P A [] B S (P ++ A ++ B ++ S) (P ++ B ++ A ++ S) (by simp) (by simp) heq N P.length m A.length g4.symm rfl rfl (by simp; omega) hl) ?_
      rintro _ rfl
      conv => whnf
      exact congrArg (fun l => (⟨.tup [], [.arr 2 (chgD l) false]⟩ : Res)) g5
end Go.Proofs.YtcajnlkkjdhjdaaGreat

namespace Go.Proofs.YtcajnlkkjdhjdaaGreat

section
variable {α : Type} {c : α → α → Int}

/-- The element at a goes up to the place i - 1. -/
theorem sort_up (hc : CmpOK c) {l l' : List α} {a i b : Nat} {x : α} (hx : l[a]? = some x) (h1 : a < i) (h2 : i ≤ b) (hs : SortW c (a + 1) b l)
    (hget : ∀ p, l'[p]? = if a ≤ p ∧ p < i - 1 then l[p + 1]? else if p = i - 1 then l[a]? else l[p]?)
    (g1 : i = a + 1 ∨ ∃ u, l[i - 1]? = some u ∧ c u x ≤ 0) (g2 : i = b ∨ ∃ u, l[i]? = some u ∧ c x u ≤ 0) : SortW c a b l' := by
  intro p q u v p1 p2 p3 hu hv
  rw [hget] at hu hv
  by_cases e1 : a ≤ p ∧ p < i - 1
  · rw [if_pos e1] at hu
    by_cases e2 : a ≤ q ∧ q < i - 1
    · rw [if_pos e2] at hv
      exact hs (p + 1) (q + 1) u v (by omega) (by omega) (by omega) hu hv
    · rw [if_neg e2] at hv
      by_cases e3 : q = i - 1
      · rw [if_pos e3, hx] at hv
        cases hv
        rcases g1 with g1 | ⟨w, w1, w2⟩
        · omega
        · exact hc.trans _ _ _ (hs.le hc (by omega) (show p + 1 ≤ i - 1 by omega) (by omega) hu w1) w2
      · rw [if_neg e3] at hv
        exact hs (p + 1) q u v (by omega) (by omega) p3 hu hv
  · rw [if_neg e1] at hu
    rw [if_neg (by omega)] at hv
    by_cases e3 : p = i - 1
    · rw [if_pos e3, hx] at hu
      cases hu
      rw [if_neg (by omega)] at hv
      rcases g2 with g2 | ⟨w, w1, w2⟩
      · omega
      · exact hc.trans _ _ _ w2 (hs.le hc (by omega) (show i ≤ q by omega) p3 w1 hv)
    · rw [if_neg e3] at hu
      rw [if_neg (by omega)] at hv
      exact hs p q u v (by omega) p2 p3 hu hv

/-- The element at m goes down to the place i. -/
theorem sort_down (hc : CmpOK c) {l l' : List α} {a i m : Nat} {x : α} (hx : l[m]? = some x) (h1 : a ≤ i) (h2 : i ≤ m) (hs : SortW c a m l)
    (hget : ∀ p, l'[p]? = if i < p ∧ p ≤ m then l[p - 1]? else if p = i then l[m]? else l[p]?)
    (g1 : i = a ∨ ∃ u, l[i - 1]? = some u ∧ c u x ≤ 0) (g2 : i = m ∨ ∃ u, l[i]? = some u ∧ c x u ≤ 0) : SortW c a (m + 1) l' := by
  intro p q u v p1 p2 p3 hu hv
  rw [hget] at hu hv
  by_cases e1 : i < p ∧ p ≤ m
  · rw [if_pos e1] at hu
    rw [if_pos (by omega)] at hv
    exact hs (p - 1) (q - 1) u v (by omega) (by omega) (by omega) hu hv
  · rw [if_neg e1] at hu
    by_cases e3 : p = i
    · rw [if_pos e3, hx] at hu
      cases hu
      rw [if_pos (by omega)] at hv
      rcases g2 with g2 | ⟨w, w1, w2⟩
      · omega
      · exact hc.trans _ _ _ w2 (hs.le hc (by omega) (show i ≤ q - 1 by omega) (by omega) w1 hv)
    · rw [if_neg e3] at hu
      by_cases e2 : i < q ∧ q ≤ m
      · rw [if_pos e2] at hv
        exact hs p (q - 1) u v (by omega) (by omega) (by omega) hu hv
      · rw [if_neg e2] at hv
        by_cases e4 : q = i
        · rw [if_pos e4, hx] at hv
          cases hv
          rcases g1 with g1 | ⟨w, w1, w2⟩
          · omega
          · exact hc.trans _ _ _ (hs.le hc p1 (show p ≤ i - 1 by omega) (by omega) hu w1) w2
        · rw [if_neg e4] at hv
          exact hs p q u v p1 p2 (by omega) hu hv

/-- l1 is l with s .. m and m .. e in the other order. -/
def RotG (s m e : Nat) (l l1 : List α) : Prop := ∀ p, l1[p]? = if s ≤ p ∧ p < s + (e - m) then l[p + (m - s)]? else if s + (e - m) ≤ p ∧ p < e then l[p - (e - m)]? else l[p]?

theorem RotG.same {s m e : Nat} {l : List α} (h1 : s ≤ m) (h2 : m ≤ e) (h : s = m ∨ m = e) : RotG s m e l l := by
  intro p
  rcases h with rfl | rfl
  · split
    · congr 1; omega
    · rw [if_neg (by omega)]
  · rw [if_neg (by omega)]
    split
    · congr 1; omega
    · rfl

theorem rot_parts (hc : CmpOK c) {l l1 : List α} {a s m e b : Nat} (a1 : a ≤ s) (a2 : s ≤ m) (a3 : m ≤ e) (a4 : e ≤ b) (hg : RotG s m e l l1) (hs1 : SortW c a m l) (hs2 : SortW c m b l)
    (hb1 : s = a ∨ e = b ∨ ∃ x y, l[s - 1]? = some x ∧ l[e]? = some y ∧ c x y ≤ 0) (hb2 : s = m ∨ e = m ∨ ∃ x y, l[e - 1]? = some x ∧ l[s]? = some y ∧ c x y ≤ 0) :
    SortW c a s l1 ∧ SortW c s (s + (e - m)) l1 ∧ SortW c (s + (e - m)) e l1 ∧ SortW c e b l1 ∧ LeW c a (s + (e - m)) (s + (e - m)) b l1 := by
  refine ⟨?_, ?_, ?_, ?_, ?_⟩
  · intro p q u v p1 p2 p3 hu hv
    rw [hg, if_neg (by omega), if_neg (by omega)] at hu hv
    exact hs1 p q u v p1 p2 (by omega) hu hv
  · intro p q u v p1 p2 p3 hu hv
    rw [hg, if_pos (by omega)] at hu hv
    exact hs2 _ _ u v (by omega) (by omega) (by omega) hu hv
  · intro p q u v p1 p2 p3 hu hv
    rw [hg, if_neg (by omega), if_pos (by omega)] at hu hv
    exact hs1 _ _ u v (by omega) (by omega) (by omega) hu hv
  · intro p q u v p1 p2 p3 hu hv
    rw [hg, if_neg (by omega), if_neg (by omega)] at hu hv
    exact hs2 p q u v (by omega) p2 p3 hu hv
  · intro p q u v p1 p2 p3 p4 hu hv
    rw [hg] at hu hv
    rw [if_neg (by omega)] at hv
    by_cases e1 : p < s
    · rw [if_neg (by omega), if_neg (by omega)] at hu
      by_cases e2 : q < e
      · rw [if_pos (by omega)] at hv
        exact hs1 p _ u v p1 (by omega) (by omega) hu hv
      · rw [if_neg (by omega)] at hv
        rcases hb1 with h | h | ⟨x, y, hx, hy, hxy⟩
        · omega
        · omega
        · exact hc.trans _ _ _ (hs1.le hc p1 (show p ≤ s - 1 by omega) (by omega) hu hx) (hc.trans _ _ _ hxy (hs2.le hc (by omega) (show e ≤ q by omega) p4 hy hv))
    · rw [if_pos (by omega)] at hu
      by_cases e2 : q < e
      · rw [if_pos (by omega)] at hv
        rcases hb2 with h | h | ⟨x, y, hx, hy, hxy⟩
        · omega
        · omega
        · exact hc.trans _ _ _ (hs2.le hc (by omega) (show p + (m - s) ≤ e - 1 by omega) (by omega) hu hx) (hc.trans _ _ _ hxy (hs1.le hc (by omega) (show s ≤ q - (e - m) by omega) (by omega) hy hv))
      · rw [if_neg (by omega)] at hv
        exact hs2 _ q u v (by omega) (by omega) p4 hu hv

theorem take_drop_cut {l : List α} {s m e : Nat} (h1 : s ≤ m) (h2 : m ≤ e) (h3 : e ≤ l.length) : l.take s ++ (l.drop s).take (m - s) ++ (l.drop m).take (e - m) ++ l.drop e = l := by
  have k1 : l.take s ++ (l.drop s).take (m - s) = l.take m := by
    have := List.take_add (l := l) (i := s) (j := m - s)
    rw [← this]; congr 1; omega
  have k2 : l.take m ++ (l.drop m).take (e - m) = l.take e := by
    have := List.take_add (l := l) (i := m) (j := e - m)
    rw [← this]; congr 1; omega
  rw [k1, k2, List.take_append_drop]

theorem rot_get {l : List α} {s m e : Nat} (h1 : s ≤ m) (h2 : m ≤ e) (h3 : e ≤ l.length) : RotG s m e l (l.take s ++ (l.drop m).take (e - m) ++ (l.drop s).take (m - s) ++ l.drop e) := by
  intro p
  simp only [List.getElem?_append, List.length_append, List.length_take, List.length_drop, List.getElem?_take, List.getElem?_drop]
  split
  · split
    · rename_i k1 k2
      split
      · rename_i k3
        rw [if_pos (by omega), if_neg (by omega), if_neg (by omega)]
      · rename_i k3
        rw [if_pos (by omega), if_pos (by omega)]
        congr 1; omega
    · rename_i k1 k2
      rw [if_pos (by omega), if_neg (by omega), if_pos (by omega)]
      congr 1; omega
  · rename_i k1
    rw [if_neg (by omega), if_neg (by omega)]
    congr 1; omega
theorem rot_w {l : List α} {s m e : Nat} (h1 : s ≤ m) (h2 : m ≤ e) (h3 : e ≤ l.length) : PermW s e l (l.take s ++ (l.drop m).take (e - m) ++ (l.drop s).take (m - s) ++ l.drop e) := by
  have hg := rot_get h1 h2 h3
  refine ⟨?_, ?_, fun p hp => ?_, fun p x p1 p2 hx => ?_⟩
  · simp; omega
  · have := take_drop_cut h1 h2 h3
    refine List.Perm.trans ?_ (List.Perm.of_eq this)
    refine List.Perm.append_right _ ?_
    rw [List.append_assoc, List.append_assoc]
    exact List.Perm.append_left _ List.perm_append_comm
  · rw [hg, if_neg (by omega), if_neg (by omega)]
  · rw [hg] at hx
    split at hx
    · exact ⟨_, by omega, by omega, hx⟩
    · rw [if_pos (by omega)] at hx
      exact ⟨_, by omega, by omega, hx⟩
end
end Go.Proofs.YtcajnlkkjdhjdaaGreat

namespace Go.Proofs.YtcajnlkkjdhjdaaGreat
open Go Go.AM
attribute [local irreducible] Sat SatH LoopP
set_option maxRecDepth 100000
set_option maxHeartbeats 1000000

theorem half (i j : Nat) (h : i + j ≤ 4611686018427387904) : IntKind.i64.wrap (shI false IntKind.u64 (IntKind.u64.wrap (IntKind.i64.wrap ((i : Int) + (j : Int)))) 1) = (((i + j) / 2 : Nat) : Int) := by
  have e1 : IntKind.i64.wrap ((i : Int) + (j : Int)) = ((i + j : Nat) : Int) := by rw [wrapI (by omega) (by omega)]; omega
  have e2 : IntKind.u64.wrap ((i + j : Nat) : Int) = ((i + j : Nat) : Int) := by
    have : IntKind.u64.wrap ((i + j : Nat) : Int) = ((i + j : Nat) : Int) % 18446744073709551616 := by simp [IntKind.wrap, IntKind.bits, IntKind.signed]
    rw [this]; omega
  rw [e1, e2]
  have e3 : shI false IntKind.u64 ((i + j : Nat) : Int) 1 = (((i + j) / 2 : Nat) : Int) := by
    show ((i + j : Nat) : Int).fdiv (2 ^ min (1 : Nat) 64) = _
    rw [show (2 : Int) ^ min (1 : Nat) 64 = 2 from rfl, Int.fdiv_eq_ediv_of_nonneg _ (by omega)]
    omega
  rw [e3, wrapI (by omega) (by omega)]

def symA (g : FuncId) (n a i j : Nat) (els : List (List D)) : S := ⟨[(0, cV (.own 100000 2 n)), (1, intV a), (4, .w (.c (.d (.fn g [])))), (10, intV i), (11, intV j)], [(100000, .arr 2 els false)]⟩
def symB (n i k : Nat) (els : List (List D)) : S := ⟨[(0, cV (.own 100000 2 n)), (10, intV i), (13, intV k)], [(100000, .arr 2 els false)]⟩
def symC (g : FuncId) (n m i j : Nat) (els : List (List D)) : S := ⟨[(0, cV (.own 100000 2 n)), (2, intV m), (4, .w (.c (.d (.fn g [])))), (14, intV i), (15, intV j)], [(100000, .arr 2 els false)]⟩
def symD (n i k : Nat) (els : List (List D)) : S := ⟨[(0, cV (.own 100000 2 n)), (14, intV i), (17, intV k)], [(100000, .arr 2 els false)]⟩
def symE (g : FuncId) (N a m b mid n s r p : Nat) (els : List (List D)) : S := ⟨[(0, cV (.own 100000 2 N)), (1, intV a), (2, intV m), (3, intV b), (4, .w (.c (.d (.fn g [])))), (18, intV mid), (19, intV n), (20, intV s), (21, intV r), (22, intV p)], [(100000, .arr 2 els false)]⟩

def SymK (g : FuncId) (c : Chg → Chg → Int) (N k : Nat) : Prop := ∀ (l : List Chg) (a m b : Nat), b - a ≤ k → a < m → m < b → b ≤ l.length → l.length = N → SortW c a m l → SortW c m b l →
    SatH Pg k_slices_symMergeCmpFunc_Change [.c (.own 0 2 N), .c (int a), .c (int m), .c (int b), .c (.d (.fn g []))] [.arr 2 (chgD l) false]
      (fun r => ∃ l' : List Chg, PermW a b l l' ∧ SortW c a b l' ∧ r = ⟨.tup [], [.arr 2 (chgD l') false]⟩)

def LeAt (c : Chg → Chg → Int) (l : List Chg) (i j : Nat) : Prop := ∃ u v, l[i]? = some u ∧ l[j]? = some v ∧ c u v ≤ 0

theorem swap_fin {l : List Chg} {i j : Nat} (x y : Chg) : ((chgD l).set i y.ds).set j x.ds = chgD (swp l i j x y) := by rw [chgD_set, chgD_set]; rfl

def rotL (s m e : Nat) (l : List Chg) : List Chg := l.take s ++ (l.drop m).take (e - m) ++ (l.drop s).take (m - s) ++ l.drop e
theorem sat_rotate' (g : FuncId) (l : List Chg) (N s m e : Nat) (h1 : s < m) (h2 : m < e) (h3 : e ≤ l.length) (hN : l.length = N) (hl : N ≤ 1000000) :
    SatH Pg k_slices_rotateCmpFunc_Change [.c (.own 0 2 N), .c (int s), .c (int m), .c (int e), .c (.d (.fn g []))] [.arr 2 (chgD l) false]
      (fun r => r = ⟨.tup [], [.arr 2 (chgD (rotL s m e l)) false]⟩) := by
  have h := sat_rotate g ⟨l.take s, (l.drop s).take (m - s), (l.drop m).take (e - m), l.drop e⟩ N s m e
  simp only [Rt.l, Rt.t, take_drop_cut (Nat.le_of_lt h1) (Nat.le_of_lt h2) h3] at h
  refine h hN.symm ?_ ?_ ?_ ?_ ?_ hl <;> simp <;> omega

theorem sym_fin {c : Chg → Chg → Int} {l l1 l2 l3 : List Chg} {a r mid e b : Nat} (hw : PermW r e l l1) (h1 : a ≤ r) (h2 : e ≤ b) (p2 : PermW a mid l1 l2) (p3 : PermW mid b l2 l3) (h3 : a ≤ mid) (h4 : mid ≤ b)
    (t2 : SortW c a mid l2) (t3 : SortW c mid b l3) (s5 : LeW c a mid mid b l1) : PermW a b l l3 ∧ SortW c a b l3 :=
  ⟨(hw.mono h1 h2).trans ((p2.mono (Nat.le_refl _) h4).trans (p3.mono h3 (Nat.le_refl _))), SortW.glue (t2.same fun i _ i2 => p3.out i (.inl i2)) t3 ((s5.perm p2).perm2 p3)⟩
theorem and_t {a b c d : Nat} (h : (decide ((a : Int) < (b : Int)) && decide ((c : Int) < (d : Int))) = true) : a < b ∧ c < d := by
  rw [Bool.and_eq_true] at h
  have h1 := of_decide_eq_true h.1
  have h2 := of_decide_eq_true h.2
  omega
theorem and_f {a b c d : Nat} (h : (decide ((a : Int) < (b : Int)) && decide ((c : Int) < (d : Int))) = false) : b ≤ a ∨ d ≤ c := by
  simp only [Bool.and_eq_false_iff, decide_eq_false_iff_not] at h
  omega

theorem sat_symMerge (g : FuncId) (c : Chg → Chg → Int) (hcc : CmpOK c) (hg : ∀ x y : Chg, Sat Pg g [x.w, y.w] (fun r => r = rI (c x y))) (N : Nat) (hl : N ≤ 1000000) : ∀ k, SymK g c N k := by
  intro k
  induction k with
  | zero => intro l a m b h0 h1 h2; omega
  | succ k ih =>
  intro l a m b h0 h1 h2 hb hN hs1 hs2
  refine SatH_of T3 c_slices_symMergeCmpFunc_Change_ok (by kernel_rfl) (by simp) ?_
  conv => whnf
  refine cond_i (fun e1 => ?_) (fun e1 => ?_)
  · have hm : m = a + 1 := by
      have e1 : (IntKind.i64.wrap ((m : Int) - (a : Int)) == 1) = true := e1
      rw [wrapI (by omega) (by omega)] at e1
      have := eq_of_beq e1
      omega
    obtain ⟨x, hx⟩ := some_at (l := l) (i := a) (by omega)
    conv => whnf
    refine loopF (P := Pg) (f := T3.f) (body := c_slices_symMergeCmpFunc_Change_L0) (fun z : Nat × Nat => symA g N a z.1 z.2 (chgD l)) (fun z => z.2 - z.1)
      (fun z => m ≤ z.1 ∧ z.1 ≤ z.2 ∧ z.2 ≤ b ∧ (z.1 = m ∨ ∃ u, l[z.1 - 1]? = some u ∧ c u x ≤ 0) ∧ (z.2 = b ∨ ∃ u, l[z.2]? = some u ∧ c x u ≤ 0))
      ⟨(m, b), ⟨by omega, by omega, by omega, .inl rfl, .inl rfl⟩, normW_of ?_⟩ ?_
    · conv => whnf
      rfl
    · rintro ⟨i, j⟩ hR
      have hS : m ≤ i ∧ i ≤ j ∧ j ≤ b ∧ (i = m ∨ ∃ u, l[i - 1]? = some u ∧ c u x ≤ 0) ∧ (j = b ∨ ∃ u, l[j]? = some u ∧ c x u ≤ 0) := hR
      clear hR
      obtain ⟨g1, g2, g3, g4, g5⟩ := hS
      conv => whnf
      refine cond_i (fun k1 => ?_) (fun k1 => ?_)
      · have hij : i < j := by have k1 : decide ((i : Int) < (j : Int)) = true := k1; have := of_decide_eq_true k1; omega
        have wh := half i j (by omega)
        obtain ⟨h, hh⟩ : ∃ h, h = (i + j) / 2 := ⟨_, rfl⟩
        rw [← hh] at wh
        obtain ⟨u, hu⟩ := some_at (l := l) (i := h) (by omega)
        have w1 : IntKind.i64.wrap ((h : Int) + 1) = ((h + 1 : Nat) : Int) := wrapS (n := b) (by omega) (by omega)
        conv => whnf
        refine ⟨by decide, ?_⟩
        conv => whnf
        rw [wh]
        refine ⟨by omega, by omega, ?_⟩
        conv => whnf
        refine ⟨_, chgD_at hu, ?_⟩
        conv => whnf
        refine ⟨by omega, by omega, ?_⟩
        conv => whnf
        refine ⟨_, chgD_at hx, ?_⟩
        conv => whnf
        refine Sat.mono (hg u x) ?_
        rintro _ rfl
        conv => whnf
        refine cond_i (fun k2 => ?_) (fun k2 => ?_)
        · have hlt : c u x < 0 := of_decide_eq_true k2
          conv => whnf
          refine ⟨(h + 1, j), ⟨⟨by show m ≤ h + 1; omega, by show h + 1 ≤ j; omega, g3, .inr ⟨u, hu, by omega⟩, g5⟩, by show j - (h + 1) < j - i; omega⟩, normW_of ?_⟩
          conv => whnf
          rw [w1]
          rfl
        · have hge : ¬ c u x < 0 := of_decide_eq_false k2
          conv => whnf
          refine ⟨(i, h), ⟨⟨g1, by show i ≤ h; omega, by show h ≤ b; omega, g4, .inr ⟨u, hu, hcc.ge.1 (by omega)⟩⟩, by show h - i < j - i; omega⟩, normW_of ?_⟩
          conv => whnf
          rfl
      · have hij : j = i := by have k1 : decide ((i : Int) < (j : Int)) = false := k1; have := of_decide_eq_false k1; omega
        subst hij
        have wi : IntKind.i64.wrap ((j : Int) - 1) = ((j - 1 : Nat) : Int) := wrapP (by omega) (by omega)
        conv => whnf
        refine loopF (P := Pg) (f := T3.f) (body := c_slices_symMergeCmpFunc_Change_L1) (fun z : Nat × List Chg => symB N j z.1 (chgD z.2)) (fun z => j - z.1)
          (fun z => a ≤ z.1 ∧ z.1 ≤ j - 1 ∧ PermW a b l z.2 ∧ ∀ p, z.2[p]? = if a ≤ p ∧ p < z.1 then l[p + 1]? else if p = z.1 then l[a]? else l[p]?)
          ⟨(a, l), ⟨Nat.le_refl _, by omega, PermW.refl _ _ _, fun p => ?_⟩, normW_of ?_⟩ ?_
        · rw [if_neg (by omega)]
          split
          · rename_i e; rw [e]
          · rfl
        · conv => whnf
          rfl
        · rintro ⟨q, l1⟩ hR
          have hS : a ≤ q ∧ q ≤ j - 1 ∧ PermW a b l l1 ∧ ∀ p, l1[p]? = if a ≤ p ∧ p < q then l[p + 1]? else if p = q then l[a]? else l[p]? := hR
          clear hR
          obtain ⟨r1, r2, r3, r4⟩ := hS
          have r5 := r3.len
          conv => whnf
          refine cond_i (fun k3 => ?_) (fun k3 => ?_)
          · have hq : q < j - 1 := by
              have k3 : decide ((q : Int) < IntKind.i64.wrap ((j : Int) - 1)) = true := k3
              rw [wi] at k3
              have := of_decide_eq_true k3; omega
            have wq : IntKind.i64.wrap ((q : Int) + 1) = ((q + 1 : Nat) : Int) := wrapS (n := b) (by omega) (by omega)
            obtain ⟨u, hu⟩ := some_at (l := l1) (i := q) (by omega)
            obtain ⟨v, hv⟩ := some_at (l := l1) (i := q + 1) (by omega)
            obtain ⟨z, hz⟩ := chgD_at2 (i := q) (x := v) hv
            conv => whnf
            rw [wq]
            refine ⟨by omega, by omega, ?_⟩
            conv => whnf
            refine ⟨_, chgD_at hv, ?_⟩
            conv => whnf
            refine ⟨by show (0 : Int) ≤ (q : Int); omega, by show (q : Int) < (N : Int); omega, ?_⟩
            conv => whnf
            refine ⟨_, chgD_at hu, ?_⟩
            conv => whnf
            refine ⟨by show (0 : Int) ≤ (q : Int); omega, by show (q : Int) < (N : Int); omega, ?_⟩
            conv => whnf
            refine ⟨_, chgD_at hu, Nat.le_refl _, ?_⟩
            conv => whnf
            refine ⟨by omega, by omega, ?_⟩
            conv => whnf
            refine ⟨_, hz, Nat.le_refl _, ?_⟩
            conv => whnf
            refine ⟨(q + 1, swp l1 q (q + 1) u v), ⟨⟨by show a ≤ q + 1; omega, by show q + 1 ≤ j - 1; omega, r3.trans (swp_w hu hv (by omega) (by omega) (by omega) (by omega)), fun p => ?_⟩, by show j - (q + 1) < j - q; omega⟩, normW_of ?_⟩
            · rw [r4] at hu hv
              rw [if_neg (by omega), if_pos rfl] at hu
              rw [if_neg (by omega), if_neg (by omega)] at hv
              show (swp l1 q (q + 1) u v)[p]? = if a ≤ p ∧ p < q + 1 then l[p + 1]? else if p = q + 1 then l[a]? else l[p]?
              have hu' : l1[q]? = some u := by rw [r4, if_neg (by omega), if_pos rfl]; exact hu
              have hv' : l1[q + 1]? = some v := by rw [r4, if_neg (by omega), if_neg (by omega)]; exact hv
              rw [swp_get hu' hv', r4 p]
              by_cases p1 : p = q + 1
              · rw [if_pos p1, if_neg (by omega), if_pos p1, hu]
              · rw [if_neg p1]
                by_cases p2 : p = q
                · rw [if_pos p2, if_pos (by omega), p2, hv]
                · rw [if_neg p2]
                  by_cases p3 : a ≤ p ∧ p < q
                  · rw [if_pos p3, if_pos (by omega)]
                  · rw [if_neg p3, if_neg p2, if_neg (by omega), if_neg p1]
            · conv => whnf
              rw [wq]
              exact congrArg (symB N j (q + 1)) (swap_fin u v)
          · have hq : q = j - 1 := by
              have k3 : decide ((q : Int) < IntKind.i64.wrap ((j : Int) - 1)) = false := k3
              rw [wi] at k3
              have := of_decide_eq_false k3; omega
            subst hq
            conv => whnf
            exact ⟨l1, r3, sort_up hcc hx (by omega) g3 (hs2.mono (by omega) (Nat.le_refl _)) r4 (by rcases g4 with g4 | g4; exact .inl (by omega); exact .inr g4) g5, rfl⟩
  · have hm : a + 1 < m := by
      have e1 : (IntKind.i64.wrap ((m : Int) - (a : Int)) == 1) = false := e1
      rw [wrapI (by omega) (by omega), beq_eq_false_iff_ne] at e1
      omega
    conv => whnf
    refine cond_i (fun e2 => ?_) (fun e2 => ?_)
    · have hm2 : b = m + 1 := by
        have e2 : (IntKind.i64.wrap ((b : Int) - (m : Int)) == 1) = true := e2
        rw [wrapI (by omega) (by omega)] at e2
        have := eq_of_beq e2
        omega
      obtain ⟨x, hx⟩ := some_at (l := l) (i := m) (by omega)
      conv => whnf
      refine loopF (P := Pg) (f := T3.f) (body := c_slices_symMergeCmpFunc_Change_L2) (fun z : Nat × Nat => symC g N m z.1 z.2 (chgD l)) (fun z => z.2 - z.1)
        (fun z => a ≤ z.1 ∧ z.1 ≤ z.2 ∧ z.2 ≤ m ∧ (z.1 = a ∨ ∃ u, l[z.1 - 1]? = some u ∧ c u x ≤ 0) ∧ (z.2 = m ∨ ∃ u, l[z.2]? = some u ∧ c x u ≤ 0))
        ⟨(a, m), ⟨by omega, by omega, by omega, .inl rfl, .inl rfl⟩, normW_of ?_⟩ ?_
      · conv => whnf
        rfl
      · rintro ⟨i, j⟩ hR
        have hS : a ≤ i ∧ i ≤ j ∧ j ≤ m ∧ (i = a ∨ ∃ u, l[i - 1]? = some u ∧ c u x ≤ 0) ∧ (j = m ∨ ∃ u, l[j]? = some u ∧ c x u ≤ 0) := hR
        clear hR
        obtain ⟨g1, g2, g3, g4, g5⟩ := hS
        conv => whnf
        refine cond_i (fun k1 => ?_) (fun k1 => ?_)
        · have hij : i < j := by have k1 : decide ((i : Int) < (j : Int)) = true := k1; have := of_decide_eq_true k1; omega
          have wh := half i j (by omega)
          obtain ⟨h, hh⟩ : ∃ h, h = (i + j) / 2 := ⟨_, rfl⟩
          rw [← hh] at wh
          obtain ⟨u, hu⟩ := some_at (l := l) (i := h) (by omega)
          have w1 : IntKind.i64.wrap ((h : Int) + 1) = ((h + 1 : Nat) : Int) := wrapS (n := b) (by omega) (by omega)
          conv => whnf
          refine ⟨by decide, ?_⟩
          conv => whnf
          refine ⟨by omega, by omega, ?_⟩
          conv => whnf
          refine ⟨_, chgD_at hx, ?_⟩
          conv => whnf
          rw [wh]
          refine ⟨by omega, by omega, ?_⟩
          conv => whnf
          refine ⟨_, chgD_at hu, ?_⟩
          conv => whnf
          refine Sat.mono (hg x u) ?_
          rintro _ rfl
          conv => whnf
          refine cond_i (fun k2 => ?_) (fun k2 => ?_)
          · have hge : ¬ c x u < 0 := by
              have k2 : (!decide (c x u < 0)) = true := k2
              simpa using k2
            conv => whnf
            refine ⟨(h + 1, j), ⟨⟨by show a ≤ h + 1; omega, by show h + 1 ≤ j; omega, g3, .inr ⟨u, hu, hcc.ge.1 (by omega)⟩, g5⟩, by show j - (h + 1) < j - i; omega⟩, normW_of ?_⟩
            conv => whnf
            rw [w1]
            rfl
          · have hlt : c x u < 0 := by
              have k2 : (!decide (c x u < 0)) = false := k2
              simpa using k2
            conv => whnf
            refine ⟨(i, h), ⟨⟨g1, by show i ≤ h; omega, by show h ≤ m; omega, g4, .inr ⟨u, hu, by omega⟩⟩, by show h - i < j - i; omega⟩, normW_of ?_⟩
            conv => whnf
            rfl
        · have hij : j = i := by have k1 : decide ((i : Int) < (j : Int)) = false := k1; have := of_decide_eq_false k1; omega
          subst hij
          conv => whnf
          refine loopF (P := Pg) (f := T3.f) (body := c_slices_symMergeCmpFunc_Change_L3) (fun z : Nat × List Chg => symD N j z.1 (chgD z.2)) (fun z => z.1)
            (fun z => j ≤ z.1 ∧ z.1 ≤ m ∧ PermW a b l z.2 ∧ ∀ p, z.2[p]? = if z.1 < p ∧ p ≤ m then l[p - 1]? else if p = z.1 then l[m]? else l[p]?)
            ⟨(m, l), ⟨g3, Nat.le_refl _, PermW.refl _ _ _, fun p => ?_⟩, normW_of ?_⟩ ?_
          · rw [if_neg (by omega)]
            split
            · rename_i e; rw [e]
            · rfl
          · conv => whnf
            rfl
          · rintro ⟨q, l1⟩ hR
            have hS : j ≤ q ∧ q ≤ m ∧ PermW a b l l1 ∧ ∀ p, l1[p]? = if q < p ∧ p ≤ m then l[p - 1]? else if p = q then l[m]? else l[p]? := hR
            clear hR
            obtain ⟨r1, r2, r3, r4⟩ := hS
            have r5 := r3.len
            conv => whnf
            refine cond_i (fun k3 => ?_) (fun k3 => ?_)
            · have hq : j < q := by
                have k3 : decide ((q : Int) > (j : Int)) = true := k3
                have := of_decide_eq_true k3; omega
              have wq : IntKind.i64.wrap ((q : Int) - 1) = ((q - 1 : Nat) : Int) := wrapP (by omega) (by omega)
              obtain ⟨u, hu⟩ := some_at (l := l1) (i := q) (by omega)
              obtain ⟨v, hv⟩ := some_at (l := l1) (i := q - 1) (by omega)
              obtain ⟨z, hz⟩ := chgD_at2 (i := q) (x := v) hv
              conv => whnf
              rw [wq]
              refine ⟨by omega, by omega, ?_⟩
              conv => whnf
              refine ⟨_, chgD_at hv, ?_⟩
              conv => whnf
              refine ⟨by show (0 : Int) ≤ (q : Int); omega, by show (q : Int) < (N : Int); omega, ?_⟩
              conv => whnf
              refine ⟨_, chgD_at hu, ?_⟩
              conv => whnf
              refine ⟨by show (0 : Int) ≤ (q : Int); omega, by show (q : Int) < (N : Int); omega, ?_⟩
              conv => whnf
              refine ⟨_, chgD_at hu, Nat.le_refl _, ?_⟩
              conv => whnf
              refine ⟨by omega, by omega, ?_⟩
              conv => whnf
              refine ⟨_, hz, Nat.le_refl _, ?_⟩
              conv => whnf
              refine ⟨(q - 1, swp l1 q (q - 1) u v), ⟨⟨by show j ≤ q - 1; omega, by show q - 1 ≤ m; omega, r3.trans (swp_w hu hv (by omega) (by omega) (by omega) (by omega)), fun p => ?_⟩, by show q - 1 < q; omega⟩, normW_of ?_⟩
              · rw [r4] at hu hv
                rw [if_neg (by omega), if_pos rfl] at hu
                rw [if_neg (by omega), if_neg (by omega)] at hv
                show (swp l1 q (q - 1) u v)[p]? = if q - 1 < p ∧ p ≤ m then l[p - 1]? else if p = q - 1 then l[m]? else l[p]?
                have hu' : l1[q]? = some u := by rw [r4, if_neg (by omega), if_pos rfl]; exact hu
                have hv' : l1[q - 1]? = some v := by rw [r4, if_neg (by omega), if_neg (by omega)]; exact hv
                rw [swp_get hu' hv', r4 p]
                by_cases p1 : p = q - 1
                · rw [if_pos p1, if_neg (by omega), if_pos p1, hu]
                · rw [if_neg p1]
                  by_cases p2 : p = q
                  · rw [if_pos p2, if_pos (by omega), p2, hv]
                  · rw [if_neg p2]
                    by_cases p3 : q < p ∧ p ≤ m
                    · rw [if_pos p3, if_pos (by omega)]
                    · rw [if_neg p3, if_neg p2, if_neg (by omega), if_neg p1]
              · conv => whnf
                rw [wq]
                exact congrArg (symD N j (q - 1)) (swap_fin u v)
            · have hq : q = j := by
                have k3 : decide ((q : Int) > (j : Int)) = false := k3
                have := of_decide_eq_false k3; omega
              subst hq
              conv => whnf
              exact ⟨l1, r3, by rw [hm2]; exact sort_down hcc hx g1 g3 hs1 r4 g4 g5, rfl⟩
    · have hm2 : m + 1 < b := by
        have e2 : (IntKind.i64.wrap ((b : Int) - (m : Int)) == 1) = false := e2
        rw [wrapI (by omega) (by omega), beq_eq_false_iff_ne] at e2
        omega
      have wh := half a b (by omega)
      obtain ⟨mid, hmid⟩ : ∃ mid, mid = (a + b) / 2 := ⟨_, rfl⟩
      rw [← hmid] at wh
      have wn : IntKind.i64.wrap ((mid : Int) + (m : Int)) = ((mid + m : Nat) : Int) := by rw [wrapI (by omega) (by omega)]; omega
      have wnb : IntKind.i64.wrap (((mid + m : Nat) : Int) - (b : Int)) = ((mid + m - b : Nat) : Int) ∨ m ≤ mid := by
        by_cases h : m ≤ mid
        · exact .inr h
        · exact .inl (by rw [wrapI (by omega) (by omega)]; omega)
      have wp : IntKind.i64.wrap (((mid + m : Nat) : Int) - 1) = ((mid + m - 1 : Nat) : Int) := wrapP (by omega) (by omega)
      conv => whnf
      refine ⟨by decide, ?_⟩
      conv => whnf
      rw [wh]
      refine cond_i (fun e3 => ?_) (fun e3 => ?_)
      · have hm3 : mid < m := by
          have e3 : decide ((m : Int) > (mid : Int)) = true := e3
          have := of_decide_eq_true e3; omega
        conv => whnf
        rw [wn]
        refine loopF (P := Pg) (f := T3.f) (body := c_slices_symMergeCmpFunc_Change_L4) (fun z : Nat × Nat => symE g N a m b mid (mid + m) z.1 z.2 (mid + m - 1) (chgD l)) (fun z => z.2 - z.1)
          (fun z => mid + m - b ≤ z.1 ∧ z.1 ≤ z.2 ∧ z.2 ≤ mid ∧ (z.1 = mid + m - b ∨ LeAt c l (z.1 - 1) (mid + m - z.1)) ∧ (z.2 = mid ∨ LeAt c l (mid + m - 1 - z.2) z.2))
          ⟨(mid + m - b, mid), ⟨Nat.le_refl _, by show mid + m - b ≤ mid; omega, Nat.le_refl _, .inl rfl, .inl rfl⟩, normW_of ?_⟩ ?_
        · conv => whnf
          rw [wp, wnb.resolve_right (by omega)]
          rfl
        · rintro ⟨s, r⟩ hR
          have hS : mid + m - b ≤ s ∧ s ≤ r ∧ r ≤ mid ∧ (s = mid + m - b ∨ LeAt c l (s - 1) (mid + m - s)) ∧ (r = mid ∨ LeAt c l (mid + m - 1 - r) r) := hR
          clear hR
          obtain ⟨g1, g2, g3, g4, g5⟩ := hS
          conv => whnf
          refine cond_i (fun k1 => ?_) (fun k1 => ?_)
          · have hij : s < r := by have k1 : decide ((s : Int) < (r : Int)) = true := k1; have := of_decide_eq_true k1; omega
            have wq := half s r (by omega)
            obtain ⟨h, hh⟩ : ∃ h, h = (s + r) / 2 := ⟨_, rfl⟩
            rw [← hh] at wq
            obtain ⟨u, hu⟩ := some_at (l := l) (i := h) (by omega)
            obtain ⟨v, hv⟩ := some_at (l := l) (i := mid + m - 1 - h) (by omega)
            have w1 : IntKind.i64.wrap ((h : Int) + 1) = ((h + 1 : Nat) : Int) := wrapS (n := b) (by omega) (by omega)
            have wv : IntKind.i64.wrap (((mid + m - 1 : Nat) : Int) - (h : Int)) = ((mid + m - 1 - h : Nat) : Int) := by rw [wrapI (by omega) (by omega)]; omega
            conv => whnf
            refine ⟨by decide, ?_⟩
            conv => whnf
            rw [wq, wv]
            refine ⟨by omega, by omega, ?_⟩
            conv => whnf
            refine ⟨_, chgD_at hv, ?_⟩
            conv => whnf
            refine ⟨by omega, by omega, ?_⟩
            conv => whnf
            refine ⟨_, chgD_at hu, ?_⟩
            conv => whnf
            refine Sat.mono (hg v u) ?_
            rintro _ rfl
            conv => whnf
            refine cond_i (fun k2 => ?_) (fun k2 => ?_)
            · have hge : ¬ c v u < 0 := by
                have k2 : (!decide (c v u < 0)) = true := k2
                simpa using k2
              conv => whnf
              refine ⟨(h + 1, r), ⟨⟨by show mid + m - b ≤ h + 1; omega, by show h + 1 ≤ r; omega, g3, .inr ⟨u, v, hu, ?_, hcc.ge.1 (by omega)⟩, g5⟩, by show r - (h + 1) < r - s; omega⟩, normW_of ?_⟩
              · rw [← hv]; congr 1; show mid + m - (h + 1) = _; omega
              conv => whnf
              rw [w1]
              rfl
            · have hlt : c v u < 0 := by
                have k2 : (!decide (c v u < 0)) = false := k2
                simpa using k2
              conv => whnf
              refine ⟨(s, h), ⟨⟨g1, by show s ≤ h; omega, by show h ≤ mid; omega, g4, .inr ⟨v, u, hv, hu, by omega⟩⟩, by show h - s < r - s; omega⟩, normW_of ?_⟩
              conv => whnf
              rfl
          · have hij : r = s := by have k1 : decide ((s : Int) < (r : Int)) = false := k1; have := of_decide_eq_false k1; omega
            subst hij
            obtain ⟨e, he⟩ : ∃ e, e = mid + m - r := ⟨_, rfl⟩
            have we : IntKind.i64.wrap (((mid + m : Nat) : Int) - (r : Int)) = (e : Int) := by rw [wrapI (by omega) (by omega)]; omega
            have hb1 : r = a ∨ e = b ∨ LeAt c l (r - 1) e := by
              rcases g4 with g4 | ⟨u, v, q1, q2, q3⟩
              · right; left; omega
              · exact .inr (.inr ⟨u, v, q1, by rw [he]; exact q2, q3⟩)
            have hb2 : r = m ∨ e = m ∨ LeAt c l (e - 1) r := by
              rcases g5 with g5 | ⟨u, v, q1, q2, q3⟩
              · right; left; omega
              · refine .inr (.inr ⟨u, v, ?_, q2, q3⟩)
                rw [← q1]; congr 1; omega
            have hpar := fun (l1 : List Chg) (hr : RotG r m e l l1) => rot_parts hcc (show a ≤ r by omega) (show r ≤ m by omega) (show m ≤ e by omega) (show e ≤ b by omega) hr hs1 hs2 hb1 hb2
            have hmd : r + (e - m) = mid := by omega
            simp only [hmd] at hpar
            conv => whnf
            rw [we]
            refine cond_i (fun f1 => ?_) (fun f1 => ?_)
            · have f1 : r < m ∧ m < e := and_t f1
              conv => whnf
              refine SatH.mono (sat_rotate' g l N r m e f1.1 f1.2 (by omega) hN hl) ?_
              rintro _ rfl
              have hr0 : RotG r m e l (rotL r m e l) := rot_get (by omega) (by omega) (by omega)
              have hw0 : PermW r e l (rotL r m e l) := rot_w (by omega) (by omega) (by omega)
              obtain ⟨l1, hl1⟩ : ∃ l1, l1 = rotL r m e l := ⟨_, rfl⟩
              rw [← hl1] at hr0 hw0 ⊢
              have hr := hr0
              have hw := hw0
              obtain ⟨s1, s2, s3, s4, s5⟩ := hpar l1 hr
              have hn1 := hw.len
              conv => whnf
              refine cond_i (fun f2 => ?_) (fun f2 => ?_)
              · have f2 : a < r ∧ r < mid := and_t f2
                conv => whnf
                refine SatH.mono (ih l1 a r mid (by omega) f2.1 f2.2 (by omega) (by omega) s1 s2) ?_
                rintro _ ⟨l2, p2, t2, rfl⟩
                have hn2 := p2.len
                conv => whnf
                refine cond_i (fun f3 => ?_) (fun f3 => ?_)
                · have f3 : mid < e ∧ e < b := and_t f3
                  conv => whnf
                  refine SatH.mono (ih l2 mid e b (by omega) f3.1 f3.2 (by omega) (by omega) (s3.same fun i i1 _ => p2.out i (.inr i1)) (s4.same fun i i1 _ => p2.out i (.inr (by omega)))) ?_
                  rintro _ ⟨l3, p3, t3, rfl⟩
                  have fin := sym_fin hw (show a ≤ r by omega) (show e ≤ b by omega) p2 p3 (by omega) (by omega) t2 t3 s5
                  conv => whnf
                  exact ⟨l3, fin.1, fin.2, rfl⟩
                · have f3 : e ≤ mid ∨ b ≤ e := and_f f3
                  have t3 : SortW c mid b l2 := by
                    rcases f3 with f3 | f3
                    · exact (s4.mono (show e ≤ mid by omega) (Nat.le_refl _)).same fun i i1 _ => p2.out i (.inr i1)
                    · exact (s3.mono (Nat.le_refl _) (show b ≤ e by omega)).same fun i i1 _ => p2.out i (.inr i1)
                  have fin := sym_fin hw (show a ≤ r by omega) (show e ≤ b by omega) p2 (PermW.refl mid b l2) (by omega) (by omega) t2 t3 s5
                  conv => whnf
                  exact ⟨l2, fin.1, fin.2, rfl⟩
              · have f2 : r ≤ a ∨ mid ≤ r := and_f f2
                have p2 : PermW a mid l1 l1 := PermW.refl _ _ _
                have t2 : SortW c a mid l1 := by
                  rcases f2 with f2 | f2
                  · exact s2.mono (show r ≤ a by omega) (Nat.le_refl _)
                  · exact s1.mono (Nat.le_refl _) (show mid ≤ r by omega)
                conv => whnf
                refine cond_i (fun f3 => ?_) (fun f3 => ?_)
                · have f3 : mid < e ∧ e < b := and_t f3
                  conv => whnf
                  refine SatH.mono (ih l1 mid e b (by omega) f3.1 f3.2 (by omega) (by omega) (s3.same fun i i1 _ => p2.out i (.inr i1)) (s4.same fun i i1 _ => p2.out i (.inr (by omega)))) ?_
                  rintro _ ⟨l3, p3, t3, rfl⟩
                  have fin := sym_fin hw (show a ≤ r by omega) (show e ≤ b by omega) p2 p3 (by omega) (by omega) t2 t3 s5
                  conv => whnf
                  exact ⟨l3, fin.1, fin.2, rfl⟩
                · have f3 : e ≤ mid ∨ b ≤ e := and_f f3
                  have t3 : SortW c mid b l1 := by
                    rcases f3 with f3 | f3
                    · exact (s4.mono (show e ≤ mid by omega) (Nat.le_refl _)).same fun i i1 _ => p2.out i (.inr i1)
                    · exact (s3.mono (Nat.le_refl _) (show b ≤ e by omega)).same fun i i1 _ => p2.out i (.inr i1)
                  have fin := sym_fin hw (show a ≤ r by omega) (show e ≤ b by omega) p2 (PermW.refl mid b l1) (by omega) (by omega) t2 t3 s5
                  conv => whnf
                  exact ⟨l1, fin.1, fin.2, rfl⟩
            · have f1 : m ≤ r ∨ e ≤ m := and_f f1
              have hr : RotG r m e l l := RotG.same (by omega) (by omega) (by omega)
              have hw : PermW r e l l := PermW.refl _ _ _
              obtain ⟨s1, s2, s3, s4, s5⟩ := hpar l hr
              have hn1 := hw.len
              conv => whnf
              refine cond_i (fun f2 => ?_) (fun f2 => ?_)
              · have f2 : a < r ∧ r < mid := and_t f2
                conv => whnf
                refine SatH.mono (ih l a r mid (by omega) f2.1 f2.2 (by omega) (by omega) s1 s2) ?_
                rintro _ ⟨l2, p2, t2, rfl⟩
                have hn2 := p2.len
                conv => whnf
                refine cond_i (fun f3 => ?_) (fun f3 => ?_)
                · have f3 : mid < e ∧ e < b := and_t f3
                  conv => whnf
                  refine SatH.mono (ih l2 mid e b (by omega) f3.1 f3.2 (by omega) (by omega) (s3.same fun i i1 _ => p2.out i (.inr i1)) (s4.same fun i i1 _ => p2.out i (.inr (by omega)))) ?_
                  rintro _ ⟨l3, p3, t3, rfl⟩
                  have fin := sym_fin hw (show a ≤ r by omega) (show e ≤ b by omega) p2 p3 (by omega) (by omega) t2 t3 s5
                  conv => whnf
                  exact ⟨l3, fin.1, fin.2, rfl⟩
                · have f3 : e ≤ mid ∨ b ≤ e := and_f f3
                  have t3 : SortW c mid b l2 := by
                    rcases f3 with f3 | f3
                    · exact (s4.mono (show e ≤ mid by omega) (Nat.le_refl _)).same fun i i1 _ => p2.out i (.inr i1)
                    · exact (s3.mono (Nat.le_refl _) (show b ≤ e by omega)).same fun i i1 _ => p2.out i (.inr i1)
                  have fin := sym_fin hw (show a ≤ r by omega) (show e ≤ b by omega) p2 (PermW.refl mid b l2) (by omega) (by omega) t2 t3 s5
                  conv => whnf
                  exact ⟨l2, fin.1, fin.2, rfl⟩
              · have f2 : r ≤ a ∨ mid ≤ r := and_f f2
                have p2 : PermW a mid l l := PermW.refl _ _ _
                have t2 : SortW c a mid l := by
                  rcases f2 with f2 | f2
                  · exact s2.mono (show r ≤ a by omega) (Nat.le_refl _)
                  · exact s1.mono (Nat.le_refl _) (show mid ≤ r by omega)
                conv => whnf
                refine cond_i (fun f3 => ?_) (fun f3 => ?_)
                · have f3 : mid < e ∧ e < b := and_t f3
                  conv => whnf
                  refine SatH.mono (ih l mid e b (by omega) f3.1 f3.2 (by omega) (by omega) (s3.same fun i i1 _ => p2.out i (.inr i1)) (s4.same fun i i1 _ => p2.out i (.inr (by omega)))) ?_
                  rintro _ ⟨l3, p3, t3, rfl⟩
                  have fin := sym_fin hw (show a ≤ r by omega) (show e ≤ b by omega) p2 p3 (by omega) (by omega) t2 t3 s5
                  conv => whnf
                  exact ⟨l3, fin.1, fin.2, rfl⟩
                · have f3 : e ≤ mid ∨ b ≤ e := and_f f3
                  have t3 : SortW c mid b l := by
                    rcases f3 with f3 | f3
                    · exact (s4.mono (show e ≤ mid by omega) (Nat.le_refl _)).same fun i i1 _ => p2.out i (.inr i1)
                    · exact (s3.mono (Nat.le_refl _) (show b ≤ e by omega)).same fun i i1 _ => p2.out i (.inr i1)
                  have fin := sym_fin hw (show a ≤ r by omega) (show e ≤ b by omega) p2 (PermW.refl mid b l) (by omega) (by omega) t2 t3 s5
                  conv => whnf
                  exact ⟨l, fin.1, fin.2, rfl⟩
      · have hm3 : m ≤ mid := by
          have e3 : decide ((m : Int) > (mid : Int)) = false := e3
          have := of_decide_eq_false e3; omega
        conv => whnf
        rw [wn]
        refine loopF (P := Pg) (f := T3.f) (body := c_slices_symMergeCmpFunc_Change_L4) (fun z : Nat × Nat => symE g N a m b mid (mid + m) z.1 z.2 (mid + m - 1) (chgD l)) (fun z => z.2 - z.1)
          (fun z => a ≤ z.1 ∧ z.1 ≤ z.2 ∧ z.2 ≤ m ∧ (z.1 = a ∨ LeAt c l (z.1 - 1) (mid + m - z.1)) ∧ (z.2 = m ∨ LeAt c l (mid + m - 1 - z.2) z.2))
          ⟨(a, m), ⟨Nat.le_refl _, by show a ≤ m; omega, Nat.le_refl _, .inl rfl, .inl rfl⟩, normW_of ?_⟩ ?_
        · conv => whnf
          rw [wp]
          rfl
        · rintro ⟨s, r⟩ hR
          have hS : a ≤ s ∧ s ≤ r ∧ r ≤ m ∧ (s = a ∨ LeAt c l (s - 1) (mid + m - s)) ∧ (r = m ∨ LeAt c l (mid + m - 1 - r) r) := hR
          clear hR
          obtain ⟨g1, g2, g3, g4, g5⟩ := hS
          conv => whnf
          refine cond_i (fun k1 => ?_) (fun k1 => ?_)
          · have hij : s < r := by have k1 : decide ((s : Int) < (r : Int)) = true := k1; have := of_decide_eq_true k1; omega
            have wq := half s r (by omega)
            obtain ⟨h, hh⟩ : ∃ h, h = (s + r) / 2 := ⟨_, rfl⟩
            rw [← hh] at wq
            obtain ⟨u, hu⟩ := some_at (l := l) (i := h) (by omega)
            obtain ⟨v, hv⟩ := some_at (l := l) (i := mid + m - 1 - h) (by omega)
            have w1 : IntKind.i64.wrap ((h : Int) + 1) = ((h + 1 : Nat) : Int) := wrapS (n := b) (by omega) (by omega)
            have wv : IntKind.i64.wrap (((mid + m - 1 : Nat) : Int) - (h : Int)) = ((mid + m - 1 - h : Nat) : Int) := by rw [wrapI (by omega) (by omega)]; omega
            conv => whnf
            refine ⟨by decide, ?_⟩
            conv => whnf
            rw [wq, wv]
            refine ⟨by omega, by omega, ?_⟩
            conv => whnf
            refine ⟨_, chgD_at hv, ?_⟩
            conv => whnf
            refine ⟨by omega, by omega, ?_⟩
            conv => whnf
            refine ⟨_, chgD_at hu, ?_⟩
            conv => whnf
            refine Sat.mono (hg v u) ?_
            rintro _ rfl
            conv => whnf
            refine cond_i (fun k2 => ?_) (fun k2 => ?_)
            · have hge : ¬ c v u < 0 := by
                have k2 : (!decide (c v u < 0)) = true := k2
                simpa using k2
              conv => whnf
              refine ⟨(h + 1, r), ⟨⟨by show a ≤ h + 1; omega, by show h + 1 ≤ r; omega, g3, .inr ⟨u, v, hu, ?_, hcc.ge.1 (by omega)⟩, g5⟩, by show r - (h + 1) < r - s; omega⟩, normW_of ?_⟩
              · rw [← hv]; congr 1; show mid + m - (h + 1) = _; omega
              conv => whnf
              rw [w1]
              rfl
            · have hlt : c v u < 0 := by
                have k2 : (!decide (c v u < 0)) = false := k2
                simpa using k2
              conv => whnf
              refine ⟨(s, h), ⟨⟨g1, by show s ≤ h; omega, by show h ≤ m; omega, g4, .inr ⟨v, u, hv, hu, by omega⟩⟩, by show h - s < r - s; omega⟩, normW_of ?_⟩
              conv => whnf
              rfl
          · have hij : r = s := by have k1 : decide ((s : Int) < (r : Int)) = false := k1; have := of_decide_eq_false k1; omega
            subst hij
            obtain ⟨e, he⟩ : ∃ e, e = mid + m - r := ⟨_, rfl⟩
            have we : IntKind.i64.wrap (((mid + m : Nat) : Int) - (r : Int)) = (e : Int) := by rw [wrapI (by omega) (by omega)]; omega
            have hb1 : r = a ∨ e = b ∨ LeAt c l (r - 1) e := by
              rcases g4 with g4 | ⟨u, v, q1, q2, q3⟩
              · left; exact g4
              · exact .inr (.inr ⟨u, v, q1, by rw [he]; exact q2, q3⟩)
            have hb2 : r = m ∨ e = m ∨ LeAt c l (e - 1) r := by
              rcases g5 with g5 | ⟨u, v, q1, q2, q3⟩
              · left; exact g5
              · refine .inr (.inr ⟨u, v, ?_, q2, q3⟩)
                rw [← q1]; congr 1; omega
            have hpar := fun (l1 : List Chg) (hr : RotG r m e l l1) => rot_parts hcc (show a ≤ r by omega) (show r ≤ m by omega) (show m ≤ e by omega) (show e ≤ b by omega) hr hs1 hs2 hb1 hb2
            have hmd : r + (e - m) = mid := by omega
            simp only [hmd] at hpar
            conv => whnf
            rw [we]
            refine cond_i (fun f1 => ?_) (fun f1 => ?_)
            · have f1 : r < m ∧ m < e := and_t f1
              conv => whnf
              refine SatH.mono (sat_rotate' g l N r m e f1.1 f1.2 (by omega) hN hl) ?_
              rintro _ rfl
              have hr0 : RotG r m e l (rotL r m e l) := rot_get (by omega) (by omega) (by omega)
              have hw0 : PermW r e l (rotL r m e l) := rot_w (by omega) (by omega) (by omega)
              obtain ⟨l1, hl1⟩ : ∃ l1, l1 = rotL r m e l := ⟨_, rfl⟩
              rw [← hl1] at hr0 hw0 ⊢
              have hr := hr0
              have hw := hw0
              obtain ⟨s1, s2, s3, s4, s5⟩ := hpar l1 hr
              have hn1 := hw.len
              conv => whnf
              refine cond_i (fun f2 => ?_) (fun f2 => ?_)
              · have f2 : a < r ∧ r < mid := and_t f2
                conv => whnf
                refine SatH.mono (ih l1 a r mid (by omega) f2.1 f2.2 (by omega) (by omega) s1 s2) ?_
                rintro _ ⟨l2, p2, t2, rfl⟩
                have hn2 := p2.len
                conv => whnf
                refine cond_i (fun f3 => ?_) (fun f3 => ?_)
                · have f3 : mid < e ∧ e < b := and_t f3
                  conv => whnf
                  refine SatH.mono (ih l2 mid e b (by omega) f3.1 f3.2 (by omega) (by omega) (s3.same fun i i1 _ => p2.out i (.inr i1)) (s4.same fun i i1 _ => p2.out i (.inr (by omega)))) ?_
                  rintro _ ⟨l3, p3, t3, rfl⟩
                  have fin := sym_fin hw (show a ≤ r by omega) (show e ≤ b by omega) p2 p3 (by omega) (by omega) t2 t3 s5
                  conv => whnf
                  exact ⟨l3, fin.1, fin.2, rfl⟩
                · have f3 : e ≤ mid ∨ b ≤ e := and_f f3
                  have t3 : SortW c mid b l2 := by
                    rcases f3 with f3 | f3
                    · exact (s4.mono (show e ≤ mid by omega) (Nat.le_refl _)).same fun i i1 _ => p2.out i (.inr i1)
                    · exact (s3.mono (Nat.le_refl _) (show b ≤ e by omega)).same fun i i1 _ => p2.out i (.inr i1)
                  have fin := sym_fin hw (show a ≤ r by omega) (show e ≤ b by omega) p2 (PermW.refl mid b l2) (by omega) (by omega) t2 t3 s5
                  conv => whnf
                  exact ⟨l2, fin.1, fin.2, rfl⟩
              · have f2 : r ≤ a ∨ mid ≤ r := and_f f2
                have p2 : PermW a mid l1 l1 := PermW.refl _ _ _
                have t2 : SortW c a mid l1 := by
                  rcases f2 with f2 | f2
                  · exact s2.mono (show r ≤ a by omega) (Nat.le_refl _)
                  · exact s1.mono (Nat.le_refl _) (show mid ≤ r by omega)
                conv => whnf
                refine cond_i (fun f3 => ?_) (fun f3 => ?_)
                · have f3 : mid < e ∧ e < b := and_t f3
                  conv => whnf
                  refine SatH.mono (ih l1 mid e b (by omega) f3.1 f3.2 (by omega) (by omega) (s3.same fun i i1 _ => p2.out i (.inr i1)) (s4.same fun i i1 _ => p2.out i (.inr (by omega)))) ?_
                  rintro _ ⟨l3, p3, t3, rfl⟩
                  have fin := sym_fin hw (show a ≤ r by omega) (show e ≤ b by omega) p2 p3 (by omega) (by omega) t2 t3 s5
                  conv => whnf
                  exact ⟨l3, fin.1, fin.2, rfl⟩
                · have f3 : e ≤ mid ∨ b ≤ e := and_f f3
                  have t3 : SortW c mid b l1 := by
                    rcases f3 with f3 | f3
                    · exact (s4.mono (show e ≤ mid by omega) (Nat.le_refl _)).same fun i i1 _ => p2.out i (.inr i1)
                    · exact (s3.mono (Nat.le_refl _) (show b ≤ e by omega)).same fun i i1 _ => p2.out i (.inr i1)
                  have fin := sym_fin hw (show a ≤ r by omega) (show e ≤ b by omega) p2 (PermW.refl mid b l1) (by omega) (by omega) t2 t3 s5
                  conv => whnf
                  exact ⟨l1, fin.1, fin.2, rfl⟩
            · have f1 : m ≤ r ∨ e ≤ m := and_f f1
              have hr : RotG r m e l l := RotG.same (by omega) (by omega) (by omega)
              have hw : PermW r e l l := PermW.refl _ _ _
              obtain ⟨s1, s2, s3, s4, s5⟩ := hpar l hr
              have hn1 := hw.len
              conv => whnf
              refine cond_i (fun f2 => ?_) (fun f2 => ?_)
              · have f2 : a < r ∧ r < mid := and_t f2
                conv => whnf
                refine SatH.mono (ih l a r mid (by omega) f2.1 f2.2 (by omega) (by omega) s1 s2) ?_
                rintro _ ⟨l2, p2, t2, rfl⟩
                have hn2 := p2.len
                conv => whnf
                refine cond_i (fun f3 => ?_) (fun f3 => ?_)
                · have f3 : mid < e ∧ e < b := and_t f3
                  conv => whnf
                  refine SatH.mono (ih l2 mid e b (by omega) f3.1 f3.2 (by omega) (by omega) (s3.same fun i i1 _ => p2.out i (.inr i1)) (s4.same fun i i1 _ => p2.out i (.inr (by omega)))) ?_
                  rintro _ ⟨l3, p3, t3, rfl⟩
                  have fin := sym_fin hw (show a ≤ r by omega) (show e ≤ b by omega) p2 p3 (by omega) (by omega) t2 t3 s5
                  conv => whnf
                  exact ⟨l3, fin.1, fin.2, rfl⟩
                · have f3 : e ≤ mid ∨ b ≤ e := and_f f3
                  have t3 : SortW c mid b l2 := by
                    rcases f3 with f3 | f3
                    · exact (s4.mono (show e ≤ mid by omega) (Nat.le_refl _)).same fun i i1 _ => p2.out i (.inr i1)
                    · exact (s3.mono (Nat.le_refl _) (show b ≤ e by omega)).same fun i i1 _ => p2.out i (.inr i1)
                  have fin := sym_fin hw (show a ≤ r by omega) (show e ≤ b by omega) p2 (PermW.refl mid b l2) (by omega) (by omega) t2 t3 s5
                  conv => whnf
                  exact ⟨l2, fin.1, fin.2, rfl⟩
              · have f2 : r ≤ a ∨ mid ≤ r := and_f f2
                have p2 : PermW a mid l l := PermW.refl _ _ _
                have t2 : SortW c a mid l := by
                  rcases f2 with f2 | f2
                  · exact s2.mono (show r ≤ a by omega) (Nat.le_refl _)
                  · exact s1.mono (Nat.le_refl _) (show mid ≤ r by omega)
                conv => whnf
                refine cond_i (fun f3 => ?_) (fun f3 => ?_)
                · have f3 : mid < e ∧ e < b := and_t f3
                  conv => whnf
                  refine SatH.mono (ih l mid e b (by omega) f3.1 f3.2 (by omega) (by omega) (s3.same fun i i1 _ => p2.out i (.inr i1)) (s4.same fun i i1 _ => p2.out i (.inr (by omega)))) ?_
                  rintro _ ⟨l3, p3, t3, rfl⟩
                  have fin := sym_fin hw (show a ≤ r by omega) (show e ≤ b by omega) p2 p3 (by omega) (by omega) t2 t3 s5
                  conv => whnf
                  exact ⟨l3, fin.1, fin.2, rfl⟩
                · have f3 : e ≤ mid ∨ b ≤ e := and_f f3
                  have t3 : SortW c mid b l := by
                    rcases f3 with f3 | f3
                    · exact (s4.mono (show e ≤ mid by omega) (Nat.le_refl _)).same fun i i1 _ => p2.out i (.inr i1)
                    · exact (s3.mono (Nat.le_refl _) (show b ≤ e by omega)).same fun i i1 _ => p2.out i (.inr i1)
                  have fin := sym_fin hw (show a ≤ r by omega) (show e ≤ b by omega) p2 (PermW.refl mid b l) (by omega) (by omega) t2 t3 s5
                  conv => whnf
                  exact ⟨l, fin.1, fin.2, rfl⟩
end Go.Proofs.YtcajnlkkjdhjdaaGreat

namespace Go.Proofs.YtcajnlkkjdhjdaaGreat
open Go Go.AM
attribute [local irreducible] Sat SatH LoopP
set_option maxRecDepth 100000
set_option maxHeartbeats 1000000

section
variable {α : Type} {c : α → α → Int}
/-- The blocks of bs are sorted, up to e. -/
def BlkT (c : α → α → Int) (bs e : Nat) (l : List α) : Prop := ∀ k, SortW c (k * bs) (min ((k + 1) * bs) e) l
/-- The blocks of bs are sorted, from a on up to n. -/
def BlkF (c : α → α → Int) (bs a n : Nat) (l : List α) : Prop := ∀ k, a ≤ k * bs → SortW c (k * bs) (min ((k + 1) * bs) n) l

theorem BlkT.zero (bs : Nat) (l : List α) : BlkT c bs 0 l := fun k => SortW.one _ _ _ (by omega)
theorem BlkT.ext {bs q e : Nat} {l l' : List α} (h : BlkT c bs (q * bs) l) (hp : PermW (q * bs) e l l') (hs : SortW c (q * bs) e l') (h1 : q * bs ≤ e) (h2 : e ≤ (q + 1) * bs) : BlkT c bs e l' := by
  intro k
  rcases Nat.lt_trichotomy k q with hk | hk | hk
  · have e1 : (k + 1) * bs ≤ q * bs := Nat.mul_le_mul_right _ hk
    have := h k
    rw [Nat.min_eq_left e1] at this
    rw [Nat.min_eq_left (Nat.le_trans e1 h1)]
    exact this.same fun i _ i2 => hp.out i (.inl (by omega))
  · subst hk
    rw [Nat.min_eq_right h2]
    exact hs
  · have e1 : (q + 1) * bs ≤ k * bs := Nat.mul_le_mul_right _ hk
    exact SortW.one _ _ _ (by omega)
theorem BlkT.blkF {bs n : Nat} {l : List α} (h : BlkT c bs n l) : BlkF c bs 0 n l := fun k _ => h k
theorem BlkF.next {bs a e n : Nat} {l l' : List α} (h : BlkF c bs a n l) (hp : PermW a e l l') (h1 : a ≤ e) : BlkF c bs e n l' := fun k hk => (h k (by omega)).same fun i i1 _ => hp.out i (.inr (by omega))
theorem BlkF.at0 {bs q n : Nat} {l : List α} (h : BlkF c bs (q * (2 * bs)) n l) : SortW c (q * (2 * bs)) (min (q * (2 * bs) + bs) n) l := by
  have e0 : q * (2 * bs) = (2 * q) * bs := by rw [Nat.mul_comm 2 q, Nat.mul_assoc]
  have e1 : (2 * q + 1) * bs = 2 * q * bs + bs := Nat.succ_mul (2 * q) bs
  have := h (2 * q) (by omega)
  rw [e1] at this
  rw [e0]; exact this
theorem BlkF.at1 {bs q n : Nat} {l : List α} (h : BlkF c bs (q * (2 * bs)) n l) : SortW c (q * (2 * bs) + bs) (min (q * (2 * bs) + bs + bs) n) l := by
  have e0 : q * (2 * bs) = (2 * q) * bs := by rw [Nat.mul_comm 2 q, Nat.mul_assoc]
  have e1 : (2 * q + 1) * bs = 2 * q * bs + bs := Nat.succ_mul (2 * q) bs
  have e2 : (2 * q + 1 + 1) * bs = 2 * q * bs + bs + bs := by rw [Nat.succ_mul (2 * q + 1) bs, e1]
  have := h (2 * q + 1) (by rw [e1, e0]; omega)
  rw [e1, e2] at this
  rw [e0]; exact this
end

def stS (g : FuncId) (N n bs a b : Nat) (els : List (List D)) : S := ⟨[(0, cV (.own 100000 2 N)), (1, intV n), (2, .w (.c (.d (.fn g [])))), (6, intV bs), (7, intV a), (8, intV b)], [(100000, .arr 2 els false)]⟩
def stT (g : FuncId) (N n bs : Nat) (els : List (List D)) : S := ⟨[(0, cV (.own 100000 2 N)), (1, intV n), (2, .w (.c (.d (.fn g [])))), (6, intV bs)], [(100000, .arr 2 els false)]⟩

theorem sat_insSort' (g : FuncId) (c : Chg → Chg → Int) (hcc : CmpOK c) (hg : ∀ x y : Chg, Sat Pg g [x.w, y.w] (fun r => r = rI (c x y))) (N : Nat) (l : List Chg) (a b : Nat) (hN : l.length = N) (hab : a ≤ b) (hb : b ≤ N) (hl : N ≤ 1000000) :
    SatH Pg k_slices_insertionSortCmpFunc_Change [.c (.own 0 2 N), .c (int a), .c (int b), .c (.d (.fn g []))] [.arr 2 (chgD l) false]
      (fun r => ∃ l' : List Chg, PermW a b l l' ∧ SortW c a b l' ∧ r = ⟨.tup [], [.arr 2 (chgD l') false]⟩) := by
  subst hN
  exact sat_insSort g c hcc hg l a b hab hb hl

theorem sat_stable (g : FuncId) (c : Chg → Chg → Int) (hcc : CmpOK c) (hg : ∀ x y : Chg, Sat Pg g [x.w, y.w] (fun r => r = rI (c x y))) (l : List Chg) (n : Nat) (hn : l.length = n) (hl : n ≤ 1000000) :
    SatH Pg k_slices_stableCmpFunc_Change [.c (.own 0 2 n), .c (int n), .c (.d (.fn g []))] [.arr 2 (chgD l) false]
      (fun r => ∃ l' : List Chg, PermW 0 n l l' ∧ SortW c 0 n l' ∧ r = ⟨.tup [], [.arr 2 (chgD l') false]⟩) := by
  refine SatH_of T3 c_slices_stableCmpFunc_Change_ok (by kernel_rfl) (by simp) ?_
  conv => whnf
  refine loopF (P := Pg) (f := T3.f) (body := c_slices_stableCmpFunc_Change_L0) (fun z : Nat × List Chg => stS g n n 20 (z.1 * 20) (z.1 * 20 + 20) (chgD z.2)) (fun z => n - z.1 * 20)
    (fun z => z.1 * 20 ≤ n ∧ PermW 0 n l z.2 ∧ BlkT c 20 (z.1 * 20) z.2)
    ⟨(0, l), ⟨by show 0 * 20 ≤ n; omega, PermW.refl _ _ _, by show BlkT c 20 (0 * 20) l; rw [Nat.zero_mul]; exact BlkT.zero _ _⟩, normW_of ?_⟩ ?_
  · conv => whnf
    rfl
  · rintro ⟨q, l1⟩ hR
    have hS : q * 20 ≤ n ∧ PermW 0 n l l1 ∧ BlkT c 20 (q * 20) l1 := hR
    clear hR
    obtain ⟨g1, g2, g3⟩ := hS
    have g4 := g2.len
    obtain ⟨a, ha⟩ : ∃ a, a = q * 20 := ⟨_, rfl⟩
    show mwpR Pg T3.f c_slices_stableCmpFunc_Change_L0 _ (stS g n n 20 (q * 20) (q * 20 + 20) (chgD l1))
    rw [← ha] at g1 g3 ⊢
    conv => whnf
    refine cond_i (fun k1 => ?_) (fun k1 => ?_)
    · have hlt : a + 20 ≤ n := by have k1 : decide (((a + 20 : Nat) : Int) ≤ (n : Int)) = true := k1; have := of_decide_eq_true k1; omega
      have wb : IntKind.i64.wrap (((a + 20 : Nat) : Int) + ((20 : Nat) : Int)) = ((a + 20 + 20 : Nat) : Int) := by rw [wrapI (by omega) (by omega)]; omega
      conv => whnf
      refine SatH.mono (sat_insSort' g c hcc hg n l1 a (a + 20) (by omega) (by omega) hlt hl) ?_
      rintro _ ⟨l2, p2, s2, rfl⟩
      conv => whnf
      have e1 : (q + 1) * 20 = a + 20 := by omega
      refine ⟨(q + 1, l2), ⟨⟨by show (q + 1) * 20 ≤ n; omega, g2.trans (p2.mono (Nat.zero_le _) hlt), ?_⟩, by show n - (q + 1) * 20 < n - a; omega⟩, normW_of ?_⟩
      · show BlkT c 20 ((q + 1) * 20) l2
        rw [ha] at g3 p2 s2
        exact g3.ext (e := (q + 1) * 20) (by rw [Nat.succ_mul]; exact p2) (by rw [Nat.succ_mul]; exact s2) (by omega) (Nat.le_refl _)
      · conv => whnf
        rw [wb]
        show stS g n n 20 (a + 20) (a + 20 + 20) (chgD l2) = stS g n n 20 ((q + 1) * 20) ((q + 1) * 20 + 20) (chgD l2)
        rw [e1]
    · have hge : n < a + 20 := by have k1 : decide (((a + 20 : Nat) : Int) ≤ (n : Int)) = false := k1; have := of_decide_eq_false k1; omega
      conv => whnf
      refine SatH.mono (sat_insSort' g c hcc hg n l1 a n (by omega) g1 (Nat.le_refl _) hl) ?_
      rintro _ ⟨l2, p2, s2, rfl⟩
      have b2 : BlkT c 20 n l2 := by
        rw [ha] at g3 p2 s2
        exact g3.ext p2 s2 (by omega) (by rw [Nat.succ_mul]; omega)
      have q2 : PermW 0 n l l2 := g2.trans (p2.mono (Nat.zero_le _) (Nat.le_refl _))
      clear p2 s2 g3 g2 g4
      conv => whnf
      refine loopF (P := Pg) (f := T3.f) (body := c_slices_stableCmpFunc_Change_L2) (fun z : Nat × List Chg => stT g n n z.1 (chgD z.2)) (fun z => n - z.1)
        (fun z => 0 < z.1 ∧ z.1 ≤ 2000000 ∧ PermW 0 n l z.2 ∧ BlkT c z.1 n z.2)
        ⟨(20, l2), ⟨by show 0 < 20; omega, by show 20 ≤ 2000000; omega, q2, b2⟩, normW_of ?_⟩ ?_
      · conv => whnf
        rfl
      · rintro ⟨bs, l3⟩ hR
        have hS : 0 < bs ∧ bs ≤ 2000000 ∧ PermW 0 n l l3 ∧ BlkT c bs n l3 := hR
        clear hR
        obtain ⟨g1, g2, g3, g4⟩ := hS
        conv => whnf
        refine cond_i (fun k2 => ?_) (fun k2 => ?_)
        · have hbs : bs < n := by have k2 : decide ((bs : Int) < (n : Int)) = true := k2; have := of_decide_eq_true k2; omega
          have w2 : IntKind.i64.wrap (2 * (bs : Int)) = ((2 * bs : Nat) : Int) := by rw [wrapI (by omega) (by omega)]; omega
          have w3 : IntKind.i64.wrap ((bs : Int) * 2) = ((2 * bs : Nat) : Int) := by rw [wrapI (by omega) (by omega)]; omega
          conv => whnf
          refine loopF (P := Pg) (f := T3.f) (body := c_slices_stableCmpFunc_Change_L1) (fun z : Nat × List Chg => stS g n n bs (z.1 * (2 * bs)) (z.1 * (2 * bs) + 2 * bs) (chgD z.2)) (fun z => n - z.1 * (2 * bs))
            (fun z => z.1 * (2 * bs) ≤ n ∧ PermW 0 n l z.2 ∧ BlkT c (2 * bs) (z.1 * (2 * bs)) z.2 ∧ BlkF c bs (z.1 * (2 * bs)) n z.2)
            ⟨(0, l3), ⟨by show 0 * (2 * bs) ≤ n; omega, g3, by show BlkT c (2 * bs) (0 * (2 * bs)) l3; rw [Nat.zero_mul]; exact BlkT.zero _ _, by show BlkF c bs (0 * (2 * bs)) n l3; rw [Nat.zero_mul]; exact g4.blkF⟩, normW_of ?_⟩ ?_
          · conv => whnf
            rw [w2]
            show stS g n n bs 0 (2 * bs) (chgD l3) = stS g n n bs (0 * (2 * bs)) (0 * (2 * bs) + 2 * bs) (chgD l3)
            rw [Nat.zero_mul, Nat.zero_add]
          · rintro ⟨q, l4⟩ hR
            have hS : q * (2 * bs) ≤ n ∧ PermW 0 n l l4 ∧ BlkT c (2 * bs) (q * (2 * bs)) l4 ∧ BlkF c bs (q * (2 * bs)) n l4 := hR
            clear hR
            obtain ⟨r1, r2, r3, r4⟩ := hS
            have r5 := r2.len
            have s1 := r4.at0
            have s2 := r4.at1
            obtain ⟨a, ha⟩ : ∃ a, a = q * (2 * bs) := ⟨_, rfl⟩
            show mwpR Pg T3.f c_slices_stableCmpFunc_Change_L1 _ (stS g n n bs (q * (2 * bs)) (q * (2 * bs) + 2 * bs) (chgD l4))
            rw [← ha] at r1 r3 r4 s1 s2 ⊢
            have w4 : IntKind.i64.wrap ((a : Int) + (bs : Int)) = ((a + bs : Nat) : Int) := by rw [wrapI (by omega) (by omega)]; omega
            conv => whnf
            refine cond_i (fun k3 => ?_) (fun k3 => ?_)
            · have hlt : a + 2 * bs ≤ n := by have k3 : decide (((a + 2 * bs : Nat) : Int) ≤ (n : Int)) = true := k3; have := of_decide_eq_true k3; omega
              have w5 : IntKind.i64.wrap (((a + 2 * bs : Nat) : Int) + ((2 * bs : Nat) : Int)) = ((a + 2 * bs + 2 * bs : Nat) : Int) := by rw [wrapI (by omega) (by omega)]; omega
              rw [Nat.min_eq_left (by omega)] at s1 s2
              conv => whnf
              rw [w4]
              refine SatH.mono (sat_symMerge g c hcc hg n hl _ l4 a (a + bs) (a + 2 * bs) (Nat.le_refl _) (by omega) (by omega) (by omega) (by omega) s1 (s2.mono (Nat.le_refl _) (by omega))) ?_
              rintro _ ⟨l5, p5, t5, rfl⟩
              have e1 : (q + 1) * (2 * bs) = a + 2 * bs := by rw [Nat.succ_mul, ha]
              conv => whnf
              refine ⟨(q + 1, l5), ⟨⟨by show (q + 1) * (2 * bs) ≤ n; omega, r2.trans (p5.mono (Nat.zero_le _) hlt), ?_, ?_⟩, by show n - (q + 1) * (2 * bs) < n - a; rw [e1]; omega⟩, normW_of ?_⟩
              · show BlkT c (2 * bs) ((q + 1) * (2 * bs)) l5
                rw [e1]
                have e2 := e1
                subst ha
                exact r3.ext p5 t5 (by omega) (by omega)
              · show BlkF c bs ((q + 1) * (2 * bs)) n l5
                rw [e1]
                exact r4.next p5 (by omega)
              · conv => whnf
                rw [w2, w5]
                show stS g n n bs (a + 2 * bs) (a + 2 * bs + 2 * bs) (chgD l5) = stS g n n bs ((q + 1) * (2 * bs)) ((q + 1) * (2 * bs) + 2 * bs) (chgD l5)
                rw [e1]
            · have hge : n < a + 2 * bs := by have k3 : decide (((a + 2 * bs : Nat) : Int) ≤ (n : Int)) = false := k3; have := of_decide_eq_false k3; omega
              have e1 : (q + 1) * (2 * bs) = a + 2 * bs := by rw [Nat.succ_mul, ha]
              conv => whnf
              rw [w4]
              refine cond_i (fun k4 => ?_) (fun k4 => ?_)
              · have hm : a + bs < n := by have k4 : decide (((a + bs : Nat) : Int) < (n : Int)) = true := k4; have := of_decide_eq_true k4; omega
                rw [Nat.min_eq_left (by omega)] at s1
                rw [Nat.min_eq_right (by omega)] at s2
                conv => whnf
                refine SatH.mono (sat_symMerge g c hcc hg n hl _ l4 a (a + bs) n (Nat.le_refl _) (by omega) (by omega) (by omega) (by omega) s1 s2) ?_
                rintro _ ⟨l5, p5, t5, rfl⟩
                conv => whnf
                refine ⟨(2 * bs, l5), ⟨⟨by show 0 < 2 * bs; omega, by show 2 * bs ≤ 2000000; omega, r2.trans (p5.mono (Nat.zero_le _) (Nat.le_refl _)), ?_⟩, by show n - 2 * bs < n - bs; omega⟩, normW_of ?_⟩
                · show BlkT c (2 * bs) n l5
                  subst ha
                  exact r3.ext p5 t5 r1 (by omega)
                · conv => whnf
                  rw [w3]
                  rfl
              · have hm : n ≤ a + bs := by have k4 : decide (((a + bs : Nat) : Int) < (n : Int)) = false := k4; have := of_decide_eq_false k4; omega
                rw [Nat.min_eq_right (by omega)] at s1
                conv => whnf
                refine ⟨(2 * bs, l4), ⟨⟨by show 0 < 2 * bs; omega, by show 2 * bs ≤ 2000000; omega, r2, ?_⟩, by show n - 2 * bs < n - bs; omega⟩, normW_of ?_⟩
                · show BlkT c (2 * bs) n l4
                  subst ha
                  exact r3.ext (PermW.refl _ _ _) s1 r1 (by omega)
                · conv => whnf
                  rw [w3]
                  rfl
        · have hbs : n ≤ bs := by have k2 : decide ((bs : Int) < (n : Int)) = false := k2; have := of_decide_eq_false k2; omega
          have s0 := g4 0
          rw [Nat.zero_mul, Nat.zero_add, Nat.one_mul, Nat.min_eq_right hbs] at s0
          conv => whnf
          exact ⟨l3, g3, s0, rfl⟩

theorem sat_SortStable (g : FuncId) (c : Chg → Chg → Int) (hcc : CmpOK c) (hg : ∀ x y : Chg, Sat Pg g [x.w, y.w] (fun r => r = rI (c x y))) (l : List Chg) (n : Nat) (hn : l.length = n) (hl : n ≤ 1000000) :
    SatH Pg k_slices_SortStableFunc_Change [.c (.own 0 2 n), .c (.d (.fn g []))] [.arr 2 (chgD l) false]
      (fun r => ∃ l' : List Chg, PermW 0 n l l' ∧ SortW c 0 n l' ∧ r = ⟨.tup [], [.arr 2 (chgD l') false]⟩) := by
  refine SatH_of T3 c_slices_SortStableFunc_Change_ok (by kernel_rfl) (by simp) ?_
  conv => whnf
  refine SatH.mono (sat_stable g c hcc hg l n hn hl) ?_
  rintro _ ⟨l', h1, h2, rfl⟩
  conv => whnf
  exact ⟨l', h1, h2, rfl⟩
end Go.Proofs.YtcajnlkkjdhjdaaGreat

namespace Go.Proofs.YtcajnlkkjdhjdaaGreat
open Go Go.AM
set_option maxRecDepth 100000

theorem handed_nil (ι : Nat → Gh) : Go.AM.Handed ι [] = fun _ => False := by
  funext b
  apply propext
  exact ⟨fun ⟨i, x, h, _⟩ => by simp at h, fun h => h.elim⟩
theorem wrs_plain {ι : Nat → Gh} {w : World} {A : Nat → Prop} : ∀ {args : List W} {vals : List Value}, (∀ x ∈ args, ∃ d, x = .c (.d d)) → WRs ι w A args vals → WRs (fun _ => ⟨none, 0⟩) w A args vals
  | [], [], _, _ => trivial
  | [], _ :: _, _, h => h.elim
  | _ :: _, [], _, h => h.elim
  | x :: r, v :: vs, hp, h => by
    obtain ⟨d, rfl⟩ := hp x (List.mem_cons_self ..)
    exact ⟨h.1, wrs_plain (fun y hy => hp y (List.mem_cons_of_mem _ hy)) h.2⟩
theorem Sat_toH {P : Program} {k : Nat} {args : List W} {Q : Res → Prop} (h : Sat P k args Q) (hp : ∀ x ∈ args, ∃ d, x = .c (.d d)) : SatH P k args [] Q := by
  refine ⟨h.1, fun w A ι vals hA hH hP hinj hW => (h.2 w A vals (fun b hb => (hA b hb).1) (wrs_plain hp hW)).mono ?_⟩
  rintro e w' ⟨v, r, he, hq, hres, hg⟩
  rw [handed_nil]
  obtain ⟨h1, ι', h2, h3, h4, h5, h6, _⟩ := hres
  exact ⟨v, r, he, hq, ⟨h1, ι', h2, h3, h4, h5, h6, fun p x hp => absurd hp (Nat.not_lt_zero _)⟩, hg⟩

attribute [local irreducible] Sat SatH LoopP

def addC (out : List Chg) (x : Chg) : List Chg :=
  match out.getLast? with
  | some y => bif ordR y.row x.row == 0 then out.dropLast ++ [⟨y.row, IntKind.i64.wrap (y.n + x.n)⟩] else out ++ [x]
  | none => [x]
def grp (l : List Chg) : List Chg := l.foldl addC []
theorem addC_len (out : List Chg) (x : Chg) : (addC out x).length ≤ out.length + 1 := by
  unfold addC
  split
  · cases (ordR _ x.row == 0)
    · simp
    · simp
  · simp

theorem snoc {α : Type} : ∀ (l : List α), 0 < l.length → ∃ o y, l = o ++ [y]
  | [], h => absurd h (Nat.lt_irrefl 0)
  | [x], _ => ⟨[], x, rfl⟩
  | x :: z :: r, _ => by
    obtain ⟨o, y, h⟩ := snoc (z :: r) (by simp)
    exact ⟨x :: o, y, by rw [h]; rfl⟩

def cntC (k : Int) (r : List Val) : Chg := ⟨r, k⟩
def cntS (k : Int) (ys : List (List Val)) (n i : Nat) (els : List (List D)) : S := ⟨[(1, intV k), (6, cV (.own 49 2 n)), (13, .w (.c (.d (.sl (rowsD ys))))), (14, intV ys.length), (15, intV i)], [(49, .arr 2 els false)]⟩

theorem one_sz (x : Chg) : ∀ y ∈ List.take [x.ds].length [x.ds], y.length = 2 := by
  intro y hy
  have hy : y ∈ [x.ds] := hy
  rw [List.mem_singleton] at hy
  rw [hy]; rfl
theorem app_fin (k : Int) (ys : List (List Val)) (out : List Chg) (x : Chg) (i : Nat) : cntS k ys (out.length + 1) i ((chgD out).take out.length ++ [x.ds]) = cntS k ys (out ++ [x]).length i (chgD (out ++ [x])) := by
  have : (chgD out).take out.length = chgD out := by rw [← chgD_len, List.take_length]
  rw [this, List.length_append, ← chgD_app]
  rfl

theorem sat_counted (rows : List (List Val)) (k : Int) (hl : rows.length ≤ 100000) :
    Sat Pg k_delta_counted [.c (.d (.sl (rowsD rows))), .c (int k)] (fun r => ∃ ys : List (List Val), ys.Perm rows ∧ ys.Pairwise (fun a b => ¬ ordR b a < 0) ∧ r = rC (.d (.sl (chgD (grp (ys.map (cntC k))))))) := by
  refine Sat.data (Q := fun r => ∃ ys : List (List Val), ys.Perm rows ∧ ys.Pairwise (fun a b => ¬ ordR b a < 0) ∧ DQ (rC (.d (.sl (chgD (grp (ys.map (cntC k))))))) r) ?_ (fun r ⟨ys, h1, h2, h3, h4⟩ => ⟨h3, ys, h1, h2, h4⟩)
  refine Sat_of T3 c_delta_counted_ok (by kernel_rfl) ?_
  conv => whnf
  refine Sat.mono (sat_Values rows) ?_
  rintro _ rfl
  conv => whnf
  refine SatH.mono (Sat_toH (sat_SortedFunc rows (by omega)) (by intro x hx; simp at hx; rcases hx with rfl | rfl <;> exact ⟨_, rfl⟩)) ?_
  rintro _ ⟨ys, hp, hs, rfl⟩
  have hlen := hp.length_eq
  conv => whnf
  refine loopI (P := Pg) (f := T3.f) (body := c_delta_counted_L0) ys.length (fun i => cntS k ys (grp ((ys.take i).map (cntC k))).length i (chgD (grp ((ys.take i).map (cntC k))))) (fun i => (grp ((ys.take i).map (cntC k))).length ≤ i) ⟨by simp [grp], ⟨_, weak_ownNil 6 49 2 (by omega) (by omega) rfl, ?_⟩⟩ ?_
  · conv => whnf
    rw [rowsD_len]
    rfl
  · intro i hi hR
    obtain ⟨out, hout⟩ : ∃ out, out = grp ((ys.take i).map (cntC k)) := ⟨_, rfl⟩
    have hR : out.length ≤ i := by rw [hout]; exact hR
    show mwpR Pg T3.f c_delta_counted_L0 _ (cntS k ys (grp ((ys.take i).map (cntC k))).length i (chgD (grp ((ys.take i).map (cntC k)))))
    rw [← hout]
    have wi : i < ys.length → IntKind.i64.wrap ((i : Int) + 1) = ((i + 1 : Nat) : Int) := fun h => wrapS h (by omega)
    conv => whnf
    refine cond_i (fun h1 => ?_) (fun h1 => ?_)
    · have hlt : i < ys.length := by have h1 : decide ((i : Int) < (ys.length : Int)) = true := h1; have := of_decide_eq_true h1; omega
      have hstep : grp ((ys.take (i + 1)).map (cntC k)) = addC out (cntC k ys[i]) := by
        rw [List.take_succ_eq_append_getElem hlt, List.map_append, grp, List.foldl_append, hout]; rfl
      conv => whnf
      refine ⟨by omega, _, rowsD_get hlt, rfl, ?_⟩
      conv => whnf
      refine cond_i (fun h2 => ?_) (fun h2 => ?_)
      · have hpos : 0 < out.length := by have h2 : decide ((out.length : Int) > 0) = true := h2; have := of_decide_eq_true h2; omega
        obtain ⟨o, y, hoy⟩ := snoc out hpos
        have hol : out.length = o.length + 1 := by rw [hoy]; simp
        have hat : out[o.length]? = some y := by rw [hoy]; exact app_at1 _ _ _
        have wl : IntKind.i64.wrap ((out.length : Int) - 1) = (o.length : Int) := by rw [wrapI (by omega) (by omega)]; omega
        have hadd : addC out (cntC k ys[i]) = bif ordR y.row ys[i] == 0 then o ++ [⟨y.row, IntKind.i64.wrap (y.n + k)⟩] else out ++ [cntC k ys[i]] := by
          unfold addC
          rw [hoy]
          simp [cntC]
        conv => whnf
        rw [wl]
        refine ⟨by omega, by omega, ?_⟩
        conv => whnf
        refine ⟨_, chgD_at hat, ?_⟩
        conv => whnf
        refine Sat.mono (sat_delta_order y.row ys[i]) ?_
        rintro _ rfl
        conv => whnf
        refine cond_i (fun h3 => ?_) (fun h3 => ?_)
        · have h3 : (ordR y.row ys[i] == 0) = true := h3
          rw [h3, cond_true] at hadd
          conv => whnf
          rw [wl]
          refine ⟨by omega, by omega, ?_⟩
          conv => whnf
          refine ⟨_, chgD_at hat, ?_⟩
          conv => whnf
          refine ⟨by omega, by omega, ?_⟩
          conv => whnf
          refine ⟨_, chgD_at hat, by show 1 + 1 ≤ 2; omega, ?_⟩
          conv => whnf
          refine ⟨hlt, ?_, normW_of ?_⟩
          · rw [hstep]; exact Nat.le_trans (addC_len _ _) (by omega)
          · conv => whnf
            rw [wi hlt, hstep, hadd]
            have e1 : (chgD out).set o.length [D.sl (rowD y.row), D.lit (.int .i64 (IntKind.i64.wrap (y.n + k)))] = chgD (o ++ [⟨y.row, IntKind.i64.wrap (y.n + k)⟩]) := by
              have := chgD_set out o.length ⟨y.row, IntKind.i64.wrap (y.n + k)⟩
              rw [hoy, set_app] at this
              rw [hoy]
              exact this
            have e2 : (o ++ [(⟨y.row, IntKind.i64.wrap (y.n + k)⟩ : Chg)]).length = out.length := by rw [hol]; simp
            rw [e2, ← e1]
            rfl
        · have h3 : (ordR y.row ys[i] == 0) = false := h3
          rw [h3, cond_false] at hadd
          conv => whnf
          refine ⟨one_sz (cntC k ys[i]), by unfold fits; show (out.length + 1) * 32 ≤ 140737488355328; omega, by show out.length + 1 ≤ 9223372036854775807; omega, ?_⟩
          conv => whnf
          refine ⟨hlt, ?_, normW_of ?_⟩
          · rw [hstep]; exact Nat.le_trans (addC_len _ _) (by omega)
          · conv => whnf
            rw [wi hlt, hstep, hadd]
            exact app_fin k ys out (cntC k ys[i]) (i + 1)
      · have hz : out = [] := by
          have h2 : decide ((out.length : Int) > 0) = false := h2
          have := of_decide_eq_false h2
          exact List.eq_nil_of_length_eq_zero (by omega)
        have hadd : addC out (cntC k ys[i]) = out ++ [cntC k ys[i]] := by rw [hz]; rfl
        conv => whnf
        refine ⟨one_sz (cntC k ys[i]), by unfold fits; show (out.length + 1) * 32 ≤ 140737488355328; omega, by show out.length + 1 ≤ 9223372036854775807; omega, ?_⟩
        conv => whnf
        refine ⟨hlt, ?_, normW_of ?_⟩
        · rw [hstep]; exact Nat.le_trans (addC_len _ _) (by omega)
        · conv => whnf
          rw [wi hlt, hstep, hadd]
          exact app_fin k ys out (cntC k ys[i]) (i + 1)
    · have hge : i = ys.length := by have h1 : decide ((i : Int) < (ys.length : Int)) = false := h1; have := of_decide_eq_false h1; omega
      subst hge
      rw [List.take_length] at hout
      conv => whnf
      refine ⟨ys, hp, hs, rfl, ?_⟩
      have : (chgD out).take out.length = chgD out := by rw [← chgD_len, List.take_length]
      rw [← hout]
      exact congrArg (fun l => rC (.d (.sl l))) this
end Go.Proofs.YtcajnlkkjdhjdaaGreat

namespace Go.Proofs.YtcajnlkkjdhjdaaGreat
open Go Go.AM
attribute [local irreducible] Sat SatH LoopP
set_option maxRecDepth 100000
set_option maxHeartbeats 1000000

def ordG (a b : Chg) : Int := ordR a.row b.row
theorem ordG_ok : CmpOK ordG := ordR_ok.on Chg.row
theorem sat_summed_1 (x y : Chg) : Sat Pg k_delta_summed_1 [x.w, y.w] (fun r => r = rI (ordG x y)) := by
  obtain ⟨a, m⟩ := x
  obtain ⟨b, n⟩ := y
  refine Sat_of T3 c_delta_summed_1_ok (by kernel_rfl) ?_
  conv => whnf
  refine Sat.mono (sat_delta_order a b) ?_
  rintro _ rfl
  conv => whnf
  rfl

def sumL (l : List Chg) : List Chg := (grp l).filter fun x => !(x.n == 0)

def sumS (N : Nat) (l : List Chg) (n i : Nat) (els : List (List D)) : S := ⟨[(6, cV (.own 52 2 n)), (16, cV (.own 600208 2 N)), (17, intV N), (18, intV i)], [(52, .arr 2 els false), (600208, .arr 2 (chgD l) false)]⟩
theorem app_fin2 (N : Nat) (l : List Chg) (out : List Chg) (x : Chg) (i : Nat) : sumS N l (out.length + 1) i ((chgD out).take out.length ++ [x.ds]) = sumS N l (out ++ [x]).length i (chgD (out ++ [x])) := by
  have : (chgD out).take out.length = chgD out := by rw [← chgD_len, List.take_length]
  rw [this, List.length_append, ← chgD_app]
  rfl

theorem sat_summed (xs ys : List Chg) (hx : xs.length ≤ 100000) (hy : ys.length ≤ 100000) :
    Sat Pg k_delta_summed [chgC xs, chgC ys] (fun r => ∃ l : List Chg, l.Perm (xs ++ ys) ∧ SortW ordG 0 l.length l ∧ r = rC (.d (.sl (chgD (sumL l))))) := by
  refine Sat.data (Q := fun r => ∃ l : List Chg, l.Perm (xs ++ ys) ∧ SortW ordG 0 l.length l ∧ DQ (rC (.d (.sl (chgD (sumL l))))) r) ?_ (fun r ⟨l, h1, h2, h3, h4⟩ => ⟨h3, l, h1, h2, h4⟩)
  refine Sat_of T3 c_delta_summed_ok (by kernel_rfl) ?_
  conv => whnf
  refine Sat.mono (sat_Concat_Change xs ys hx hy) ?_
  rintro _ rfl
  obtain ⟨N, hN⟩ : ∃ N, N = (xs ++ ys).length := ⟨_, rfl⟩
  rw [← hN]
  obtain ⟨l0, hl0⟩ : ∃ l0, l0 = xs ++ ys := ⟨_, rfl⟩
  rw [← hl0]
  rw [← hl0] at hN
  have hNb : N ≤ 200000 := by rw [hN, hl0, List.length_append]; omega
  conv => whnf
  refine SatH.mono (sat_SortStable k_delta_summed_1 ordG ordG_ok sat_summed_1 l0 N hN.symm (by omega)) ?_
  rintro _ ⟨l, p1, s1, rfl⟩
  have hlen := p1.len
  conv => whnf
  refine loopI (P := Pg) (f := T3.f) (body := c_delta_summed_L0) N (fun i => sumS N l (grp (l.take i)).length i (chgD (grp (l.take i)))) (fun i => (grp (l.take i)).length ≤ i) ⟨by simp [grp], ⟨_, weak_ownNil 6 52 2 (by omega) (by omega) rfl, ?_⟩⟩ ?_
  · conv => whnf
    rfl
  · intro i hi hR
    obtain ⟨out, hout⟩ : ∃ out, out = grp (l.take i) := ⟨_, rfl⟩
    have hR : out.length ≤ i := by rw [hout]; exact hR
    show mwpR Pg T3.f c_delta_summed_L0 _ (sumS N l (grp (l.take i)).length i (chgD (grp (l.take i))))
    rw [← hout]
    have wi : i < N → IntKind.i64.wrap ((i : Int) + 1) = ((i + 1 : Nat) : Int) := fun h => wrapS h (by omega)
    conv => whnf
    refine cond_i (fun h1 => ?_) (fun h1 => ?_)
    · have hlt : i < N := by have h1 : decide ((i : Int) < (N : Int)) = true := h1; have := of_decide_eq_true h1; omega
      have hll : i < l.length := by omega
      have hli : l[i]? = some l[i] := List.getElem?_eq_getElem hll
      have hstep : grp (l.take (i + 1)) = addC out l[i] := by
        rw [List.take_succ_eq_append_getElem hll, grp, List.foldl_append, hout]; rfl
      conv => whnf
      refine ⟨by omega, by omega, ?_⟩
      conv => whnf
      refine ⟨_, chgD_at hli, ?_⟩
      conv => whnf
      refine cond_i (fun h2 => ?_) (fun h2 => ?_)
      · have hpos : 0 < out.length := by have h2 : decide ((out.length : Int) > 0) = true := h2; have := of_decide_eq_true h2; omega
        obtain ⟨o, y, hoy⟩ := snoc out hpos
        have hol : out.length = o.length + 1 := by rw [hoy]; simp
        have hat : out[o.length]? = some y := by rw [hoy]; exact app_at1 _ _ _
        have wl : IntKind.i64.wrap ((out.length : Int) - 1) = (o.length : Int) := by rw [wrapI (by omega) (by omega)]; omega
        have hadd : addC out l[i] = bif ordR y.row l[i].row == 0 then o ++ [⟨y.row, IntKind.i64.wrap (y.n + l[i].n)⟩] else out ++ [l[i]] := by
          unfold addC
          rw [hoy]
          simp
        conv => whnf
        rw [wl]
        refine ⟨by omega, by omega, ?_⟩
        conv => whnf
        refine ⟨_, chgD_at hat, ?_⟩
        conv => whnf
        refine Sat.mono (sat_delta_order y.row l[i].row) ?_
        rintro _ rfl
        conv => whnf
        refine cond_i (fun h3 => ?_) (fun h3 => ?_)
        · have h3 : (ordR y.row l[i].row == 0) = true := h3
          rw [h3, cond_true] at hadd
          conv => whnf
          rw [wl]
          refine ⟨by omega, by omega, ?_⟩
          conv => whnf
          refine ⟨_, chgD_at hat, ?_⟩
          conv => whnf
          refine ⟨by omega, by omega, ?_⟩
          conv => whnf
          refine ⟨_, chgD_at hat, by show 1 + 1 ≤ 2; omega, ?_⟩
          conv => whnf
          refine ⟨hlt, ?_, normW_of ?_⟩
          · rw [hstep]; exact Nat.le_trans (addC_len _ _) (by omega)
          · conv => whnf
            rw [wi hlt, hstep, hadd]
            have e1 : (chgD out).set o.length [D.sl (rowD y.row), D.lit (.int .i64 (IntKind.i64.wrap (y.n + l[i].n)))] = chgD (o ++ [⟨y.row, IntKind.i64.wrap (y.n + l[i].n)⟩]) := by
              have := chgD_set out o.length ⟨y.row, IntKind.i64.wrap (y.n + l[i].n)⟩
              rw [hoy, set_app] at this
              rw [hoy]
              exact this
            have e2 : (o ++ [(⟨y.row, IntKind.i64.wrap (y.n + l[i].n)⟩ : Chg)]).length = out.length := by rw [hol]; simp
            rw [e2, ← e1]
            rfl
        · have h3 : (ordR y.row l[i].row == 0) = false := h3
          rw [h3, cond_false] at hadd
          conv => whnf
          refine ⟨one_sz l[i], by unfold fits; show (out.length + 1) * 32 ≤ 140737488355328; omega, by show out.length + 1 ≤ 9223372036854775807; omega, ?_⟩
          conv => whnf
          refine ⟨hlt, ?_, normW_of ?_⟩
          · rw [hstep]; exact Nat.le_trans (addC_len _ _) (by omega)
          · conv => whnf
            rw [wi hlt, hstep, hadd]
            exact app_fin2 N l out l[i] (i + 1)
      · have hz : out = [] := by
          have h2 : decide ((out.length : Int) > 0) = false := h2
          have := of_decide_eq_false h2
          exact List.eq_nil_of_length_eq_zero (by omega)
        have hadd : addC out l[i] = out ++ [l[i]] := by rw [hz]; rfl
        conv => whnf
        refine ⟨one_sz l[i], by unfold fits; show (out.length + 1) * 32 ≤ 140737488355328; omega, by show out.length + 1 ≤ 9223372036854775807; omega, ?_⟩
        conv => whnf
        refine ⟨hlt, ?_, normW_of ?_⟩
        · rw [hstep]; exact Nat.le_trans (addC_len _ _) (by omega)
        · conv => whnf
          rw [wi hlt, hstep, hadd]
          exact app_fin2 N l out l[i] (i + 1)
    · have hge : i = N := by have h1 : decide ((i : Int) < (N : Int)) = false := h1; have := of_decide_eq_false h1; omega
      subst hge
      rw [show l.take i = l by rw [List.take_of_length_le (by omega)]] at hout
      conv => whnf
      refine SatH.mono (sat_DeleteFunc_Change k_delta_summed_2 (fun x => x.n == 0) sat_summed_2 out (by omega)) ?_
      rintro _ ⟨els, hels, rfl⟩
      conv => whnf
      refine ⟨l, ?_, ?_, rfl, ?_⟩
      · exact p1.perm
      · rw [hlen, ← hN]; exact s1
      · rw [show sumL l = out.filter (fun x => !(x.n == 0)) from by rw [hout]; rfl]
        exact congrArg (fun l => rC (.d (.sl l))) hels
end Go.Proofs.YtcajnlkkjdhjdaaGreat

namespace Go.Proofs.YtcajnlkkjdhjdaaGreat
open Go Go.AM

theorem wrapU (y : Nat) (hy : y ≤ 1000000) : IntKind.u64.wrap (y : Int) = (y : Int) := by
  have : IntKind.u64.wrap (y : Int) = (y : Int) % 18446744073709551616 := by simp [IntKind.wrap, IntKind.bits, IntKind.signed]
  rw [this]; omega
theorem wrapU0 : IntKind.u64.wrap 0 = 0 := wrapU 0 (by omega)
theorem sh32 (y : Nat) (hy : y ≤ 1000000) : shI false IntKind.u64 (y : Int) 32 = 0 := by
  show (y : Int).fdiv (2 ^ min (32 : Nat) 64) = _
  rw [show (2 : Int) ^ min (32 : Nat) 64 = 4294967296 from rfl, Int.fdiv_eq_ediv_of_nonneg _ (by omega)]
  omega
theorem and32 (y : Nat) (hy : y ≤ 1000000) : bitI .and IntKind.u64 (y : Int) 4294967295 = (y : Int) := by
  have h1 : (BitVec.ofInt 64 (y : Int)).toNat = y := by
    rw [BitVec.toNat_ofInt]; omega
  have h2 : (BitVec.ofInt 64 4294967295).toNat = 2 ^ 32 - 1 := rfl
  show IntKind.u64.wrap ((BitVec.ofInt 64 (y : Int) &&& BitVec.ofInt 64 4294967295).toNat : Int) = _
  rw [BitVec.toNat_and, h1, h2, Nat.and_two_pow_sub_one_eq_mod, Nat.mod_eq_of_lt (by omega)]
  exact wrapU y hy

attribute [local irreducible] Sat SatH LoopP
set_option maxRecDepth 100000

def u64 (n : Int) : C := .d (.lit (.int .u64 n))
def rM (y : Int) : Res := ⟨.tup [.c (u64 0), .c (u64 y)], []⟩
theorem sat_Mul64 (y : Nat) (hy : y ≤ 1000000) : Sat Pg k_math_bits_Mul64 [.c (u64 1), .c (u64 y)] (fun r => r = rM y) := by
  have a1 : shI false IntKind.u64 1 32 = 0 := sh32 1 (by omega)
  have a0 : shI false IntKind.u64 0 32 = 0 := sh32 0 (by omega)
  have b1 : bitI .and IntKind.u64 1 4294967295 = 1 := and32 1 (by omega)
  have b0 : bitI .and IntKind.u64 0 4294967295 = 0 := and32 0 (by omega)
  refine Sat_of T0 c_math_bits_Mul64_ok (by kernel_rfl) ?_
  conv => whnf
  refine ⟨by decide, ?_⟩
  conv => whnf
  refine ⟨by decide, ?_⟩
  conv => whnf
  refine ⟨by decide, ?_⟩
  conv => whnf
  refine ⟨by decide, ?_⟩
  conv => whnf
  refine ⟨by decide, ?_⟩
  conv => whnf
  simp only [a1, sh32 y hy, and32 y hy, b1, Int.zero_mul, Int.mul_zero, Int.one_mul, wrapU0, Int.zero_add, wrapU y hy, a0, b0]
  rfl
theorem sat_Mul (y : Nat) (hy : y ≤ 1000000) : Sat Pg k_math_bits_Mul [.c (u64 1), .c (u64 y)] (fun r => r = rM y) := by
  refine Sat_of T0 c_math_bits_Mul_ok (by kernel_rfl) ?_
  conv => whnf
  refine Sat.mono (sat_Mul64 y hy) ?_
  rintro _ rfl
  conv => whnf
  rfl

def repS' (n : Nat) (i : Int) (els : List (List D)) : S := ⟨[(7, cV (.own 30 1 n)), (8, intV i)], [(30, .arr 1 els false)]⟩
def repS (n i : Nat) (els : List (List D)) : S := repS' n i els
theorem take_splice {α : Type} (els ds : List α) (i : Nat) (h : i + ds.length ≤ els.length) : (splice els i ds).take (i + ds.length) = els.take i ++ ds ∧ (splice els i ds).length = els.length := by
  unfold splice
  constructor
  · rw [List.take_append_of_le_length (by simp; omega), List.take_of_length_le (by simp; omega)]
  · simp; omega

theorem sat_Repeat (row : List Val) (n : Nat) (hn : n ≤ 1000000) :
    Sat Pg k_slices_Repeat_LValue [.c (.d (.sl (rowsD [row]))), .c (int n)] (fun r => r = rC (.d (.sl (rowsD (List.replicate n row))))) := by
  refine sat_dq ?_
  refine Sat_of T0 c_slices_Repeat_LValue_ok (by kernel_rfl) ?_
  conv => whnf
  have c1 : IntKind.u64.wrap ((1 : Nat) : Int) = 1 := wrapU 1 (by omega)
  rw [show IntKind.u64.wrap ((rowsD [row]).length : Int) = 1 from c1, wrapU n hn]
  refine Sat.mono (sat_Mul n hn) ?_
  rintro _ rfl
  conv => whnf
  refine cond_i (fun h1 => ?_) (fun h1 => ?_)
  · exact absurd (of_decide_eq_true h1 : (n : Int) > 9223372036854775807) (by omega)
  have wn : IntKind.i64.wrap (n : Int) = (n : Int) := wrapI (by omega) (by omega)
  conv => whnf
  rw [wn]
  refine ⟨by omega, by omega, by unfold fits; show n * 24 ≤ 140737488355328; omega, by omega, ?_⟩
  conv => whnf
  refine ⟨by intro y hy; have hy : y ∈ [[D.sl (rowD row)]] := hy; rw [List.mem_singleton] at hy; rw [hy]; rfl, ?_⟩
  conv => whnf
  obtain ⟨e, he⟩ : ∃ e, e = [D.sl (rowD row)] := ⟨_, rfl⟩
  refine loopF (P := Pg) (f := T0.f) (body := c_slices_Repeat_LValue_L0) (fun z : Nat × List (List D) => repS n z.1 z.2) (fun z => n - z.1)
    (fun z => z.1 ≤ n ∧ (z.1 = 0 → n = 0) ∧ z.2.length = n ∧ z.2.take z.1 = List.replicate z.1 e)
    ⟨(min 1 n, splice (List.replicate n [D.sl []]) 0 ((rowsD [row]).take n)), ⟨Nat.min_le_right _ _, fun h => by have h : min 1 n = 0 := h; omega, ?_, ?_⟩, normW_of ?_⟩ ?_
  · cases n with
    | zero => rfl
    | succ n =>
      have ht : (rowsD [row]).take (n + 1) = [[D.sl (rowD row)]] := by simp [rowsD]
      show (splice (List.replicate (n + 1) [D.sl []]) 0 ((rowsD [row]).take (n + 1))).length = n + 1
      rw [ht]; simp [splice]
  · cases n with
    | zero => rfl
    | succ n =>
      have ht : (rowsD [row]).take (n + 1) = [[D.sl (rowD row)]] := by simp [rowsD]
      show (splice (List.replicate (n + 1) [D.sl []]) 0 ((rowsD [row]).take (n + 1))).take (min 1 (n + 1)) = List.replicate (min 1 (n + 1)) e
      rw [ht, Nat.min_eq_left (by omega), he]
      simp [splice]
  · conv => whnf
    rfl
  · rintro ⟨i, els⟩ hR
    have hS : i ≤ n ∧ (i = 0 → n = 0) ∧ els.length = n ∧ els.take i = List.replicate i e := hR
    clear hR
    obtain ⟨g1, g2, g3, g4⟩ := hS
    conv => whnf
    refine cond_i (fun h2 => ?_) (fun h2 => ?_)
    · have hlt : i < n := by have h2 : decide ((i : Int) < (n : Int)) = true := h2; have := of_decide_eq_true h2; omega
      conv => whnf
      refine ⟨by simp only [orI]; omega, by simp only [orI]; omega, ?_⟩
      conv => whnf
      refine ⟨by simp only [orI]; omega, by simp only [orI]; omega, by simp only [orI]; omega, ?_⟩
      conv => whnf
      have hall : ∀ y ∈ els.take i, y.length = 1 := by
        intro y hy
        rw [g4] at hy
        rw [(List.mem_replicate.1 hy).2, he]; rfl
      refine ⟨hall, ?_⟩
      conv => whnf
      obtain ⟨ds, hds⟩ : ∃ ds, ds = (els.take i).take (n - i) := ⟨_, rfl⟩
      have hdl : min (els.take i).length (n - i) = ds.length := by rw [hds]; simp; omega
      have hk : ds.length = min i (n - i) := by rw [← hdl, List.length_take]; omega
      have hde : ds = List.replicate ds.length e := by
        rw [hk, hds, g4, List.take_replicate, Nat.min_comm]
      have h3 := take_splice els ds i (by omega)
      have wk : IntKind.i64.wrap ((i : Int) + (ds.length : Int)) = ((i + ds.length : Nat) : Int) := by rw [wrapI (by omega) (by omega)]; omega
      refine ⟨(i + ds.length, splice els i ds), ⟨⟨by show i + ds.length ≤ n; omega, fun h => by have h : i + ds.length = 0 := h; omega, h3.2.trans g3, ?_⟩, by show n - (i + ds.length) < n - i; omega⟩, normW_of ?_⟩
      · show (splice els i ds).take (i + ds.length) = List.replicate (i + ds.length) e
        rw [h3.1, g4, hde, List.length_replicate, List.replicate_append_replicate]
      · conv => whnf
        show repS' n (IntKind.i64.wrap ((i : Int) + ((min (els.take i).length (n - i) : Nat) : Int))) (splice els i ((els.take i).take (n - i))) = repS' n ((i + ds.length : Nat) : Int) (splice els i ds)
        rw [hdl, wk, ← hds]
    · have hge : i = n := by have h2 : decide ((i : Int) < (n : Int)) = false := h2; have := of_decide_eq_false h2; omega
      subst hge
      conv => whnf
      refine ⟨rfl, ?_⟩
      rw [show rowsD (List.replicate i row) = List.replicate i e by rw [he]; simp [rowsD], ← g4]
      rfl
end Go.Proofs.YtcajnlkkjdhjdaaGreat

namespace Go.Proofs.YtcajnlkkjdhjdaaGreat
open Go Go.AM
attribute [local irreducible] Sat SatH LoopP
set_option maxRecDepth 100000
set_option maxHeartbeats 1000000

def rErr (e : Int) : Res := ⟨.tup [.c .nil, .c (int e)], []⟩
def rowsP (rows ys : List (List Val)) : Prop := ys.Perm rows ∧ ys.Pairwise (fun a b => ¬ ordR b a < 0)
/-- What summed may answer. -/
def sumQ (xs ys : List Chg) (z : List Chg) : Prop := ∃ l : List Chg, l.Perm (xs ++ ys) ∧ SortW ordG 0 l.length l ∧ z = sumL l
def cntQ (rows : List (List Val)) (k : Int) (z : List Chg) : Prop := ∃ ys : List (List Val), rowsP rows ys ∧ z = grp (ys.map (cntC k))
def diffQ (x y : Tbl) (r : Res) : Prop :=
  bif tblErr x != 0 then r = rErr (tblErr x) else bif tblErr y != 0 then r = rErr (tblErr y) else bif !sameCols x.cols y.cols then r = rErr 10
  else ∃ u v z, cntQ x.rows (-1) u ∧ cntQ y.rows 1 v ∧ sumQ u v z ∧ r = ⟨.tup [.c (.d (.sl (chgD z))), .c (int 0)], []⟩

theorem grp_len (l : List Chg) : (grp l).length ≤ l.length := by
  have : ∀ (l out : List Chg), (l.foldl addC out).length ≤ out.length + l.length := by
    intro l
    induction l with
    | nil => intro out; simp
    | cons a r ih => intro out; have := ih (addC out a); have := addC_len out a; simp only [List.foldl_cons, List.length_cons]; omega
  have := this l []
  simpa [grp] using this

def difS (x y : Tbl) (i : Int) : S := ⟨[(2, cV (.ptr 2 0)), (3, cV (.ptr 3 0)), (11, cV (.own 11 2 2)), (12, intV 2), (13, intV i)],
  [(2, .box [.d (.sl (colD x.cols)), .d (.sl (rowsD x.rows))]), (3, .box [.d (.sl (colD y.cols)), .d (.sl (rowsD y.rows))]), (11, .arr 2 [x.ds, y.ds] false)]⟩

attribute [local irreducible] diffQ in
theorem sat_Diff (x y : Tbl) (hx : x.rows.length ≤ 50000) (hy : y.rows.length ≤ 50000) : Sat Pg k_delta_Diff [x.w, y.w] (diffQ x y) := by
  obtain ⟨xc, xr⟩ := x
  obtain ⟨yc, yr⟩ := y
  refine Sat_of T3 c_delta_Diff_ok (by kernel_rfl) ?_
  have v1 : IntKind.i64.wrap ((0 : Int) + 1) = 1 := wrapI (by omega) (by omega)
  have v2 : IntKind.i64.wrap ((1 : Int) + 1) = 2 := wrapI (by omega) (by omega)
  conv => whnf
  refine loopI (P := Pg) (f := T3.f) (body := c_delta_Diff_L0) 2 (fun i => match i with | 0 => difS ⟨xc, xr⟩ ⟨yc, yr⟩ 0 | 1 => difS ⟨xc, xr⟩ ⟨yc, yr⟩ 1 | _ => difS ⟨xc, xr⟩ ⟨yc, yr⟩ 2) (fun i => (1 ≤ i → (tblErr ⟨xc, xr⟩ != 0) = false) ∧ (2 ≤ i → (tblErr ⟨yc, yr⟩ != 0) = false)) ⟨⟨fun h => absurd h (by omega), fun h => absurd h (by omega)⟩, normW_of ?_⟩ ?_
  · conv => whnf
    rfl
  · intro i hi hR
    obtain rfl | rfl | rfl : i = 0 ∨ i = 1 ∨ i = 2 := by omega
    · conv => whnf
      refine ⟨by decide, by decide, ?_⟩
      conv => whnf
      refine ⟨_, rfl, ?_⟩
      conv => whnf
      refine Sat.mono (sat_table_Check ⟨xc, xr⟩) ?_
      rintro _ rfl
      conv => whnf
      refine cond_i (fun h1 => ?_) (fun h1 => ?_)
      · have h1 : (tblErr ⟨xc, xr⟩ != 0) = true := h1
        conv => whnf
        unfold diffQ
        rw [h1, cond_true]
        rfl
      · have h1 : (tblErr ⟨xc, xr⟩ != 0) = false := h1
        conv => whnf
        refine ⟨by decide, ⟨fun _ => h1, fun h => absurd h (by omega)⟩, normW_of ?_⟩
        conv => whnf
        rw [v1]
        rfl
    · conv => whnf
      refine ⟨by decide, by decide, ?_⟩
      conv => whnf
      refine ⟨_, rfl, ?_⟩
      conv => whnf
      refine Sat.mono (sat_table_Check ⟨yc, yr⟩) ?_
      rintro _ rfl
      conv => whnf
      refine cond_i (fun h1 => ?_) (fun h1 => ?_)
      · have h1 : (tblErr ⟨yc, yr⟩ != 0) = true := h1
        conv => whnf
        unfold diffQ
        rw [hR.1 (by omega), cond_false, h1, cond_true]
        rfl
      · have h1 : (tblErr ⟨yc, yr⟩ != 0) = false := h1
        conv => whnf
        refine ⟨by decide, ⟨fun _ => hR.1 (by omega), fun _ => h1⟩, normW_of ?_⟩
        conv => whnf
        rw [v2]
        rfl
    · have r1 := hR.1 (by omega)
      have r2 := hR.2 (by omega)
      conv => whnf
      refine Sat.mono (sat_Equal_Column xc yc) ?_
      rintro _ rfl
      conv => whnf
      refine cond_i (fun h1 => ?_) (fun h1 => ?_)
      · have h1 : (!sameCols xc yc) = true := h1
        conv => whnf
        unfold diffQ
        rw [r1, cond_false, r2, cond_false, h1, cond_true]
        rfl
      · have h1 : (!sameCols xc yc) = false := h1
        conv => whnf
        refine Sat.mono (sat_counted xr (-1) (by simpa using Nat.le_trans hx (by omega))) ?_
        rintro _ ⟨us, u1, u2, rfl⟩
        obtain ⟨u, hu⟩ : ∃ u, u = grp (us.map (cntC (-1))) := ⟨_, rfl⟩
        have hul : u.length ≤ 50000 := by
          rw [hu]; exact Nat.le_trans (grp_len _) (by rw [List.length_map, u1.length_eq]; exact hx)
        rw [← hu]
        conv => whnf
        refine Sat.mono (sat_counted yr 1 (by simpa using Nat.le_trans hy (by omega))) ?_
        rintro _ ⟨vs, v3, v4, rfl⟩
        obtain ⟨v, hv⟩ : ∃ v, v = grp (vs.map (cntC 1)) := ⟨_, rfl⟩
        have hvl : v.length ≤ 50000 := by
          rw [hv]; exact Nat.le_trans (grp_len _) (by rw [List.length_map, v3.length_eq]; exact hy)
        rw [← hv]
        conv => whnf
        refine Sat.mono (sat_summed u v (by omega) (by omega)) ?_
        rintro _ ⟨l, l1, l2, rfl⟩
        conv => whnf
        unfold diffQ
        rw [r1, cond_false, r2, cond_false, h1, cond_false]
        exact ⟨u, v, sumL l, ⟨us, ⟨u1, u2⟩, hu⟩, ⟨vs, ⟨v3, v4⟩, hv⟩, ⟨l, l1, l2, rfl⟩, rfl⟩
end Go.Proofs.YtcajnlkkjdhjdaaGreat

namespace Go.Proofs.YtcajnlkkjdhjdaaGreat
open Go Go.AM
attribute [local irreducible] Sat SatH LoopP
set_option maxRecDepth 100000
set_option maxHeartbeats 1000000

/-- Sorted but for x, which has come down as far as it stands before B. -/
def Sunk (acc : List (List Val)) (x : List Val) (A B : List (List Val)) : Prop := A ++ B = acc ∧ ∀ b ∈ B, ordR x b < 0
theorem sunk_swap {acc : List (List Val)} {x y : List Val} {A B : List (List Val)} (h : Sunk acc x (A ++ [y]) B) (hy : ordR x y < 0) : Sunk acc x A (y :: B) := by
  refine ⟨by rw [← h.1]; simp, fun b hb => ?_⟩
  rcases List.mem_cons.1 hb with rfl | hb
  · exact hy
  · exact h.2 b hb
def NoDown (l : List (List Val)) : Prop := l.Pairwise fun a b => ¬ ordR b a < 0
theorem sunk_end {acc : List (List Val)} {x : List Val} {A B : List (List Val)} (h : Sunk acc x A B) (hs : NoDown acc) (hA : ∀ y, A.getLast? = some y → ¬ ordR x y < 0) : NoDown (A ++ x :: B) ∧ (A ++ x :: B).Perm (acc ++ [x]) := by
  obtain ⟨h1, h2⟩ := h
  subst h1
  unfold NoDown at hs ⊢
  rw [List.pairwise_append] at hs
  obtain ⟨p1, p2, p3⟩ := hs
  have hAx : ∀ a ∈ A, ¬ ordR x a < 0 := by
    intro a ha hlt
    cases hl : A.getLast? with
    | none => rw [List.getLast?_eq_none_iff] at hl; rw [hl] at ha; cases ha
    | some y =>
      have hy := hA y hl
      obtain ⟨ys, e⟩ := List.getLast?_eq_some_iff.1 hl
      rw [e] at ha p1
      rcases List.mem_append.1 ha with ha | ha
      · rw [List.pairwise_append] at p1
        have hay := p1.2.2 a ha y (List.mem_singleton.2 rfl)
        have : ordR a y ≤ 0 := ordR_ok.ge.1 (by omega)
        exact hy (ordR_ok.lt_of hlt this)
      · rw [List.mem_singleton.1 ha] at hlt
        exact hy hlt
  refine ⟨?_, ?_⟩
  · rw [List.pairwise_append]
    refine ⟨p1, List.pairwise_cons.2 ⟨fun b hb hlt => ?_, p2⟩, fun a ha b hb => ?_⟩
    · have := (ordR_ok.anti _ _).1 (h2 b hb)
      omega
    · rcases List.mem_cons.1 hb with rfl | hb
      · exact hAx a ha
      · exact p3 a ha b hb
  · rw [List.append_assoc]
    exact (List.perm_append_left_iff A).2 (List.perm_append_comm (l₁ := [x]) (l₂ := B))
theorem rowsD_app (a b : List (List Val)) : rowsD (a ++ b) = rowsD a ++ rowsD b := by simp [rowsD]
theorem rowsD_at {l : List (List Val)} {i : Nat} {x : List Val} (h : l[i]? = some x) : (rowsD l)[((i : Int)).toNat]? = some [D.sl (rowD x)] := by simp [rowsD, h]
theorem rowsD_set (l : List (List Val)) (i : Nat) (x : List Val) : (rowsD l).set i [D.sl (rowD x)] = rowsD (l.set i x) := by simp [rowsD, List.map_set]

def rwsS (rows : List (List Val)) (i : Nat) (L : List (List Val)) : S := ⟨[(0, .w (.c (.d (.sl (rowsD rows))))), (3, cV (.own 21 1 L.length)), (4, intV i)], [(21, .arr 1 (rowsD L) false)]⟩
def rwiS (rows : List (List Val)) (i : Nat) (L : List (List Val)) (at' : Nat) : S := ⟨[(0, .w (.c (.d (.sl (rowsD rows))))), (3, cV (.own 21 1 L.length)), (4, intV i), (5, intV at')], [(21, .arr 1 (rowsD L) false)]⟩
theorem sat_ref45_Rows (rows : List (List Val)) (hl : rows.length ≤ 1000000) : Sat Pg k_ref45_Rows [.c (.d (.sl (rowsD rows)))] (fun r => ∃ ys, rowsP rows ys ∧ r = rC (.d (.sl (rowsD ys)))) := by
  refine Sat.data (Q := fun r => ∃ ys, rowsP rows ys ∧ DQ (rC (.d (.sl (rowsD ys)))) r) ?_ (fun r ⟨ys, h1, h2, h3⟩ => ⟨h2, ys, h1, h3⟩)
  refine Sat_of T6 c_ref45_Rows_ok (by kernel_rfl) ?_
  conv => whnf
  refine loopF (P := Pg) (f := T6.f) (body := c_ref45_Rows_L1) (fun x : Nat × List (List Val) => rwsS rows x.1 x.2) (fun x => rows.length - x.1) (fun x => x.1 ≤ rows.length ∧ x.2.length = x.1 ∧ NoDown x.2 ∧ x.2.Perm (rows.take x.1)) ⟨(0, []), ⟨Nat.zero_le _, rfl, List.Pairwise.nil, List.Perm.refl _⟩, ⟨_, weak_ownNil 3 21 1 (by omega) (by omega) rfl, ?_⟩⟩ ?_
  · conv => whnf
    rfl
  · rintro ⟨i, acc⟩ hx
    obtain ⟨hi, ha, hs, hp⟩ : i ≤ rows.length ∧ acc.length = i ∧ NoDown acc ∧ acc.Perm (rows.take i) := hx
    have wi : i < rows.length → IntKind.i64.wrap ((i : Int) + 1) = ((i + 1 : Nat) : Int) := fun h => wrapS h (by omega)
    have htk : (rowsD acc).take acc.length = rowsD acc := by rw [← rowsD_len, List.take_length]
    conv => whnf
    refine cond_i (fun h1 => ?_) (fun h1 => ?_)
    · have hlt : i < rows.length := by have h1 : decide ((i : Int) < ((rowsD rows).length : Int)) = true := h1; have := of_decide_eq_true h1; rw [rowsD_len] at this; omega
      have hg := rowsD_get hlt
      have hp2 : ∀ L : List (List Val), L.Perm (acc ++ [rows[i]]) → L.Perm (rows.take (i + 1)) := fun L hL => by
        rw [take_snoc hlt]
        exact hL.trans (hp.append_right _)
      generalize rows[i] = x at *
      conv => whnf
      refine ⟨by omega, _, hg, rfl, ?_⟩
      conv => whnf
      refine ⟨by simp, by unfold fits; simp; omega, by simp; omega, ?_⟩
      conv => whnf
      refine loopF (P := Pg) (f := T6.f) (body := c_ref45_Rows_L0) (fun y : List (List Val) × List (List Val) => rwiS rows i (y.1 ++ x :: y.2) y.1.length) (fun y => y.1.length) (fun y => Sunk acc x y.1 y.2) ⟨(acc, []), ⟨by simp, fun b hb => by cases hb⟩, normW_of ?_⟩ ?_
      · conv => whnf
        rw [htk]
        show _ = S.mk [_, (3, cV (.own 21 1 (acc ++ [x]).length)), _, _] [(21, .arr 1 (rowsD (acc ++ [x])) false)]
        rw [rowsD_app, show (acc ++ [x]).length = acc.length + 1 by simp]
        rfl
      · rintro ⟨A, B⟩ hx
        have hS : Sunk acc x A B := hx
        have hlen : A.length + B.length = i := by rw [← ha, ← hS.1, List.length_append]
        have hxat : (A ++ x :: B)[A.length]? = some x := by simp
        have hLl : (A ++ x :: B).length = i + 1 := by rw [List.length_append, List.length_cons]; omega
        obtain ⟨L, hL⟩ : ∃ L, L = A ++ x :: B := ⟨_, rfl⟩
        have hend := sunk_end hS hs
        show mwpR Pg T6.f c_ref45_Rows_L0 _ (rwiS rows i (A ++ x :: B) A.length)
        rw [← hL] at hxat hLl hend ⊢
        generalize hn : A.length = n at *
        conv => whnf
        refine cond_i (fun k1 => ?_) (fun k1 => ?_)
        · have k1 : decide ((n : Int) > 0) = true := k1
          have hpos : 0 < A.length := by have := of_decide_eq_true k1; omega
          obtain ⟨A', y, rfl⟩ := snoc A hpos
          have hal : n = A'.length + 1 := by rw [← hn]; simp
          have wl : IntKind.i64.wrap ((n : Int) - 1) = (A'.length : Int) := by rw [wrapI (by omega) (by omega)]; omega
          have hyat : L[A'.length]? = some y := by rw [hL, List.append_assoc]; simp
          have s1 : (rowsD L).set ((n : Int)).toNat [D.sl (rowD y)] = rowsD (L.set n y) := rowsD_set L _ y
          have s2 : (rowsD (L.set n y)).set ((A'.length : Int)).toNat [D.sl (rowD x)] = rowsD ((L.set n y).set A'.length x) := rowsD_set _ _ x
          have s3 : (L.set n y).set A'.length x = A' ++ x :: y :: B := by
            rw [hL, hal, List.append_assoc]
            simp
          have hy2 : (L.set n y)[A'.length]? = some y := by
            rw [List.getElem?_set_ne (by omega)]; exact hyat
          have hcmp := sat_ref42_Compare x y
          have hdn := @sunk_swap acc x y A' B hS
          have hlast : (A' ++ [y]).getLast? = some y := by simp
          conv => whnf
          refine ⟨by omega, by omega, ?_⟩
          conv => whnf
          refine ⟨_, rowsD_at hxat, ?_⟩
          conv => whnf
          rw [wl]
          refine ⟨by omega, by omega, ?_⟩
          conv => whnf
          refine ⟨_, rowsD_at hyat, ?_⟩
          conv => whnf
          refine Sat.mono (hcmp) ?_
          rintro _ rfl
          conv => whnf
          refine cond_i (fun k2 => ?_) (fun k2 => ?_)
          · have k2 : decide (ordR x y < 0) = true := k2
            conv => whnf
            refine ⟨by omega, by omega, ?_⟩
            conv => whnf
            refine ⟨_, rowsD_at hxat, ?_⟩
            conv => whnf
            rw [wl]
            refine ⟨by omega, by omega, ?_⟩
            conv => whnf
            refine ⟨_, rowsD_at hyat, ?_⟩
            conv => whnf
            refine ⟨by omega, by omega, ?_⟩
            conv => whnf
            refine ⟨_, rowsD_at hxat, by show 0 + 1 ≤ 1; omega, ?_⟩
            conv => whnf
            rw [wl]
            refine ⟨by omega, by omega, ?_⟩
            conv => whnf
            refine ⟨_, (congrArg (fun l : List (List D) => l[((A'.length : Int)).toNat]?) s1).trans (rowsD_at hy2), by show 0 + 1 ≤ 1; omega, ?_⟩
            conv => whnf
            refine ⟨(A', y :: B), ⟨hdn (of_decide_eq_true k2), by show A'.length < n; omega⟩, normW_of ?_⟩
            conv => whnf
            rw [wl]
            have e : ((rowsD L).set ((n : Int)).toNat [D.sl (rowD y)]).set ((A'.length : Int)).toNat [D.sl (rowD x)] = rowsD (A' ++ x :: y :: B) := by rw [s1, s2, s3]
            have el : (A' ++ x :: y :: B).length = L.length := by rw [← s3]; simp
            show _ = S.mk [_, (3, cV (.own 21 1 (A' ++ x :: y :: B).length)), _, _] [(21, .arr 1 (rowsD (A' ++ x :: y :: B)) false)]
            rw [← e, el]
            rfl
          · have k2 : decide (ordR x y < 0) = false := k2
            have hE := hend (fun z hz => by rw [hlast] at hz; cases hz; exact of_decide_eq_false k2)
            conv => whnf
            refine ⟨(i + 1, L), ⟨⟨hlt, hLl, hE.1, hp2 _ hE.2⟩, by show rows.length - (i + 1) < rows.length - i; omega⟩, normW_of ?_⟩
            conv => whnf
            rw [wi hlt]
            rfl
        · have k1 : decide ((n : Int) > 0) = false := k1
          have hA : A = [] := by have := of_decide_eq_false k1; exact List.eq_nil_of_length_eq_zero (by omega)
          have hE := hend (fun z hz => by rw [hA] at hz; cases hz)
          conv => whnf
          refine ⟨(i + 1, L), ⟨⟨hlt, hLl, hE.1, hp2 _ hE.2⟩, by show rows.length - (i + 1) < rows.length - i; omega⟩, normW_of ?_⟩
          conv => whnf
          rw [wi hlt]
          rfl
    · have hge : i = rows.length := by have h1 : decide ((i : Int) < ((rowsD rows).length : Int)) = false := h1; have := of_decide_eq_false h1; rw [rowsD_len] at this; omega
      rw [hge, List.take_length] at hp
      conv => whnf
      refine ⟨acc, ⟨hp, hs⟩, rfl, ?_⟩
      exact congrArg (fun l => rC (.d (.sl l))) htk
end Go.Proofs.YtcajnlkkjdhjdaaGreat

namespace Go.Proofs.YtcajnlkkjdhjdaaGreat
open Go Go.AM
attribute [local irreducible] Sat SatH LoopP
set_option maxRecDepth 100000
set_option maxHeartbeats 1000000

def chgBad (nc : Int) (p : Option Chg) (c : Chg) : Bool :=
  ((((c.row.length : Int) != nc || c.n == 0) || decide (c.n < -20000)) || decide (c.n > 20000)) || (match p with | some q => decide (ordR q.row c.row ≥ 0) | none => false)
def chsErr (cols : List Col) : Option Chg → List Chg → Int
  | _, [] => 0
  | p, c :: r => bif chgBad cols.length p c then 10 else bif valuesErr cols c.row != 0 then valuesErr cols c.row else chsErr cols (some c) r
def prevC (l : List Chg) (i : Nat) : Option Chg := match i with | 0 => none | j + 1 => l[j]?
/-- All together, held at 40000; none where one is below nothing. -/
def total : Int → List Chg → Option Int
  | t, [] => some t
  | t, c :: r => bif decide (c.n < 0) then none else total (mmI false (IntKind.i64.wrap (t + c.n)) 40000) r
def spread (l : List Chg) : List (List Val) := (l.map fun c => List.replicate c.n.toNat c.row).flatten
def aErr (e : Int) : Res := ⟨.tup [.agg [.d (.sl []), .d (.sl [])], .c (int e)], []⟩
def aOk (t : Tbl) : Res := ⟨.tup [t.w, .c (int 0)], []⟩
def aOk0 (cols : List Col) : Res := ⟨.tup [.agg [.d (.sl (colD cols)), .d (.sl [])], .c (int 0)], []⟩
def applyQ (t : Tbl) (cs : List Chg) (r : Res) : Prop :=
  bif tblErr t != 0 then r = aErr (tblErr t) else bif chsErr t.cols none cs != 0 then r = aErr (chsErr t.cols none cs)
  else ∃ u z, cntQ t.rows 1 u ∧ sumQ u cs z ∧ match total 0 z with
    | none => r = aErr 5
    | some n => bif decide (n > 20000) then r = aErr 7 else r = aOk ⟨t.cols, spread z⟩ ∨ (z = [] ∧ r = aOk0 t.cols)
def applyD (t : Tbl) (cs : List Chg) (r : Res) : Prop := r.v.plain = true ∧ applyQ t cs r.asData

def appS0 (t : Tbl) (cs : List Chg) (i : Int) : S := ⟨[(1, .w (chgC cs)), (2, cV (.ptr 2 0)), (4, cV (.ptr 4 0)), (23, .w (chgC cs)), (24, intV cs.length), (25, intV i)],
  [(2, .box [.d (.sl (colD t.cols)), .d (.sl (rowsD t.rows))]), (4, .box [.nil, .nil])]⟩
def appS1 (t : Tbl) (z : List Chg) (i : Nat) (T : Int) : S := ⟨[(2, cV (.ptr 2 0)), (4, cV (.ptr 4 0)), (10, .w (chgC z)), (11, intV T), (84, .w (chgC z)), (85, intV z.length), (86, intV i)],
  [(2, .box [.d (.sl (colD t.cols)), .d (.sl (rowsD t.rows))]), (4, .box [.nil, .nil])]⟩
theorem rowsD_sz (l : List (List Val)) : ∀ y ∈ rowsD l, y.length = 1 := by
  intro y hy
  obtain ⟨r, _, rfl⟩ := List.mem_map.1 hy
  rfl
def appS3 (cols : List Col) (z : List Chg) (i : Int) (rs : List (List Val)) : S := ⟨[(4, cV (.ptr 4 0)), (14, cV (.ptr 14 0)), (107, .w (chgC z)), (108, intV z.length), (109, intV i)], [(4, .box [.nil, .nil]), (14, .box [.d (.sl (colD cols)), .own 121 1 rs.length]), (121, .arr 1 (rowsD rs) false)]⟩
def appS2 (cols : List Col) (z : List Chg) : Nat → S
  | 0 => ⟨[(4, cV (.ptr 4 0)), (14, cV (.ptr 14 0)), (107, .w (chgC z)), (108, intV z.length), (109, intV 0)], [(4, .box [.nil, .nil]), (14, .box [.d (.sl (colD cols)), .nil])]⟩
  | i + 1 => appS3 cols z ((i + 1 : Nat) : Int) (spread (z.take (i + 1)))
theorem spread_len : ∀ (l : List Chg), (∀ c ∈ l, c.n ≤ 20000) → (spread l).length ≤ l.length * 20000
  | [], _ => by simp [spread]
  | c :: r, h => by
    have ih := spread_len r fun x hx => h x (List.mem_cons_of_mem _ hx)
    have hc := h c (List.mem_cons_self ..)
    have : (spread (c :: r)).length = c.n.toNat + (spread r).length := by simp [spread]
    rw [this, List.length_cons]; omega
theorem spread_app (l : List Chg) (c : Chg) : spread (l ++ [c]) = spread l ++ List.replicate c.n.toNat c.row := by simp [spread]
theorem chsErr_bnd (cols : List Col) : ∀ (cs : List Chg) (p : Option Chg), chsErr cols p cs = 0 → ∀ c ∈ cs, -20000 ≤ c.n ∧ c.n ≤ 20000
  | [], _, _, c, hc => by cases hc
  | a :: r, p, h, c, hc => by
    simp only [chsErr] at h
    cases hb : chgBad cols.length p a
    · rw [hb, cond_false] at h
      cases hv : (valuesErr cols a.row != 0)
      · rw [hv, cond_false] at h
        rcases List.mem_cons.1 hc with rfl | hc
        · unfold chgBad at hb
          simp only [Bool.or_eq_false_iff, decide_eq_false_iff_not] at hb
          omega
        · exact chsErr_bnd cols r _ h c hc
      · rw [hv, cond_true] at h
        rw [h] at hv; cases hv
    · rw [hb, cond_true] at h
      cases h
theorem addC_bnd {out : List Chg} {a : Chg} {B K : Int} (hB : 0 ≤ B) (hK : 0 ≤ K) (hs : B + K ≤ 4000000000000000000) (h1 : ∀ c ∈ out, -B ≤ c.n ∧ c.n ≤ B) (h2 : -K ≤ a.n ∧ a.n ≤ K) : ∀ c ∈ addC out a, -(B + K) ≤ c.n ∧ c.n ≤ B + K := by
  intro c hc
  have hout : ∀ c ∈ out, -(B + K) ≤ c.n ∧ c.n ≤ B + K := fun c hc => by have := h1 c hc; omega
  unfold addC at hc
  split at hc
  · rename_i y hy
    have hyo := h1 y (List.mem_of_getLast? hy)
    cases hb : (ordR y.row a.row == 0)
    · rw [hb, cond_false] at hc
      rcases List.mem_append.1 hc with hc | hc
      · exact hout c hc
      · rw [List.mem_singleton] at hc; rw [hc]; omega
    · rw [hb, cond_true] at hc
      rcases List.mem_append.1 hc with hc | hc
      · exact hout c (List.dropLast_subset _ hc)
      · rw [List.mem_singleton] at hc
        rw [hc]
        show -(B + K) ≤ IntKind.i64.wrap (y.n + a.n) ∧ IntKind.i64.wrap (y.n + a.n) ≤ B + K
        rw [wrapI (by omega) (by omega)]; omega
  · rw [List.mem_singleton] at hc; rw [hc]; omega
theorem grp_bnd {K : Int} (hK : 0 ≤ K) : ∀ (l out : List Chg) (B : Int), 0 ≤ B → B + l.length * K ≤ 4000000000000000000 → (∀ c ∈ out, -B ≤ c.n ∧ c.n ≤ B) → (∀ c ∈ l, -K ≤ c.n ∧ c.n ≤ K) → ∀ c ∈ l.foldl addC out, -(B + l.length * K) ≤ c.n ∧ c.n ≤ B + l.length * K
  | [], out, B, _, _, h1, _, c, hc => by simpa using h1 c hc
  | a :: r, out, B, hB, hs, h1, h2, c, hc => by
    have e : ((a :: r).length : Int) * K = (r.length : Int) * K + K := by rw [List.length_cons, Int.natCast_add, Int.add_mul]; simp
    have hn : 0 ≤ (r.length : Int) * K := Int.mul_nonneg (by omega) hK
    rw [e] at hs ⊢
    have := grp_bnd hK r (addC out a) (B + K) (by omega) (by omega) (addC_bnd hB hK (by omega) h1 (h2 a (List.mem_cons_self ..))) (fun x hx => h2 x (List.mem_cons_of_mem _ hx)) c hc
    omega
theorem total_small : ∀ (z : List Chg) (t T : Int), 0 ≤ t → t ≤ 40000 → (∀ c ∈ z, 0 ≤ c.n ∧ c.n ≤ 4000000000000000000) → total t z = some T → T ≤ 20000 → t ≤ T ∧ ∀ c ∈ z, c.n ≤ 20000
  | [], t, T, _, _, _, h, _ => by
    have h : some t = some T := h
    cases h; exact ⟨Int.le_refl _, fun c hc => by cases hc⟩
  | a :: r, t, T, h0, h1, h2, h, hT => by
    have ha := h2 a (List.mem_cons_self ..)
    have hd : decide (a.n < 0) = false := decide_eq_false (by omega)
    simp only [total, hd, cond_false] at h
    rw [wrapI (by omega) (by omega)] at h
    have hm : mmI false (t + a.n) 40000 = if 40000 < t + a.n then 40000 else t + a.n := rfl
    rw [hm] at h
    have h4 := total_small r _ T (by split <;> omega) (by split <;> omega) (fun x hx => h2 x (List.mem_cons_of_mem _ hx)) h hT
    have h5 : a.n ≤ 20000 ∧ t ≤ T := by
      have := h4.1
      split at this <;> omega
    refine ⟨h5.2, fun c hc => ?_⟩
    rcases List.mem_cons.1 hc with rfl | hc
    · exact h5.1
    · exact h4.2 c hc
attribute [local irreducible] applyD in
theorem sat_Apply (t : Tbl) (cs : List Chg) (ht : t.rows.length ≤ 50000) (hc : cs.length ≤ 50000) (htc : t.cols.length ≤ 100000) : Sat Pg k_delta_Apply [t.w, chgC cs] (applyQ t cs) := by
  refine Sat.data (Q := applyD t cs) ?_ (fun r h => by unfold applyD at h; exact h)
  obtain ⟨cols, rows⟩ := t
  refine Sat_of T3 c_delta_Apply_ok (by kernel_rfl) ?_
  conv => whnf
  refine Sat.mono (sat_table_Check ⟨cols, rows⟩) ?_
  rintro _ rfl
  conv => whnf
  refine cond_i (fun h1 => ?_) (fun h1 => ?_)
  · have h1 : (tblErr ⟨cols, rows⟩ != 0) = true := h1
    conv => whnf
    unfold applyD applyQ
    refine ⟨rfl, ?_⟩
    rw [h1, cond_true]
    rfl
  · have h1 : (tblErr ⟨cols, rows⟩ != 0) = false := h1
    conv => whnf
    refine loopI (P := Pg) (f := T3.f) (body := c_delta_Apply_L0) cs.length (fun i => appS0 ⟨cols, rows⟩ cs i) (fun i => chsErr cols none cs = chsErr cols (prevC cs i) (cs.drop i)) ⟨rfl, normW_of ?_⟩ ?_
    · conv => whnf
      rw [chgD_len]
      rfl
    · intro i hi hR
      have wi : i < cs.length → IntKind.i64.wrap ((i : Int) + 1) = ((i + 1 : Nat) : Int) := fun h => wrapS h (by omega)
      conv => whnf
      refine cond_i (fun h2 => ?_) (fun h2 => ?_)
      · have hlt : i < cs.length := by have h2 : decide ((i : Int) < (cs.length : Int)) = true := h2; have := of_decide_eq_true h2; omega
        rw [drop_cons hlt] at hR
        conv => whnf
        refine ⟨by omega, _, chgD_get hlt, rfl, ?_⟩
        conv => whnf
        refine cond_i (fun h3 => ?_) (fun h3 => ?_)
        · have h3 : ((((cs[i].row.length : Int) != (cols.length : Int) || cs[i].n == 0) || decide (cs[i].n < -20000)) || decide (cs[i].n > 20000)) = true := by rw [← rowD_len, ← colD_len]; exact h3
          have hb : chgBad cols.length (prevC cs i) cs[i] = true := by unfold chgBad; rw [h3]; rfl
          conv => whnf
          unfold applyD applyQ
          refine ⟨rfl, ?_⟩
          rw [h1, cond_false, show chsErr cols none cs = 10 from by rw [hR]; simp only [chsErr, hb, cond_true]]
          rfl
        · have h3 : ((((cs[i].row.length : Int) != (cols.length : Int) || cs[i].n == 0) || decide (cs[i].n < -20000)) || decide (cs[i].n > 20000)) = false := by rw [← rowD_len, ← colD_len]; exact h3
          conv => whnf
          refine cond_i (fun h4 => ?_) (fun h4 => ?_)
          · have h4 : decide ((i : Int) > 0) = true := h4
            have hi0 : 0 < i := by have := of_decide_eq_true h4; omega
            have wp : IntKind.i64.wrap ((i : Int) - 1) = ((i - 1 : Nat) : Int) := wrapP hi0 (by omega)
            have hlp : i - 1 < cs.length := by omega
            have hpv : prevC cs i = some cs[i - 1] := by
              cases i with
              | zero => omega
              | succ k => exact List.getElem?_eq_getElem hlp
            conv => whnf
            rw [wp]
            refine ⟨by omega, _, chgD_get hlp, rfl, ?_⟩
            conv => whnf
            refine Sat.mono (sat_delta_order cs[i - 1].row cs[i].row) ?_
            rintro _ rfl
            conv => whnf
            refine cond_i (fun h5 => ?_) (fun h5 => ?_)
            · have h5 : decide (ordR cs[i - 1].row cs[i].row ≥ 0) = true := h5
              have hb : chgBad cols.length (prevC cs i) cs[i] = true := by unfold chgBad; rw [h3, hpv]; exact h5
              conv => whnf
              unfold applyD applyQ
              refine ⟨rfl, ?_⟩
              rw [h1, cond_false, show chsErr cols none cs = 10 from by rw [hR]; simp only [chsErr, hb, cond_true]]
              rfl
            · have h5 : decide (ordR cs[i - 1].row cs[i].row ≥ 0) = false := h5
              have hb : chgBad cols.length (prevC cs i) cs[i] = false := by unfold chgBad; rw [h3, hpv]; exact h5
              conv => whnf
              refine Sat.mono (sat_delta_values cols cs[i].row) ?_
              rintro _ rfl
              conv => whnf
              refine cond_i (fun h6 => ?_) (fun h6 => ?_)
              · have h6 : (valuesErr cols cs[i].row != 0) = true := h6
                conv => whnf
                unfold applyD applyQ
                refine ⟨rfl, ?_⟩
                rw [h1, cond_false, show chsErr cols none cs = valuesErr cols cs[i].row from by rw [hR]; simp only [chsErr, hb, cond_false, h6, cond_true], h6]
                rfl
              · have h6 : (valuesErr cols cs[i].row != 0) = false := h6
                conv => whnf
                refine ⟨hlt, ?_, normW_of ?_⟩
                · rw [hR]; simp only [chsErr, hb, cond_false, h6]; rw [show prevC cs (i + 1) = some cs[i] from List.getElem?_eq_getElem hlt]
                · conv => whnf
                  rw [wi hlt]
                  rfl
          · have h4 : decide ((i : Int) > 0) = false := h4
            have hi0 : i = 0 := by have := of_decide_eq_false h4; omega
            have hpv : prevC cs i = none := by rw [hi0]; rfl
            have hb : chgBad cols.length (prevC cs i) cs[i] = false := by unfold chgBad; rw [h3, hpv]; rfl
            conv => whnf
            refine Sat.mono (sat_delta_values cols cs[i].row) ?_
            rintro _ rfl
            conv => whnf
            refine cond_i (fun h6 => ?_) (fun h6 => ?_)
            · have h6 : (valuesErr cols cs[i].row != 0) = true := h6
              conv => whnf
              unfold applyD applyQ
              refine ⟨rfl, ?_⟩
              rw [h1, cond_false, show chsErr cols none cs = valuesErr cols cs[i].row from by rw [hR]; simp only [chsErr, hb, cond_false, h6, cond_true], h6]
              rfl
            · have h6 : (valuesErr cols cs[i].row != 0) = false := h6
              conv => whnf
              refine ⟨hlt, ?_, normW_of ?_⟩
              · rw [hR]; simp only [chsErr, hb, cond_false, h6]; rw [show prevC cs (i + 1) = some cs[i] from List.getElem?_eq_getElem hlt]
              · conv => whnf
                rw [wi hlt]
                rfl
      · have hge : i = cs.length := by have h2 : decide ((i : Int) < (cs.length : Int)) = false := h2; have := of_decide_eq_false h2; omega
        have hce : chsErr cols none cs = 0 := by rw [hR, hge, List.drop_length]; cases prevC cs cs.length <;> rfl
        conv => whnf
        refine Sat.mono (sat_counted rows 1 (Nat.le_trans ht (by omega))) ?_
        rintro _ ⟨us, u1, u2, rfl⟩
        obtain ⟨u, hu⟩ : ∃ u, u = grp (us.map (cntC 1)) := ⟨_, rfl⟩
        have hul : u.length ≤ 50000 := by
          rw [hu]; exact Nat.le_trans (grp_len _) (by rw [List.length_map, u1.length_eq]; exact ht)
        rw [← hu]
        conv => whnf
        refine Sat.mono (sat_summed u cs (by omega) (by omega)) ?_
        rintro _ ⟨l, l1, l2, rfl⟩
        obtain ⟨z, hz⟩ : ∃ z, z = sumL l := ⟨_, rfl⟩
        have hzl : z.length ≤ 100000 := by
          rw [hz]
          refine Nat.le_trans (List.length_filter_le _ _) (Nat.le_trans (grp_len _) ?_)
          rw [l1.length_eq, List.length_append]; omega
        rw [← hz]
        have hq : ∀ r : Res, r.v.plain = true → (match total 0 z with
          | none => r.asData = aErr 5
          | some n => bif decide (n > 20000) then r.asData = aErr 7 else r.asData = aOk ⟨cols, spread z⟩ ∨ (z = [] ∧ r.asData = aOk0 cols)) → applyD ⟨cols, rows⟩ cs r := by
          intro r hp hr
          unfold applyD applyQ
          refine ⟨hp, ?_⟩
          rw [h1, cond_false, hce]
          exact ⟨u, z, ⟨us, ⟨u1, u2⟩, hu⟩, ⟨l, l1, l2, hz⟩, hr⟩
        conv => whnf
        refine loopF (P := Pg) (f := T3.f) (body := c_delta_Apply_L1) (fun x : Nat × Int => appS1 ⟨cols, rows⟩ z x.1 x.2) (fun x => z.length - x.1) (fun x => x.1 ≤ z.length ∧ total 0 z = total x.2 (z.drop x.1) ∧ ∀ c ∈ z.take x.1, ¬ c.n < 0) ⟨(0, 0), ⟨Nat.zero_le _, rfl, fun c hc => by simp at hc⟩, normW_of ?_⟩ ?_
        · conv => whnf
          rw [chgD_len]
          rfl
        · rintro ⟨q, T⟩ hR
          have hS : q ≤ z.length ∧ total 0 z = total T (z.drop q) ∧ ∀ c ∈ z.take q, ¬ c.n < 0 := hR
          clear hR
          obtain ⟨g1, g2, g3⟩ := hS
          have wq : q < z.length → IntKind.i64.wrap ((q : Int) + 1) = ((q + 1 : Nat) : Int) := fun h => wrapS h (by omega)
          conv => whnf
          refine cond_i (fun k1 => ?_) (fun k1 => ?_)
          · have hlt : q < z.length := by have k1 : decide ((q : Int) < (z.length : Int)) = true := k1; have := of_decide_eq_true k1; omega
            rw [drop_cons hlt] at g2
            conv => whnf
            refine ⟨by omega, _, chgD_get hlt, rfl, ?_⟩
            conv => whnf
            refine cond_i (fun k2 => ?_) (fun k2 => ?_)
            · have k2 : decide (z[q].n < 0) = true := k2
              conv => whnf
              refine hq _ rfl ?_
              rw [g2]
              simp only [total, k2, cond_true]
              rfl
            · have k2 : decide (z[q].n < 0) = false := k2
              conv => whnf
              refine ⟨(q + 1, mmI false (IntKind.i64.wrap (T + z[q].n)) 40000), ⟨⟨by show q + 1 ≤ z.length; omega, ?_, ?_⟩, by show z.length - (q + 1) < z.length - q; omega⟩, normW_of ?_⟩
              · rw [g2]; simp only [total, k2, cond_false]
              · intro c hc
                rw [List.take_succ_eq_append_getElem hlt, List.mem_append] at hc
                rcases hc with hc | hc
                · exact g3 c hc
                · rw [List.mem_singleton] at hc; rw [hc]; exact of_decide_eq_false k2
              · conv => whnf
                rw [wq hlt]
                rfl
          · have hge : q = z.length := by have k1 : decide ((q : Int) < (z.length : Int)) = false := k1; have := of_decide_eq_false k1; omega
            rw [hge, List.drop_length] at g2
            rw [hge, List.take_length] at g3
            conv => whnf
            refine cond_i (fun k3 => ?_) (fun k3 => ?_)
            · have k3 : decide (T > 20000) = true := k3
              conv => whnf
              refine hq _ rfl ?_
              rw [g2]
              simp only [total, k3, cond_true]
              rfl
            · have k3 : decide (T > 20000) = false := k3
              conv => whnf
              refine Sat.mono (sat_Clone_Column cols (Nat.le_trans htc (by omega))) ?_
              rintro _ rfl
              have hT : T ≤ 20000 := by have := of_decide_eq_false k3; omega
              have hub : ∀ c ∈ u, -50000 ≤ c.n ∧ c.n ≤ 50000 := by
                intro c hc
                rw [hu] at hc
                have h6 : ((us.map (cntC 1)).length : Int) ≤ 50000 := by rw [List.length_map, u1.length_eq]; have : rows.length ≤ 50000 := ht; omega
                have := grp_bnd (K := 1) (by omega) (us.map (cntC 1)) [] 0 (Int.le_refl _) (by omega) (fun c hc => by cases hc) (fun c hc => by
                  obtain ⟨r, _, rfl⟩ := List.mem_map.1 hc
                  show -1 ≤ (1 : Int) ∧ (1 : Int) ≤ 1
                  omega) c hc
                omega
              have hlb : ∀ c ∈ l, -50000 ≤ c.n ∧ c.n ≤ 50000 := by
                intro c hc
                rcases List.mem_append.1 (l1.mem_iff.1 hc) with hc | hc
                · exact hub c hc
                · have := chsErr_bnd cols cs none hce c hc; omega
              have hll : (l.length : Int) ≤ 100000 := by rw [l1.length_eq, List.length_append]; omega
              have hzb0 : ∀ c ∈ z, 0 ≤ c.n ∧ c.n ≤ 4000000000000000000 := by
                intro c hc
                have hn := g3 c hc
                rw [hz] at hc
                have := grp_bnd (K := 50000) (by omega) l [] 0 (Int.le_refl _) (by omega) (fun c hc => by cases hc) hlb c (List.mem_filter.1 hc).1
                omega
              have hzb : ∀ c ∈ z, 0 < c.n ∧ c.n ≤ 20000 := by
                intro c hc
                have h7 := (total_small z 0 T (Int.le_refl _) (by omega) hzb0 g2 hT).2 c hc
                have h8 := hzb0 c hc
                have h9 : c.n ≠ 0 := by
                  rw [hz] at hc
                  have := (List.mem_filter.1 hc).2
                  simpa using this
                omega
              conv => whnf
              refine loopI (P := Pg) (f := T3.f) (body := c_delta_Apply_L2) z.length (fun i => appS2 cols z i) (fun _ => True) ⟨trivial, normW_of ?_⟩ ?_
              · conv => whnf
                rw [chgD_len]
                rfl
              · intro i hi _
                have wj : i < z.length → IntKind.i64.wrap ((i : Int) + 1) = ((i + 1 : Nat) : Int) := fun h => wrapS h (by omega)
                cases i with
                | zero =>
                  conv => whnf
                  refine cond_i (fun k4 => ?_) (fun k4 => ?_)
                  · have hlt : 0 < z.length := by have k4 : decide (((0 : Nat) : Int) < (z.length : Int)) = true := k4; have := of_decide_eq_true k4; omega
                    have hb := hzb z[0] (List.getElem_mem hlt)
                    obtain ⟨k, hk⟩ : ∃ k : Nat, z[0].n = (k : Int) := ⟨z[0].n.toNat, by omega⟩
                    conv => whnf
                    refine ⟨by omega, _, chgD_get hlt, rfl, ?_⟩
                    conv => whnf
                    rw [hk]
                    refine Sat.mono (sat_Repeat z[0].row k (by omega)) ?_
                    rintro _ rfl
                    conv => whnf
                    refine ⟨rowsD_sz _, by unfold fits; rw [rowsD_len, List.length_replicate]; omega, by rw [rowsD_len, List.length_replicate]; omega, ?_⟩
                    conv => whnf
                    refine ⟨hlt, trivial, normW_of ?_⟩
                    conv => whnf
                    have e1 : spread (z.take 1) = List.replicate k z[0].row := by
                      rw [List.take_succ_eq_append_getElem hlt]; simp [spread, hk]
                    have v1 : IntKind.i64.wrap ((0 : Int) + 1) = 1 := wrapI (by omega) (by omega)
                    rw [v1, rowsD_len]
                    show appS3 cols z 1 (List.replicate k z[0].row) = appS3 cols z 1 (spread (z.take 1))
                    rw [e1]
                  · have hz0 : z = [] := by
                      have k4 : decide (((0 : Nat) : Int) < (z.length : Int)) = false := k4
                      have := of_decide_eq_false k4
                      exact List.eq_nil_of_length_eq_zero (by omega)
                    conv => whnf
                    refine hq _ rfl ?_
                    rw [g2]
                    simp only [total, k3, cond_false]
                    exact .inr ⟨hz0, rfl⟩
                | succ i =>
                  have hsl : (spread (z.take (i + 1))).length ≤ 2000000000 := by
                    have := spread_len (z.take (i + 1)) fun c hc => (hzb c (List.mem_of_mem_take hc)).2
                    have h5 : (z.take (i + 1)).length ≤ 100000 := by rw [List.length_take]; omega
                    omega
                  have htk : (rowsD (spread (z.take (i + 1)))).take (spread (z.take (i + 1))).length = rowsD (spread (z.take (i + 1))) := by rw [← rowsD_len, List.take_length]
                  obtain ⟨rs, hrs⟩ : ∃ rs, rs = spread (z.take (i + 1)) := ⟨_, rfl⟩
                  show mwpR Pg T3.f c_delta_Apply_L2 _ (appS3 cols z ((i + 1 : Nat) : Int) (spread (z.take (i + 1))))
                  rw [← hrs] at hsl htk ⊢
                  conv => whnf
                  refine cond_i (fun k4 => ?_) (fun k4 => ?_)
                  · have hlt : i + 1 < z.length := by have k4 : decide (((i + 1 : Nat) : Int) < (z.length : Int)) = true := k4; have := of_decide_eq_true k4; omega
                    have hb := hzb z[i + 1] (List.getElem_mem hlt)
                    obtain ⟨k, hk⟩ : ∃ k : Nat, z[i + 1].n = (k : Int) := ⟨z[i + 1].n.toNat, by omega⟩
                    conv => whnf
                    refine ⟨by omega, _, chgD_get hlt, rfl, ?_⟩
                    conv => whnf
                    rw [hk]
                    refine Sat.mono (sat_Repeat z[i + 1].row k (by omega)) ?_
                    rintro _ rfl
                    conv => whnf
                    refine ⟨rowsD_sz _, by unfold fits; rw [rowsD_len, List.length_replicate]; omega, by rw [rowsD_len, List.length_replicate]; omega, ?_⟩
                    conv => whnf
                    refine ⟨hlt, trivial, normW_of ?_⟩
                    conv => whnf
                    have e1 : spread (z.take (i + 1 + 1)) = rs ++ List.replicate k z[i + 1].row := by
                      rw [List.take_succ_eq_append_getElem hlt, spread_app, hk, ← hrs]; simp
                    rw [wj hlt, rowsD_len]
                    have e2 : (rowsD rs).take rs.length ++ rowsD (List.replicate k z[i + 1].row) = rowsD (rs ++ List.replicate k z[i + 1].row) := by rw [htk]; simp [rowsD]
                    show (⟨[(4, cV (.ptr 4 0)), (14, cV (.ptr 14 0)), (107, .w (chgC z)), (108, intV z.length), (109, intV ((i + 1 + 1 : Nat) : Int))], [(4, .box [.nil, .nil]), (14, .box [.d (.sl (colD cols)), .own 121 1 (rs.length + (List.replicate k z[i + 1].row).length)]), (121, .arr 1 ((rowsD rs).take rs.length ++ rowsD (List.replicate k z[i + 1].row)) false)]⟩ : S) = appS3 cols z ((i + 1 + 1 : Nat) : Int) (spread (z.take (i + 1 + 1)))
                    rw [e1, e2, ← List.length_append]
                    rfl
                  · have hge : z.length ≤ i + 1 := by have k4 : decide (((i + 1 : Nat) : Int) < (z.length : Int)) = false := k4; have := of_decide_eq_false k4; omega
                    rw [List.take_of_length_le hge] at hrs
                    conv => whnf
                    refine hq _ rfl ?_
                    rw [g2]
                    simp only [total, k3, cond_false]
                    refine .inl ?_
                    rw [← hrs]
                    exact congrArg (fun l => (⟨.tup [.agg [.d (.sl (colD cols)), .d (.sl l)], .c (int 0)], []⟩ : Res)) htk
end Go.Proofs.YtcajnlkkjdhjdaaGreat

namespace Go.Proofs.YtcajnlkkjdhjdaaGreat
open Go Go.AM

def canV (v : Val) : Prop := (v.k = 0 ∧ v.n = 0 ∧ v.s = ⟨#[]⟩) ∨ ((v.k = 1 ∨ v.k = 2) ∧ v.s = ⟨#[]⟩) ∨ (v.k = 3 ∧ v.n = 0)
theorem bif_ne {b : Bool} {x y : Int} (hx : x ≠ 0) (h : (bif b then x else y) = 0) : b = false ∧ y = 0 := by
  cases b
  · exact ⟨rfl, h⟩
  · exact absurd h hx
theorem canV_of {k : Int} {v : Val} (h : valErr k v = 0) : canV v := by
  unfold valErr at h
  obtain ⟨h1, h⟩ := bif_ne (by omega) h
  obtain ⟨_, h⟩ := bif_ne (by omega) h
  obtain ⟨_, h⟩ := bif_ne (by omega) h
  obtain ⟨_, h⟩ := bif_ne (by omega) h
  obtain ⟨h2, h⟩ := bif_ne (by omega) h
  obtain ⟨h3, _⟩ := bif_ne (by omega) h
  have hs : v.k = 3 ∨ v.s = ⟨#[]⟩ := by
    by_cases e : v.k = 3
    · exact .inl e
    · have e' : (v.k != 3) = true := by simpa using e
      rw [e', Bool.true_and] at h2
      exact .inr ((AM.beqS_iff _ _).1 (by simpa using h2))
  have hn : v.n = 0 ∨ (v.k ≠ 0 ∧ v.k ≠ 3) := by
    by_cases e : v.n = 0
    · exact .inl e
    · have e' : (v.n != 0) = true := by simpa using e
      rw [e', Bool.and_true] at h3
      simp at h3
      exact .inr h3
  have hk : v.k = 0 ∨ v.k = 1 ∨ v.k = 2 ∨ v.k = 3 := by
    by_cases e : v.k = 0
    · exact .inl e
    · have e' : (v.k != 0) = true := by simpa using e
      rw [e', Bool.true_and] at h1
      simp at h1
      omega
  unfold canV
  rcases hk with hk | hk | hk | hk
  · rcases hs with hs | hs
    · omega
    · rcases hn with hn | hn
      · exact .inl ⟨hk, hn, hs⟩
      · omega
  · rcases hs with hs | hs
    · omega
    · exact .inr (.inl ⟨.inl hk, hs⟩)
  · rcases hs with hs | hs
    · omega
    · exact .inr (.inl ⟨.inr hk, hs⟩)
  · rcases hn with hn | hn
    · exact .inr (.inr ⟨hk, hn⟩)
    · omega
theorem cmpI_zero {a b : Int} (h : cmpI a b = 0) : a = b := by
  rw [cmpI_eq] at h
  split at h
  · omega
  · split at h <;> omega
theorem cmpS_zero {a b : ByteArray} (h : cmpS a b = 0) : a = b := by
  unfold cmpS at h
  cases h1 : ltS a b
  · rw [h1, cond_false] at h
    cases h2 : beqS a b
    · rw [h2, cond_false] at h; omega
    · exact (AM.beqS_iff _ _).1 h2
  · rw [h1, cond_true] at h; omega
theorem ordV_zero {a b : Val} (ha : canV a) (hb : canV b) (h : ordV a b = 0) : a = b := by
  obtain ⟨ak, an, az⟩ := a
  obtain ⟨bk, bn, bz⟩ := b
  simp only [canV] at ha hb
  unfold ordV at h
  simp only at h
  have hk : ak = bk := by
    by_cases e : ak = bk
    · exact e
    · have e' : (ak != bk) = true := by simpa using e
      rw [e', cond_true] at h
      exact cmpI_zero h
  subst hk
  rw [show (ak != ak) = false by simp, cond_false] at h
  rcases ha with ⟨rfl, rfl, rfl⟩ | ⟨h1, rfl⟩ | ⟨rfl, rfl⟩
  · rcases hb with ⟨_, rfl, rfl⟩ | ⟨h2, _⟩ | ⟨h2, _⟩
    · rfl
    · omega
    · omega
  · rcases hb with ⟨h2, _, _⟩ | ⟨_, rfl⟩ | ⟨h2, _⟩
    · omega
    · have e3 : (ak == 3) = false := by simp; omega
      have e4 : (ak == 1 || ak == 2) = true := by simpa using h1
      rw [e3, cond_false, e4, cond_true] at h
      rw [cmpI_zero h]
    · omega
  · rcases hb with ⟨h2, _, _⟩ | ⟨h2, _⟩ | ⟨_, rfl⟩
    · omega
    · omega
    · rw [show ((3 : Int) == 3) = true from rfl, cond_true] at h
      rw [cmpS_zero h]

def canR (r : List Val) : Prop := ∀ v ∈ r, canV v
theorem ordR_zero : ∀ {a b : List Val}, canR a → canR b → ordR a b = 0 → a = b
  | [], [], _, _, _ => rfl
  | [], _ :: _, _, _, h => by have h : (-1 : Int) = 0 := h; omega
  | _ :: _, [], _, _, h => by have h : (1 : Int) = 0 := h; omega
  | x :: xs, y :: ys, ha, hb, h => by
    have h : (bif ordV x y != 0 then ordV x y else ordR xs ys) = 0 := h
    by_cases e : ordV x y = 0
    · rw [show (ordV x y != 0) = false by simp [e], cond_false] at h
      rw [ordV_zero (ha x (List.mem_cons_self ..)) (hb y (List.mem_cons_self ..)) e, ordR_zero (fun v hv => ha v (List.mem_cons_of_mem _ hv)) (fun v hv => hb v (List.mem_cons_of_mem _ hv)) h]
    · rw [show (ordV x y != 0) = true by simp [e], cond_true] at h
      exact absurd h e
theorem valuesL_can : ∀ {cols : List Col} {row : List Val}, row.length = cols.length → valuesL cols row = 0 → canR row
  | [], [], _, _ => fun v hv => by cases hv
  | [], _ :: _, h, _ => by cases h
  | _ :: _, [], h, _ => by cases h
  | c :: cs, v :: vs, hl, h => by
    have h : (bif valErr c.t v != 0 then valErr c.t v else valuesL cs vs) = 0 := h
    by_cases e : valErr c.t v = 0
    · rw [show (valErr c.t v != 0) = false by simp [e], cond_false] at h
      intro x hx
      rcases List.mem_cons.1 hx with rfl | hx
      · exact canV_of e
      · exact valuesL_can (by simpa using hl) h x hx
    · rw [show (valErr c.t v != 0) = true by simp [e], cond_true] at h
      exact absurd h e
theorem valuesErr_can {cols : List Col} {row : List Val} (h : valuesErr cols row = 0) : row.length = cols.length ∧ canR row := by
  unfold valuesErr at h
  obtain ⟨h1, h2⟩ := bif_ne (by omega) h
  have hl : row.length = cols.length := by
    rw [bne_eq_false_iff_eq] at h1; omega
  exact ⟨hl, valuesL_can hl h2⟩
end Go.Proofs.YtcajnlkkjdhjdaaGreat

namespace Go.Proofs.YtcajnlkkjdhjdaaGreat
open Go Go.AM

/-- What a list of changes says of a row. -/
def wt : List Chg → List Val → Int
  | [], _ => 0
  | c :: l, r => (bif ordR c.row r == 0 then c.n else 0) + wt l r
theorem wt_app (a b : List Chg) (r : List Val) : wt (a ++ b) r = wt a r + wt b r := by
  induction a with
  | nil => simp [wt]
  | cons c l ih => simp only [List.cons_append, wt, ih]; omega
theorem wt_perm {a b : List Chg} (h : a.Perm b) (r : List Val) : wt a r = wt b r := by
  induction h with
  | nil => rfl
  | cons x _ ih => simp only [wt, ih]
  | swap x y l => simp only [wt]; omega
  | trans _ _ ih1 ih2 => exact ih1.trans ih2
theorem eq_row {a b r : List Val} (h : ordR a b = 0) : (ordR a r == 0) = (ordR b r == 0) := by
  have hb := ordR_ok.zero.1 h
  have key : ordR a r = 0 ↔ ordR b r = 0 := by
    constructor
    · intro e
      have e1 := ordR_ok.trans b a r (by omega) (by omega)
      have e2 := ordR_ok.trans r a b (by have := ordR_ok.zero.1 e; omega) (by omega)
      have := ordR_ok.ge.2 e2
      omega
    · intro e
      have e1 := ordR_ok.trans a b r (by omega) (by omega)
      have e2 := ordR_ok.trans r b a (by have := ordR_ok.zero.1 e; omega) (by omega)
      have := ordR_ok.ge.2 e2
      omega
  by_cases e : ordR a r = 0
  · rw [e, key.1 e]
  · have e2 : ¬ ordR b r = 0 := fun h => e (key.2 h)
    rw [beq_eq_false_iff_ne.2 e, beq_eq_false_iff_ne.2 e2]
theorem snoc_last {out : List Chg} {y : Chg} (h : out.getLast? = some y) : out = out.dropLast ++ [y] := by
  obtain ⟨ys, e⟩ := List.getLast?_eq_some_iff.1 h
  rw [e, List.dropLast_concat]
theorem wt_addC {out : List Chg} {a : Chg} {B K : Int} (hs : B + K ≤ 4000000000000000000) (h1 : ∀ c ∈ out, -B ≤ c.n ∧ c.n ≤ B) (h2 : -K ≤ a.n ∧ a.n ≤ K) (r : List Val) : wt (addC out a) r = wt out r + wt [a] r := by
  unfold addC
  split
  · rename_i y hy
    have hyo := h1 y (List.mem_of_getLast? hy)
    have ho := snoc_last hy
    cases hb : (ordR y.row a.row == 0)
    · rw [cond_false, wt_app]
    · rw [cond_true]
      have e0 : ordR y.row a.row = 0 := by simpa using hb
      have e1 : wt out r = wt out.dropLast r + wt [y] r := by rw [← wt_app, ← ho]
      rw [wt_app, e1]
      simp only [wt, eq_row e0]
      rw [wrapI (by omega) (by omega)]
      cases (ordR a.row r == 0) <;> simp <;> omega
  · rename_i hn
    have : out = [] := by cases out with | nil => rfl | cons x l => simp at hn
    rw [this]; simp [wt]
theorem wt_foldl {K : Int} (hK : 0 ≤ K) (r : List Val) : ∀ (l out : List Chg) (B : Int), 0 ≤ B → B + l.length * K ≤ 4000000000000000000 → (∀ c ∈ out, -B ≤ c.n ∧ c.n ≤ B) → (∀ c ∈ l, -K ≤ c.n ∧ c.n ≤ K) → wt (l.foldl addC out) r = wt out r + wt l r
  | [], out, B, _, _, _, _ => by simp [wt]
  | a :: l, out, B, hB, hs, h1, h2 => by
    have e : ((a :: l).length : Int) * K = (l.length : Int) * K + K := by rw [List.length_cons, Int.natCast_add, Int.add_mul]; simp
    have hn : 0 ≤ (l.length : Int) * K := Int.mul_nonneg (by omega) hK
    rw [e] at hs
    have ha := h2 a (List.mem_cons_self ..)
    rw [List.foldl_cons, wt_foldl hK r l (addC out a) (B + K) (by omega) (by omega) (addC_bnd hB hK (by omega) h1 ha) (fun x hx => h2 x (List.mem_cons_of_mem _ hx)), wt_addC (B := B) (K := K) (by omega) h1 ha]
    simp only [wt]; omega
theorem wt_filter (l : List Chg) (r : List Val) : wt (l.filter fun x => !(x.n == 0)) r = wt l r := by
  induction l with
  | nil => rfl
  | cons c l ih =>
    by_cases e : c.n = 0
    · simp [e, wt, ih]
    · simp [e, wt, ih]
end Go.Proofs.YtcajnlkkjdhjdaaGreat

namespace Go.Proofs.YtcajnlkkjdhjdaaGreat
open Go Go.AM

def Asc (l : List Chg) : Prop := l.Pairwise fun a b => ordR a.row b.row < 0
theorem asc_addC {out : List Chg} {x : Chg} (h : Asc out) (hx : ∀ y ∈ out, ordR y.row x.row ≤ 0) : Asc (addC out x) ∧ ∀ y ∈ addC out x, ∃ z, (z ∈ out ∨ z = x) ∧ y.row = z.row := by
  unfold addC
  split
  · rename_i y hy
    have ho := snoc_last hy
    have hyo := List.mem_of_getLast? hy
    have ha := h
    rw [ho] at ha
    unfold Asc at ha
    rw [List.pairwise_append] at ha
    cases hb : (ordR y.row x.row == 0)
    · rw [cond_false]
      have hne : ordR y.row x.row ≠ 0 := by simpa using hb
      have hlt : ordR y.row x.row < 0 := by have := hx y hyo; omega
      refine ⟨?_, fun z hz => ?_⟩
      · unfold Asc
        rw [List.pairwise_append]
        refine ⟨h, List.pairwise_singleton _ _, fun a ha' b hb' => ?_⟩
        rw [List.mem_singleton] at hb'
        subst hb'
        rw [ho] at ha'
        rcases List.mem_append.1 ha' with ha' | ha'
        · exact ordR_ok.lt_of (ha.2.2 a ha' y (List.mem_singleton.2 rfl)) (by omega)
        · rw [List.mem_singleton] at ha'; rw [ha']; exact hlt
      · rcases List.mem_append.1 hz with hz | hz
        · exact ⟨z, .inl hz, rfl⟩
        · exact ⟨x, .inr rfl, by rw [List.mem_singleton.1 hz]⟩
    · rw [cond_true]
      refine ⟨?_, fun z hz => ?_⟩
      · unfold Asc
        rw [List.pairwise_append]
        refine ⟨ha.1, List.pairwise_singleton _ _, fun a ha' b hb' => ?_⟩
        rw [List.mem_singleton] at hb'
        subst hb'
        exact ha.2.2 a ha' y (List.mem_singleton.2 rfl)
      · rcases List.mem_append.1 hz with hz | hz
        · exact ⟨z, .inl (List.dropLast_subset _ hz), rfl⟩
        · exact ⟨y, .inl hyo, by rw [List.mem_singleton.1 hz]⟩
  · refine ⟨List.pairwise_singleton _ _, fun y hy => ⟨x, .inr rfl, by rw [List.mem_singleton.1 hy]⟩⟩
theorem asc_foldl : ∀ (l out : List Chg), Asc out → l.Pairwise (fun a b => ordR a.row b.row ≤ 0) → (∀ y ∈ out, ∀ x ∈ l, ordR y.row x.row ≤ 0) → Asc (l.foldl addC out) ∧ ∀ y ∈ l.foldl addC out, ∃ z, (z ∈ out ∨ z ∈ l) ∧ y.row = z.row
  | [], out, h, _, _ => ⟨h, fun y hy => ⟨y, .inl hy, rfl⟩⟩
  | a :: l, out, h, hs, hx => by
    rw [List.pairwise_cons] at hs
    have h1 := asc_addC h (fun y hy => hx y hy a (List.mem_cons_self ..))
    have h2 := asc_foldl l (addC out a) h1.1 hs.2 (fun y hy x hxl => by
      obtain ⟨z, hz, e⟩ := h1.2 y hy
      rw [e]
      rcases hz with hz | rfl
      · exact hx z hz x (List.mem_cons_of_mem _ hxl)
      · exact hs.1 x hxl)
    refine ⟨h2.1, fun y hy => ?_⟩
    obtain ⟨z, hz, e⟩ := h2.2 y hy
    rcases hz with hz | hz
    · obtain ⟨w, hw, e2⟩ := h1.2 z hz
      rcases hw with hw | rfl
      · exact ⟨w, .inl hw, e.trans e2⟩
      · exact ⟨w, .inr (List.mem_cons_self ..), e.trans e2⟩
    · exact ⟨z, .inr (List.mem_cons_of_mem _ hz), e⟩
theorem wt_above {l : List Chg} {r : List Val} (h : ∀ c ∈ l, ordR r c.row < 0) : wt l r = 0 := by
  induction l with
  | nil => rfl
  | cons c l ih =>
    have hc := h c (List.mem_cons_self ..)
    have e : (ordR c.row r == 0) = false := by
      rw [beq_eq_false_iff_ne]
      intro e
      have := ordR_ok.zero.1 e
      omega
    simp only [wt, e, cond_false, ih fun x hx => h x (List.mem_cons_of_mem _ hx)]
    rfl
theorem wt_head {c : Chg} {l : List Chg} (h : Asc (c :: l)) : wt (c :: l) c.row = c.n := by
  unfold Asc at h
  rw [List.pairwise_cons] at h
  have e : (ordR c.row c.row == 0) = true := by rw [ordR_ok.refl]; rfl
  simp only [wt, e, cond_true, wt_above h.1]
  omega
theorem asc_unique : ∀ {a b : List Chg}, Asc a → Asc b → (∀ c ∈ a, c.n ≠ 0 ∧ canR c.row) → (∀ c ∈ b, c.n ≠ 0 ∧ canR c.row) → (∀ r, wt a r = wt b r) → a = b
  | [], [], _, _, _, _, _ => rfl
  | [], y :: b, _, hb, _, h2, h => by
    have := h y.row
    rw [wt_head hb] at this
    exact absurd this.symm (h2 y (List.mem_cons_self ..)).1
  | x :: a, [], ha, _, h1, _, h => by
    have := h x.row
    rw [wt_head ha] at this
    exact absurd this (h1 x (List.mem_cons_self ..)).1
  | x :: a, y :: b, ha, hb, h1, h2, h => by
    have hx := h1 x (List.mem_cons_self ..)
    have hy := h2 y (List.mem_cons_self ..)
    have pa := ha
    have pb := hb
    unfold Asc at pa pb
    rw [List.pairwise_cons] at pa pb
    rcases Int.lt_trichotomy (ordR x.row y.row) 0 with e | e | e
    · have := h x.row
      rw [wt_head ha, wt_above (l := y :: b) fun c hc => by
        rcases List.mem_cons.1 hc with rfl | hc
        · exact e
        · exact ordR_ok.lt_of e (by have := pb.1 c hc; omega)] at this
      exact absurd this hx.1
    · have er := ordR_zero hx.2 hy.2 e
      have en : x.n = y.n := by
        have := h x.row
        rw [wt_head ha, er, wt_head hb] at this
        exact this
      have exy : x = y := by
        obtain ⟨xr, xn⟩ := x
        obtain ⟨yr, yn⟩ := y
        simp only at er en
        rw [er, en]
      rw [exy, asc_unique pa.2 pb.2 (fun c hc => h1 c (List.mem_cons_of_mem _ hc)) (fun c hc => h2 c (List.mem_cons_of_mem _ hc)) fun r => by
        have := h r
        rw [exy] at this
        simp only [wt] at this
        omega]
    · have e' : ordR y.row x.row < 0 := (ordR_ok.anti _ _).2 e
      have := h y.row
      rw [wt_head hb, wt_above (l := x :: a) fun c hc => by
        rcases List.mem_cons.1 hc with rfl | hc
        · exact e'
        · exact ordR_ok.lt_of e' (by have := pa.1 c hc; omega)] at this
      exact absurd this.symm hy.1
end Go.Proofs.YtcajnlkkjdhjdaaGreat

namespace Go.Proofs.YtcajnlkkjdhjdaaGreat
open Go Go.AM

theorem sortW_pair {l : List Chg} (h : SortW ordG 0 l.length l) : l.Pairwise fun a b => ordR a.row b.row ≤ 0 := by
  rw [List.pairwise_iff_getElem]
  intro i j hi hj hij
  exact h i j _ _ (Nat.zero_le _) hij hj (List.getElem?_eq_getElem hi) (List.getElem?_eq_getElem hj)

/-- summed: ascending, without zeros, and it weighs what was put in. -/
theorem sumQ_law {xs ys z : List Chg} {K : Int} (hK : 0 ≤ K) (hs : ((xs ++ ys).length : Int) * K ≤ 4000000000000000000) (hb : ∀ c ∈ xs ++ ys, -K ≤ c.n ∧ c.n ≤ K) (hr : ∀ c ∈ xs ++ ys, canR c.row) (h : sumQ xs ys z) :
    Asc z ∧ (∀ c ∈ z, c.n ≠ 0 ∧ canR c.row ∧ ∃ x ∈ xs ++ ys, c.row = x.row) ∧ ∀ r, wt z r = wt xs r + wt ys r := by
  obtain ⟨l, hp, hsort, rfl⟩ := h
  have hlb : ∀ c ∈ l, -K ≤ c.n ∧ c.n ≤ K := fun c hc => hb c (hp.mem_iff.1 hc)
  have hlen : (l.length : Int) * K ≤ 4000000000000000000 := by rw [hp.length_eq]; exact hs
  have ha := asc_foldl l [] List.Pairwise.nil (sortW_pair hsort) (fun y hy => by cases hy)
  refine ⟨ha.1.filter _, fun c hc => ?_, fun r => ?_⟩
  · have hc' := List.mem_filter.1 hc
    obtain ⟨w, hw, e⟩ := ha.2 c hc'.1
    have hw : w ∈ l := by rcases hw with hw | hw; cases hw; exact hw
    have hw2 := hp.mem_iff.1 hw
    exact ⟨by simpa using hc'.2, by rw [e]; exact hr w hw2, w, hw2, e⟩
  · show wt ((grp l).filter fun x => !(x.n == 0)) r = _
    rw [wt_filter, grp, wt_foldl hK r l [] 0 (Int.le_refl _) (by omega) (fun c hc => by cases hc) hlb, wt_perm hp, wt_app]
    simp [wt]

/-- How often a row is there. -/
def cnt (rows : List (List Val)) (r : List Val) : Int := wt (rows.map (cntC 1)) r
theorem cnt_k (k : Int) (rows : List (List Val)) (r : List Val) : wt (rows.map (cntC k)) r = k * cnt rows r := by
  unfold cnt
  induction rows with
  | nil => simp [wt]
  | cons a l ih =>
    simp only [List.map_cons, wt, ih, cntC]
    rw [Int.mul_add]
    cases (ordR a r == 0) <;> simp
theorem cntQ_wt {rows : List (List Val)} {k : Int} {z : List Chg} (hk : -1 ≤ k ∧ k ≤ 1) (hl : rows.length ≤ 1000000) (h : cntQ rows k z) (r : List Val) : wt z r = k * cnt rows r := by
  obtain ⟨ys, hp, rfl⟩ := h
  have hlen : (((ys.map (cntC k)).length : Int)) ≤ 1000000 := by rw [List.length_map, hp.1.length_eq]; omega
  rw [grp, wt_foldl (K := 1) (by omega) r _ [] 0 (Int.le_refl _) (by omega) (fun c hc => by cases hc) (fun c hc => by
    obtain ⟨y, _, rfl⟩ := List.mem_map.1 hc
    exact hk), ← cnt_k, wt_perm (hp.1.map (cntC k))]
  simp [wt]
theorem cnt_app (a b : List (List Val)) (r : List Val) : cnt (a ++ b) r = cnt a r + cnt b r := by
  unfold cnt
  rw [List.map_append, wt_app]
theorem cnt_rep (k : Nat) (a r : List Val) : cnt (List.replicate k a) r = bif ordR a r == 0 then (k : Int) else 0 := by
  induction k with
  | zero => cases (ordR a r == 0) <;> rfl
  | succ k ih =>
    rw [List.replicate_succ]
    show (bif ordR a r == 0 then 1 else 0) + cnt (List.replicate k a) r = _
    rw [ih]
    cases (ordR a r == 0) <;> simp <;> omega
/-- The table that Apply makes counts as the sums say. -/
theorem cnt_spread (z : List Chg) (h : ∀ c ∈ z, 0 ≤ c.n) (r : List Val) : cnt (spread z) r = wt z r := by
  induction z with
  | nil => rfl
  | cons c l ih =>
    have hc := h c (List.mem_cons_self ..)
    have : spread (c :: l) = List.replicate c.n.toNat c.row ++ spread l := by simp [spread]
    rw [this, cnt_app, cnt_rep, ih fun x hx => h x (List.mem_cons_of_mem _ hx)]
    simp only [wt]
    rw [Int.toNat_of_nonneg hc]
end Go.Proofs.YtcajnlkkjdhjdaaGreat

namespace Go.Proofs.YtcajnlkkjdhjdaaGreat
open Go Go.AM

theorem chsErr_law (cols : List Col) : ∀ (cs : List Chg) (p : Option Chg), chsErr cols p cs = 0 → Asc cs ∧ (∀ c ∈ cs, c.n ≠ 0 ∧ valuesErr cols c.row = 0) ∧ ∀ q, p = some q → ∀ c ∈ cs, ordR q.row c.row < 0
  | [], _, _ => ⟨List.Pairwise.nil, fun c hc => by (cases hc), fun q _ c hc => by (cases hc)⟩
  | a :: r, p, h => by
    simp only [chsErr] at h
    cases hb : chgBad cols.length p a
    · rw [hb, cond_false] at h
      cases hv : (valuesErr cols a.row != 0)
      · rw [hv, cond_false] at h
        obtain ⟨i1, i2, i3⟩ := chsErr_law cols r (some a) h
        have hra := i3 a rfl
        unfold chgBad at hb
        simp only [Bool.or_eq_false_iff, decide_eq_false_iff_not] at hb
        obtain ⟨⟨⟨⟨b1, b2⟩, b3⟩, b4⟩, b5⟩ := hb
        refine ⟨List.pairwise_cons.2 ⟨hra, i1⟩, fun c hc => ?_, fun q hq c hc => ?_⟩
        · rcases List.mem_cons.1 hc with rfl | hc
          · exact ⟨by simpa using b2, by simpa using hv⟩
          · exact i2 c hc
        · subst hq
          have b5 : ¬ ordR q.row a.row ≥ 0 := of_decide_eq_false b5
          rcases List.mem_cons.1 hc with rfl | hc
          · omega
          · exact ordR_ok.lt_of (by omega : ordR q.row a.row < 0) (by have := hra c hc; omega)
      · rw [hv, cond_true] at h
        rw [h] at hv; cases hv
    · rw [hb, cond_true] at h
      cases h
theorem rowsL_law {cols : List Col} : ∀ {rows : List (List Val)}, rowsL cols rows = 0 ↔ ∀ r ∈ rows, valuesErr cols r = 0
  | [] => ⟨fun _ r hr => by (cases hr), fun _ => rfl⟩
  | a :: rs => by
    have ih := rowsL_law (cols := cols) (rows := rs)
    simp only [rowsL]
    constructor
    · intro h
      obtain ⟨h1, h⟩ := bif_ne (by omega) h
      cases hv : (valuesL cols a != 0)
      · rw [hv, cond_false] at h
        intro r hr
        rcases List.mem_cons.1 hr with rfl | hr
        · unfold valuesErr; rw [h1, cond_false]; simpa using hv
        · exact ih.1 h r hr
      · rw [hv, cond_true] at h
        rw [h] at hv; cases hv
    · intro h
      have ha := h a (List.mem_cons_self ..)
      unfold valuesErr at ha
      obtain ⟨h1, h2⟩ := bif_ne (by omega) ha
      rw [h1, cond_false, h2]
      exact ih.2 fun r hr => h r (List.mem_cons_of_mem _ hr)
theorem tblErr_law (t : Tbl) : tblErr t = 0 ↔ t.cols.length ≤ 32 ∧ t.rows.length ≤ 20000 ∧ colsL t.cols 0 t.cols = 0 ∧ ∀ r ∈ t.rows, valuesErr t.cols r = 0 := by
  unfold tblErr
  constructor
  · intro h
    obtain ⟨h1, h⟩ := bif_ne (by omega) h
    simp only [Bool.or_eq_false_iff, decide_eq_false_iff_not] at h1
    cases hc : (colsL t.cols 0 t.cols != 0)
    · rw [hc, cond_false] at h
      exact ⟨by omega, by omega, by simpa using hc, rowsL_law.1 h⟩
    · rw [hc, cond_true] at h
      rw [h] at hc; cases hc
  · rintro ⟨h1, h2, h3, h4⟩
    have e1 : (decide ((t.cols.length : Int) > 32) || decide ((t.rows.length : Int) > 20000)) = false := by
      simp only [Bool.or_eq_false_iff, decide_eq_false_iff_not]; omega
    rw [e1, cond_false, h3]
    exact rowsL_law.2 h4
end Go.Proofs.YtcajnlkkjdhjdaaGreat

namespace Go.Proofs.YtcajnlkkjdhjdaaGreat
open Go Go.AM

theorem total_pos : ∀ (z : List Chg) (t T : Int), total t z = some T → ∀ c ∈ z, 0 ≤ c.n
  | [], _, _, _, c, hc => by cases hc
  | a :: r, t, T, h, c, hc => by
    simp only [total] at h
    cases hd : decide (a.n < 0)
    · rw [hd, cond_false] at h
      rcases List.mem_cons.1 hc with rfl | hc
      · have := of_decide_eq_false hd; omega
      · exact total_pos r _ T h c hc
    · rw [hd, cond_true] at h
      cases h
theorem total_len : ∀ (z : List Chg) (t T : Int), 0 ≤ t → t ≤ 40000 → (∀ c ∈ z, 0 ≤ c.n ∧ c.n ≤ 4000000000000000000) → total t z = some T → T ≤ 20000 → T = t + (spread z).length
  | [], t, T, _, _, _, h, _ => by
    have h : some t = some T := h
    cases h; simp [spread]
  | a :: r, t, T, h0, h1, h2, h, hT => by
    have ha := h2 a (List.mem_cons_self ..)
    have hs := total_small (a :: r) t T h0 h1 h2 h hT
    have hd : decide (a.n < 0) = false := decide_eq_false (by omega)
    have hsp : (spread (a :: r)).length = a.n.toNat + (spread r).length := by simp [spread]
    simp only [total, hd, cond_false] at h
    rw [wrapI (by omega) (by omega)] at h
    have hm : mmI false (t + a.n) 40000 = if 40000 < t + a.n then 40000 else t + a.n := rfl
    have hr2 : ∀ c ∈ r, 0 ≤ c.n ∧ c.n ≤ 4000000000000000000 := fun x hx => h2 x (List.mem_cons_of_mem _ hx)
    rw [hm] at h
    have h4 := total_small r _ T (by split <;> omega) (by split <;> omega) hr2 h hT
    have hle : ¬ 40000 < t + a.n := by
      intro hgt
      have := h4.1
      rw [if_pos hgt] at this
      omega
    rw [if_neg hle] at h
    have := total_len r (t + a.n) T (by omega) (by omega) hr2 h hT
    rw [hsp]; omega
theorem mem_spread {z : List Chg} {r : List Val} (h : r ∈ spread z) : ∃ c ∈ z, r = c.row := by
  unfold spread at h
  obtain ⟨l, hl, hr⟩ := List.mem_flatten.1 h
  obtain ⟨c, hc, rfl⟩ := List.mem_map.1 hl
  exact ⟨c, hc, (List.mem_replicate.1 hr).2⟩
end Go.Proofs.YtcajnlkkjdhjdaaGreat

namespace Go.Proofs.YtcajnlkkjdhjdaaGreat
open Go Go.AM

theorem cntQ_law {rows : List (List Val)} {k : Int} {z : List Chg} (hk : -1 ≤ k ∧ k ≤ 1) (hl : rows.length ≤ 50000) (h : cntQ rows k z) : z.length ≤ 50000 ∧ ∀ c ∈ z, c.row ∈ rows ∧ -50000 ≤ c.n ∧ c.n ≤ 50000 := by
  obtain ⟨ys, hp, rfl⟩ := h
  have hlen : (((ys.map (cntC k)).length : Int)) ≤ 50000 := by rw [List.length_map, hp.1.length_eq]; omega
  refine ⟨Nat.le_trans (grp_len _) (by omega), fun c hc => ?_⟩
  have hb := grp_bnd (K := 1) (by omega) (ys.map (cntC k)) [] 0 (Int.le_refl _) (by omega) (fun c hc => by cases hc) (fun c hc => by
    obtain ⟨y, _, rfl⟩ := List.mem_map.1 hc
    exact hk) c hc
  have hs : (ys.map (cntC k)).Pairwise fun a b => ordR a.row b.row ≤ 0 := by
    rw [List.pairwise_map]
    refine hp.2.imp fun {a b} hab => ?_
    show ordR a b ≤ 0
    exact ordR_ok.ge.1 (by omega)
  obtain ⟨w, hw, e⟩ := (asc_foldl _ [] List.Pairwise.nil hs (fun y hy => by cases hy)).2 c hc
  rcases hw with hw | hw
  · cases hw
  · obtain ⟨y, hy, rfl⟩ := List.mem_map.1 hw
    refine ⟨?_, by omega, by omega⟩
    rw [e]; exact hp.1.mem_iff.1 hy

theorem back_law (t : Tbl) (cs : List Chg) (hT : tblErr t = 0) (hc : chsErr t.cols none cs = 0) (hl : cs.length ≤ 50000) (hsc : sameCols t.cols t.cols = true) {u z : List Chg} (hu : cntQ t.rows 1 u) (hz : sumQ u cs z) {n : Int} (hn : total 0 z = some n) (hn2 : n ≤ 20000) :
    tblErr ⟨t.cols, spread z⟩ = 0 ∧ ∀ r, diffQ t ⟨t.cols, spread z⟩ r → r = ⟨.tup [.c (.d (.sl (chgD cs))), .c (int 0)], []⟩ := by
  obtain ⟨t1, t2, t3, t4⟩ := (tblErr_law t).1 hT
  have hb := chsErr_bnd t.cols cs none hc
  obtain ⟨c1, c2, _⟩ := chsErr_law t.cols cs none hc
  obtain ⟨u1, u2⟩ := cntQ_law (by omega) (by omega) hu
  have hbb : ∀ c ∈ u ++ cs, -50000 ≤ c.n ∧ c.n ≤ 50000 := fun c h => by
    rcases List.mem_append.1 h with h | h
    · exact (u2 c h).2
    · have := hb c h; omega
  have hval : ∀ c ∈ u ++ cs, valuesErr t.cols c.row = 0 := fun c h => by
    rcases List.mem_append.1 h with h | h
    · exact t4 _ (u2 c h).1
    · exact (c2 c h).2
  have hll : (((u ++ cs).length : Int)) ≤ 100000 := by rw [List.length_append]; omega
  obtain ⟨z1, z2, z3⟩ := sumQ_law (K := 50000) (by omega) (by omega) hbb (fun c h => (valuesErr_can (hval c h)).2) hz
  have zp := total_pos z 0 n hn
  have zb : ∀ c ∈ z, 0 ≤ c.n ∧ c.n ≤ 4000000000000000000 := by
    intro c h
    obtain ⟨l, lp, _, rfl⟩ := hz
    have hl2 : (l.length : Int) ≤ 100000 := by rw [lp.length_eq]; exact hll
    have := grp_bnd (K := 50000) (by omega) l [] 0 (Int.le_refl _) (by omega) (fun c hc => by cases hc) (fun c hc => hbb c (lp.mem_iff.1 hc)) c (List.mem_filter.1 h).1
    have := zp c h
    omega
  have hlen := total_len z 0 n (Int.le_refl _) (by omega) zb hn hn2
  have hzv : ∀ r ∈ spread z, valuesErr t.cols r = 0 := fun r hr => by
    obtain ⟨c, h, rfl⟩ := mem_spread hr
    obtain ⟨_, _, x, hx, e⟩ := z2 c h
    rw [e]; exact hval x hx
  have hT2 : tblErr ⟨t.cols, spread z⟩ = 0 := (tblErr_law _).2 ⟨t1, by show (spread z).length ≤ 20000; omega, t3, hzv⟩
  refine ⟨hT2, fun r h => ?_⟩
  unfold diffQ at h
  rw [hT, hT2] at h
  simp only [bne_self_eq_false, cond_false] at h
  rw [show sameCols t.cols (Tbl.mk t.cols (spread z)).cols = true from hsc] at h
  obtain ⟨v, w, y, hv, hw, hy, rfl⟩ := h
  have hsl : (spread z).length ≤ 50000 := by omega
  obtain ⟨v1, v2⟩ := cntQ_law (by omega) (by omega) hv
  obtain ⟨w1, w2⟩ := cntQ_law (rows := spread z) (by omega) hsl hw
  have hvw : ∀ c ∈ v ++ w, (-50000 ≤ c.n ∧ c.n ≤ 50000) ∧ canR c.row := fun c h => by
    rcases List.mem_append.1 h with h | h
    · exact ⟨(v2 c h).2, (valuesErr_can (t4 _ (v2 c h).1)).2⟩
    · exact ⟨(w2 c h).2, (valuesErr_can (hzv _ (w2 c h).1)).2⟩
  have hl3 : (((v ++ w).length : Int)) ≤ 100000 := by rw [List.length_append]; omega
  obtain ⟨y1, y2, y3⟩ := sumQ_law (K := 50000) (by omega) (by omega) (fun c h => (hvw c h).1) (fun c h => (hvw c h).2) hy
  have : y = cs := asc_unique y1 c1 (fun c h => ⟨(y2 c h).1, (y2 c h).2.1⟩) (fun c h => ⟨(c2 c h).1, (valuesErr_can (c2 c h).2).2⟩) fun r => by
    rw [y3, cntQ_wt (by omega) (by omega) hv, cntQ_wt (rows := spread z) (by omega) (by omega) hw, cnt_spread z zp, z3, cntQ_wt (by omega) (by omega) hu]
    omega
  rw [this]
end Go.Proofs.YtcajnlkkjdhjdaaGreat

namespace Go.Proofs.YtcajnlkkjdhjdaaGreat
open Go Go.AM
theorem allEq_refl {α : Type} {e : α → α → Bool} (h : ∀ x, e x x = true) : ∀ l : List α, allEq e l l = true
  | [] => rfl
  | x :: r => by simp only [allEq, h, allEq_refl h r]; rfl
theorem eqV_refl (v : Val) : eqV v v = true := by simp [eqV, AM.beqS_self]
theorem eqC_refl (v : Col) : eqC v v = true := by simp [eqC, AM.beqS_self]
theorem sameRow_refl (r : List Val) : sameRow r r = true := by
  unfold sameRow
  rw [show (((r.length : Int)) != r.length) = false by simp, cond_false]
  exact allEq_refl eqV_refl r
theorem sameCols_refl (r : List Col) : sameCols r r = true := by
  unfold sameCols
  rw [show (((r.length : Int)) != r.length) = false by simp, cond_false]
  exact allEq_refl eqC_refl r
theorem eqG_refl (c : Chg) : eqG c c = true := by simp [eqG, sameRow_refl]
theorem sameChg_refl (r : List Chg) : sameChg r r = true := by
  unfold sameChg
  rw [show (((r.length : Int)) != r.length) = false by simp, cond_false]
  exact allEq_refl eqG_refl r
end Go.Proofs.YtcajnlkkjdhjdaaGreat

namespace Go.Proofs.YtcajnlkkjdhjdaaGreat
open Go Go.AM

theorem eqC_eq {a b : Col} (h : eqC a b = true) : a = b := by
  unfold eqC at h
  simp only [Bool.and_true, Bool.and_eq_true, beq_iff_eq] at h
  obtain ⟨n1, t1⟩ := a
  obtain ⟨n2, t2⟩ := b
  simp only at h
  rw [(AM.beqS_iff _ _).1 h.1, h.2]
theorem allEq_eq {α : Type} {e : α → α → Bool} (he : ∀ x y, e x y = true → x = y) : ∀ {a b : List α}, allEq e a b = true → a = b
  | [], [], _ => rfl
  | [], _ :: _, h => by cases h
  | _ :: _, [], h => by cases h
  | x :: a, y :: b, h => by
    simp only [allEq] at h
    cases hb : e x y
    · rw [hb] at h; cases h
    · rw [hb] at h
      rw [he x y hb, allEq_eq he h]
theorem sameCols_eq {a b : List Col} (h : sameCols a b = true) : a = b := by
  unfold sameCols at h
  cases hb : (((a.length : Int)) != b.length)
  · rw [hb] at h; exact allEq_eq (fun _ _ => eqC_eq) h
  · rw [hb] at h; cases h
theorem wt_mem : ∀ {z : List Chg}, Asc z → ∀ c ∈ z, wt z c.row = c.n
  | [], _, c, hc => by cases hc
  | x :: l, h, c, hc => by
    rcases List.mem_cons.1 hc with rfl | hc
    · exact wt_head h
    · have hp := h
      unfold Asc at hp
      rw [List.pairwise_cons] at hp
      have hx := hp.1 c hc
      have e : (ordR x.row c.row == 0) = false := by rw [beq_eq_false_iff_ne]; omega
      simp only [wt, e, cond_false]
      rw [wt_mem hp.2 c hc]; omega
theorem cnt_cons (a : List Val) (l : List (List Val)) (r : List Val) : cnt (a :: l) r = (bif ordR a r == 0 then 1 else 0) + cnt l r := rfl
theorem cnt_bnd : ∀ (l : List (List Val)) (r : List Val), 0 ≤ cnt l r ∧ cnt l r ≤ l.length
  | [], r => by simp [cnt, wt]
  | a :: l, r => by
    have ih := cnt_bnd l r
    rw [cnt_cons, List.length_cons]
    cases (ordR a r == 0) <;> simp <;> omega
theorem chsErr_mk (cols : List Col) : ∀ (cs : List Chg) (p : Option Chg), Asc cs → (∀ q, p = some q → ∀ c ∈ cs, ordR q.row c.row < 0) → (∀ c ∈ cs, c.n ≠ 0 ∧ -20000 ≤ c.n ∧ c.n ≤ 20000 ∧ valuesErr cols c.row = 0) → chsErr cols p cs = 0
  | [], _, _, _, _ => rfl
  | a :: r, p, h, hp, hc => by
    unfold Asc at h
    rw [List.pairwise_cons] at h
    obtain ⟨c1, c2, c3, c4⟩ := hc a (List.mem_cons_self ..)
    have hl : (a.row.length : Int) = cols.length := by
      have := (valuesErr_can c4).1
      omega
    have hb : chgBad cols.length p a = false := by
      unfold chgBad
      simp only [Bool.or_eq_false_iff, decide_eq_false_iff_not, bne_eq_false_iff_eq, beq_eq_false_iff_ne]
      refine ⟨⟨⟨⟨hl, c1⟩, by omega⟩, by omega⟩, ?_⟩
      cases p with
      | none => rfl
      | some q =>
        have := hp q rfl a (List.mem_cons_self ..)
        exact decide_eq_false (by omega)
    simp only [chsErr, hb, cond_false, c4]
    show chsErr cols (some a) r = 0
    exact chsErr_mk cols r (some a) h.2 (fun q hq c hc' => by cases hq; exact h.1 c hc') (fun c hc' => hc c (List.mem_cons_of_mem _ hc'))
theorem total_mk : ∀ (z : List Chg) (t : Int), 0 ≤ t → (∀ c ∈ z, 0 ≤ c.n) → t + (spread z).length ≤ 20000 → total t z = some (t + (spread z).length)
  | [], t, _, _, _ => by simp [total, spread]
  | a :: r, t, h0, hn, hs => by
    have ha := hn a (List.mem_cons_self ..)
    have hsp : (spread (a :: r)).length = a.n.toNat + (spread r).length := by simp [spread]
    rw [hsp] at hs ⊢
    simp only [total]
    rw [decide_eq_false (by omega), cond_false, wrapI (by omega) (by omega)]
    have hm : mmI false (t + a.n) 40000 = t + a.n := by
      show (if 40000 < t + a.n then 40000 else t + a.n) = _
      rw [if_neg (by omega)]
    rw [hm, total_mk r (t + a.n) (by omega) (fun c hc => hn c (List.mem_cons_of_mem _ hc)) (by omega)]
    congr 1
    omega
theorem perm_of_cnt : ∀ {a b : List (List Val)}, (∀ r ∈ a, canR r) → (∀ r ∈ b, canR r) → (∀ r, cnt a r = cnt b r) → a.Perm b
  | [], [], _, _, _ => List.Perm.refl _
  | [], y :: b, _, _, h => by
    have := h y
    rw [cnt_cons, ordR_ok.refl] at this
    have h2 := (cnt_bnd b y).1
    simp [cnt, wt] at this h2
    omega
  | x :: a, b, ha, hb, h => by
    have hx := ha x (List.mem_cons_self ..)
    have hpos : 0 < cnt b x := by
      rw [← h x, cnt_cons, ordR_ok.refl]
      have := (cnt_bnd a x).1
      simp; omega
    have hmem : ∀ {l : List (List Val)}, 0 < cnt l x → ∃ y ∈ l, ordR y x = 0 := by
      intro l
      induction l with
      | nil => intro h; simp [cnt, wt] at h
      | cons y l ih =>
        intro h
        by_cases e : ordR y x = 0
        · exact ⟨y, List.mem_cons_self .., e⟩
        · rw [cnt_cons, show (ordR y x == 0) = false by simpa using e] at h
          obtain ⟨z, hz, e2⟩ := ih (by simpa using h)
          exact ⟨z, List.mem_cons_of_mem _ hz, e2⟩
    obtain ⟨y, hy, e⟩ := hmem hpos
    have hyx : y = x := ordR_zero (hb y hy) hx e
    subst hyx
    obtain ⟨s, t, rfl⟩ := List.append_of_mem hy
    have hst : (s ++ y :: t).Perm (y :: (s ++ t)) := List.perm_middle
    refine List.Perm.trans (List.Perm.cons y ?_) hst.symm
    refine perm_of_cnt (fun r hr => ha r (List.mem_cons_of_mem _ hr)) (fun r hr => hb r (hst.mem_iff.2 (List.mem_cons_of_mem _ hr))) fun r => ?_
    have := h r
    rw [cnt_cons, cnt_app, cnt_cons] at this
    rw [cnt_app]
    omega
theorem nodown_unique {a b : List (List Val)} (ha : NoDown a) (hb : NoDown b) (hp : a.Perm b) (hc : ∀ r ∈ a, canR r) : a = b := by
  induction a generalizing b with
  | nil => exact (hp.nil_eq)
  | cons x a ih =>
    cases b with
    | nil => exact absurd hp.length_eq (by simp)
    | cons y b =>
      unfold NoDown at ha hb
      rw [List.pairwise_cons] at ha hb
      have hxy : x = y := by
        rcases List.mem_cons.1 (hp.mem_iff.1 (List.mem_cons_self ..)) with h | h
        · exact h
        · rcases List.mem_cons.1 (hp.mem_iff.2 (List.mem_cons_self ..)) with h2 | h2
          · exact h2.symm
          · have h3 := hb.1 x h
            have h4 := ha.1 y h2
            have e1 : ordR x y = 0 := by
              have := ordR_ok.anti x y
              have := ordR_ok.anti y x
              omega
            exact ordR_zero (hc x (List.mem_cons_self ..)) (hc y (hp.mem_iff.2 (List.mem_cons_self ..))) e1
      subst hxy
      rw [ih ha.2 hb.2 (List.Perm.cons_inv hp) (fun r hr => hc r (List.mem_cons_of_mem _ hr))]
theorem spread_nodown : ∀ {z : List Chg}, Asc z → NoDown (spread z)
  | [], _ => List.Pairwise.nil
  | c :: l, h => by
    have hp := h
    unfold Asc at hp
    rw [List.pairwise_cons] at hp
    have e : spread (c :: l) = List.replicate c.n.toNat c.row ++ spread l := by simp [spread]
    rw [e]
    unfold NoDown
    rw [List.pairwise_append]
    refine ⟨?_, spread_nodown hp.2, fun a ha b hb => ?_⟩
    · rw [List.pairwise_replicate]
      right
      rw [ordR_ok.refl]; omega
    · rw [List.eq_of_mem_replicate ha]
      obtain ⟨d, hd, rfl⟩ := mem_spread hb
      have := hp.1 d hd
      have := ordR_ok.anti c.row d.row
      omega
def negC (c : Chg) : Chg := ⟨c.row, -c.n⟩
theorem wt_neg (z : List Chg) (r : List Val) : wt (z.map negC) r = -wt z r := by
  induction z with
  | nil => simp [wt]
  | cons c l ih =>
    simp only [List.map_cons, wt, ih, negC]
    cases (ordR c.row r == 0) <;> simp <;> omega
theorem asc_neg {z : List Chg} (h : Asc z) : Asc (z.map negC) := by
  unfold Asc at h ⊢
  rw [List.pairwise_map]
  exact h
end Go.Proofs.YtcajnlkkjdhjdaaGreat

namespace Go.Proofs.YtcajnlkkjdhjdaaGreat
open Go Go.AM
attribute [local irreducible] Sat SatH LoopP
set_option maxRecDepth 100000

def numD (l : List Int) : List (List D) := l.map fun n => [D.lit (.int .i64 n)]
theorem numD_len (l : List Int) : (numD l).length = l.length := by simp [numD]
theorem numD_get {r : List Int} {i : Nat} (h : i < r.length) : (numD r)[((i : Int)).toNat]? = some [D.lit (.int .i64 r[i])] := by simp [numD, List.getElem?_eq_getElem h]
def numT (l : List Int) : Tbl := ⟨[⟨⟨#[110]⟩, 2⟩], l.map fun n => [⟨2, n, ⟨#[]⟩⟩]⟩
def numR (l : List Int) : List (List D) := rowsD (l.map fun n => [⟨2, n, ⟨#[]⟩⟩])
theorem numR_len (l : List Int) : (numR l).length = l.length := by simp [numR, rowsD]
theorem numR_app (a b : List Int) : numR (a ++ b) = numR a ++ numR b := by simp [numR, rowsD]
def numS (l : List Int) : Nat → S
  | 0 => ⟨[(0, .w (.c (.d (.sl (numD l))))), (2, cV (.ptr 2 0)), (3, cV (.ptr 3 0)), (4, intV 0)], [(2, .box [.nil, .nil]), (3, .box [.own 6 2 1, .nil]), (6, .arr 2 [[.lit (.string ⟨#[110]⟩), .lit (.int .i64 2)]] false)]⟩
  | i + 1 => ⟨[(0, .w (.c (.d (.sl (numD l))))), (2, cV (.ptr 2 0)), (3, cV (.ptr 3 0)), (4, intV ((i + 1 : Nat) : Int))], [(2, .box [.nil, .nil]), (3, .box [.own 6 2 1, .own 23 1 (i + 1)]), (6, .arr 2 [[.lit (.string ⟨#[110]⟩), .lit (.int .i64 2)]] false), (23, .arr 1 (numR (l.take (i + 1))) false)]⟩
theorem numR_sz (l : List Int) : ∀ y ∈ numR l, y.length = 1 := by
  intro y hy
  obtain ⟨r, _, rfl⟩ := List.mem_map.1 hy
  rfl
theorem sat_numbers (l : List Int) (hl : l.length ≤ 1000) : Sat Pg k_law45_numbers [.c (.d (.sl (numD l)))] (fun r => r = ⟨.w (numT l).w, []⟩) := by
  refine sat_dq ?_
  refine Sat_of T3 c_law45_numbers_ok (by kernel_rfl) ?_
  conv => whnf
  refine loopI (P := Pg) (f := T3.f) (body := c_law45_numbers_L0) l.length (fun i => numS l i) (fun _ => True) ⟨trivial, normW_of ?_⟩ ?_
  · conv => whnf
    rfl
  · intro i hi _
    cases i with
    | zero =>
      conv => whnf
      refine cond_i (fun h1 => ?_) (fun h1 => ?_)
      · have hlt : 0 < l.length := by have h1 : decide ((0 : Int) < ((numD l).length : Int)) = true := h1; have := of_decide_eq_true h1; rw [numD_len] at this; omega
        conv => whnf
        refine ⟨by decide, _, numD_get hlt, rfl, ?_⟩
        conv => whnf
        refine ⟨by simp, by unfold fits; simp, by simp, ?_⟩
        conv => whnf
        refine ⟨hlt, trivial, normW_of ?_⟩
        conv => whnf
        have v1 : IntKind.i64.wrap ((0 : Int) + 1) = 1 := wrapI (by omega) (by omega)
        rw [v1]
        have e : l.take (0 + 1) = [l[0]] := by rw [List.take_succ_eq_append_getElem hlt]; simp
        show _ = S.mk _ [_, _, _, (23, Pl.arr 1 (numR (l.take (0 + 1))) false)]
        rw [e]
        rfl
      · have h1 : decide ((0 : Int) < ((numD l).length : Int)) = false := h1
        have : l = [] := by have := of_decide_eq_false h1; rw [numD_len] at this; exact List.eq_nil_of_length_eq_zero (by omega)
        subst this
        conv => whnf
        exact ⟨rfl, rfl⟩
    | succ i =>
      have hlen : ((l.take (i + 1)).length) = i + 1 := by rw [List.length_take]; omega
      have htk : (numR (l.take (i + 1))).take (i + 1) = numR (l.take (i + 1)) := by rw [List.take_of_length_le]; rw [numR_len]; omega
      conv => whnf
      refine cond_i (fun h1 => ?_) (fun h1 => ?_)
      · have hlt : i + 1 < l.length := by have h1 : decide (((i + 1 : Nat) : Int) < ((numD l).length : Int)) = true := h1; have := of_decide_eq_true h1; rw [numD_len] at this; omega
        conv => whnf
        refine ⟨by omega, _, numD_get hlt, rfl, ?_⟩
        conv => whnf
        refine ⟨by simp, by unfold fits; simp; omega, by simp; omega, ?_⟩
        conv => whnf
        refine ⟨hlt, trivial, normW_of ?_⟩
        conv => whnf
        rw [wrapS hlt (by omega)]
        have e : numR (l.take (i + 1 + 1)) = (numR (l.take (i + 1))).take (i + 1) ++ [[D.sl (rowD [⟨2, l[i + 1], ⟨#[]⟩⟩])]] := by
          rw [htk, List.take_succ_eq_append_getElem hlt, numR_app]; rfl
        show _ = S.mk _ [_, _, _, (23, Pl.arr 1 (numR (l.take (i + 1 + 1))) false)]
        rw [e]
        rfl
      · have hge : l.length = i + 1 := by have h1 : decide (((i + 1 : Nat) : Int) < ((numD l).length : Int)) = false := h1; have := of_decide_eq_false h1; rw [numD_len] at this; omega
        conv => whnf
        refine ⟨rfl, ?_⟩
        show (⟨.w (.agg [.d (.sl [[.lit (.string ⟨#[110]⟩), .lit (.int .i64 2)]]), .d (.sl ((numR (l.take (i + 1))).take (i + 1)))]), []⟩ : Res) = _
        rw [htk, ← hge, List.take_length]
        rfl
end Go.Proofs.YtcajnlkkjdhjdaaGreat

namespace Go.Proofs.YtcajnlkkjdhjdaaGreat
open Go Go.AM
attribute [local irreducible] Sat SatH LoopP
set_option maxRecDepth 100000
set_option maxHeartbeats 1000000

def nv (n : Int) : List Val := [⟨2, n, ⟨#[]⟩⟩]
def awL : List Chg := [⟨nv 1, -1⟩, ⟨nv 2, -1⟩, ⟨nv 3, 1⟩]
def awZ : List Chg := [⟨nv 1, 1⟩, ⟨nv 3, 1⟩]
theorem beqS_dec (a b : ByteArray) : beqS a b = decide (a.data = b.data) := by
  by_cases h : a = b
  · rw [h, AM.beqS_self]; simp
  · have h1 : beqS a b = false := by
      cases e : beqS a b
      · rfl
      · exact absurd ((AM.beqS_iff a b).1 e) h
    rw [h1]
    have : a.data ≠ b.data := fun e => h (by cases a; cases b; simp at e; rw [e])
    exact (decide_eq_false this).symm
theorem can_nv (n : Int) : canR (nv n) := by
  intro v hv
  rw [List.mem_singleton.1 hv]
  exact .inr (.inl ⟨.inr rfl, rfl⟩)
theorem ordR_nv (a b : Int) : ordR (nv a) (nv b) = cmpI a b := by
  show (bif cmpI a b != 0 then cmpI a b else 0) = cmpI a b
  cases h : (cmpI a b != 0)
  · simp at h; rw [h]; rfl
  · rfl
theorem awT1 : tblErr (numT [1, 1, 2]) = 0 := by
  simp only [tblErr, numT, List.map, List.take, colsL, namErr, colAt, findI, rowsL, valuesL, valErr, beqS_dec]
  decide +kernel
theorem awT2 : tblErr (numT [1, 3]) = 0 := by
  simp only [tblErr, numT, List.map, List.take, colsL, namErr, colAt, findI, rowsL, valuesL, valErr, beqS_dec]
  decide +kernel
theorem awT3 : tblErr (numT [2, 1, 1]) = 0 := by
  simp only [tblErr, numT, List.map, List.take, colsL, namErr, colAt, findI, rowsL, valuesL, valErr, beqS_dec]
  decide +kernel
theorem awC : chsErr (numT []).cols none awL = 0 := by
  have e : ∀ a b : Int, ordR [⟨2, a, ⟨#[]⟩⟩] [⟨2, b, ⟨#[]⟩⟩] = cmpI a b := ordR_nv
  simp only [chsErr, awL, nv, numT, chgBad, valuesErr, valuesL, valErr, beqS_dec, e]
  decide +kernel
def awQ (l : List Stp) : Qry := ⟨⟨#[116]⟩, l⟩
def ex0 : Ex := ⟨0, ⟨#[]⟩, ⟨0, 0, ⟨#[]⟩⟩, []⟩
def awE : Ex := ⟨12, ⟨#[]⟩, ⟨0, 0, ⟨#[]⟩⟩, [⟨2, ⟨#[110]⟩, ⟨0, 0, ⟨#[]⟩⟩, []⟩, ⟨1, ⟨#[]⟩, ⟨2, 3, ⟨#[]⟩⟩, []⟩]⟩
def awW : Stp := ⟨1, awE, [], [], [], [], 0, ⟨#[]⟩⟩
def awLim : Stp := ⟨5, ex0, [], [], [], [], 1, ⟨#[]⟩⟩
theorem awLin1 : linB (awQ [awW]) ⟨#[116]⟩ = true := by
  simp only [linB, awQ, Qry.err, stepsErr, Stp.err, Stp.uses, usesB, awW, awE, Ex.zero, zeroB, eqV, Ex.chk, Ex.meas, measL, Ex.err, errL, nodeErr, nodeTail, conErr, valErr, identB, kws, hasB, hasI, List.any, linBad, beqS_dec]
  decide +kernel
theorem awLin2 : linB (awQ [awW, awLim]) ⟨#[116]⟩ = false := by
  simp only [linB, awQ, Qry.err, stepsErr, Stp.err, Stp.uses, usesB, awW, awE, awLim, ex0, Ex.zero, zeroB, eqV, Ex.chk, Ex.meas, measL, Ex.err, errL, nodeErr, nodeTail, conErr, valErr, identB, kws, hasB, hasI, List.any, linBad, beqS_dec]
  decide +kernel
end Go.Proofs.YtcajnlkkjdhjdaaGreat

namespace Go.Proofs.YtcajnlkkjdhjdaaGreat
open Go Go.AM
attribute [local irreducible] Sat SatH LoopP
set_option maxRecDepth 100000
set_option maxHeartbeats 1000000

theorem asc_awL : Asc awL := by
  unfold Asc awL
  simp only [List.pairwise_cons, List.mem_cons, List.not_mem_nil, or_false, forall_eq_or_imp, forall_eq, ordR_nv]
  exact ⟨by decide, by decide, fun _ h => h.elim, List.Pairwise.nil⟩
theorem asc_awZ : Asc awZ := by
  unfold Asc awZ
  simp only [List.pairwise_cons, List.mem_cons, List.not_mem_nil, or_false, forall_eq_or_imp, forall_eq, ordR_nv]
  exact ⟨by decide, fun _ h => h.elim, List.Pairwise.nil⟩
theorem ok_awL : ∀ c ∈ awL, c.n ≠ 0 ∧ canR c.row := by
  unfold awL
  simp only [List.mem_cons, List.not_mem_nil, or_false, forall_eq_or_imp, forall_eq]
  exact ⟨⟨by decide, can_nv _⟩, ⟨by decide, can_nv _⟩, by decide, can_nv _⟩
theorem ok_awZ : ∀ c ∈ awZ, c.n ≠ 0 ∧ canR c.row := by
  unfold awZ
  simp only [List.mem_cons, List.not_mem_nil, or_false, forall_eq_or_imp, forall_eq]
  exact ⟨⟨by decide, can_nv _⟩, by decide, can_nv _⟩
theorem num_rows (l : List Int) : (numT l).rows = l.map nv := rfl
theorem num_can {l : List Int} {r : List Val} (h : r ∈ (numT l).rows) : canR r := by
  obtain ⟨n, _, rfl⟩ := List.mem_map.1 h
  exact can_nv n
theorem aw_diff {r : Res} (h : diffQ (numT [1, 1, 2]) (numT [1, 3]) r) : r = ⟨.tup [.c (.d (.sl (chgD awL))), .c (int 0)], []⟩ := by
  unfold diffQ at h
  rw [awT1, awT2, show sameCols (numT [1, 1, 2]).cols (numT [1, 3]).cols = true from sameCols_refl _] at h
  simp only [bne_self_eq_false, cond_false, Bool.not_true] at h
  obtain ⟨u, v, z, hu, hv, hz, rfl⟩ := h
  obtain ⟨u1, u2⟩ := cntQ_law (by omega) (by decide) hu
  obtain ⟨v1, v2⟩ := cntQ_law (by omega) (by decide) hv
  have hb : ∀ c ∈ u ++ v, (-50000 ≤ c.n ∧ c.n ≤ 50000) ∧ canR c.row := fun c h => by
    rcases List.mem_append.1 h with h | h
    · exact ⟨(u2 c h).2, num_can (u2 c h).1⟩
    · exact ⟨(v2 c h).2, num_can (v2 c h).1⟩
  obtain ⟨z1, z2, z3⟩ := sumQ_law (K := 50000) (by omega) (by rw [List.length_append]; omega) (fun c h => (hb c h).1) (fun c h => (hb c h).2) hz
  rw [asc_unique z1 asc_awL (fun c h => ⟨(z2 c h).1, (z2 c h).2.1⟩) ok_awL fun r => by
    rw [z3, cntQ_wt (by omega) (by decide) hu, cntQ_wt (by omega) (by decide) hv]
    simp only [cnt, num_rows, List.map, cntC, wt, awL]
    cases (ordR (nv 1) r == 0) <;> cases (ordR (nv 2) r == 0) <;> cases (ordR (nv 3) r == 0) <;> decide]
theorem aw_apply {r : Res} (h : applyQ (numT [2, 1, 1]) awL r) : r = aOk (numT [1, 3]) := by
  unfold applyQ at h
  rw [awT3, show chsErr (numT [2, 1, 1]).cols none awL = 0 from awC] at h
  simp only [bne_self_eq_false, cond_false] at h
  obtain ⟨u, z, hu, hz, h⟩ := h
  obtain ⟨u1, u2⟩ := cntQ_law (by omega) (by decide) hu
  have hb : ∀ c ∈ u ++ awL, (-50000 ≤ c.n ∧ c.n ≤ 50000) ∧ canR c.row := fun c h => by
    rcases List.mem_append.1 h with h | h
    · exact ⟨(u2 c h).2, num_can (u2 c h).1⟩
    · refine ⟨?_, (ok_awL c h).2⟩
      unfold awL at h
      simp only [List.mem_cons, List.not_mem_nil, or_false] at h
      rcases h with rfl | rfl | rfl <;> decide
  obtain ⟨z1, z2, z3⟩ := sumQ_law (K := 50000) (by omega) (by rw [List.length_append, show awL.length = 3 from rfl]; omega) (fun c h => (hb c h).1) (fun c h => (hb c h).2) hz
  have hzz : z = awZ := asc_unique z1 asc_awZ (fun c h => ⟨(z2 c h).1, (z2 c h).2.1⟩) ok_awZ fun r => by
    rw [z3, cntQ_wt (by omega) (by decide) hu]
    simp only [cnt, num_rows, List.map, cntC, wt, awL, awZ]
    cases (ordR (nv 1) r == 0) <;> cases (ordR (nv 2) r == 0) <;> cases (ordR (nv 3) r == 0) <;> decide
  rw [hzz] at h
  have ht : total 0 awZ = some 2 := by decide
  rw [ht] at h
  simp only at h
  rcases h with h | ⟨h, _⟩
  · exact h
  · cases h

theorem sat_awake : Sat Pg k_law45_awake [] (fun r => r = rB true) := by
  have n1 := sat_numbers [1, 1, 2] (by decide)
  have n2 := sat_numbers [1, 3] (by decide)
  have n3 := sat_numbers [2, 1, 1] (by decide)
  have hd := (sat_Diff (numT [1, 1, 2]) (numT [1, 3]) (by decide) (by decide)).mono fun r h => aw_diff h
  have ha := (sat_Apply (numT [2, 1, 1]) awL (by decide) (by decide) (by decide)).mono fun r h => aw_apply h
  have l1 := sat_Linear (awQ [awW]) ⟨#[116]⟩ (by intro s hs; rw [List.mem_singleton.1 hs]; decide)
  have l2 := sat_Linear (awQ [awW, awLim]) ⟨#[116]⟩ (by intro s hs; simp only [awQ, List.mem_cons, List.not_mem_nil, or_false] at hs; rcases hs with rfl | rfl <;> decide)
  rw [awLin1] at l1
  rw [awLin2] at l2
  refine Sat_of T5 c_law45_awake_ok (by kernel_rfl) ?_
  conv => whnf
  refine Sat.mono (n1) ?_
  rintro _ rfl
  conv => whnf
  refine Sat.mono (n2) ?_
  rintro _ rfl
  conv => whnf
  refine Sat.mono (hd) ?_
  rintro _ rfl
  conv => whnf
  refine Sat.mono (n3) ?_
  rintro _ rfl
  conv => whnf
  refine Sat.mono (ha) ?_
  rintro _ rfl
  conv => whnf
  refine ⟨by decide, _, rfl, rfl, ?_⟩
  repeat' ((conv => whnf); first | ((with_reducible show Sat _ _ _ _); first | (refine Sat.mono l1 ?_; rintro _ rfl) | (refine Sat.mono l2 ?_; rintro _ rfl)) | (with_reducible show _ ∧ _; refine ⟨by decide, _, rfl, rfl, ?_⟩))
  all_goals (conv => whnf)
  all_goals rfl
end Go.Proofs.YtcajnlkkjdhjdaaGreat

namespace Go.Proofs.YtcajnlkkjdhjdaaGreat
open Go Go.AM
theorem applyQ_cases {t : Tbl} {cs : List Chg} {r : Res} (h : applyQ t cs r) :
    (∃ e : Int, e ≠ 0 ∧ r = aErr e) ∨ (∃ u z n, tblErr t = 0 ∧ chsErr t.cols none cs = 0 ∧ cntQ t.rows 1 u ∧ sumQ u cs z ∧ total 0 z = some n ∧ n ≤ 20000 ∧ r = aOk ⟨t.cols, spread z⟩) := by
  unfold applyQ at h
  cases h1 : (tblErr t != 0)
  · rw [h1, cond_false] at h
    cases h2 : (chsErr t.cols none cs != 0)
    · rw [h2, cond_false] at h
      obtain ⟨u, z, hu, hz, h⟩ := h
      cases h3 : total 0 z with
      | none => rw [h3] at h; exact .inl ⟨5, by omega, h⟩
      | some n =>
        rw [h3] at h
        simp only at h
        cases h4 : decide (n > 20000)
        · rw [h4, cond_false] at h
          have h4 := of_decide_eq_false h4
          refine .inr ⟨u, z, n, by simpa using h1, by simpa using h2, hu, hz, h3, by omega, ?_⟩
          rcases h with h | ⟨rfl, h⟩
          · exact h
          · rw [h]; rfl
        · rw [h4, cond_true] at h
          exact .inl ⟨7, by omega, h⟩
    · rw [h2, cond_true] at h
      exact .inl ⟨_, by simpa using h2, h⟩
  · rw [h1, cond_true] at h
    exact .inl ⟨_, by simpa using h1, h⟩
theorem fewTbl_len {t : Tbl} (h : fewTbl t = true) : t.rows.length ≤ 40 ∧ t.cols.length ≤ 40 := by
  unfold fewTbl at h
  cases h1 : (!fewCols t.cols || decide ((t.rows.length : Int) > 40))
  · simp only [Bool.or_eq_false_iff, decide_eq_false_iff_not, Bool.not_eq_false'] at h1
    refine ⟨by omega, ?_⟩
    have h2 := h1.1
    unfold fewCols at h2
    cases h3 : decide ((t.cols.length : Int) ≤ 40)
    · rw [h3] at h2; cases h2
    · have := of_decide_eq_true h3; omega
  · rw [h1] at h; cases h
theorem fewChgs_len {t : List Chg} (h : fewChgs t = true) : t.length ≤ 30 := by
  unfold fewChgs at h
  cases h1 : decide ((t.length : Int) > 30)
  · have := of_decide_eq_false h1; omega
  · rw [h1] at h; cases h
end Go.Proofs.YtcajnlkkjdhjdaaGreat

namespace Go.Proofs.YtcajnlkkjdhjdaaGreat
open Go Go.AM

structure DiffOk (a b : Tbl) (z : List Chg) : Prop where
  asc : Asc z
  ok : ∀ c ∈ z, c.n ≠ 0 ∧ canR c.row
  val : ∀ c ∈ z, valuesErr a.cols c.row = 0 ∧ -20000 ≤ c.n ∧ c.n ≤ 20000
  wts : ∀ r, wt z r = cnt b.rows r - cnt a.rows r
  len : z.length ≤ a.rows.length + b.rows.length
def dOk (z : List Chg) : Res := ⟨.tup [.c (.d (.sl (chgD z))), .c (int 0)], []⟩

theorem cntQ_len {rows : List (List Val)} {k : Int} {z : List Chg} (h : cntQ rows k z) : z.length ≤ rows.length := by
  obtain ⟨ys, hp, rfl⟩ := h
  refine Nat.le_trans (grp_len _) ?_
  rw [List.length_map, hp.1.length_eq]; exact Nat.le_refl _
theorem diffQ_ok {a b : Tbl} {r : Res} (ea : tblErr a = 0) (eb : tblErr b = 0) (ec : a.cols = b.cols) (h : diffQ a b r) : ∃ z, DiffOk a b z ∧ r = dOk z := by
  unfold diffQ at h
  rw [ea, eb, ec, sameCols_refl] at h
  simp only [bne_self_eq_false, cond_false, Bool.not_true] at h
  obtain ⟨u, v, z, hu, hv, hz, rfl⟩ := h
  obtain ⟨a1, a2, a3, a4⟩ := (tblErr_law a).1 ea
  obtain ⟨b1, b2, b3, b4⟩ := (tblErr_law b).1 eb
  obtain ⟨u1, u2⟩ := cntQ_law (by omega) (by omega) hu
  obtain ⟨v1, v2⟩ := cntQ_law (by omega) (by omega) hv
  have hval : ∀ c ∈ u ++ v, valuesErr a.cols c.row = 0 := fun c h => by
    rcases List.mem_append.1 h with h | h
    · exact a4 _ (u2 c h).1
    · rw [ec]; exact b4 _ (v2 c h).1
  have hbn : ∀ c ∈ u ++ v, -50000 ≤ c.n ∧ c.n ≤ 50000 := fun c h => by
    rcases List.mem_append.1 h with h | h
    · exact (u2 c h).2
    · exact (v2 c h).2
  obtain ⟨z1, z2, z3⟩ := sumQ_law (K := 50000) (by omega) (by rw [List.length_append]; omega) hbn (fun c h => (valuesErr_can (hval c h)).2) hz
  have hw : ∀ r, wt z r = cnt b.rows r - cnt a.rows r := fun r => by
    rw [z3, cntQ_wt (by omega) (by omega) hu, cntQ_wt (by omega) (by omega) hv]; omega
  have hzl : z.length ≤ a.rows.length + b.rows.length := by
    have := cntQ_len hu
    have := cntQ_len hv
    obtain ⟨l, l1, _, rfl⟩ := hz
    refine Nat.le_trans (List.length_filter_le _ _) (Nat.le_trans (grp_len _) ?_)
    rw [l1.length_eq, List.length_append]; omega
  refine ⟨z, ⟨z1, fun c h => ⟨(z2 c h).1, (z2 c h).2.1⟩, fun c h => ?_, hw, hzl⟩, rfl⟩
  obtain ⟨_, _, x, hx, e⟩ := z2 c h
  refine ⟨by rw [e]; exact hval x hx, ?_⟩
  have e1 := wt_mem z1 c h
  rw [hw] at e1
  have := cnt_bnd b.rows c.row
  have := cnt_bnd a.rows c.row
  omega
theorem diffQ_cases {a b : Tbl} {r : Res} (h : diffQ a b r) : (∃ e : Int, e ≠ 0 ∧ r = rErr e) ∨ (tblErr a = 0 ∧ tblErr b = 0 ∧ a.cols = b.cols ∧ ∃ z, DiffOk a b z ∧ r = dOk z) := by
  have h0 := h
  unfold diffQ at h
  cases h1 : (tblErr a != 0)
  · rw [h1, cond_false] at h
    cases h2 : (tblErr b != 0)
    · rw [h2, cond_false] at h
      cases h3 : sameCols a.cols b.cols
      · rw [h3] at h
        exact .inl ⟨10, by omega, h⟩
      · have ea : tblErr a = 0 := by simpa using h1
        have eb : tblErr b = 0 := by simpa using h2
        have ec := sameCols_eq h3
        exact .inr ⟨ea, eb, ec, diffQ_ok ea eb ec h0⟩
    · rw [h2, cond_true] at h
      exact .inl ⟨_, by simpa using h2, h⟩
  · rw [h1, cond_true] at h
    exact .inl ⟨_, by simpa using h1, h⟩
theorem DiffOk.unique {a b : Tbl} {x y : List Chg} (hx : DiffOk a b x) (hy : DiffOk a b y) : x = y := asc_unique hx.asc hy.asc hx.ok hy.ok fun r => by rw [hx.wts, hy.wts]
theorem DiffOk.self {a : Tbl} {x : List Chg} (hx : DiffOk a a x) : x = [] := by
  refine asc_unique hx.asc List.Pairwise.nil hx.ok (fun c hc => by cases hc) fun r => ?_
  rw [hx.wts]; simp [wt]
theorem DiffOk.back {a b : Tbl} {x y : List Chg} (hx : DiffOk a b x) (hy : DiffOk b a y) : y.map negC = x := by
  refine asc_unique (asc_neg hy.asc) hx.asc (fun c hc => ?_) hx.ok fun r => ?_
  · obtain ⟨d, hd, rfl⟩ := List.mem_map.1 hc
    have := hy.ok d hd
    refine ⟨?_, this.2⟩
    show -d.n ≠ 0
    have := this.1
    omega
  · rw [wt_neg, hy.wts, hx.wts]; omega
theorem apply_ok {a b : Tbl} {z : List Chg} (ha : tblErr a = 0) (hb : tblErr b = 0) (hcols : a.cols = b.cols) (hz : DiffOk a b z) {r : Res} (h : applyQ a z r) : ∃ ws, NoDown ws ∧ ws.Perm b.rows ∧ (∀ r ∈ b.rows, canR r) ∧ r = aOk ⟨a.cols, ws⟩ := by
  obtain ⟨a1, a2, a3, a4⟩ := (tblErr_law a).1 ha
  obtain ⟨b1, b2, b3, b4⟩ := (tblErr_law b).1 hb
  have hch : chsErr a.cols none z = 0 := chsErr_mk a.cols z none hz.asc (fun q hq => by cases hq) fun c hc => ⟨(hz.ok c hc).1, (hz.val c hc).2.1, (hz.val c hc).2.2, (hz.val c hc).1⟩
  unfold applyQ at h
  rw [ha, hch] at h
  simp only [bne_self_eq_false, cond_false] at h
  obtain ⟨u, w, hu, hw, h⟩ := h
  obtain ⟨u1, u2⟩ := cntQ_law (by omega) (by omega) hu
  have hbn : ∀ c ∈ u ++ z, (-50000 ≤ c.n ∧ c.n ≤ 50000) ∧ canR c.row := fun c h => by
    rcases List.mem_append.1 h with h | h
    · exact ⟨(u2 c h).2, (valuesErr_can (a4 _ (u2 c h).1)).2⟩
    · have := (hz.val c h).2
      exact ⟨by omega, (hz.ok c h).2⟩
  have hzl := hz.len
  obtain ⟨w1, w2, w3⟩ := sumQ_law (K := 50000) (by omega) (by rw [List.length_append]; omega) (fun c h => (hbn c h).1) (fun c h => (hbn c h).2) hw
  have hww : ∀ r, wt w r = cnt b.rows r := fun r => by
    rw [w3, cntQ_wt (by omega) (by omega) hu, hz.wts]; omega
  have hpos : ∀ c ∈ w, 0 ≤ c.n := fun c hc => by
    rw [← wt_mem w1 c hc, hww]; exact (cnt_bnd _ _).1
  have hcan : ∀ r ∈ b.rows, canR r := fun r hr => (valuesErr_can (b4 r hr)).2
  have hperm : (spread w).Perm b.rows := perm_of_cnt (fun r hr => by
    obtain ⟨c, hc, rfl⟩ := mem_spread hr
    exact (w2 c hc).2.1) hcan fun r => by rw [cnt_spread w hpos, hww]
  have hlen := hperm.length_eq
  have ht := total_mk w 0 (Int.le_refl _) hpos (by omega)
  rw [ht] at h
  simp only at h
  rw [decide_eq_false (by omega), cond_false] at h
  refine ⟨spread w, spread_nodown w1, hperm, hcan, ?_⟩
  rcases h with h | ⟨rfl, h⟩
  · exact h
  · rw [h]; rfl
theorem sameT_refl (t : Tbl) : sameT t t = true := by
  unfold sameT
  rw [show (((t.cols.length : Int)) != t.cols.length || ((t.rows.length : Int)) != t.rows.length) = false by simp, cond_false, allEq_refl eqC_refl]
  exact allEq_refl sameRow_refl _
end Go.Proofs.YtcajnlkkjdhjdaaGreat
