/- Soundness of the abstract machine, 9: calls; every operation. -/
import Derived.Test.YtbdcgchgpdclaaaAmN1
namespace Go.AM

theorem upFrom_get : ∀ (n i q : Nat), (upFrom i n)[q]? = if q < n then some (i + q) else none
  | 0, i, q => by simp [upFrom]
  | n + 1, i, 0 => by simp [upFrom]
  | n + 1, i, q + 1 => by
    simp only [upFrom, List.getElem?_cons_succ, upFrom_get n (i + 1) q]
    by_cases h : q < n
    · rw [if_pos h, if_pos (by omega)]; congr 1; omega
    · rw [if_neg h, if_neg (by omega)]
theorem upFrom_len : ∀ (n i : Nat), (upFrom i n).length = n
  | 0, _ => rfl
  | n + 1, i => by simp [upFrom, upFrom_len n]

def Pl.isGone : Pl → Bool | .gone => true | _ => false
theorem lnames_cons (n : Nat) (ns : List Nat) (x : Pl) (xs : List Pl) : lnames (n :: ns) (x :: xs) = (if x.isGone = true then none else some n) :: lnames ns xs := by
  cases x <;> simp [lnames, Pl.isGone]
theorem zipPl_cons (n : Nat) (ns : List Nat) (x : Pl) (xs : List Pl) : zipPl (n :: ns) (x :: xs) = if x.isGone = true then zipPl ns xs else (n, x) :: zipPl ns xs := by
  cases x <;> simp [zipPl, Pl.isGone]
theorem kilN_succ (m n : Nat) (ns : List Nat) (x : Pl) (xs : List Pl) : kilN (m + 1) (n :: ns) (x :: xs) = if x.isGone = true then n :: kilN m ns xs else kilN m ns xs := by
  cases x <;> simp [kilN, Pl.isGone]
theorem isGone_ren (x : Pl) (l : List (Option Nat)) : (x.ren l).isGone = x.isGone := by cases x <;> rfl
theorem live_ren (x : Pl) (l : List (Option Nat)) : (x.ren l).live = x.live := by cases x <;> rfl
theorem isGone_live {x : Pl} (h : x.live = true) : x.isGone = false := by cases x <;> first | rfl | cases h

theorem nthO_lnames : ∀ (L : List Nat) (pls : List Pl) (q p : Nat), nthO (lnames L pls) q = some p ↔ ∃ x, L[q]? = some p ∧ pls[q]? = some x ∧ x.isGone = false
  | [], pls, q, p => by simp [lnames, nthO]
  | n :: ns, [], q, p => by simp [lnames, nthO]
  | n :: ns, x :: xs, 0, p => by
    rw [lnames_cons]
    cases h : x.isGone <;> simp [nthO, h]
  | n :: ns, x :: xs, q + 1, p => by
    rw [lnames_cons]
    simp only [nthO, nthO_lnames ns xs q p, List.getElem?_cons_succ]

theorem zip_get : ∀ (L : List Nat) (pls : List Pl) (p : Nat) (y : Pl), aget (zipPl L pls) p = some y → ∃ q : Nat, L[q]? = some p ∧ pls[q]? = some y ∧ y.isGone = false
  | [], pls, p, y, h => by simp [zipPl, aget] at h
  | n :: ns, [], p, y, h => by simp [zipPl, aget] at h
  | n :: ns, x :: xs, p, y, h => by
    rw [zipPl_cons] at h
    cases hg : x.isGone
    · simp only [hg, Bool.false_eq_true, if_false, aget_cons] at h
      split at h
      · rename_i e; subst e; cases h; exact ⟨0, rfl, rfl, hg⟩
      · obtain ⟨q, h1, h2, h3⟩ := zip_get ns xs p y h
        exact ⟨q + 1, by simpa using h1, by simpa using h2, h3⟩
    · simp only [hg, if_true] at h
      obtain ⟨q, h1, h2, h3⟩ := zip_get ns xs p y h
      exact ⟨q + 1, by simpa using h1, by simpa using h2, h3⟩

theorem zip_mem : ∀ (L : List Nat) (pls : List Pl) (q p : Nat) (y : Pl), L[q]? = some p → pls[q]? = some y → y.isGone = false → isin p (names (zipPl L pls)) = true
  | [], _, q, p, y, h, _, _ => by simp at h
  | _ :: _, [], q, p, y, _, h, _ => by simp at h
  | n :: ns, x :: xs, 0, p, y, h1, h2, h3 => by
    simp at h1 h2; subst h1; subst h2
    rw [zipPl_cons, h3]; simp [names, isin]
  | n :: ns, x :: xs, q + 1, p, y, h1, h2, h3 => by
    have ih := zip_mem ns xs q p y (by simpa using h1) (by simpa using h2) h3
    rw [zipPl_cons]
    cases hg : x.isGone
    · rw [isin_iff] at ih ⊢; simp [names, ih]
    · simpa using ih

theorem zip_uniq : ∀ (L : List Nat) (pls : List Pl), distinct (names (zipPl L pls)) = true → ∀ (q q' p : Nat) (y y' : Pl), L[q]? = some p → pls[q]? = some y → y.isGone = false → L[q']? = some p → pls[q']? = some y' → y'.isGone = false → q = q'
  | [], _, _, q, _, _, _, _, h, _, _, _, _, _ => by simp at h
  | _ :: _, [], _, q, _, _, _, _, _, h, _, _, _, _ => by simp at h
  | n :: ns, x :: xs, hd, q, q', p, y, y', h1, h2, h3, h4, h5, h6 => by
    have hd' : distinct (names (zipPl ns xs)) = true := by
      rw [zipPl_cons] at hd
      cases hg : x.isGone
      · rw [hg] at hd; simp only [Bool.false_eq_true, if_false, names, distinct, Bool.and_eq_true] at hd; exact hd.2
      · rw [hg] at hd; simpa using hd
    have hnot : x.isGone = false → isin n (names (zipPl ns xs)) = false := fun hg => by
      rw [zipPl_cons, hg] at hd; simp only [Bool.false_eq_true, if_false, names, distinct, Bool.and_eq_true, Bool.not_eq_true'] at hd; exact hd.1
    cases q with
    | zero => cases q' with
      | zero => rfl
      | succ q' =>
        simp at h1 h2; subst h1; subst h2
        have := zip_mem ns xs q' _ y' (by simpa using h4) (by simpa using h5) h6
        rw [hnot h3] at this; cases this
    | succ q => cases q' with
      | zero =>
        simp at h4 h5; subst h4; subst h5
        have := zip_mem ns xs q _ y (by simpa using h1) (by simpa using h2) h3
        rw [hnot h6] at this; cases this
      | succ q' => rw [zip_uniq ns xs hd' q q' p y y' (by simpa using h1) (by simpa using h2) h3 (by simpa using h4) (by simpa using h5) h6]

theorem zip_there : ∀ (L : List Nat) (pls : List Pl) (q p : Nat) (y : Pl), L[q]? = some p → pls[q]? = some y → y.isGone = false → aget (zipPl L pls) p ≠ none
  | [], _, q, p, y, h, _, _ => by simp at h
  | _ :: _, [], q, p, y, _, h, _ => by simp at h
  | n :: ns, x :: xs, 0, p, y, h1, h2, h3 => by
    simp at h1 h2; subst h1; subst h2
    rw [zipPl_cons, h3]; simp [aget_cons]
  | n :: ns, x :: xs, q + 1, p, y, h1, h2, h3 => by
    have ih := zip_there ns xs q p y (by simpa using h1) (by simpa using h2) h3
    rw [zipPl_cons]
    cases hg : x.isGone
    · simp only [Bool.false_eq_true, if_false, aget_cons]
      by_cases e : n = p
      · simp [e]
      · simpa [e] using ih
    · simpa using ih

theorem kil_iff : ∀ (L : List Nat) (pls : List Pl) (m p : Nat), isin p (kilN m L pls) = true ↔ ∃ q x, L[q]? = some p ∧ pls[q]? = some x ∧ (q < m → x.isGone = true)
  | [], pls, m, p => by cases m <;> simp [kilN, isin]
  | n :: ns, [], m, p => by cases m <;> simp [kilN, isin]
  | n :: ns, x :: xs, 0, p => by
    simp only [kilN, isin_iff, List.mem_cons]
    rw [← isin_iff, kil_iff ns xs 0 p]
    constructor
    · rintro (h | ⟨q, y, h1, h2, h3⟩)
      · exact ⟨0, x, by simp [h], rfl, fun h => by omega⟩
      · exact ⟨q + 1, y, by simpa using h1, by simpa using h2, fun h => by omega⟩
    · rintro ⟨q, y, h1, h2, h3⟩
      cases q with
      | zero => simp at h1; exact .inl h1.symm
      | succ q => exact .inr ⟨q, y, by simpa using h1, by simpa using h2, fun h => by omega⟩
  | n :: ns, x :: xs, m + 1, p => by
    rw [kilN_succ]
    have ih := kil_iff ns xs m p
    cases hg : x.isGone
    · simp only [Bool.false_eq_true, if_false, ih]
      constructor
      · rintro ⟨q, y, h1, h2, h3⟩
        exact ⟨q + 1, y, by simpa using h1, by simpa using h2, fun h => h3 (by omega)⟩
      · rintro ⟨q, y, h1, h2, h3⟩
        cases q with
        | zero => simp at h2; subst h2; have := h3 (by omega); rw [hg] at this; cases this
        | succ q => exact ⟨q, y, by simpa using h1, by simpa using h2, fun h => h3 (by omega)⟩
    · simp only [if_true, isin_iff, List.mem_cons]
      rw [← isin_iff, ih]
      constructor
      · rintro (h | ⟨q, y, h1, h2, h3⟩)
        · exact ⟨0, x, by simp [h], rfl, fun _ => hg⟩
        · exact ⟨q + 1, y, by simpa using h1, by simpa using h2, fun h => h3 (by omega)⟩
      · rintro ⟨q, y, h1, h2, h3⟩
        cases q with
        | zero => simp at h1; exact .inl h1.symm
        | succ q => exact .inr ⟨q, y, by simpa using h1, by simpa using h2, fun h => h3 (by omega)⟩

theorem zip_ren_names (ls : List (Option Nat)) : ∀ (L : List Nat) (pls : List Pl), names (zipPl L (pls.map (Pl.ren ls))) = names (zipPl L pls)
  | [], _ => rfl
  | _ :: _, [] => rfl
  | n :: ns, x :: xs => by
    rw [List.map_cons, zipPl_cons, zipPl_cons, isGone_ren]
    cases x.isGone <;> simp [names, zip_ren_names ls ns xs]

theorem distinct_up : ∀ (n i : Nat) (pls : List Pl), (∀ p, isin p (names (zipPl (upFrom i n) pls)) = true → i ≤ p) ∧ distinct (names (zipPl (upFrom i n) pls)) = true
  | 0, i, pls => by simp [upFrom, zipPl, names, isin, distinct]
  | n + 1, i, [] => by simp [upFrom, zipPl, names, isin, distinct]
  | n + 1, i, x :: xs => by
    obtain ⟨h1, h2⟩ := distinct_up n (i + 1) xs
    simp only [upFrom, zipPl_cons]
    cases x.isGone
    · simp only [Bool.false_eq_true, if_false, names, distinct, h2, Bool.and_true, Bool.not_eq_true']
      refine ⟨fun p hp => ?_, ?_⟩
      · rw [isin_iff, List.mem_cons] at hp
        rcases hp with rfl | hp
        · exact Nat.le_refl _
        · have := h1 p ((isin_iff _ _).2 hp); omega
      · cases hc : isin i (names (zipPl (upFrom (i + 1) n) xs))
        · rfl
        · have := h1 i hc; omega
    · simp only [if_true]
      exact ⟨fun p hp => by have := h1 p hp; omega, h2⟩

theorem aget_numbered (l : List Pl) : ∀ (n p : Nat), aget (numbered n l) p = if n ≤ p then l[p - n]? else none := by
  induction l with
  | nil => intro n p; simp [numbered, aget]
  | cons x r ih =>
    intro n p
    simp only [numbered, aget_cons, ih]
    by_cases h : n = p
    · subst h; simp
    · by_cases h2 : n ≤ p
      · rw [if_neg h, if_pos (by omega), if_pos h2, show p - n = (p - (n + 1)) + 1 by omega]; simp
      · rw [if_neg h, if_neg (by omega), if_neg h2]

section
variable {P : Program} {F : Fr} {N : Nat} {ι : Nat → Gh} {s : S} {a : Act} {w : World} {o : Oper} {K : S → Prop}

theorem run_callFunc {f : FuncId} (h : callable P f = true) (args : Array Value) (w : World) : (callFunc f args).run P w = .ok (.enter f args) w := by
  unfold callable at h
  cases hf : P.funcs[f]? with
  | none => rw [hf] at h; cases h
  | some fn =>
    simp only [hf, Bool.and_eq_true, Bool.not_eq_true'] at h
    obtain ⟨h1, h2⟩ := h
    have h3 : ¬ fn.body = none := by intro hb; rw [hb] at h1; cases h1
    have h4 : ¬ fn.name = "runtime.NumGoroutine" := by intro hb; rw [hb] at h2; cases h2
    simp [callFunc, hf, h4, h3]

/-- The frame in a world that has grown, nothing of what was there having turned. -/
theorem Shapes.of_grows {w w' : World} (h : Grows (fun _ => False) w w') : Shapes w w' := by
  intro b t m hb
  have hlt : b < w.heap.size := by
    rcases Nat.lt_or_ge b w.heap.size with h' | h'
    · exact h'
    · simp [World.shape?, Array.getElem?_eq_none h'] at hb
  simp only [World.shape?, h.block b hlt (fun h => h)] at hb ⊢
  exact hb

theorem Rel.grown (hr : Rel F N ι s a w) {w' : World} (hg : Grows (fun _ => False) w w') : Rel F N ι s a w' := by
  have hkeep : Keeps w w' (F.ok ι s.pl w) (F.ok ι s.pl w') := fun b hb => ⟨⟨hb.1, Nat.lt_of_lt_of_le hb.2.1 hg.size, hb.2.2⟩, hg.block b hb.2.1 (fun h => h)⟩
  have hsh := Shapes.of_grows hg
  refine ⟨hr.room, fun k v hv => ?_, fun p x hx => ?_, hr.inj, fun b hb => ⟨(hr.mine b hb).1, Nat.lt_of_lt_of_le (hr.mine b hb).2 hg.size⟩, hr.defers, ?_, hr.foreign, hr.handed, hr.few, hr.hdom, hr.hkeep⟩
  · obtain ⟨x, e1, e2⟩ := hr.slots k v hv
    exact ⟨x, e1, VR.keep hkeep hsh v x e2⟩
  · have h := hr.places p x hx
    cases x with
    | fbox ds => obtain ⟨b, e1, e2, e3⟩ := h; exact ⟨b, e1, (hkeep b e2).1, RDc.keep hkeep b e2 _ _ e3⟩
    | gone => exact h.elim
    | box cs => obtain ⟨b, cur, e1, ⟨t, e2⟩, e3⟩ := h; exact ⟨b, cur, e1, ⟨t, by rw [hg.block b (RowAt.lt ⟨t, e2⟩) (fun h => h)]; exact e2⟩, CRs.keep hkeep hsh _ _ e3⟩
    | arr sz els fz =>
      obtain ⟨h0, hn, h | ⟨b, e1, e2, e3, e4⟩⟩ := h
      · exact ⟨h0, hn, .inl h⟩
      · have hlt : b < w.heap.size := by
          cases fz
          · obtain ⟨cur, e5, _⟩ := e4 rfl; exact e5.lt
          · exact (e3 rfl).2.1
        refine ⟨h0, hn, .inr ⟨b, e1, RDs.keep' hkeep b sz els 0 (fun j _ _ => cell_of_heap (hg.block b hlt (fun h => h)) j) e2, fun hf => (hkeep b (e3 hf)).1, fun hf => ?_⟩⟩
        obtain ⟨cur, ⟨t, e5⟩, e6⟩ := e4 hf
        exact ⟨cur, ⟨t, by rw [hg.block b hlt (fun h => h)]; exact e5⟩, e6⟩
  · refine ⟨hg.os.trans hr.grows.os, hg.tape.trans hr.grows.tape, hg.output.trans hr.grows.output, Nat.le_trans hr.grows.size hg.size, fun b hb hm => ?_, fun b t m h => hg.shapes b t m (hr.grows.shapes b t m h)⟩
    rw [hg.block b (Nat.lt_of_lt_of_le hb hr.grows.size) (fun h => h)]
    exact hr.grows.block b hb hm

theorem CR_scalar {ι ι' : Nat → Gh} {w w' : World} {ok ok' : Nat → Prop} {c : C} {v : Value} (hs : c.scalar = true) (h : CR ι w ok c v) : CR ι' w' ok' c v := by
  cases c with
  | d x => cases x with
    | lit u => simp only [CR, RD] at h ⊢; exact h
    | sl l => cases hs
    | fn f l => cases hs
  | _ => cases hs
theorem WR_scalar {ι ι' : Nat → Gh} {w w' : World} {ok ok' : Nat → Prop} {x : W} {v : Value} (hs : x.scalar = true) (h : WR ι w ok x v) : WR ι' w' ok' x v := by
  cases x with
  | c c => exact CR_scalar hs h
  | agg cs =>
    obtain ⟨vs, h1, h2⟩ := h
    refine ⟨vs, h1, ?_⟩
    clear h1
    simp only [W.scalar] at hs
    induction cs generalizing vs with
    | nil => cases vs with | nil => trivial | cons _ _ => exact h2.elim
    | cons c cs ih => cases vs with
      | nil => exact h2.elim
      | cons v vs =>
        simp only [List.all_cons, Bool.and_eq_true] at hs
        exact ⟨CR_scalar hs.1 h2.1, ih hs.2 vs h2.2⟩
theorem VR_scalar {ι ι' : Nat → Gh} {w w' : World} {ok ok' : Nat → Prop} {x : V} {v : Value} (hs : x.scalar = true) (h : VR ι w ok x v) : VR ι' w' ok' x v := by
  cases x with
  | w x => exact WR_scalar hs h
  | tup cs =>
    obtain ⟨vs, h1, h2⟩ := h
    refine ⟨vs, h1, ?_⟩
    clear h1
    simp only [V.scalar] at hs
    induction cs generalizing vs with
    | nil => cases vs with | nil => trivial | cons _ _ => exact h2.elim
    | cons c cs ih => cases vs with
      | nil => exact h2.elim
      | cons v vs =>
        simp only [List.all_cons, Bool.and_eq_true] at hs
        exact ⟨WR_scalar hs.1 h2.1, ih hs.2 vs h2.2⟩

section ren
variable {ι ι' : Nat → Gh} {w w' : World} {ok ok' : Nat → Prop} {l : List (Option Nat)}
theorem CR_ren (hk : Keeps w w ok ok') (hι : ∀ q p, nthO l q = some p → ι' p = ι q) {c : C} {v : Value} (h : CR ι w ok c v) : CR ι' w ok' (c.ren l) v := by
  cases c with
  | d x => exact RD.keep hk _ _ h
  | nil => exact h
  | own q sz k =>
    simp only [C.ren]
    split
    · rename_i p hp
      simp only [CR, hι q p hp]
      exact h
    · trivial
  | ptr q o =>
    simp only [C.ren]
    split
    · rename_i p hp
      simp only [CR, hι q p hp]
      exact h
    · trivial
  | eptr q z i k =>
    simp only [C.ren]
    split
    · rename_i p hp
      simp only [CR, hι q p hp]
      exact h
    · trivial
  | fp l => exact CR.keep hk (Shapes.refl w) (.fp l) v h
  | clo f caps => cases caps with
    | nil => exact h
    | cons _ _ => trivial
  | dead => trivial
theorem CRs_ren (hk : Keeps w w ok ok') (hι : ∀ q p, nthO l q = some p → ι' p = ι q) : ∀ {cs : List C} {vs : List Value}, CRs ι w ok cs vs → CRs ι' w ok' (cs.map (C.ren l)) vs
  | [], [], _ => trivial
  | [], _ :: _, h => h.elim
  | _ :: _, [], h => h.elim
  | _ :: _, _ :: _, h => ⟨CR_ren hk hι h.1, CRs_ren hk hι h.2⟩
theorem WR_ren (hk : Keeps w w ok ok') (hι : ∀ q p, nthO l q = some p → ι' p = ι q) {x : W} {v : Value} (h : WR ι w ok x v) : WR ι' w ok' (x.ren l) v := by
  cases x with
  | c x => exact CR_ren hk hι h
  | agg cs => obtain ⟨vs, h1, h2⟩ := h; exact ⟨vs, h1, CRs_ren hk hι h2⟩
theorem WRs_ren (hk : Keeps w w ok ok') (hι : ∀ q p, nthO l q = some p → ι' p = ι q) : ∀ {cs : List W} {vs : List Value}, WRs ι w ok cs vs → WRs ι' w ok' (cs.map (W.ren l)) vs
  | [], [], _ => trivial
  | [], _ :: _, h => h.elim
  | _ :: _, [], h => h.elim
  | _ :: _, _ :: _, h => ⟨WR_ren hk hι h.1, WRs_ren hk hι h.2⟩
theorem VR_ren (hk : Keeps w w ok ok') (hι : ∀ q p, nthO l q = some p → ι' p = ι q) {x : V} {v : Value} (h : VR ι w ok x v) : VR ι' w ok' (x.ren l) v := by
  cases x with
  | w x => exact WR_ren hk hι h
  | tup cs => obtain ⟨vs, h1, h2⟩ := h; exact ⟨vs, h1, WRs_ren hk hι h2⟩
/-- A place of the frame's own under a new name. -/
theorem PR_ren (hk : Keeps w w ok ok') (hι : ∀ q p, nthO l q = some p → ι' p = ι q) {q p : Nat} (hp : ι' p = ι q) {x : Pl} (h : PR ι w ok q x) : PR ι' w ok' p (x.ren l) := by
  cases x with
  | box cs => obtain ⟨b, cur, e1, e2, e3⟩ := h; exact ⟨b, cur, by rw [hp]; exact e1, e2, CRs_ren hk hι e3⟩
  | arr sz els fz =>
    obtain ⟨h0, hn, h | ⟨b, e1, e2, e3, e4⟩⟩ := h
    · exact ⟨h0, by rw [hp]; exact hn, .inl (by rw [hp]; exact h)⟩
    · exact ⟨h0, by rw [hp]; exact hn, .inr ⟨b, by rw [hp]; exact e1, RDs.keep' hk b sz els 0 (fun _ _ _ => rfl) e2, fun hf => (hk b (e3 hf)).1, e4⟩⟩
  | fbox ds => obtain ⟨b, e1, e2, e3⟩ := h; exact ⟨b, by rw [hp]; exact e1, (hk b e2).1, RDc.keep hk b e2 _ _ e3⟩
  | gone => exact h.elim
end ren

theorem PR.lt {ι : Nat → Gh} {w : World} {ok : Nat → Prop} {p : Nat} {x : Pl} (h : PR ι w ok p x) (hl : x.live = true) {b : Nat} (hb : (ι p).b = some b) : b < w.heap.size := by
  cases x with
  | box cs => obtain ⟨b', cur, e1, e2, e3⟩ := h; rw [hb] at e1; cases e1; exact e2.lt
  | arr sz els fz =>
    cases fz with
    | true => cases hl
    | false =>
      obtain ⟨h0, hn, h | ⟨b', e1, e2, e3, e4⟩⟩ := h
      · rw [hb] at h; cases h.1
      · rw [hb] at e1; cases e1; obtain ⟨cur, e5, _⟩ := e4 rfl; exact e5.lt
  | fbox ds => cases hl
  | gone => cases hl

/-- Behind a call. -/
theorem recvN_sound (hr : Rel F N ι s a w) {dst : Option Tmp} (hd : ∀ k, dst = some k → k < N) {U : List Nat} (hU : ∀ p ∈ U, ∃ x, aget s.pl p = some x ∧ x.live = true) {nb : Nat} (hnb : ∀ i, F.h (nb + i) = none) {M : Nat → Prop} (hM : ∀ b, M b ↔ ∃ p ∈ U, (ι p).b = some b)
    {h0 : Nat → Option Gh} {w' : World} {v : Value} {r : Res} (hres : ResH ⟨w, F.ok ι s.pl w, M, h0⟩ (fun i => ι (U.getD i 0)) U.length w' r v) (hg : Grows M w w') (hok : okNames U nb r = true) :
    ∃ ι', Rel F N ι' (recvN s U nb dst r) (a.put dst v) w' := by
  obtain ⟨hm, ιr, h1, h2, h3, h4, h5, h6⟩ := hres
  let L : List Nat := U ++ upFrom nb (r.pl.length - U.length)
  let ls := lnames L r.pl
  let NP := zipPl L (r.pl.map (Pl.ren ls))
  let KL := kilN U.length L r.pl
  have hdis : distinct (names (zipPl L r.pl)) = true := hok
  have hLlo : ∀ q, q < U.length → L[q]? = U[q]? := fun q hq => List.getElem?_append_left hq
  have hLhi : ∀ q p, U.length ≤ q → L[q]? = some p → p = nb + (q - U.length) := fun q p hq hp => by
    have hp : (U ++ upFrom nb (r.pl.length - U.length))[q]? = some p := hp
    rw [List.getElem?_append_right hq, upFrom_get] at hp
    split at hp
    · cases hp; rfl
    · cases hp
  have hz0 : ∀ q x, aget (zipPl (upFrom 0 r.pl.length) r.pl) q = some x ↔ r.pl[q]? = some x ∧ x.isGone = false := fun q x => by
    constructor
    · intro h
      obtain ⟨q', g1, g2, g3⟩ := zip_get _ _ _ _ h
      rw [upFrom_get] at g1
      split at g1
      · cases g1; rw [Nat.zero_add]; exact ⟨g2, g3⟩
      · cases g1
    · rintro ⟨g1, g2⟩
      have hlt : q < r.pl.length := (List.getElem?_eq_some_iff.1 g1).1
      have hup : (upFrom 0 r.pl.length)[q]? = some q := by rw [upFrom_get, if_pos hlt, Nat.zero_add]
      have := zip_there _ _ q q x hup g1 g2
      cases hz : aget (zipPl (upFrom 0 r.pl.length) r.pl) q with
      | none => exact absurd hz this
      | some y =>
        obtain ⟨q', g3, g4, g5⟩ := zip_get _ _ _ _ hz
        rw [upFrom_get] at g3
        split at g3
        · cases g3; rw [Nat.zero_add] at g1; rw [g1] at g4; cases g4; rfl
        · cases g3
  let ι' : Nat → Gh := fun p => open Classical in if h : isin p KL = true ∧ ∃ q, nthO ls q = some p then ιr h.2.choose else ι p
  have huniq : ∀ q q' p, nthO ls q = some p → nthO ls q' = some p → q = q' := fun q q' p g1 g2 => by
    obtain ⟨x, e1, e2, e3⟩ := (nthO_lnames L r.pl q p).1 g1
    obtain ⟨y, e4, e5, e6⟩ := (nthO_lnames L r.pl q' p).1 g2
    exact zip_uniq L r.pl hdis q q' p x y e1 e2 e3 e4 e5 e6
  have hι : ∀ p, isin p KL = false → ι' p = ι p := fun p hp => by
    simp only [ι']
    rw [dif_neg]
    rintro ⟨h, _⟩
    rw [hp] at h; cases h
  have hin : ∀ q p, nthO ls q = some p → ι' p = ιr q := fun q p hq => by
    by_cases hk : isin p KL = true
    · have hex : isin p KL = true ∧ ∃ q, nthO ls q = some p := ⟨hk, q, hq⟩
      simp only [ι']
      rw [dif_pos hex]
      congr 1
      exact huniq _ _ p hex.2.choose_spec hq
    · have hk : isin p KL = false := by simpa using hk
      rw [hι p hk]
      obtain ⟨x, e1, e2, e3⟩ := (nthO_lnames L r.pl q p).1 hq
      have hqm : q < U.length := by
        rcases Nat.lt_or_ge q U.length with h | h
        · exact h
        · have := (kil_iff L r.pl U.length p).2 ⟨q, x, e1, e2, fun h' => by omega⟩
          rw [hk] at this; cases this
      have := h6 q x hqm ((hz0 q x).2 ⟨e2, e3⟩)
      rw [this]
      have e1' : U[q]? = some p := by rw [← hLlo q hqm]; exact e1
      simp [List.getD, e1']
  have hNP : ∀ p y, aget NP p = some y → ∃ q x, nthO ls q = some p ∧ r.pl[q]? = some x ∧ x.isGone = false ∧ y = x.ren ls ∧ L[q]? = some p := fun p y hy => by
    obtain ⟨q, e1, e2, e3⟩ := zip_get _ _ _ _ hy
    rw [List.getElem?_map] at e2
    cases hx : r.pl[q]? with
    | none => rw [hx] at e2; cases e2
    | some x =>
      rw [hx] at e2; simp at e2; subst e2
      rw [isGone_ren] at e3
      exact ⟨q, x, (nthO_lnames L r.pl q p).2 ⟨x, e1, hx, e3⟩, hx, e3, rfl, e1⟩
  have hrep : ∀ p, p ∈ U → isin p KL = true ∨ aget NP p ≠ none := fun p hp => by
    obtain ⟨i, hi, hpi⟩ := List.getElem_of_mem hp
    have hUi : U[i]? = some p := by rw [List.getElem?_eq_getElem hi, hpi]
    have hLi : L[i]? = some p := by rw [hLlo i hi]; exact hUi
    have hlt : i < r.pl.length := by omega
    cases hg' : (r.pl[i]).isGone
    · right
      refine zip_there L _ i p ((r.pl[i]).ren ls) hLi (by rw [List.getElem?_map, List.getElem?_eq_getElem hlt]; rfl) (by rw [isGone_ren]; exact hg')
    · left
      exact (kil_iff L r.pl U.length p).2 ⟨i, r.pl[i], hLi, List.getElem?_eq_getElem hlt, fun _ => hg'⟩
  have hMown : ∀ b, M b → ∃ q y, (isin q KL = true ∨ aget NP q ≠ none) ∧ aget s.pl q = some y ∧ y.live = true ∧ (ι q).b = some b := fun b hb => by
    obtain ⟨p, hp, e⟩ := (hM b).1 hb
    obtain ⟨x, e1, e2⟩ := hU p hp
    exact ⟨p, x, hrep p hp, e1, e2, e⟩
  have hsame : ∀ b, b < w.heap.size → (∀ q y, (isin q KL = true ∨ aget NP q ≠ none) → aget s.pl q = some y → y.live = true → (ι q).b ≠ some b) → w'.heap[b]? = w.heap[b]? := fun b hb h => hg.block b hb fun hm' => by
    obtain ⟨q, y, e1, e2, e3, e4⟩ := hMown b hm'
    exact h q y e1 e2 e3 e4
  have hokk : Keeps w' w' (Fr.ok ⟨w, F.ok ι s.pl w, M, h0⟩ ιr (zipPl (upFrom 0 r.pl.length) r.pl) w') (F.ok ι' (s.redo KL NP).pl w') := by
    intro b hb
    obtain ⟨b1, b2, b3⟩ := hb
    refine ⟨⟨?_, b2, ?_⟩, rfl⟩
    · rcases b1 with b1 | b1 | b1
      · exact b1.1
      · obtain ⟨q, y, _, e2, e3, e4⟩ := hMown b b1
        rcases (hr.mine b ⟨q, y, e2, e3, e4⟩).1 with h | h
        · exact .inr (.inl h)
        · exact .inr (.inr h)
      · exact .inr (.inr (Nat.le_trans hr.grows.size b1))
    · rintro ⟨p, x, q1, q2, q3⟩
      rw [S.redo_pl] at q1
      cases hn : aget NP p with
      | some y =>
        simp only [hn] at q1; cases q1
        obtain ⟨q, z, e1, e2, e3, rfl, _⟩ := hNP p _ hn
        rw [hin q p e1] at q3
        rw [live_ren] at q2
        exact b3 ⟨q, z, (hz0 q z).2 ⟨e2, e3⟩, q2, q3⟩
      | none =>
        simp only [hn] at q1
        split at q1
        · rename_i hk
          cases hp : aget s.pl p with
          | none => rw [hp] at q1; cases q1
          | some y =>
            rw [hp] at q1; simp at q1; subst q1
            rw [hι p hk] at q3
            rw [Pl.live_kill] at q2
            have ho : Owns ι s.pl b := ⟨p, y, hp, q2, q3⟩
            rcases b1 with b1 | b1 | b1
            · exact b1.2.2 ho
            · obtain ⟨q, z, e1, e2, e3, e4⟩ := hMown b b1
              have hpq : p ≠ q := fun e => by subst e; rcases e1 with e1 | e1; · rw [hk] at e1; cases e1
                                              · exact e1 hn
              exact hr.inj p q y z b hp e2 hpq q2 q3 e4
            · have h7 := (hr.mine b ho).2
              have h8 : w.heap.size ≤ b := b1
              omega
        · cases q1
  have hrel := hr.redoG KL NP ι' w' hι hsame hg.shapes hg.os hg.tape hg.output hg.size (by
    intro p y hy
    obtain ⟨q, x, e1, e2, e3, rfl, _⟩ := hNP p y hy
    exact PR_ren hokk hin (hin q p e1) (h2 q x ((hz0 q x).2 ⟨e2, e3⟩))) (by
    intro p y b hy hb
    obtain ⟨q, x, e1, e2, e3, rfl, _⟩ := hNP p y hy
    rw [hin q p e1] at hb
    have hzq := (hz0 q x).2 ⟨e2, e3⟩
    refine ⟨(h2 q x hzq).lt (h5 q x hzq) hb, ?_⟩
    rcases h4 q x b hzq hb with h | h
    · exact .inr (hMown b h)
    · exact .inl h) (by
    intro p q x y b hx hy hpq hb hq
    obtain ⟨p', x', e1, e2, e3, rfl, _⟩ := hNP p x hx
    obtain ⟨q', y', e4, e5, e6, rfl, _⟩ := hNP q y hy
    rw [hin p' p e1] at hb
    rw [hin q' q e4] at hq
    refine h3 p' q' x' y' b ((hz0 p' x').2 ⟨e2, e3⟩) ((hz0 q' y').2 ⟨e5, e6⟩) (fun e => hpq ?_) hb hq
    subst e
    rw [e1] at e4; cases e4; rfl) (by
    intro p y g hy hg'
    obtain ⟨q, x, e1, e2, e3, rfl, e4⟩ := hNP p y hy
    have hqm : q < U.length := by
      rcases Nat.lt_or_ge q U.length with h | h
      · exact h
      · have := hLhi q p h e4
        rw [this, hnb] at hg'; cases hg'
    rw [hin q p e1, h6 q x hqm ((hz0 q x).2 ⟨e2, e3⟩)]
    have hUq : U[q]? = some p := by rw [← hLlo q hqm]; exact e4
    obtain ⟨z, e5, _⟩ := hU p (List.mem_of_getElem? hUq)
    have := hr.hkeep p z g e5 hg'
    simp only [List.getD, hUq, Option.getD_some]
    exact this)
  exact ⟨ι', hrel.put dst hd _ _ (VR_ren hokk hin h1)⟩

theorem recv_sound (hr : Rel F N ι s a w) (hd : ∀ k, o.dst = some k → k < N) {pl1 : List (Nat × Pl)} (hr1 : Rel F N ι (s.withPl pl1) a w) {w' : World} {v : Value} {r : Res} (hres : ResR ⟨w, F.ok ι pl1 w, fun _ => False, fun _ => none⟩ w' r v) (hg : Grows (fun _ => False) w w') :
    ∃ ι', Rel F N ι' (recv s { s with pl := pl1 } o.dst r) (a.put o.dst v) w' := by
  cases hdst : o.dst with
  | none => exact ⟨ι, hr.grown hg⟩
  | some d =>
    simp only [recv]
    cases hs : r.v.scalar
    · simp only [cond_false]
      have hdN := hd d hdst
      refine recvN_sound hr1 (dst := some d) (fun k hk => by cases hk; exact hdN) (U := []) (fun p hp => by cases hp) (nb := base d) (fun i => hr.h_big (by unfold base; omega)) (M := fun _ => False) (fun b => by simp) (h0 := fun _ => none) ?_ hg ?_
      · obtain ⟨_, ιr, h1, h2, h3, h4, h5, h6⟩ := hres
        exact ⟨Nat.zero_le _, ιr, h1, h2, h3, h4, h5, fun p x hp => by simp at hp⟩
      · exact (distinct_up _ _ _).2
    · simp only [cond_true]
      obtain ⟨_, ιr, h1, _⟩ := hres
      exact ⟨ι, (hr.grown hg).put (some d) (fun k hk => by cases hk; exact hd d hdst) _ _ (VR_scalar hs h1)⟩

/-- As Fine, and what was there is there as it was. -/
def FineX (P : Program) (F : Fr) (N : Nat) (o : Oper) (a : Act) (w : World) (K : S → Prop) : Prop :=
  ∀ (next : Act → World → Prop) (Q : Exit → Act → World → Prop), (∀ ι s a' w', Rel F N ι s a' w' → K s → Ext w w' → next a' w') → o.wp P a w next Q

theorem FineX.fine (h : FineX P F N o a w K) : Fine P F N o a w K := fun next Q hn => h next Q fun ι s a' w' hr hk _ => hn ι s a' w' hr hk

theorem sound_aCall (hr : Rel F N ι s a w) (hd : ∀ k, o.dst = some k → k < N) {f : FuncId} {ws : List W} {vals : List Value} (hws : WRs ι w (F.ok ι s.pl w) ws vals) (hrun : callable P f = true → (execOp a.eval o).run P w = .ok (.enter f vals.toArray) w)
    (h : aCall P o.dst f ws s K) : FineX P F N o a w K := by
  unfold aCall at h
  split at h
  · rename_i ds pl1 hds
    obtain ⟨hc, h⟩ := h
    obtain ⟨g1, g2, g3⟩ := toDWs_sound hr hws hds
    intro next Q hn
    unfold Oper.wp
    rw [hrun hc]
    rw [Oper.upon_enter]
    refine (h w (F.ok ι pl1 w) vals (fun b hb => hb.2.1) (g3 _)).mono ?_
    rintro e w' ⟨v, r, rfl, hk, hres, hg⟩
    obtain ⟨ι', hrel⟩ := recv_sound (o := o) hr hd g1 hres hg
    exact hn ι' _ _ _ hrel hk ⟨hg.size, fun b hb => hg.block b hb (fun h => h)⟩
  · exact h.elim

theorem arr_map {α β : Type} (f : α → β) (xs : Array α) : xs.map f = (xs.toList.map f).toArray := by
  cases xs; simp

theorem sound_call (hr : Rel F N ι s a w) (hd : ∀ k, o.dst = some k → k < N) {f : FuncId} {args : Array Operand} {ts : Array TypeId} (ho : o.op = .call { callee := .value (.func f), args := args, argTypes := ts })
    (h : aop P o.dst (.call f (args.toList.map cO)) s K) : FineX P F N o a w K := by
  simp only [aop] at h
  refine sound_aCall hr hd (WRs_o hr args.toList) (fun hc => ?_) h
  simp only [execOp, ho, resolve, Deferred.ofValue, Act.eval, Sem.run_bind, Sem.run_pure, Result.andThen_ok, invoke]
  rw [run_callFunc hc, arr_map]
  simp

theorem WRs_append {ok : Nat → Prop} : ∀ {xs ys : List W} {us vs : List Value}, WRs ι w ok xs us → WRs ι w ok ys vs → WRs ι w ok (xs ++ ys) (us ++ vs)
  | [], _, [], _, _, h => h
  | [], _, _ :: _, _, h, _ => h.elim
  | _ :: _, _, [], _, h, _ => h.elim
  | _ :: _, _, _ :: _, _, h, h2 => ⟨h.1, WRs_append h.2 h2⟩
theorem WRs_fps {ok : Nat → Prop} : ∀ {caps : List (List D)} {vs : List Value}, RDf w ok vs caps → WRs ι w ok (caps.map fun ds => W.c (.fp ds)) vs
  | [], vs, h => by simp only [RDf] at h; subst h; trivial
  | c :: r, vs, h => by
    simp only [RDf] at h
    obtain ⟨b, o, vs', rfl, h2, h3, h4⟩ := h
    exact ⟨⟨b, o, rfl, h2, h3⟩, WRs_fps h4⟩

theorem sound_calv (hr : Rel F N ι s a w) (hd : ∀ k, o.dst = some k → k < N) {x : Operand} {args : Array Operand} {ts : Array TypeId} (ho : o.op = .call { callee := .value x, args := args, argTypes := ts })
    (h : aop P o.dst (.calv (cO x) (args.toList.map cO)) s K) : FineX P F N o a w K := by
  simp only [aop] at h
  have hx := CR_o hr x
  split at h
  · rename_i f hf
    rw [hf] at hx
    obtain ⟨bs, h1, h2⟩ := hx
    have hbs : bs = [] := by simpa using h1.symm
    subst hbs
    refine sound_aCall hr hd (WRs_o hr args.toList) (fun hc => ?_) h
    simp only [execOp, ho, resolve, h2, Deferred.ofValue, Sem.run_bind, Sem.run_pure, Result.andThen_ok, invoke]
    rw [run_callFunc hc, arr_map]
    simp
  · rename_i f caps hf
    rw [hf] at hx
    simp only [CR, RD] at hx
    obtain ⟨vs, h1, h2⟩ := hx
    refine sound_aCall hr hd (WRs_append (WRs_o hr args.toList) (WRs_fps h2)) (fun hc => ?_) h
    simp only [execOp, ho, resolve, h1, Deferred.ofValue, Sem.run_bind, Sem.run_pure, Result.andThen_ok, invoke]
    rw [run_callFunc hc, arr_map]
    simp
  · exact h.elim

theorem okv_spec {α : Type} {c : Bool} {x y : α} (h : okv c x = some y) : c = true ∧ x = y := by
  cases c
  · cases h
  · cases h; exact ⟨rfl, rfl⟩

theorem isSome_spec {α : Type} {x : Option α} (h : isSome x = true) : ∃ y, x = some y := by
  cases x with
  | none => cases h
  | some y => exact ⟨y, rfl⟩

/-- Every operation. -/
theorem aop_sound (hr : Rel F N ι s a w) (hd : ∀ k, o.dst = some k → k < N) {x : AOp} (hx : cOp P o.op o.type = some x) (h : aop P o.dst x s K) : Fine P F N o a w K := by
  unfold cOp at hx
  split at hx
  · rename_i y ho; cases hx; exact (sound_mov hr hd (.inl ho) h).fine trivial
  · rename_i y ho; cases hx; exact (sound_mov hr hd (.inr ho) h).fine trivial
  · rename_i c y z ho; cases hx; exact (sound_pick hr hd ho h).fine trivial
  · rename_i t ho; cases hx; exact sound_alloc hr hd ho h
  · rename_i t y ho; cases hx; exact sound_bx hr hd ho h
  · rename_i t parts ho
    split at hx
    · rename_i fs l hu hl
      obtain ⟨hc, rfl⟩ := okv_spec hx
      rw [Bool.and_eq_true] at hc
      exact (sound_build hr hd ho hu hl hc.1 hc.2 h).fine trivial
    · cases hx
  · rename_i t n parts ho
    split at hx
    · rename_i e ht
      obtain ⟨hc, rfl⟩ := okv_spec hx
      simp only [Bool.and_eq_true] at hc
      exact sound_lits hr hd ho ht hc.1.1.1.1 hc.1.1.1.2 hc.1.1.2 hc.1.2 hc.2 h
    · cases hx
  · rename_i t y ho
    split at hx
    · rename_i g ht; cases hx; exact (sound_ld hr hd ho ht h).fine (Ext.refl _)
    · cases hx
  · rename_i t y z ho
    obtain ⟨hc, rfl⟩ := okv_spec hx
    obtain ⟨i, hi⟩ := isSome_spec hc
    exact sound_st hr ho hi h
  · rename_i y ho; cases hx; exact (sound_nc hr hd ho h).fine trivial
  · rename_i src dst y ho
    cases h1 : isKind P src false && isKind P dst true
    · rw [h1] at hx
      cases h2 : isKind P src true && isKind P dst false
      · rw [h2] at hx
        simp only [cond_false] at hx
        cases h3 : convOp P src dst y with
        | none => simp only [h3] at hx; cases hx; exact (sound_pure hr hd (by rw [ho]; rfl) h).fine trivial
        | some z => simp only [h3] at hx; cases hx; exact (sound_conv hr hd ho h3 h).2.fine trivial
      · rw [h2] at hx; cases hx
        rw [Bool.and_eq_true] at h2
        exact sound_s2b hr hd ho h2.1 h2.2 h
    · rw [h1] at hx; cases hx
      rw [Bool.and_eq_true] at h1
      exact (sound_b2s hr hd ho h1.1 h1.2 h).fine (Ext.refl _)
  · rename_i f first caps ho
    obtain ⟨hc, rfl⟩ := okv_spec hx
    exact sound_clo hr hd ho hc h
  · rename_i t n c ho
    split at hx
    · rename_i e ht
      split at hx
      · rename_i z plz hz
        obtain ⟨hc, rfl⟩ := okv_spec hx
        rw [Bool.and_eq_true] at hc
        exact sound_mk hr hd ho ht hz hc.1 hc.2 h
      · cases hx
    · cases hx
  · rename_i t y lo hi mx ho
    split at hx
    · rename_i hu; cases hx; exact (sound_sls hr hd ho hu h).fine trivial
    · rename_i e hu
      obtain ⟨hc, rfl⟩ := okv_spec hx
      obtain ⟨i, hi'⟩ := isSome_spec hc
      exact (sound_sli hr hd ho hu hi' h).fine trivial
    · cases hx
  · rename_i t y f ho
    split at hx
    · rename_i off ft ht
      obtain ⟨hc, rfl⟩ := okv_spec hx
      exact (sound_fa hr hd ho ht hc h).fine trivial
    · cases hx
  · rename_i t y f ho
    split at hx
    · rename_i off ft ht
      split at hx
      · rename_i g hg; cases hx; exact (sound_fld hr hd ho ht hg h).fine trivial
      · cases hx
    · cases hx
  · rename_i t y i ho
    split at hx
    · rename_i e ht
      obtain ⟨hc, rfl⟩ := okv_spec hx
      exact (sound_ia hr hd ho ht hc h).fine trivial
    · cases hx
  · rename_i t y i ho
    split at hx
    · rename_i hu; cases hx; exact (sound_six hr hd ho hu h).fine trivial
    · cases hx
  · rename_i y i ho; cases hx; exact (sound_ext hr hd ho h).fine trivial
  · rename_i args ts ho
    split at hx
    · rename_i y t hargs hts
      split at hx
      · rename_i e ht; cases hx; exact (sound_len hr hd ho hargs hts ht h).fine trivial
      · cases h3 : lenOp P t y with
        | none => simp only [h3] at hx; cases hx; exact (sound_pure hr hd (by rw [ho]; rfl) h).fine trivial
        | some z => simp only [h3] at hx; cases hx; exact (sound_slen hr hd ho hargs hts h3 h).2.fine trivial
    · cases hx
  · rename_i args ts ho
    split at hx
    · rename_i y z t u hargs hts
      split at hx
      · rename_i e e' ht hu
        obtain ⟨hc, rfl⟩ := okv_spec hx
        rw [Bool.and_eq_true] at hc
        exact sound_app hr hd ho hargs hts ht hu hc.1 hc.2 h
      · rename_i e ht hu
        obtain ⟨hc, rfl⟩ := okv_spec hx
        rw [Bool.and_eq_true] at hc
        exact sound_apps hr hd ho hargs hts ht hu hc.1 hc.2 h
      · cases hx
    · cases hx
  · rename_i f args ts ho; cases hx; exact (sound_call hr hd ho h).fine
  · rename_i y args ts ho hne; cases hx; exact (sound_calv hr hd hne h).fine
  · rename_i b args ts h1 h2 ho
    cases hm : mmOp b args.toList with
    | some y => simp only [hm] at hx; cases hx; exact (sound_mm hr hd ho hm h).fine trivial
    | none => simp only [hm] at hx; cases hx; exact (sound_pure hr hd (by rw [ho]; rfl) h).fine trivial
  · rename_i b t y z u ho
    cases hn : nilCmp P b t z with
    | some neg => simp only [hn] at hx; cases hx; exact (sound_isn hr hd ho hn h).fine trivial
    | none =>
    simp only [hn] at hx
    cases h3 : eqaOp P b t y z with
    | some q => simp only [h3] at hx; cases hx; exact (sound_eqa hr hd ho h3 h).2.fine trivial
    | none =>
    simp only [h3] at hx
    cases h1 : plainBin b && isBasic P t
    · rw [h1] at hx; cases hx; exact (sound_pure hr hd (by rw [ho]; rfl) h).fine trivial
    · rw [h1] at hx; cases hx; exact (sound_bin hr hd ho h).fine trivial
  · rename_i u t y ho; cases hx; exact (sound_pure hr hd (by rw [ho]; rfl) h).fine trivial
  · cases hx
theorem addAll_spec {pl : List (Nat × Pl)} : ∀ (l U : List Nat), (U.Nodup ∧ ∀ p ∈ U, ∃ x, aget pl p = some x ∧ x.live = true) → (addAll pl U l).Nodup ∧ ∀ p ∈ addAll pl U l, ∃ x, aget pl p = some x ∧ x.live = true
  | [], U, h => h
  | p :: r, U, h => by
    have step : ∀ x, aget pl p = some x → x.live = true → (bif isin p U then addAll pl U r else addAll pl (U ++ [p]) r).Nodup ∧ ∀ q ∈ (bif isin p U then addAll pl U r else addAll pl (U ++ [p]) r), ∃ x, aget pl q = some x ∧ x.live = true := fun x hx hl => by
      cases hi : isin p U
      · have hn : p ∉ U := fun h => by rw [(isin_iff p U).2 h] at hi; cases hi
        refine addAll_spec r (U ++ [p]) ⟨?_, fun q hq => ?_⟩
        · rw [List.nodup_append]
          exact ⟨h.1, by simp, fun a ha b hb => by simp at hb; subst hb; exact fun e => hn (e ▸ ha)⟩
        · rcases List.mem_append.1 hq with hq | hq
          · exact h.2 q hq
          · simp at hq; subst hq; exact ⟨x, hx, hl⟩
      · exact addAll_spec r U h
    unfold addAll
    split
    · rename_i cs hp; exact step _ hp rfl
    · rename_i z els hp; exact step _ hp rfl
    · exact addAll_spec r U h

theorem reach_spec {pl : List (Nat × Pl)} : ∀ (n i : Nat) (U : List Nat), (U.Nodup ∧ ∀ p ∈ U, ∃ x, aget pl p = some x ∧ x.live = true) → (reach pl n i U).Nodup ∧ ∀ p ∈ reach pl n i U, ∃ x, aget pl p = some x ∧ x.live = true
  | 0, _, U, h => h
  | n + 1, i, U, h => by
    unfold reach
    split
    · split
      · exact reach_spec n (i + 1) _ (addAll_spec _ U h)
      · exact reach_spec n (i + 1) U h
    · exact h

theorem idx_spec : ∀ {U : List Nat} {p k : Nat}, idx p U = some k → U[k]? = some p
  | [], p, k, h => by simp [idx] at h
  | q :: r, p, k, h => by
    unfold idx at h
    by_cases e : q = p
    · subst e; rw [beq_self] at h; cases h; rfl
    · rw [beq_false e] at h
      simp only [cond_false] at h
      split at h
      · rename_i i hi; cases h; simpa using idx_spec hi
      · cases h
theorem idx_nodup : ∀ {U : List Nat} {p k : Nat}, U.Nodup → U[k]? = some p → idx p U = some k
  | [], p, k, _, h => by simp at h
  | q :: r, p, 0, hn, h => by simp at h; subst h; simp [idx]
  | q :: r, p, k + 1, hn, h => by
    rw [List.nodup_cons] at hn
    have hr : r[k]? = some p := by simpa using h
    have hne : q ≠ p := fun e => by subst e; exact hn.1 (List.mem_of_getElem? hr)
    unfold idx
    rw [beq_false hne, idx_nodup hn.2 hr]
    rfl

/-- What is packed reads as before. -/
theorem CR_pk (hr : Rel F N ι s a w) {ok' : Nat → Prop} (hk : Keeps w w (F.ok ι s.pl w) ok') {U : List Nat} {ι' : Nat → Gh} (hι : ∀ k p, U[k]? = some p → ι' k = ι p) {c : C} {v : Value} (hc : CR ι w (F.ok ι s.pl w) c v) : CR ι' w ok' (c.pk s.pl U) v := by
  cases c with
  | d x => exact RD.keep hk _ _ hc
  | nil => exact hc
  | fp l => exact CR.keep (ι := ι') hk (Shapes.refl w) (.fp l) v hc
  | clo f caps => cases caps with
    | nil =>
      obtain ⟨bs, h1, h2⟩ := hc
      have hbs : bs = [] := by simpa using h1.symm
      subst hbs
      simp only [C.pk, CR, RD, RDf]
      exact ⟨[], h2, rfl⟩
    | cons _ _ => trivial
  | dead => trivial
  | eptr p z i k => trivial
  | ptr p o =>
    simp only [C.pk]
    split
    · split
      · rename_i k hk'
        simp only [CR, hι k p (idx_spec hk')]
        exact hc
      · trivial
    · rename_i ds hp
      obtain ⟨b, e1, e2⟩ := hc
      obtain ⟨b', e3, e4, e5⟩ := hr.places p _ hp
      rw [e1] at e3; cases e3
      have e5 := RDc.drop o e5
      rw [Nat.zero_add] at e5
      exact ⟨b, o, e2, (hk b e4).1, RDc.keep hk b e4 _ _ e5⟩
    · trivial
  | own p sz n =>
    simp only [C.pk]
    split
    · split
      · rename_i k hk'
        simp only [CR, hι k p (idx_spec hk')]
        exact hc
      · trivial
    · rename_i z els hp
      obtain ⟨hn, ⟨h1, h2, h3, h4⟩ | ⟨b, cap, t, h1, h2, h3, h4, h5, h6⟩⟩ := own_data' hr hp hc
      · subst h1; subst h2; subst h4
        simp only [CR, RD]
        exact ⟨none, 0, 0, rfl, rfl, Nat.le_refl _, Nat.zero_le _, .inl (by simp)⟩
      · have hpr := hr.places p _ hp
        obtain ⟨_, _, hf | ⟨b', e1, e2, e3, e4⟩⟩ := hpr
        · rw [h1] at hf; cases hf.1
        · rw [h1] at e1; cases e1
          have : RD w (F.ok ι s.pl w) (.sl (els.take n)) v := by
            subst h2
            simp only [RD]
            exact ⟨_, _, _, rfl, by simp; omega, h3, h4, .inr ⟨b, 0, z, rfl, e3 rfl, RDs.take n e2⟩⟩
          exact CR.keep (ι := ι') hk (Shapes.refl w) (.d (.sl (els.take n))) v this
    · trivial
theorem CRs_pk (hr : Rel F N ι s a w) {ok' : Nat → Prop} (hk : Keeps w w (F.ok ι s.pl w) ok') {U : List Nat} {ι' : Nat → Gh} (hι : ∀ k p, U[k]? = some p → ι' k = ι p) : ∀ {cs : List C} {vs : List Value}, CRs ι w (F.ok ι s.pl w) cs vs → CRs ι' w ok' (cs.map (C.pk s.pl U)) vs
  | [], [], _ => trivial
  | [], _ :: _, h => h.elim
  | _ :: _, [], h => h.elim
  | _ :: _, _ :: _, h => ⟨CR_pk hr hk hι h.1, CRs_pk hr hk hι h.2⟩
theorem WR_pk (hr : Rel F N ι s a w) {ok' : Nat → Prop} (hk : Keeps w w (F.ok ι s.pl w) ok') {U : List Nat} {ι' : Nat → Gh} (hι : ∀ k p, U[k]? = some p → ι' k = ι p) {x : W} {v : Value} (h : WR ι w (F.ok ι s.pl w) x v) : WR ι' w ok' (x.pk s.pl U) v := by
  cases x with
  | c x => exact CR_pk hr hk hι h
  | agg cs => obtain ⟨vs, h1, h2⟩ := h; exact ⟨vs, h1, CRs_pk hr hk hι h2⟩
theorem WRs_pk (hr : Rel F N ι s a w) {ok' : Nat → Prop} (hk : Keeps w w (F.ok ι s.pl w) ok') {U : List Nat} {ι' : Nat → Gh} (hι : ∀ k p, U[k]? = some p → ι' k = ι p) : ∀ {cs : List W} {vs : List Value}, WRs ι w (F.ok ι s.pl w) cs vs → WRs ι' w ok' (cs.map (W.pk s.pl U)) vs
  | [], [], _ => trivial
  | [], _ :: _, h => h.elim
  | _ :: _, [], h => h.elim
  | _ :: _, _ :: _, h => ⟨WR_pk hr hk hι h.1, WRs_pk hr hk hι h.2⟩
theorem VR_pk (hr : Rel F N ι s a w) {ok' : Nat → Prop} (hk : Keeps w w (F.ok ι s.pl w) ok') {U : List Nat} {ι' : Nat → Gh} (hι : ∀ k p, U[k]? = some p → ι' k = ι p) {x : V} {v : Value} (h : VR ι w (F.ok ι s.pl w) x v) : VR ι' w ok' (x.pk s.pl U) v := by
  cases x with
  | w x => exact WR_pk hr hk hι h
  | tup cs => obtain ⟨vs, h1, h2⟩ := h; exact ⟨vs, h1, WRs_pk hr hk hι h2⟩

theorem pkPls_get (pl : List (Nat × Pl)) (U : List Nat) : ∀ (l : List Nat) (k i : Nat), (pkPls pl U k l)[i]? = (l[i]?).map fun p => pkPl pl U (k + i) p
  | [], k, i => by simp [pkPls]
  | p :: r, k, 0 => by simp [pkPls]
  | p :: r, k, i + 1 => by
    simp only [pkPls, List.getElem?_cons_succ, pkPls_get pl U r (k + 1) i]
    rw [show k + 1 + i = k + (i + 1) by omega]
theorem pkPls_len (pl : List (Nat × Pl)) (U : List Nat) : ∀ (l : List Nat) (k : Nat), (pkPls pl U k l).length = l.length
  | [], _ => rfl
  | _ :: r, k => by simp [pkPls, pkPls_len pl U r (k + 1)]

/-- The i-th packed place, unless it is gone: it is the frame's own. -/
theorem pkPl_spec (hr : Rel F N ι s a w) {ok' : Nat → Prop} (hk : Keeps w w (F.ok ι s.pl w) ok') {U : List Nat} {ι' : Nat → Gh} (hι : ∀ k p, U[k]? = some p → ι' k = ι p) {k p : Nat} (hp : U[k]? = some p) (hg : (pkPl s.pl U k p).isGone = false) :
    idx p U = some k ∧ (∃ x, aget s.pl p = some x ∧ x.live = true) ∧ PR ι' w ok' k (pkPl s.pl U k p) ∧ (pkPl s.pl U k p).live = true := by
  unfold pkPl at hg ⊢
  split at hg
  case h_2 => cases hg
  rename_i i hi
  cases hb : Nat.beq i k
  · rw [hb] at hg; cases hg
  · have hik := Nat.eq_of_beq_eq_true hb
    subst hik
    rw [hb] at hg
    simp only [cond_true] at hg
    split at hg
    · rename_i cs hcs
      refine ⟨hi, ⟨_, hcs, rfl⟩, ?_⟩
      obtain ⟨b, cur, e1, e2, e3⟩ := hr.places p _ hcs
      exact ⟨⟨b, cur, by rw [hι i p hp]; exact e1, e2, CRs_pk hr hk hι e3⟩, rfl⟩
    · rename_i z els hcs
      refine ⟨hi, ⟨_, hcs, rfl⟩, ?_⟩
      refine ⟨?_, rfl⟩
      obtain ⟨h0, hn, hf | ⟨b, e1, e2, e3, e4⟩⟩ := hr.places p _ hcs
      · exact ⟨h0, by rw [hι i p hp]; exact hn, .inl (by rw [hι i p hp]; exact hf)⟩
      · exact ⟨h0, by rw [hι i p hp]; exact hn, .inr ⟨b, by rw [hι i p hp]; exact e1, RDs.keep' hk b z els 0 (fun _ _ _ => rfl) e2, fun hf => (hk b (e3 hf)).1, e4⟩⟩
    · cases hg

theorem nbase_ge (dst : Option Nat) (U : List Nat) : 600000 ≤ nbase dst U := by
  unfold nbase
  cases dst with
  | some d => simp only [base]; omega
  | none => cases U with
    | nil => simp only []; omega
    | cons p r => simp only []; omega

theorem sound_callh (hr : Rel F N ι s a w) (hd : ∀ k, o.dst = some k → k < N) {f : FuncId} {args : Array Operand} {ts : Array TypeId} (ho : o.op = .call { callee := .value (.func f), args := args, argTypes := ts })
    (h : aop P o.dst (.callh f (args.toList.map cO)) s K) : Fine P F N o a w K := by
  simp only [aop, aCallH] at h
  let U := reached s.pl [] (refsWs ((args.toList.map cO).map s.ow))
  have hU : U.Nodup ∧ ∀ p ∈ U, ∃ x, aget s.pl p = some x ∧ x.live = true := reach_spec 40 0 _ (addAll_spec _ [] ⟨List.nodup_nil, fun _ h => by cases h⟩)
  let ι0 : Nat → Gh := fun i => ι (U.getD i 0)
  have hι0 : ∀ k p, U[k]? = some p → ι0 k = ι p := fun k p hp => by simp only [ι0, List.getD, hp, Option.getD_some]
  have hkk : Keeps w w (F.ok ι s.pl w) (F.ok ι s.pl w) := fun b hb => ⟨hb, rfl⟩
  obtain ⟨hc, h⟩ := h
  have hws := WRs_pk hr hkk hι0 (WRs_o hr args.toList)
  have hget : ∀ i x, (pkPls s.pl U 0 U)[i]? = some x → ∃ p, U[i]? = some p ∧ x = pkPl s.pl U i p ∧ x.isGone = false := fun i x hx => by
    rw [pkPls_get, Nat.zero_add] at hx
    cases hp : U[i]? with
    | none => rw [hp] at hx; cases hx
    | some p =>
      rw [hp] at hx; simp at hx
      refine ⟨p, rfl, hx.symm, ?_⟩
      subst hx
      obtain ⟨y, e1, e2⟩ := hU.2 p (List.mem_of_getElem? hp)
      have hi := idx_nodup hU.1 hp
      unfold pkPl
      simp only [hi, beq_self, cond_true, e1]
      cases y with
      | box cs => rfl
      | arr z els fz => cases fz <;> first | rfl | cases e2
      | fbox ds => cases e2
      | gone => cases e2
  have hM : ∀ b, Handed ι0 (pkPls s.pl U 0 U) b ↔ ∃ p ∈ U, (ι p).b = some b := fun b => by
    constructor
    · rintro ⟨i, x, h1, h2⟩
      obtain ⟨p, e1, _, _⟩ := hget i x h1
      rw [hι0 i p e1] at h2
      exact ⟨p, List.mem_of_getElem? e1, h2⟩
    · rintro ⟨p, hp, e⟩
      obtain ⟨i, hi, hpi⟩ := List.getElem_of_mem hp
      have hUi : U[i]? = some p := by rw [List.getElem?_eq_getElem hi, hpi]
      exact ⟨i, pkPl s.pl U i p, by rw [pkPls_get, hUi, Nat.zero_add]; rfl, by rw [hι0 i p hUi]; exact e⟩
  have howns : ∀ b, Handed ι0 (pkPls s.pl U 0 U) b → Owns ι s.pl b := fun b hb => by
    obtain ⟨p, hp, e⟩ := (hM b).1 hb
    obtain ⟨x, e1, e2⟩ := hU.2 p hp
    exact ⟨p, x, e1, e2, e⟩
  have hcall := h w (F.ok ι s.pl w) ι0 (args.toList.map a.eval) (fun b hb => ⟨hb.2.1, fun hh => hb.2.2 (howns b hh)⟩) (fun b hb => (hr.mine b (howns b hb)).2)
    (fun i x hx => by
      obtain ⟨p, e1, e2, e3⟩ := hget i x hx
      subst e2
      obtain ⟨_, _, g1, g2⟩ := pkPl_spec hr hkk hι0 e1 e3
      exact ⟨g1, g2⟩)
    (fun i j x y b hx hy hij hb hj => by
      obtain ⟨p, e1, _, _⟩ := hget i x hx
      obtain ⟨q, e2, _, _⟩ := hget j y hy
      rw [hι0 i p e1] at hb
      rw [hι0 j q e2] at hj
      obtain ⟨x', e3, e4⟩ := hU.2 p (List.mem_of_getElem? e1)
      obtain ⟨y', e5, e6⟩ := hU.2 q (List.mem_of_getElem? e2)
      refine hr.inj p q x' y' b e3 e5 (fun e => hij ?_) e4 hb hj
      subst e
      obtain ⟨k1, k2⟩ := List.getElem?_eq_some_iff.1 e1
      obtain ⟨l1, l2⟩ := List.getElem?_eq_some_iff.1 e2
      exact (List.getElem_inj hU.1).1 (k2.trans l2.symm))
    hws
  intro next Q hn
  unfold Oper.wp
  have hrun : (execOp a.eval o).run P w = .ok (.enter f (args.toList.map a.eval).toArray) w := by
    simp only [execOp, ho, resolve, Deferred.ofValue, Act.eval, Sem.run_bind, Sem.run_pure, Result.andThen_ok, invoke]
    rw [run_callFunc hc, arr_map]
    simp
  rw [hrun, Oper.upon_enter]
  refine hcall.mono ?_
  rintro e w' ⟨v, r, rfl, hk, hres, hg⟩
  cases hokn : okNames U (nbase o.dst U) r
  · have hk : cond (okNames U (nbase o.dst U) r) (K (recvN s U (nbase o.dst U) o.dst r)) False := hk
    rw [hokn] at hk; exact hk.elim
  · have hk : cond (okNames U (nbase o.dst U) r) (K (recvN s U (nbase o.dst U) o.dst r)) False := hk
    rw [hokn] at hk
    have hnb : ∀ i, F.h (nbase o.dst U + i) = none := fun i => hr.h_big (Nat.le_trans (nbase_ge o.dst U) (Nat.le_add_right _ _))
    rw [pkPls_len] at hres
    obtain ⟨ι', hrel⟩ := recvN_sound hr hd hU.2 hnb hM (h0 := fun _ => none) hres hg hokn
    exact hn ι' _ _ _ hrel hk

/-- An operation that may be marked. -/
def Cop (P : Program) (o : Oper) (x : AOp) : Prop := ∃ b, cOpM P b o.op o.type = some x

theorem cop_sound (hr : Rel F N ι s a w) (hd : ∀ k, o.dst = some k → k < N) {x : AOp} (hx : Cop P o x) (h : aop P o.dst x s K) : Fine P F N o a w K := by
  obtain ⟨b, h1⟩ := hx
  cases b
  · exact aop_sound hr hd h1 h
  · simp only [cOpM, cond_true] at h1
    unfold cOpH at h1
    split at h1
    · rename_i f first caps ho
      obtain ⟨hc, rfl⟩ := okv_spec h1
      exact sound_clof hr hd ho hc h
    · rename_i f args ts ho
      cases h1
      exact sound_callh hr hd ho h
    · exact aop_sound hr hd h1 h
end

end Go.AM
