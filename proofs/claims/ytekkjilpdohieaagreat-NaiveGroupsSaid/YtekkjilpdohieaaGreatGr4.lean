/- Merged from the texts: AmM3 -/
import Derived.Test.YtekkjilpdohieaaGreatGr3
set_option linter.unusedSimpArgs false
set_option linter.unusedVariables false
namespace Go.AM

section
variable {α : Type}
theorem sortedB_tail {x : Nat × α} {r : List (Nat × α)} (h : sortedB (x :: r) = true) : sortedB r = true := by
  obtain ⟨k, v⟩ := x
  cases r with
  | nil => rfl
  | cons y r =>
    obtain ⟨j, u⟩ := y
    simp only [sortedB] at h
    cases hb : Nat.blt k j <;> rw [hb] at h
    · cases h
    · exact h
theorem sortedB_lt : ∀ {r : List (Nat × α)} {k : Nat} {v : α}, sortedB ((k, v) :: r) = true → ∀ m, m ≤ k → aget r m = none
  | [], _, _, _, _, _ => rfl
  | (j, u) :: r, k, v, h, m, hm => by
    have h1 : k < j := by
      simp only [sortedB] at h
      cases hb : Nat.blt k j <;> rw [hb] at h
      · cases h
      · exact Nat.le_of_ble_eq_true hb
    rw [aget_cons]
    rw [if_neg (by omega)]
    exact sortedB_lt (sortedB_tail h) m (by omega)
theorem sortedB_cons {k : Nat} {v : α} {r : List (Nat × α)} (h : sortedB r = true) (h2 : ∀ m, m ≤ k → aget r m = none) : sortedB ((k, v) :: r) = true := by
  cases r with
  | nil => rfl
  | cons y r =>
    obtain ⟨j, u⟩ := y
    simp only [sortedB]
    have h1 : k < j := by
      rcases Nat.lt_or_ge k j with h3 | h3
      · exact h3
      · have := h2 j h3
        rw [aget_cons, if_pos rfl] at this
        cases this
    have h4 : Nat.blt k j = true := Nat.ble_eq_true_of_le h1
    rw [h4]
    exact h
theorem sortedB_aput {l : List (Nat × α)} (h : sortedB l = true) (n : Nat) (v : α) : sortedB (aput n v l) = true := by
  induction l with
  | nil => rfl
  | cons x r ih =>
    obtain ⟨k, u⟩ := x
    have ht := sortedB_tail h
    have hl := sortedB_lt h
    unfold aput
    by_cases hk : k = n
    · subst hk
      simp only [beq_self, cond_true]
      exact sortedB_cons ht hl
    · rw [beq_false hk]
      cases hb : Nat.blt n k
      · simp only [cond_false]
        have h1 : ¬ n < k := fun h => by have : Nat.blt n k = true := Nat.ble_eq_true_of_le h; rw [hb] at this; cases this
        refine sortedB_cons (ih ht) fun m hm => ?_
        rw [aget_aput, if_neg (by omega)]
        exact hl m hm
      · simp only [cond_false, cond_true]
        have h1 : n < k := Nat.le_of_ble_eq_true hb
        refine sortedB_cons h fun m hm => ?_
        rw [aget_cons, if_neg (by omega)]
        exact hl m (by omega)
theorem sortedB_afilter {l : List (Nat × α)} (h : sortedB l = true) (f : Nat → Bool) : sortedB (afilter f l) = true := by
  induction l with
  | nil => rfl
  | cons x r ih =>
    obtain ⟨k, u⟩ := x
    have ht := sortedB_tail h
    have hl := sortedB_lt h
    unfold afilter
    cases f k
    · exact ih ht
    · refine sortedB_cons (ih ht) fun m hm => ?_
      rw [aget_afilter_eq, hl m hm]
      split <;> rfl
theorem sorted_ext : ∀ {l m : List (Nat × α)}, sortedB l = true → sortedB m = true → (∀ k, aget l k = aget m k) → l = m
  | [], [], _, _, _ => rfl
  | [], (k, v) :: r, _, _, h => by have := h k; rw [aget_cons, if_pos rfl] at this; cases this
  | (k, v) :: r, [], _, _, h => by have := h k; rw [aget_cons, if_pos rfl] at this; cases this
  | (k, v) :: r, (j, u) :: q, h1, h2, h => by
    have hkj : k = j := by
      have a := h k
      have b := h j
      rw [aget_cons, if_pos rfl, aget_cons] at a
      rw [aget_cons, aget_cons, if_pos rfl] at b
      by_cases e : k = j
      · exact e
      · rw [if_neg (Ne.symm e)] at a
        rw [if_neg e] at b
        rcases Nat.le_total k j with hle | hle
        · rw [sortedB_lt h2 k hle] at a; cases a
        · rw [sortedB_lt h1 j hle] at b; cases b
    subst hkj
    have hv := h k
    rw [aget_cons, if_pos rfl, aget_cons, if_pos rfl] at hv
    cases hv
    refine congrArg _ (sorted_ext (sortedB_tail h1) (sortedB_tail h2) fun m => ?_)
    have hm := h m
    rw [aget_cons, aget_cons] at hm
    by_cases e : k = m
    · subst e
      rw [sortedB_lt h1 k (Nat.le_refl _), sortedB_lt h2 k (Nat.le_refl _)]
    · rw [if_neg e, if_neg e] at hm
      exact hm
end

theorem S.ext' {s t : S} (h1 : s.pl = t.pl) (h2 : sortedB s.sl = true) (h3 : sortedB t.sl = true) (h4 : ∀ k, aget s.sl k = aget t.sl k) : s = t := by
  obtain ⟨a, b⟩ := s
  obtain ⟨c, d⟩ := t
  have h1 : b = d := h1
  subst h1
  have := sorted_ext h2 h3 h4
  have this : a = c := this
  rw [this]

theorem S.put_get (s : S) (d : Option Nat) (v : V) (k : Nat) (h : d ≠ some k) : aget (s.put d v).sl k = aget s.sl k := by
  cases d with
  | none => rfl
  | some d =>
    show aget (aput d v s.sl) k = _
    rw [aget_aput, if_neg (fun e => h (by rw [e]))]
theorem S.put_same (s : S) (d : Nat) (v : V) : aget (s.put (some d) v).sl d = some v := by
  show aget (aput d v s.sl) d = _
  rw [aget_aput, if_pos rfl]
theorem S.put_pl (s : S) (d : Option Nat) (v : V) : (s.put d v).pl = s.pl := by cases d <;> rfl
theorem S.drop_get (s : S) (l : List Nat) (k : Nat) : aget (s.drop l).sl k = if isin k l = false then aget s.sl k else none := by
  show aget (afilter _ s.sl) k = _
  rw [aget_afilter_eq]
  cases isin k l <;> simp
theorem S.put_sorted {s : S} (h : sortedB s.sl = true) (d : Option Nat) (v : V) : sortedB (s.put d v).sl = true := by
  cases d with
  | none => exact h
  | some d => exact sortedB_aput h d v
theorem S.drop_sorted {s : S} (h : sortedB s.sl = true) (l : List Nat) : sortedB (s.drop l).sl = true := sortedB_afilter h _
theorem S.tmp_of {s t : S} {k : Nat} (h : aget s.sl k = aget t.sl k) : s.tmp k = t.tmp k := by unfold S.tmp; rw [h]
theorem S.tmp_put (s : S) (d : Nat) (v : V) : (s.put (some d) v).tmp d = v := by unfold S.tmp; rw [S.put_same]

theorem isLitB_eq {v : V} {w : Bool} (h : isLitB v w = true) : v = boolV w := by
  unfold isLitB at h
  split at h
  · rename_i x
    cases w <;> cases x <;> first | rfl | cases h
  · cases h
theorem isLitB_bool (w : Bool) : isLitB (boolV w) w = true := by cases w <;> rfl

theorem isin_ff {k : Nat} {l : List Nat} (h : ¬ isin k l = true) : isin k l = false := by cases e : isin k l; rfl; exact absurd e h

/-- Outside of l nothing has changed. -/
structure Same (l : List Nat) (s t : S) : Prop where
  pl : t.pl = s.pl
  sorted : sortedB s.sl = true → sortedB t.sl = true
  get : ∀ k, isin k l = false → aget t.sl k = aget s.sl k
theorem Same.refl (l : List Nat) (s : S) : Same l s s := ⟨rfl, id, fun _ _ => rfl⟩
theorem Same.trans {l : List Nat} {s t u : S} (h : Same l s t) (k : Same l t u) : Same l s u :=
  ⟨k.pl.trans h.pl, fun x => k.sorted (h.sorted x), fun i hi => (k.get i hi).trans (h.get i hi)⟩
theorem Same.put {l : List Nat} {s : S} {d : Nat} (h : isin d l = true) (v : V) : Same l s (s.put (some d) v) :=
  ⟨rfl, fun x => S.put_sorted x _ _, fun k hk => S.put_get s _ v k (fun e => by cases e; rw [h] at hk; cases hk)⟩
theorem Same.drop {l : List Nat} {s : S} {m : List Nat} (h : allL (fun k => isin k l) m = true) : Same l s (s.drop m) :=
  ⟨rfl, fun x => S.drop_sorted x _, fun k hk => by
    rw [S.drop_get]
    have : isin k m = false := isin_ff fun e => by
      have := allL_iff.1 h k ((isin_iff k m).1 e)
      rw [hk] at this; cases this
    rw [if_pos this]⟩

theorem withinB_app {l : List Nat} : ∀ {a b : List AI}, withinB l (a ++ b) = true → withinB l a = true ∧ withinB l b = true
  | [], _, h => ⟨rfl, h⟩
  | .mk dst g isG op drop :: a, b, h => by
    simp only [List.cons_append, withinB] at h ⊢
    split at h
    · rename_i x
      cases hx : (isin x l && allL (fun k => isin k l) drop) <;> rw [hx] at h
      · cases h
      · exact withinB_app h
    · cases h
theorem withinB_cons {l : List Nat} {dst : Option Nat} {g : Option (Nat × Bool)} {isG : Bool} {op : AOp} {drop : List Nat} {r : List AI} (h : withinB l (.mk dst g isG op drop :: r) = true) :
    ∃ d, dst = some d ∧ isin d l = true ∧ allL (fun k => isin k l) drop = true ∧ withinB l r = true := by
  simp only [withinB] at h
  cases dst with
  | none => cases h
  | some d =>
    simp only at h
    cases h1 : isin d l <;> rw [h1] at h
    · cases h
    cases h2 : allL (fun k => isin k l) drop <;> rw [h2] at h
    · cases h
    exact ⟨d, rfl, h1, rfl, h⟩

theorem fails_same {l : List Nat} : ∀ {blk : List AI} {s : S}, withinB l blk = true → Same l s (fails blk s)
  | [], s, _ => Same.refl l s
  | .mk dst g isG op drop :: r, s, h => by
    obtain ⟨d, rfl, h1, h2, h3⟩ := withinB_cons h
    exact ((Same.put h1 undefV).trans (Same.drop h2)).trans (fails_same h3)

theorem fails_ok {P : Program} {K : S → Prop} {rest : List AI} {d : Nat} {w : Bool} : ∀ {blk : List AI} {U : List Nat} {s : S}, failB d w U blk = true → s.tmp d = boolV (!w) → (∀ e, isin e U = true → s.tmp e = undefV) →
    (fails blk s).tmp d = boolV (!w) ∧ (awpOps P rest (fails blk s) K → awpOps P (blk ++ rest) s K)
  | [], U, s, _, h2, _ => ⟨h2, id⟩
  | .mk dst g isG op drop :: r, U, s, h1, h2, h3 => by
    simp only [failB] at h1
    cases g with
    | none => cases h1
    | some x =>
      obtain ⟨e, w'⟩ := x
      simp only at h1
      have hc : (bif Nat.beq e d then w == w' else isin e U) = true := by
        cases hc : (bif Nat.beq e d then w == w' else isin e U) with
        | true => rfl
        | false => rw [hc] at h1; cases h1
      rw [hc] at h1
      simp only [cond_true] at h1
      have hdd : isin d drop = false := by
        cases hx : isin d drop with
        | false => rfl
        | true => rw [hx] at h1; cases h1
      rw [hdd] at h1
      simp only [cond_false] at h1
      -- the operation is left out
      have hstep : awpOps P (r ++ rest) ((s.put dst undefV).drop drop) K → awpOps P (.mk dst (some (e, w')) isG op drop :: r ++ rest) s K := by
        intro hk
        show awpOps P (.mk dst (some (e, w')) isG op drop :: (r ++ rest)) s K
        unfold awpOps
        cases hed : Nat.beq e d with
        | true =>
          have hed := Nat.eq_of_beq_eq_true hed
          subst hed
          rw [beq_self, cond_true] at hc
          have hw : w = w' := eq_of_beq hc
          subst hw
          simp only [h2]
          cases w
          · simpa only [boolV, cV, Bool.not_false, cond_true, cond_false, force_eq] using hk
          · simpa only [boolV, cV, Bool.not_true, cond_true, cond_false, force_eq] using hk
        | false =>
          rw [hed] at hc
          simp only [cond_false] at hc
          simp only [h3 e hc, undefV]
          rw [force_eq]
          exact hk
      have hnext : ∀ (U' : List Nat), failB d w U' r = true → (dst ≠ some d) → (∀ k, isin k U' = true → (dst = some k ∨ isin k U = true) ∧ isin k drop = false) →
          (fails r ((s.put dst undefV).drop drop)).tmp d = boolV (!w) ∧ (awpOps P rest (fails r ((s.put dst undefV).drop drop)) K → awpOps P (r ++ rest) ((s.put dst undefV).drop drop) K) := by
        intro U' hU' hdst hUU
        refine fails_ok hU' ?_ ?_
        · rw [← h2]
          refine S.tmp_of ?_
          rw [S.drop_get, if_pos hdd, S.put_get _ _ _ _ hdst]
        · intro k hk
          obtain ⟨h4, h5⟩ := hUU k hk
          by_cases hke : dst = some k
          · subst hke
            unfold S.tmp
            rw [S.drop_get, if_pos h5, S.put_same]
          · rcases h4 with h4 | h4
            · exact absurd h4 hke
            · rw [← h3 k h4]
              refine S.tmp_of ?_
              rw [S.drop_get, if_pos h5, S.put_get _ _ _ _ hke]
      have hfin : ∀ {U' : List Nat}, ∀ k, isin k (U'.filter fun k => !isin k drop) = true → isin k U' = true ∧ isin k drop = false := by
        intro U' k hk
        have := (isin_iff _ _).1 hk
        rw [List.mem_filter] at this
        refine ⟨(isin_iff _ _).2 this.1, ?_⟩
        have := this.2
        cases hx : isin k drop
        · rfl
        · rw [hx] at this; cases this
      cases dst with
      | none =>
        have := hnext _ h1 (by intro h; cases h) (fun k hk => ⟨.inr (hfin k hk).1, (hfin k hk).2⟩)
        exact ⟨this.1, fun hk => hstep (this.2 hk)⟩
      | some x =>
        simp only at h1
        cases hxd : Nat.beq x d with
        | true => rw [hxd] at h1; cases h1
        | false =>
          rw [hxd] at h1
          simp only [cond_false] at h1
          have hne : x ≠ d := fun h => by subst h; rw [beq_self] at hxd; cases hxd
          have := hnext _ h1 (by intro h; cases h; exact hne rfl) (fun k hk => ⟨(by
            have := (isin_iff _ _).1 (hfin k hk).1
            rcases List.mem_cons.1 this with rfl | h
            · exact .inl rfl
            · exact .inr ((isin_iff _ _).2 h)), (hfin k hk).2⟩)
          exact ⟨this.1, fun hk => hstep (this.2 hk)⟩

theorem spanB_app (d : Nat) : ∀ (U : List Nat) (ops : List AI) (a b : List AI), spanB d U ops = (a, b) → ops = a ++ b
  | _, [], a, b, h => by cases h; rfl
  | U, .mk dst g isG op drop :: r, a, b, h => by
    unfold spanB at h
    cases g with
    | none => cases h; rfl
    | some x =>
      obtain ⟨e, w⟩ := x
      simp only at h
      cases hc : (Nat.beq e d || isin e U) <;> rw [hc] at h
      · cases h; rfl
      · simp only [cond_true] at h
        cases dst with
        | none => cases h; simp only [List.cons_append]; rw [← spanB_app d U r _ _ rfl]
        | some x => cases h; simp only [List.cons_append]; rw [← spanB_app d (x :: U) r _ _ rfl]
end Go.AM
