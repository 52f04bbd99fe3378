/- Soundness of the abstract machine, 1: association lists; data stays readable; cells, places and frames under small changes. -/
import Derived.Test.YtbdcgchgpdclaaaAmWp
namespace Go.AM

/-! Association lists. -/
section
variable {α β : Type}
theorem beq_false {m n : Nat} (h : m ≠ n) : Nat.beq m n = false := by
  cases e : Nat.beq m n
  · rfl
  · exact absurd (Nat.eq_of_beq_eq_true e) h
theorem beq_self (n : Nat) : Nat.beq n n = true := Nat.beq_refl n

theorem aget_cons (k : Nat) (v : α) (r : List (Nat × α)) (n : Nat) : aget ((k, v) :: r) n = if k = n then some v else aget r n := by
  by_cases h : k = n
  · subst h; simp [aget]
  · simp [aget, beq_false h, h]

theorem aget_aput (l : List (Nat × α)) (n m : Nat) (v : α) : aget (aput n v l) m = if n = m then some v else aget l m := by
  induction l with
  | nil => simp [aput, aget_cons]
  | cons x r ih =>
    obtain ⟨k, u⟩ := x
    unfold aput
    by_cases h : k = n
    · subst h
      simp only [beq_self, cond_true, aget_cons]
      by_cases h2 : k = m <;> simp [h2]
    · rw [beq_false h]
      cases hb : Nat.blt n k
      · simp only [cond_false, aget_cons, ih]
        by_cases h2 : k = m
        · subst h2; simp [Ne.symm h]
        · simp [h2]
      · simp only [cond_false, cond_true, aget_cons]

theorem aget_map (l : List (Nat × α)) (f : α → β) (m : Nat) : aget (l.map fun x => (x.1, f x.2)) m = (aget l m).map f := by
  induction l with
  | nil => simp [aget]
  | cons x r ih =>
    obtain ⟨k, u⟩ := x
    simp only [List.map_cons, aget_cons, ih]
    by_cases h : k = m <;> simp [h]

theorem aget_afilter_eq (l : List (Nat × α)) (f : Nat → Bool) (m : Nat) : aget (afilter f l) m = if f m = true then aget l m else none := by
  induction l with
  | nil => simp [afilter, aget]
  | cons x r ih =>
    obtain ⟨k, u⟩ := x
    unfold afilter
    cases hf : f k
    · simp only [cond_false, ih, aget_cons]
      by_cases hk : k = m
      · subst hk; simp [hf]
      · simp [hk]
    · simp only [cond_true, aget_cons, ih]
      by_cases hk : k = m
      · subst hk; simp [hf]
      · simp [hk]

theorem aget_afilter (l : List (Nat × α)) (f : Nat → Bool) (m : Nat) (v : α) (h : aget (afilter f l) m = some v) : aget l m = some v ∧ f m = true := by
  rw [aget_afilter_eq] at h
  split at h
  · exact ⟨h, by assumption⟩
  · cases h
end

theorem isin_iff (n : Nat) (l : List Nat) : isin n l = true ↔ n ∈ l := by
  induction l with
  | nil => simp [isin]
  | cons k r ih =>
    unfold isin
    by_cases h : k = n
    · subst h; simp
    · rw [beq_false h]; simp [ih, Ne.symm h]

theorem aget_addPls (new pl : List (Nat × Pl)) (m : Nat) : aget (addPls new pl) m = match aget new m with | some x => some x | none => aget pl m := by
  induction new with
  | nil => rfl
  | cons x r ih =>
    obtain ⟨k, u⟩ := x
    simp only [addPls, aget_aput, ih, aget_cons]
    by_cases h : k = m <;> simp [h]

/-! Data that stays as it is. -/
/-- From (w, ok) to (w', ok'): what was data still is. -/
def Keeps (w w' : World) (ok ok' : Nat → Prop) : Prop := ∀ b, ok b → ok' b ∧ w'.heap[b]? = w.heap[b]?

theorem cell_of_heap {w w' : World} {b : Nat} (h : w'.heap[b]? = w.heap[b]?) (o : Nat) : w'.cell? ⟨b, o, none⟩ = w.cell? ⟨b, o, none⟩ := by
  simp [World.cell?, h]

mutual
theorem RD.keep {w w' : World} {ok ok' : Nat → Prop} (h : Keeps w w' ok ok') : ∀ (d : D) (v : Value), RD w ok d v → RD w' ok' d v
  | .lit x, v, hd => by simp only [RD] at hd ⊢; exact hd
  | .sl l, v, hd => by
    simp only [RD] at hd ⊢
    obtain ⟨a, n, c, h1, h2, h3, h4, h5⟩ := hd
    refine ⟨a, n, c, h1, h2, h3, h4, ?_⟩
    rcases h5 with h5 | ⟨b, o, sz, e1, e2, e3⟩
    · exact .inl h5
    · exact .inr ⟨b, o, sz, e1, (h b e2).1, RDs.keep h b e2 sz l o e3⟩
  | .fn f caps, v, hd => by
    simp only [RD] at hd ⊢
    obtain ⟨bs, h1, h2⟩ := hd
    exact ⟨bs, h1, RDf.keep h caps bs h2⟩
theorem RDs.keep {w w' : World} {ok ok' : Nat → Prop} (h : Keeps w w' ok ok') (b : Nat) (hb : ok b) (sz : Nat) : ∀ (l : List (List D)) (o : Nat), RDs w ok b sz o l → RDs w' ok' b sz o l
  | [], o, _ => by simp only [RDs]
  | e :: r, o, hd => by
    simp only [RDs] at hd ⊢
    exact ⟨hd.1, RDc.keep h b hb e o hd.2.1, RDs.keep h b hb sz r (o + sz) hd.2.2⟩
theorem RDc.keep {w w' : World} {ok ok' : Nat → Prop} (h : Keeps w w' ok ok') (b : Nat) (hb : ok b) : ∀ (l : List D) (o : Nat), RDc w ok b o l → RDc w' ok' b o l
  | [], o, _ => by simp only [RDc]
  | d :: r, o, hd => by
    simp only [RDc] at hd ⊢
    obtain ⟨⟨v, h1, h2⟩, h3⟩ := hd
    exact ⟨⟨v, by rw [cell_of_heap (h b hb).2]; exact h1, RD.keep h d v h2⟩, RDc.keep h b hb r (o + 1) h3⟩
theorem RDf.keep {w w' : World} {ok ok' : Nat → Prop} (h : Keeps w w' ok ok') : ∀ (l : List (List D)) (bs : List Value), RDf w ok bs l → RDf w' ok' bs l
  | [], bs, hd => by simp only [RDf] at hd ⊢; exact hd
  | c :: r, bs, hd => by
    simp only [RDf] at hd ⊢
    obtain ⟨b, o, bs', h1, h2, h3, h4⟩ := hd
    exact ⟨b, o, bs', h1, (h b h2).1, RDc.keep h b h2 c o h3, RDf.keep h r bs' h4⟩
end

/-- In a block whose cells are still there, though the block may be written elsewhere: RDs over cells that read as they did. -/
theorem RDc.keep' {w w' : World} {ok ok' : Nat → Prop} (h : Keeps w w' ok ok') (b : Nat) : ∀ (l : List D) (o : Nat), (∀ j, o ≤ j → j < o + l.length → w'.cell? ⟨b, j, none⟩ = w.cell? ⟨b, j, none⟩) → RDc w ok b o l → RDc w' ok' b o l
  | [], o, _, _ => by simp only [RDc]
  | d :: r, o, hc, hd => by
    simp only [RDc] at hd ⊢
    obtain ⟨⟨v, h1, h2⟩, h3⟩ := hd
    refine ⟨⟨v, by rw [hc o (Nat.le_refl _) (by simp)]; exact h1, RD.keep h d v h2⟩, RDc.keep' h b r (o + 1) (fun j h1 h2 => hc j (by omega) (by simp at h2 ⊢; omega)) h3⟩

theorem RDs.keep' {w w' : World} {ok ok' : Nat → Prop} (h : Keeps w w' ok ok') (b sz : Nat) : ∀ (l : List (List D)) (o : Nat), (∀ j, o ≤ j → j < o + l.length * sz → w'.cell? ⟨b, j, none⟩ = w.cell? ⟨b, j, none⟩) → RDs w ok b sz o l → RDs w' ok' b sz o l
  | [], o, _, _ => by simp only [RDs]
  | e :: r, o, hc, hd => by
    simp only [RDs] at hd ⊢
    refine ⟨hd.1, RDc.keep' h b e o (fun j h1 h2 => hc j h1 ?_) hd.2.1, RDs.keep' h b sz r (o + sz) (fun j h1 h2 => hc j (by omega) ?_) hd.2.2⟩
    · rw [hd.1] at h2; simp only [List.length_cons, Nat.add_mul, Nat.one_mul]; omega
    · simp only [List.length_cons, Nat.add_mul, Nat.one_mul]; omega

/-! Elements of a row. -/
theorem RDs.len {w : World} {ok : Nat → Prop} {b sz : Nat} : ∀ {l : List (List D)} {o : Nat}, RDs w ok b sz o l → ∀ e ∈ l, e.length = sz
  | [], _, _, e, he => by cases he
  | x :: r, o, hd, e, he => by
    simp only [RDs] at hd
    rcases List.mem_cons.1 he with rfl | he
    · exact hd.1
    · exact RDs.len hd.2.2 e he

theorem RDs.get {w : World} {ok : Nat → Prop} {b sz : Nat} : ∀ {l : List (List D)} {o i : Nat} {e : List D}, RDs w ok b sz o l → l[i]? = some e → RDc w ok b (o + i * sz) e
  | [], _, i, e, _, he => by simp at he
  | x :: r, o, 0, e, hd, he => by
    simp only [RDs] at hd; simp at he; subst he; simpa using hd.2.1
  | x :: r, o, i + 1, e, hd, he => by
    simp only [RDs] at hd; simp at he
    have := RDs.get hd.2.2 he
    rwa [show o + (i + 1) * sz = o + sz + i * sz by rw [Nat.add_mul]; omega]

theorem RDs.take {w : World} {ok : Nat → Prop} {b sz : Nat} : ∀ {l : List (List D)} {o : Nat} (n : Nat), RDs w ok b sz o l → RDs w ok b sz o (l.take n)
  | [], _, n, _ => by simp [RDs]
  | x :: r, o, 0, hd => by simp [RDs]
  | x :: r, o, n + 1, hd => by
    simp only [RDs, List.take_succ_cons] at hd ⊢
    exact ⟨hd.1, hd.2.1, RDs.take n hd.2.2⟩

theorem RDs.drop {w : World} {ok : Nat → Prop} {b sz : Nat} : ∀ {l : List (List D)} {o : Nat} (n : Nat), RDs w ok b sz o l → RDs w ok b sz (o + n * sz) (l.drop n)
  | [], _, n, _ => by simp [RDs]
  | x :: r, o, 0, hd => by simpa using hd
  | x :: r, o, n + 1, hd => by
    simp only [List.drop_succ_cons]
    simp only [RDs] at hd
    have := RDs.drop n hd.2.2
    rwa [show o + (n + 1) * sz = o + sz + n * sz by rw [Nat.add_mul]; omega]

theorem RDs.append {w : World} {ok : Nat → Prop} {b sz : Nat} : ∀ {l l2 : List (List D)} {o : Nat}, RDs w ok b sz o l → RDs w ok b sz (o + l.length * sz) l2 → RDs w ok b sz o (l ++ l2)
  | [], l2, o, _, h2 => by simpa using h2
  | x :: r, l2, o, hd, h2 => by
    simp only [RDs, List.cons_append] at hd ⊢
    refine ⟨hd.1, hd.2.1, RDs.append hd.2.2 ?_⟩
    rwa [show o + sz + r.length * sz = o + (x :: r).length * sz by simp only [List.length_cons, Nat.add_mul]; omega]

theorem RDc.drop {w : World} {ok : Nat → Prop} {b : Nat} : ∀ {l : List D} {o : Nat} (n : Nat), RDc w ok b o l → RDc w ok b (o + n) (l.drop n)
  | [], _, n, _ => by simp [RDc]
  | x :: r, o, 0, hd => by simpa using hd
  | x :: r, o, n + 1, hd => by
    simp only [List.drop_succ_cons]
    simp only [RDc] at hd
    have := RDc.drop n hd.2
    rwa [show o + (n + 1) = o + 1 + n by omega]

theorem RDc.get {w : World} {ok : Nat → Prop} {b : Nat} : ∀ {l : List D} {o i : Nat} {d : D}, RDc w ok b o l → l[i]? = some d → ∃ v, w.cell? ⟨b, o + i, none⟩ = some v ∧ RD w ok d v
  | [], _, i, e, _, he => by simp at he
  | x :: r, o, 0, e, hd, he => by
    simp only [RDc] at hd; simp at he; subst he; simpa using hd.1
  | x :: r, o, i + 1, e, hd, he => by
    simp only [RDc] at hd; simp at he
    have := RDc.get hd.2 he
    rwa [show o + (i + 1) = o + 1 + i by omega]

end Go.AM
