/- Soundness of the abstract machine, 2: values and frames under small changes. -/
import Derived.Test.YtbdcgchgpdclaaaAmS1
namespace Go.AM

/-- Rows keep their size. -/
def Shapes (w w' : World) : Prop := ∀ b t m, w.shape? b = some (t, m) → w'.shape? b = some (t, m)

theorem Shapes.refl (w : World) : Shapes w w := fun _ _ _ h => h

section
variable {ι ι' : Nat → Gh} {w w' : World} {ok ok' : Nat → Prop} {l : List Nat}

theorem CR.kill (hk : Keeps w w' ok ok') (hs : Shapes w w') (hι : ∀ p, isin p l = false → ι' p = ι p) (c : C) (v : Value) (h : CR ι w ok c v) : CR ι' w' ok' (c.kill l) v := by
  cases c with
  | dead => trivial
  | d x => exact RD.keep hk x v h
  | nil => exact h
  | ptr p o =>
    simp only [C.kill]
    cases hp : isin p l
    · obtain ⟨b, h1, h2⟩ := h; exact ⟨b, by rw [hι p hp]; exact h1, h2⟩
    · trivial
  | eptr p z i k =>
    simp only [C.kill]
    cases hp : isin p l
    · obtain ⟨b, h1, h2⟩ := h; exact ⟨b, by rw [hι p hp]; exact h1, h2⟩
    · trivial
  | own p z n =>
    simp only [C.kill]
    cases hp : isin p l
    · rcases h with ⟨h1, h2, h3⟩ | ⟨b, cap, t, h1, h2, h3, h4, h5, h6⟩
      · exact .inl ⟨by rw [hι p hp]; exact h1, h2, h3⟩
      · exact .inr ⟨b, cap, t, by rw [hι p hp]; exact h1, by rw [hι p hp]; exact h2, h3, h4, h5, hs _ _ _ h6⟩
    · trivial
  | fp cells =>
    obtain ⟨b, o, h1, h2, h3⟩ := h
    exact ⟨b, o, h1, (hk b h2).1, RDc.keep hk b h2 _ _ h3⟩
  | clo f caps =>
    simp only [C.kill]
    cases hp : caps.any (fun q => isin q l)
    · obtain ⟨bs, h1, h2⟩ := h
      refine ⟨bs, ?_, h2⟩
      rw [← h1]
      apply List.map_congr_left
      intro q hq
      apply congrArg Gh.b
      apply hι
      have := List.any_eq_false.1 hp q hq
      simpa using this
    · trivial

theorem CR.keep (hk : Keeps w w' ok ok') (hs : Shapes w w') (c : C) (v : Value) (h : CR ι w ok c v) : CR ι w' ok' c v := by
  cases c with
  | dead => trivial
  | d x => exact RD.keep hk x v h
  | nil => exact h
  | ptr p o => exact h
  | eptr p z i k => exact h
  | own p z n =>
    rcases h with h | ⟨b, cap, t, h1, h2, h3, h4, h5, h6⟩
    · exact .inl h
    · exact .inr ⟨b, cap, t, h1, h2, h3, h4, h5, hs _ _ _ h6⟩
  | fp cells =>
    obtain ⟨b, o, h1, h2, h3⟩ := h
    exact ⟨b, o, h1, (hk b h2).1, RDc.keep hk b h2 _ _ h3⟩
  | clo f caps => exact h

theorem CRs.kill (hk : Keeps w w' ok ok') (hs : Shapes w w') (hι : ∀ p, isin p l = false → ι' p = ι p) : ∀ (cs : List C) (vs : List Value), CRs ι w ok cs vs → CRs ι' w' ok' (cs.map (C.kill l)) vs
  | [], [], _ => trivial
  | [], _ :: _, h => h
  | _ :: _, [], h => h
  | c :: cs, v :: vs, h => ⟨CR.kill hk hs hι c v h.1, CRs.kill hk hs hι cs vs h.2⟩

theorem CRs.keep (hk : Keeps w w' ok ok') (hs : Shapes w w') : ∀ (cs : List C) (vs : List Value), CRs ι w ok cs vs → CRs ι w' ok' cs vs
  | [], [], _ => trivial
  | [], _ :: _, h => h
  | _ :: _, [], h => h
  | c :: cs, v :: vs, h => ⟨CR.keep hk hs c v h.1, CRs.keep hk hs cs vs h.2⟩

theorem WR.kill (hk : Keeps w w' ok ok') (hs : Shapes w w') (hι : ∀ p, isin p l = false → ι' p = ι p) (x : W) (v : Value) (h : WR ι w ok x v) : WR ι' w' ok' (x.kill l) v := by
  cases x with
  | c x => exact CR.kill hk hs hι x v h
  | agg cs => obtain ⟨vs, h1, h2⟩ := h; exact ⟨vs, h1, CRs.kill hk hs hι cs vs h2⟩

theorem WR.keep (hk : Keeps w w' ok ok') (hs : Shapes w w') (x : W) (v : Value) (h : WR ι w ok x v) : WR ι w' ok' x v := by
  cases x with
  | c x => exact CR.keep hk hs x v h
  | agg cs => obtain ⟨vs, h1, h2⟩ := h; exact ⟨vs, h1, CRs.keep hk hs cs vs h2⟩

theorem WRs.kill (hk : Keeps w w' ok ok') (hs : Shapes w w') (hι : ∀ p, isin p l = false → ι' p = ι p) : ∀ (cs : List W) (vs : List Value), WRs ι w ok cs vs → WRs ι' w' ok' (cs.map (W.kill l)) vs
  | [], [], _ => trivial
  | [], _ :: _, h => h
  | _ :: _, [], h => h
  | c :: cs, v :: vs, h => ⟨WR.kill hk hs hι c v h.1, WRs.kill hk hs hι cs vs h.2⟩

theorem WRs.keep (hk : Keeps w w' ok ok') (hs : Shapes w w') : ∀ (cs : List W) (vs : List Value), WRs ι w ok cs vs → WRs ι w' ok' cs vs
  | [], [], _ => trivial
  | [], _ :: _, h => h
  | _ :: _, [], h => h
  | c :: cs, v :: vs, h => ⟨WR.keep hk hs c v h.1, WRs.keep hk hs cs vs h.2⟩

theorem VR.kill (hk : Keeps w w' ok ok') (hs : Shapes w w') (hι : ∀ p, isin p l = false → ι' p = ι p) (x : V) (v : Value) (h : VR ι w ok x v) : VR ι' w' ok' (x.kill l) v := by
  cases x with
  | w x => exact WR.kill hk hs hι x v h
  | tup cs => obtain ⟨vs, h1, h2⟩ := h; exact ⟨vs, h1, WRs.kill hk hs hι cs vs h2⟩

theorem VR.keep (hk : Keeps w w' ok ok') (hs : Shapes w w') (x : V) (v : Value) (h : VR ι w ok x v) : VR ι w' ok' x v := by
  cases x with
  | w x => exact WR.keep hk hs x v h
  | tup cs => obtain ⟨vs, h1, h2⟩ := h; exact ⟨vs, h1, WRs.keep hk hs cs vs h2⟩
end

theorem CRs.length {ι : Nat → Gh} {w : World} {ok : Nat → Prop} : ∀ {cs : List C} {vs : List Value}, CRs ι w ok cs vs → cs.length = vs.length
  | [], [], _ => rfl
  | [], _ :: _, h => h.elim
  | _ :: _, [], h => h.elim
  | _ :: _, _ :: _, h => by simp [CRs.length h.2]

theorem CRs.get {ι : Nat → Gh} {w : World} {ok : Nat → Prop} : ∀ {cs : List C} {vs : List Value} {i : Nat} {c : C}, CRs ι w ok cs vs → cs[i]? = some c → ∃ v, vs[i]? = some v ∧ CR ι w ok c v
  | [], _, _, _, _, he => by simp at he
  | _ :: _, [], _, _, h, _ => h.elim
  | c :: cs, v :: vs, 0, _, h, he => by simp at he; subst he; exact ⟨v, rfl, h.1⟩
  | c :: cs, v :: vs, i + 1, _, h, he => by simp at he; simpa using CRs.get h.2 he

theorem CRs.take {ι : Nat → Gh} {w : World} {ok : Nat → Prop} : ∀ {cs : List C} {vs : List Value} (n : Nat), CRs ι w ok cs vs → CRs ι w ok (cs.take n) (vs.take n)
  | [], [], n, _ => by simp [CRs]
  | [], _ :: _, _, h => h.elim
  | _ :: _, [], _, h => h.elim
  | _ :: _, _ :: _, 0, _ => by simp [CRs]
  | _ :: _, _ :: _, n + 1, h => ⟨h.1, CRs.take n h.2⟩

theorem CRs.drop {ι : Nat → Gh} {w : World} {ok : Nat → Prop} : ∀ {cs : List C} {vs : List Value} (n : Nat), CRs ι w ok cs vs → CRs ι w ok (cs.drop n) (vs.drop n)
  | [], [], n, _ => by simp [CRs]
  | [], _ :: _, _, h => h.elim
  | _ :: _, [], _, h => h.elim
  | _ :: _, _ :: _, 0, h => h
  | _ :: _, _ :: _, n + 1, h => CRs.drop n h.2

theorem CRs.append {ι : Nat → Gh} {w : World} {ok : Nat → Prop} : ∀ {cs ds : List C} {vs us : List Value}, CRs ι w ok cs vs → CRs ι w ok ds us → CRs ι w ok (cs ++ ds) (vs ++ us)
  | [], _, [], _, _, h2 => h2
  | [], _, _ :: _, _, h, _ => h.elim
  | _ :: _, _, [], _, h, _ => h.elim
  | _ :: _, _, _ :: _, _, h, h2 => ⟨h.1, CRs.append h.2 h2⟩

theorem CR.one {ι : Nat → Gh} {w : World} {ok : Nat → Prop} {c : C} {v : Value} (h : CR ι w ok c v) (hd : c.isDead = false) : v.oneCell' = true := by
  cases c with
  | dead => cases hd
  | d x => cases x with
    | lit u => simp only [CR, RD] at h; obtain ⟨rfl, h⟩ := h; exact h
    | sl l => simp only [CR, RD] at h; obtain ⟨_, _, _, rfl, _⟩ := h; rfl
    | fn f l => simp only [CR, RD] at h; obtain ⟨_, rfl, _⟩ := h; rfl
  | nil => simp only [CR] at h; subst h; rfl
  | ptr p o => obtain ⟨_, _, rfl⟩ := h; rfl
  | eptr p z i k => obtain ⟨_, _, rfl⟩ := h; rfl
  | own p z n => rcases h with ⟨_, _, rfl⟩ | ⟨_, _, _, _, _, rfl, _⟩ <;> rfl
  | fp cells => obtain ⟨_, _, rfl, _⟩ := h; rfl
  | clo f caps => obtain ⟨_, _, rfl⟩ := h; rfl

theorem CRs.ones {ι : Nat → Gh} {w : World} {ok : Nat → Prop} : ∀ {cs : List C} {vs : List Value}, CRs ι w ok cs vs → solid cs = true → ∀ v ∈ vs, v.oneCell' = true
  | [], [], _, _, _, hv => by cases hv
  | [], _ :: _, h, _, _, _ => h.elim
  | _ :: _, [], h, _, _, _ => h.elim
  | c :: cs, v :: vs, h, hs, u, hu => by
    unfold solid at hs
    cases hd : c.isDead
    · rw [hd] at hs
      rcases List.mem_cons.1 hu with rfl | hu
      · exact CR.one h.1 hd
      · exact CRs.ones h.2 hs u hu
    · rw [hd] at hs; cases hs

/-! Places. -/
theorem Pl.live_kill (x : Pl) (l : List Nat) : (x.kill l).live = x.live := by cases x <;> rfl

theorem RowAt.cell {w : World} {b : Nat} {cur : Array Value} (h : RowAt w b cur) (j : Nat) : w.cell? ⟨b, j, none⟩ = cur[j]? := by
  obtain ⟨t, h⟩ := h; exact cell_of_row w b j cur t (0, 0) h

theorem RowAt.shape {w : World} {b : Nat} {cur : Array Value} (h : RowAt w b cur) : ∃ t, w.shape? b = some (t, cur.size) := by
  obtain ⟨t, h⟩ := h; exact ⟨t, by simp [World.shape?, h]⟩

theorem RowAt.lt {w : World} {b : Nat} {cur : Array Value} (h : RowAt w b cur) : b < w.heap.size := by
  obtain ⟨t, h⟩ := h; exact (Array.getElem?_eq_some_iff.1 h).1

theorem PR.kill {ι ι' : Nat → Gh} {w w' : World} {ok ok' : Nat → Prop} {l : List Nat} (hk : Keeps w w' ok ok') (hs : Shapes w w') (hι : ∀ p, isin p l = false → ι' p = ι p) (p : Nat) (hp : isin p l = false) (x : Pl)
    (hb : x.live = true → ∀ b, (ι p).b = some b → w'.heap[b]? = w.heap[b]?) (h : PR ι w ok p x) : PR ι' w' ok' p (x.kill l) := by
  cases x with
  | box cs =>
    obtain ⟨b, cur, h1, ⟨t, h2⟩, h3⟩ := h
    exact ⟨b, cur, by rw [hι p hp]; exact h1, ⟨t, by rw [hb rfl b h1]; exact h2⟩, CRs.kill hk hs hι cs _ h3⟩
  | arr sz els fz =>
    obtain ⟨h0, hn, h⟩ := h
    refine ⟨h0, by rw [hι p hp]; exact hn, ?_⟩
    rcases h with ⟨h1, h2⟩ | ⟨b, h1, h2, h3, h4⟩
    · exact .inl ⟨by rw [hι p hp]; exact h1, h2⟩
    · refine .inr ⟨b, by rw [hι p hp]; exact h1, ?_, fun hf => (hk b (h3 hf)).1, fun hf => ?_⟩
      · have hsame : w'.heap[b]? = w.heap[b]? := by
          cases fz
          · exact hb rfl b h1
          · exact (hk b (h3 rfl)).2
        exact RDs.keep' hk b sz els 0 (fun j _ _ => cell_of_heap hsame j) h2
      · obtain ⟨cur, ⟨t, h5⟩, h6⟩ := h4 hf
        subst hf
        exact ⟨cur, ⟨t, by rw [hb rfl b h1]; exact h5⟩, h6⟩
  | fbox ds =>
    obtain ⟨b, h1, h2, h3⟩ := h
    exact ⟨b, by rw [hι p hp]; exact h1, (hk b h2).1, RDc.keep hk b h2 _ _ h3⟩
  | gone => exact h.elim

/-! Frames. -/
theorem Grows.refl (M : Nat → Prop) (w : World) : Grows M w w := ⟨rfl, rfl, rfl, Nat.le_refl _, fun _ _ _ => rfl, fun _ _ _ h => h⟩
theorem Grows.trans {M : Nat → Prop} {a b c : World} (h : Grows M a b) (k : Grows M b c) : Grows M a c :=
  ⟨k.os.trans h.os, k.tape.trans h.tape, k.output.trans h.output, Nat.le_trans h.size k.size, fun i hi hm => (k.block i (Nat.lt_of_lt_of_le hi h.size) hm).trans (h.block i hi hm), fun b t m hb => k.shapes b t m (h.shapes b t m hb)⟩

section
variable {F : Fr} {N : Nat} {ι : Nat → Gh} {s : S} {a : Act} {w : World}

theorem S.redo_sl (s : S) (kills : List Nat) (new : List (Nat × Pl)) (k : Nat) : aget (s.redo kills new).sl k = (aget s.sl k).map (V.kill kills) := by
  simp only [S.redo]; exact aget_map s.sl (V.kill kills) k

theorem S.redo_pl (s : S) (kills : List Nat) (new : List (Nat × Pl)) (p : Nat) :
    aget (s.redo kills new).pl p = match aget new p with | some x => some x | none => if isin p kills = false then (aget s.pl p).map (Pl.kill kills) else none := by
  simp only [S.redo, aget_addPls]
  cases aget new p with
  | some x => rfl
  | none =>
    simp only []
    rw [aget_map (afilter (fun k => !isin k kills) s.pl) (Pl.kill kills) p, aget_afilter_eq]
    cases isin p kills <;> simp

/-- The general step: some places are forgotten, new ones lie in new blocks or in blocks of the forgotten; all other blocks are as they were. -/
theorem Rel.redoG (hr : Rel F N ι s a w) (kills : List Nat) (new : List (Nat × Pl)) (ι' : Nat → Gh) (w' : World)
    (hι : ∀ p, isin p kills = false → ι' p = ι p)
    (hsame : ∀ b, b < w.heap.size → (∀ q y, (isin q kills = true ∨ aget new q ≠ none) → aget s.pl q = some y → y.live = true → (ι q).b ≠ some b) → w'.heap[b]? = w.heap[b]?)
    (hs : Shapes w w') (hos : w'.os = w.os) (htape : w'.tape = w.tape) (hout : w'.output = w.output) (hsize : w.heap.size ≤ w'.heap.size)
    (hpl : ∀ p x, aget new p = some x → PR ι' w' (F.ok ι' (s.redo kills new).pl w') p x)
    (hfresh : ∀ p x b, aget new p = some x → (ι' p).b = some b → b < w'.heap.size ∧ (w.heap.size ≤ b ∨ ∃ q y, (isin q kills = true ∨ aget new q ≠ none) ∧ aget s.pl q = some y ∧ y.live = true ∧ (ι q).b = some b))
    (hinj : ∀ p q x y b, aget new p = some x → aget new q = some y → p ≠ q → (ι' p).b = some b → (ι' q).b ≠ some b)
    (hh : ∀ p x g, aget new p = some x → F.h p = some g → ι' p = g) :
    Rel F N ι' (s.redo kills new) a w' := by
  have hownOld : ∀ b, Owns ι' (s.redo kills new).pl b → (w.heap.size ≤ b ∨ Owns ι s.pl b) ∧ b < w'.heap.size := by
    rintro b ⟨p, x, hx, hl, hb⟩
    rw [S.redo_pl] at hx
    cases hn : aget new p with
    | some y =>
      simp only [hn] at hx
      obtain ⟨h1, h2⟩ := hfresh p y b hn hb
      refine ⟨?_, h1⟩
      rcases h2 with h2 | ⟨q, z, _, h4, h5, h6⟩
      · exact .inl h2
      · exact .inr ⟨q, z, h4, h5, h6⟩
    | none =>
      simp only [hn] at hx
      split at hx
      · rename_i hk
        cases hp : aget s.pl p with
        | none => rw [hp] at hx; cases hx
        | some y =>
          rw [hp] at hx; simp at hx; subst hx
          have ho : Owns ι s.pl b := ⟨p, y, hp, by rw [← Pl.live_kill y kills]; exact hl, by rw [← hι p hk]; exact hb⟩
          exact ⟨.inr ho, Nat.lt_of_lt_of_le (hr.mine b ho).2 hsize⟩
      · cases hx
  have hkeep : Keeps w w' (F.ok ι s.pl w) (F.ok ι' (s.redo kills new).pl w') := by
    intro b hb
    obtain ⟨h1, h2, h3⟩ := hb
    refine ⟨⟨h1, Nat.lt_of_lt_of_le h2 hsize, fun ho => ?_⟩, hsame b h2 (fun q y _ hy hl hq => h3 ⟨q, y, hy, hl, hq⟩)⟩
    rcases (hownOld b ho).1 with h | h
    · omega
    · exact h3 h
  refine ⟨hr.room, ?_, ?_, ?_, ?_, hr.defers, ?_, hr.foreign, hr.handed, hr.few, hr.hdom, ?_⟩
  rotate_left 5
  · intro p x g hx hg
    rw [S.redo_pl] at hx
    cases hn : aget new p with
    | some y => exact hh p y g hn hg
    | none =>
      simp only [hn] at hx
      split at hx
      · rename_i hk
        cases hp : aget s.pl p with
        | none => rw [hp] at hx; cases hx
        | some y => rw [hι p hk]; exact hr.hkeep p y g hp hg
      · cases hx
  · intro k v hv
    rw [S.redo_sl] at hv
    cases hk : aget s.sl k with
    | none => rw [hk] at hv; cases hv
    | some u =>
      rw [hk] at hv; simp at hv; subst hv
      obtain ⟨x, h1, h2⟩ := hr.slots k u hk
      exact ⟨x, h1, VR.kill hkeep hs hι u x h2⟩
  · intro p x hx
    rw [S.redo_pl] at hx
    cases hn : aget new p with
    | some y => simp only [hn] at hx; cases hx; exact hpl p _ hn
    | none =>
      simp only [hn] at hx
      split at hx
      · rename_i hk
        cases hp : aget s.pl p with
        | none => rw [hp] at hx; cases hx
        | some y =>
          rw [hp] at hx; simp at hx; subst hx
          refine PR.kill hkeep hs hι p hk y (fun hl b hb => ?_) (hr.places p y hp)
          refine hsame b (hr.mine b ⟨p, y, hp, hl, hb⟩).2 (fun q z hq hz hlz hqb => ?_)
          have hpq : p ≠ q := fun e => by subst e; rcases hq with hq | hq; · rw [hk] at hq; cases hq
                                          · exact hq hn
          exact hr.inj p q y z b hp hz hpq hl hb hqb
      · cases hx
  · intro p q x y b hx hy hpq hl hb hq
    rw [S.redo_pl] at hx hy
    cases hn : aget new p with
    | some x' =>
      simp only [hn] at hx; cases hx
      cases hm : aget new q with
      | some y' => exact hinj p q _ _ b hn hm hpq hb hq
      | none =>
        simp only [hm] at hy
        split at hy
        · rename_i hk
          cases hq' : aget s.pl q with
          | none => rw [hq'] at hy; cases hy
          | some z =>
            rw [hq'] at hy; simp at hy
            rw [hι q hk] at hq
            obtain ⟨_, h2⟩ := hfresh p _ b hn hb
            have hlt : b < w.heap.size := by
              have hz := hr.places q z hq'
              cases z with
              | box cs => obtain ⟨b', cur, e1, e2, _⟩ := hz; rw [hq] at e1; cases e1; exact e2.lt
              | arr sz els fz =>
                obtain ⟨_, _, hz | ⟨b', e1, e2, e3, e4⟩⟩ := hz
                · rw [hq] at hz; cases hz.1
                · rw [hq] at e1; cases e1
                  cases fz
                  · obtain ⟨cur, e5, _⟩ := e4 rfl; exact e5.lt
                  · exact (e3 rfl).2.1
              | fbox ds => obtain ⟨b', e1, e2, _⟩ := hz; rw [hq] at e1; cases e1; exact e2.2.1
              | gone => exact hz.elim
            rcases h2 with h2 | ⟨r, u, h3, h4, h5, h6⟩
            · omega
            · have hrq : r ≠ q := fun e => by subst e; rcases h3 with h3 | h3; · rw [hk] at h3; cases h3
                                              · exact h3 hm
              exact hr.inj r q u z b h4 hq' hrq h5 h6 hq
        · cases hy
    | none =>
      simp only [hn] at hx
      split at hx
      · rename_i hk
        cases hp : aget s.pl p with
        | none => rw [hp] at hx; cases hx
        | some x' =>
          rw [hp] at hx; simp at hx; subst hx
          rw [Pl.live_kill] at hl
          rw [hι p hk] at hb
          cases hm : aget new q with
          | some y' =>
            obtain ⟨_, h2⟩ := hfresh q y' b hm hq
            rcases h2 with h2 | ⟨r, u, h3, h4, h5, h6⟩
            · have := (hr.mine b ⟨p, x', hp, hl, hb⟩).2; omega
            · have hpr : p ≠ r := fun e => by subst e; rcases h3 with h3 | h3; · rw [hk] at h3; cases h3
                                              · exact h3 hn
              exact hr.inj p r x' u b hp h4 hpr hl hb h6
          | none =>
            simp only [hm] at hy
            split at hy
            · rename_i hk2
              cases hq' : aget s.pl q with
              | none => rw [hq'] at hy; cases hy
              | some z =>
                rw [hι q hk2] at hq
                exact hr.inj p q x' z b hp hq' hpq hl hb hq
            · cases hy
      · cases hx
  · intro b hb
    obtain ⟨h1, h2⟩ := hownOld b hb
    refine ⟨?_, h2⟩
    rcases h1 with h1 | h1
    · exact .inr (Nat.le_trans hr.grows.size h1)
    · exact (hr.mine b h1).1
  · refine ⟨hos.trans hr.grows.os, htape.trans hr.grows.tape, hout.trans hr.grows.output, Nat.le_trans hr.grows.size hsize, fun b hb hm => ?_, fun b t m h => hs b t m (hr.grows.shapes b t m h)⟩
    rw [hsame b (Nat.lt_of_lt_of_le hb hr.grows.size) ?_]
    · exact hr.grows.block b hb hm
    · intro q y _ hy hl hq
      rcases (hr.mine b ⟨q, y, hy, hl, hq⟩).1 with h | h
      · exact hm h
      · omega

theorem Rel.redo (hr : Rel F N ι s a w) (kills : List Nat) (new : List (Nat × Pl)) (ι' : Nat → Gh) (w' : World)
    (hι : ∀ p, isin p kills = false → ι' p = ι p)
    (hsame : ∀ b, b < w.heap.size → (∀ q y, isin q kills = true → aget s.pl q = some y → y.live = true → (ι q).b ≠ some b) → w'.heap[b]? = w.heap[b]?)
    (hs : Shapes w w') (hos : w'.os = w.os) (htape : w'.tape = w.tape) (hout : w'.output = w.output) (hsize : w.heap.size ≤ w'.heap.size)
    (hpl : ∀ p x, aget new p = some x → PR ι' w' (F.ok ι' (s.redo kills new).pl w') p x)
    (hfresh : ∀ p x b, aget new p = some x → (ι' p).b = some b → b < w'.heap.size ∧ (w.heap.size ≤ b ∨ ∃ q y, isin q kills = true ∧ aget s.pl q = some y ∧ y.live = true ∧ (ι q).b = some b))
    (hinj : ∀ p q x y b, aget new p = some x → aget new q = some y → p ≠ q → (ι' p).b = some b → (ι' q).b ≠ some b)
    (hh : ∀ p x, aget new p = some x → F.h p = none) :
    Rel F N ι' (s.redo kills new) a w' :=
  hr.redoG kills new ι' w' hι (fun b hb h => hsame b hb fun q y hq => h q y (.inl hq)) hs hos htape hout hsize hpl
    (fun p x b hx hb => ⟨(hfresh p x b hx hb).1, (hfresh p x b hx hb).2.imp id fun ⟨q, y, h, r⟩ => ⟨q, y, .inl h, r⟩⟩) hinj (fun p x g hx hg => by rw [hh p x hx] at hg; cases hg)

/-- A slot's number, and what is made of it, is no name of what was handed over. -/
theorem Rel.h_slot (hr : Rel F N ι s a w) {d : Nat} (hd : d < N) : F.h d = none := by
  cases h : F.h d with
  | none => rfl
  | some g => have := hr.hdom d g h; have := hr.few; omega
theorem Rel.h_big (hr : Rel F N ι s a w) {i : Nat} (hi : 600000 ≤ i) : F.h i = none := by
  cases h : F.h i with
  | none => rfl
  | some g => have := hr.hdom i g h; omega
theorem PR.keep {ι : Nat → Gh} {w : World} {ok ok' : Nat → Prop} (hk : Keeps w w ok ok') {p : Nat} {x : Pl} (h : PR ι w ok p x) : PR ι w ok' p x := by
  cases x with
  | box cs => obtain ⟨b, cur, e1, e2, e3⟩ := h; exact ⟨b, cur, e1, e2, CRs.keep hk (Shapes.refl w) _ _ e3⟩
  | arr sz els fz =>
    obtain ⟨h0, hn, h | ⟨b, e1, e2, e3, e4⟩⟩ := h
    · exact ⟨h0, hn, .inl h⟩
    · exact ⟨h0, hn, .inr ⟨b, e1, RDs.keep' hk b sz els 0 (fun _ _ _ => rfl) e2, fun hf => (hk b (e3 hf)).1, e4⟩⟩
  | fbox ds => obtain ⟨b, e1, e2, e3⟩ := h; exact ⟨b, e1, (hk b e2).1, RDc.keep hk b e2 _ _ e3⟩
  | gone => exact h.elim

/-- Knowing less. -/
theorem Rel.sub (hr : Rel F N ι s a w) (t : S) (h1 : ∀ k v, aget t.sl k = some v → aget s.sl k = some v) (h2 : ∀ p x, aget t.pl p = some x → aget s.pl p = some x) : Rel F N ι t a w := by
  have hown : ∀ b, Owns ι t.pl b → Owns ι s.pl b := fun b ⟨p, x, e1, e2, e3⟩ => ⟨p, x, h2 p x e1, e2, e3⟩
  have hkeep : Keeps w w (F.ok ι s.pl w) (F.ok ι t.pl w) := fun b hb => ⟨⟨hb.1, hb.2.1, fun h => hb.2.2 (hown b h)⟩, rfl⟩
  refine ⟨hr.room, fun k v hv => ?_, fun p x hx => ?_, fun p q x y b hx hy => hr.inj p q x y b (h2 p x hx) (h2 q y hy), fun b hb => hr.mine b (hown b hb), hr.defers, hr.grows, hr.foreign, hr.handed, hr.few, hr.hdom, fun p x g hx hg => hr.hkeep p x g (h2 p x hx) hg⟩
  · obtain ⟨x, e1, e2⟩ := hr.slots k v (h1 k v hv)
    exact ⟨x, e1, VR.keep hkeep (Shapes.refl w) v x e2⟩
  · have h := hr.places p x (h2 p x hx)
    cases x with
    | box cs => obtain ⟨b, cur, e1, e2, e3⟩ := h; exact ⟨b, cur, e1, e2, CRs.keep hkeep (Shapes.refl w) _ _ e3⟩
    | arr sz els fz =>
      obtain ⟨h0, hn, h | ⟨b, e1, e2, e3, e4⟩⟩ := h
      · exact ⟨h0, hn, .inl h⟩
      · exact ⟨h0, hn, .inr ⟨b, e1, RDs.keep' hkeep b sz els 0 (fun _ _ _ => rfl) e2, fun hf => (hkeep b (e3 hf)).1, e4⟩⟩
    | fbox ds => obtain ⟨b, e1, e2, e3⟩ := h; exact ⟨b, e1, (hkeep b e2).1, RDc.keep hkeep b e2 _ _ e3⟩
    | gone => exact h.elim

theorem Act.put_size (a : Act) (d : Option Tmp) (v : Value) : (a.put d v).tmps.size = a.tmps.size := by
  cases d <;> simp [Act.put]
theorem Act.put_defers (a : Act) (d : Option Tmp) (v : Value) : (a.put d v).defers = a.defers := by
  cases d <;> simp [Act.put]

/-- A value goes into its slot. -/
theorem Rel.put (hr : Rel F N ι s a w) (d : Option Tmp) (hd : ∀ k, d = some k → k < N) (v : V) (x : Value) (hv : VR ι w (F.ok ι s.pl w) v x) : Rel F N ι (s.put d v) (a.put d x) w := by
  cases d with
  | none => exact hr
  | some d =>
    have hlt : d < a.tmps.size := Nat.lt_of_lt_of_le (hd d rfl) hr.room
    refine ⟨by rw [Act.put_size]; exact hr.room, fun k u hu => ?_, hr.places, hr.inj, hr.mine, by rw [Act.put_defers]; exact hr.defers, hr.grows, hr.foreign, hr.handed, hr.few, hr.hdom, hr.hkeep⟩
    simp only [S.put, aget_aput] at hu
    simp only [Act.put]
    by_cases hk : d = k
    · subst hk
      simp only [if_true] at hu
      cases hu
      exact ⟨x, by simp [hlt], hv⟩
    · rw [if_neg hk] at hu
      obtain ⟨y, e1, e2⟩ := hr.slots k u hu
      exact ⟨y, by rw [Array.getElem?_setIfInBounds, if_neg hk]; exact e1, e2⟩
end

end Go.AM
