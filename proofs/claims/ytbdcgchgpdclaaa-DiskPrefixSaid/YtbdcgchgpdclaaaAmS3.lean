/- Soundness of the abstract machine, 3: slices of the frame's own taken as data; operands; constants. -/
import Derived.Test.YtbdcgchgpdclaaaAmS2
namespace Go.AM

section
variable {F : Fr} {N : Nat} {ι : Nat → Gh} {s : S} {a : Act} {w : World}

def S.withPl (s : S) (pl : List (Nat × Pl)) : S := { s with pl := pl }

theorem aget_freezeP (pl : List (Nat × Pl)) (p q : Nat) : aget (freezeP pl p) q = if p = q then (match aget pl p with | some (.arr z els _) => some (.arr z els true) | x => x) else aget pl q := by
  unfold freezeP
  cases h : aget pl p with
  | none => by_cases e : p = q <;> simp [e]; subst e; exact h
  | some x =>
    cases x with
    | arr z els fz => simp only [aget_aput]
    | _ => by_cases e : p = q <;> simp [e]; subst e; exact h

theorem Rel.freeze (hr : Rel F N ι s a w) (p : Nat) : Rel F N ι (s.withPl (freezeP s.pl p)) a w := by
  have hown : ∀ b, Owns ι (freezeP s.pl p) b → Owns ι s.pl b := by
    rintro b ⟨q, x, h1, h2, h3⟩
    rw [aget_freezeP] at h1
    split at h1
    · rename_i e; subst e
      cases hp : aget s.pl p with
      | none => rw [hp] at h1; cases h1
      | some y =>
        rw [hp] at h1
        cases y with
        | arr z els fz => cases h1; cases h2
        | _ => cases h1; exact ⟨p, _, hp, h2, h3⟩
    · exact ⟨q, x, h1, h2, h3⟩
  have hkeep : Keeps w w (F.ok ι s.pl w) (F.ok ι (freezeP s.pl p) w) := fun b hb => ⟨⟨hb.1, hb.2.1, fun h => hb.2.2 (hown b h)⟩, rfl⟩
  refine ⟨hr.room, fun k v hv => ?_, fun q x hx => ?_, fun q r x y b hx hy hqr hl hb hrb => ?_, fun b hb => hr.mine b (hown b hb), hr.defers, hr.grows, hr.foreign, hr.handed, hr.few, hr.hdom, fun q x g hx hg => ?_⟩
  rotate_left 3
  · have hx' : aget (freezeP s.pl p) q = some x := hx
    rw [aget_freezeP] at hx'
    split at hx'
    · rename_i e; subst e
      cases hp : aget s.pl p with
      | none => rw [hp] at hx'; cases hx'
      | some y => exact hr.hkeep p y g hp hg
    · exact hr.hkeep q x g hx' hg
  · obtain ⟨x, e1, e2⟩ := hr.slots k v hv
    exact ⟨x, e1, VR.keep hkeep (Shapes.refl w) v x e2⟩
  · have hx' : aget (freezeP s.pl p) q = some x := hx
    rw [aget_freezeP] at hx'
    split at hx'
    · rename_i e; subst e
      cases hp : aget s.pl p with
      | none => rw [hp] at hx'; cases hx'
      | some y =>
        have h := hr.places p y hp
        rw [hp] at hx'
        cases y with
        | box cs => cases hx'; obtain ⟨b, cur, e1, e2, e3⟩ := h; exact ⟨b, cur, e1, e2, CRs.keep hkeep (Shapes.refl w) _ _ e3⟩
        | fbox ds => cases hx'; obtain ⟨b, e1, e2, e3⟩ := h; exact ⟨b, e1, (hkeep b e2).1, RDc.keep hkeep b e2 _ _ e3⟩
        | gone => exact h.elim
        | arr z els fz =>
          cases hx'
          obtain ⟨h0, hn, h | ⟨b, e1, e2, e3, e4⟩⟩ := h
          · exact ⟨h0, hn, .inl h⟩
          · refine ⟨h0, hn, .inr ⟨b, e1, RDs.keep' hkeep b z els 0 (fun _ _ _ => rfl) e2, fun _ => ?_, fun hf => by cases hf⟩⟩
            cases fz
            · have ho : Owns ι s.pl b := ⟨p, _, hp, rfl, e1⟩
              refine ⟨?_, (hr.mine b ho).2, ?_⟩
              · rcases (hr.mine b ho).1 with h | h
                · exact .inr (.inl h)
                · exact .inr (.inr h)
              · rintro ⟨q, x, h1, h2, h3⟩
                have h1' : aget (freezeP s.pl p) q = some x := h1
                rw [aget_freezeP] at h1'
                split at h1'
                · rename_i e; subst e; rw [hp] at h1'; cases h1'; cases h2
                · rename_i hne
                  exact hr.inj p q _ x b hp h1' hne rfl e1 h3
            · exact (hkeep b (e3 rfl)).1
    · have h := hr.places q x hx'
      cases x with
      | box cs => obtain ⟨b, cur, e1, e2, e3⟩ := h; exact ⟨b, cur, e1, e2, CRs.keep hkeep (Shapes.refl w) _ _ e3⟩
      | fbox ds => obtain ⟨b, e1, e2, e3⟩ := h; exact ⟨b, e1, (hkeep b e2).1, RDc.keep hkeep b e2 _ _ e3⟩
      | gone => exact h.elim
      | arr sz els fz =>
        obtain ⟨h0, hn, h | ⟨b, e1, e2, e3, e4⟩⟩ := h
        · exact ⟨h0, hn, .inl h⟩
        · exact ⟨h0, hn, .inr ⟨b, e1, RDs.keep' hkeep b sz els 0 (fun _ _ _ => rfl) e2, fun hf => (hkeep b (e3 hf)).1, e4⟩⟩
  · have hx' : aget (freezeP s.pl p) q = some x := hx
    have hy' : aget (freezeP s.pl p) r = some y := hy
    rw [aget_freezeP] at hx' hy'
    have h1 : ∃ x', aget s.pl q = some x' ∧ x'.live = true := by
      split at hx'
      · rename_i e; subst e
        cases hp : aget s.pl p with
        | none => rw [hp] at hx'; cases hx'
        | some z =>
          rw [hp] at hx'
          cases z with
          | arr z els fz => cases hx'; cases hl
          | _ => cases hx'; exact ⟨_, rfl, hl⟩
      · exact ⟨x, hx', hl⟩
    have h2 : ∃ y', aget s.pl r = some y' := by
      split at hy'
      · rename_i e; subst e
        cases hp : aget s.pl p with
        | none => rw [hp] at hy'; cases hy'
        | some z => exact ⟨z, rfl⟩
      · exact ⟨y, hy'⟩
    obtain ⟨x', h1, h1'⟩ := h1
    obtain ⟨y', h2⟩ := h2
    exact hr.inj q r x' y' b h1 h2 hqr h1' hb hrb

theorem ok_freeze (p b : Nat) (h : F.ok ι s.pl w b) : F.ok ι (freezeP s.pl p) w b := by
  refine ⟨h.1, h.2.1, fun ho => h.2.2 ?_⟩
  obtain ⟨q, x, h1, h2, h3⟩ := ho
  rw [aget_freezeP] at h1
  split at h1
  · rename_i e; subst e
    cases hp : aget s.pl p with
    | none => rw [hp] at h1; cases h1
    | some y =>
      rw [hp] at h1
      cases y with
      | arr z els fz => cases h1; cases h2
      | _ => cases h1; exact ⟨p, _, hp, h2, h3⟩
  · exact ⟨q, x, h1, h2, h3⟩

/-- A place of the frame's own that is written no more. -/
theorem Rel.still (hr : Rel F N ι s a w) {p : Nat} {x y : Pl} (hp : aget s.pl p = some x) (hx : x.live = true) (hy : y.live = false)
    (hpr : (∀ b, F.ok ι s.pl w b → F.ok ι (aput p y s.pl) w b) → (∀ b, (ι p).b = some b → F.ok ι (aput p y s.pl) w b) → PR ι w (F.ok ι (aput p y s.pl) w) p y) :
    Rel F N ι (s.withPl (aput p y s.pl)) a w ∧ (∀ b, F.ok ι s.pl w b → F.ok ι (aput p y s.pl) w b) ∧ (∀ b, (ι p).b = some b → F.ok ι (aput p y s.pl) w b) := by
  have hown : ∀ b, Owns ι (aput p y s.pl) b → Owns ι s.pl b ∧ (ι p).b ≠ some b := by
    rintro b ⟨q, z, h1, h2, h3⟩
    rw [aget_aput] at h1
    split at h1
    · cases h1; rw [hy] at h2; cases h2
    · rename_i hne
      exact ⟨⟨q, z, h1, h2, h3⟩, fun e => hr.inj p q x z b hp h1 hne hx e h3⟩
  have hmono : ∀ b, F.ok ι s.pl w b → F.ok ι (aput p y s.pl) w b := fun b hb => ⟨hb.1, hb.2.1, fun h => hb.2.2 (hown b h).1⟩
  have hkeep : Keeps w w (F.ok ι s.pl w) (F.ok ι (aput p y s.pl) w) := fun b hb => ⟨hmono b hb, rfl⟩
  have hnew : ∀ b, (ι p).b = some b → F.ok ι (aput p y s.pl) w b := fun b hb => by
    have ho : Owns ι s.pl b := ⟨p, x, hp, hx, hb⟩
    refine ⟨?_, (hr.mine b ho).2, fun h => (hown b h).2 hb⟩
    rcases (hr.mine b ho).1 with h | h
    · exact .inr (.inl h)
    · exact .inr (.inr h)
  refine ⟨⟨hr.room, fun k v hv => ?_, fun q z hz => ?_, fun q r z u b hz hu hqr hl hb hrb => ?_, fun b hb => hr.mine b (hown b hb).1, hr.defers, hr.grows, hr.foreign, hr.handed, hr.few, hr.hdom, fun q z g hz hg => ?_⟩, hmono, hnew⟩
  · obtain ⟨u, e1, e2⟩ := hr.slots k v hv
    exact ⟨u, e1, VR.keep hkeep (Shapes.refl w) v u e2⟩
  · have hz' : aget (aput p y s.pl) q = some z := hz
    rw [aget_aput] at hz'
    split at hz'
    · rename_i e; subst e; cases hz'
      exact hpr hmono hnew
    · exact PR.keep hkeep (hr.places q z hz')
  · have hz' : aget (aput p y s.pl) q = some z := hz
    have hu' : aget (aput p y s.pl) r = some u := hu
    rw [aget_aput] at hz' hu'
    split at hz'
    · cases hz'; rw [hy] at hl; cases hl
    · split at hu'
      · rename_i e; subst e
        exact hr.inj q p z x b hz' hp hqr hl hb hrb
      · exact hr.inj q r z u b hz' hu' hqr hl hb hrb
  · have hz' : aget (aput p y s.pl) q = some z := hz
    rw [aget_aput] at hz'
    split at hz'
    · rename_i e; subst e; exact hr.hkeep p x g hp hg
    · exact hr.hkeep q z g hz' hg

/-- What an own slice holds. -/
theorem own_data (hr : Rel F N ι s a w) {p z n : Nat} {v : Value} {sz : Nat} {els : List (List D)} {fz : Bool} (hp : aget s.pl p = some (.arr sz els fz)) (hz : z = sz)
    (h : CR ι w (F.ok ι s.pl w) (.own p z n) v) : n ≤ els.length ∧ ((n = 0 ∧ v = .slice none 0 0 ∧ (ι p).b = none ∧ els = []) ∨
      ∃ b cap t, (ι p).b = some b ∧ v = .slice (some ⟨b, 0, none⟩) n cap ∧ n ≤ cap ∧ cap ≤ maxLen ∧ w.shape? b = some (t, cap * sz) ∧ RDs w (F.ok ι s.pl w) b sz 0 els) := by
  subst hz
  obtain ⟨h0, hn, hpl⟩ := hr.places p _ hp
  rcases h with ⟨h1, h2, h3⟩ | ⟨b, cap, t, h1, h2, h3, h4, h5, h6⟩
  · subst h2
    refine ⟨Nat.zero_le _, .inl ⟨rfl, h3, h1, ?_⟩⟩
    rcases hpl with ⟨_, e⟩ | ⟨b, e, _⟩
    · exact e
    · rw [h1] at e; cases e
  · refine ⟨by rw [hn]; exact h2, .inr ⟨b, cap, t, h1, h3, h4, h5, h6, ?_⟩⟩
    rcases hpl with ⟨e, _⟩ | ⟨b', e, e2, _⟩
    · rw [h1] at e; cases e
    · rw [h1] at e; cases e; exact e2

theorem own_data' (hr : Rel F N ι s a w) {p z n : Nat} {v : Value} {sz : Nat} {els : List (List D)} {fz : Bool} (hp : aget s.pl p = some (.arr sz els fz))
    (h : CR ι w (F.ok ι s.pl w) (.own p z n) v) : n ≤ els.length ∧ ((n = 0 ∧ v = .slice none 0 0 ∧ (ι p).b = none ∧ els = []) ∨
      ∃ b cap t, (ι p).b = some b ∧ v = .slice (some ⟨b, 0, none⟩) n cap ∧ n ≤ cap ∧ cap ≤ maxLen ∧ w.shape? b = some (t, cap * z) ∧ RDs w (F.ok ι s.pl w) b sz 0 els) := by
  obtain ⟨h0, hn, hpl⟩ := hr.places p _ hp
  rcases h with ⟨h1, h2, h3⟩ | ⟨b, cap, t, h1, h2, h3, h4, h5, h6⟩
  · subst h2
    refine ⟨Nat.zero_le _, .inl ⟨rfl, h3, h1, ?_⟩⟩
    rcases hpl with ⟨_, e⟩ | ⟨b, e, _⟩
    · exact e
    · rw [h1] at e; cases e
  · refine ⟨by rw [hn]; exact h2, .inr ⟨b, cap, t, h1, h3, h4, h5, h6, ?_⟩⟩
    rcases hpl with ⟨e, _⟩ | ⟨b', e, e2, _⟩
    · rw [h1] at e; cases e
    · rw [h1] at e; cases e; exact e2

/-- Part of an own slice, as data, once it is frozen. -/
theorem own_RD (hr : Rel F N ι s a w) {p sz n : Nat} {els : List (List D)} {fz : Bool} (hp : aget s.pl p = some (.arr sz els fz)) {b cap : Nat} (h1 : (ι p).b = some b) (hn : n ≤ els.length)
    (hnc : n ≤ cap) (hcm : cap ≤ maxLen) :
    RD w (F.ok ι (freezeP s.pl p) w) (.sl (els.take n)) (.slice (some ⟨b, 0, none⟩) n cap) := by
  simp only [RD]
  refine ⟨_, _, _, rfl, by simp; omega, hnc, hcm, ?_⟩
  have hf := (hr.freeze p).places p (.arr sz els true) (by show aget (freezeP s.pl p) p = _; rw [aget_freezeP, if_pos rfl, hp])
  obtain ⟨_, _, hf | ⟨b', e1, e2, e3, e4⟩⟩ := hf
  · rw [h1] at hf; cases hf.1
  · rw [h1] at e1; cases e1
    exact .inr ⟨b, 0, sz, rfl, e3 rfl, RDs.take n e2⟩

theorem toD_sound (hr : Rel F N ι s a w) {c : C} {v : Value} (hc : CR ι w (F.ok ι s.pl w) c v) {x : D} {pl1 : List (Nat × Pl)} (h : toD s.pl c = some (x, pl1)) :
    Rel F N ι (s.withPl pl1) a w ∧ (∀ b, F.ok ι s.pl w b → F.ok ι pl1 w b) ∧ RD w (F.ok ι pl1 w) x v := by
  cases c with
  | d y => cases h; exact ⟨hr, fun _ h => h, hc⟩
  | nil => cases h; exact ⟨hr, fun _ h => h, by simp only [CR] at hc; subst hc; simp only [RD]; exact ⟨none, 0, 0, rfl, rfl, Nat.le_refl _, Nat.zero_le _, .inl trivial⟩⟩
  | own p z n =>
    simp only [toD] at h
    cases hp : aget s.pl p with
    | none => simp only [hp] at h; cases h
    | some y =>
      cases y with
      | box cs => simp only [hp] at h; cases h
      | fbox ds => simp only [hp] at h; cases h
      | gone => simp only [hp] at h; cases h
      | arr sz els fz =>
        simp only [hp] at h
        cases h
        refine ⟨hr.freeze p, fun b => ok_freeze p b, ?_⟩
        obtain ⟨hn, h | ⟨b, cap, t, h1, h2, h3, h4, h5, h6⟩⟩ := own_data' hr hp hc
        · obtain ⟨rfl, rfl, _, _⟩ := h
          simp only [RD, List.take_zero]; exact ⟨none, 0, 0, rfl, rfl, Nat.le_refl _, Nat.zero_le _, .inl trivial⟩
        · subst h2; exact own_RD hr hp h1 hn h3 h4
  | dead => cases h
  | ptr p o => cases h
  | eptr p z i k => cases h
  | fp l => cases h
  | clo f l =>
    cases l with
    | cons _ _ => cases h
    | nil =>
      cases h
      refine ⟨hr, fun _ h => h, ?_⟩
      obtain ⟨bs, h1, h2⟩ := hc
      have hbs : bs = [] := by simpa using h1.symm
      subst hbs
      simp only [RD, RDf]
      exact ⟨[], h2, rfl⟩

theorem S.withPl_withPl (s : S) (p q : List (Nat × Pl)) : (s.withPl p).withPl q = s.withPl q := rfl

theorem toDs_sound : ∀ {cs : List C} {vs : List Value} {s : S} (_ : Rel F N ι s a w) (_ : CRs ι w (F.ok ι s.pl w) cs vs) {ds : List D} {pl1 : List (Nat × Pl)} (_ : toDs s.pl cs = some (ds, pl1)),
    Rel F N ι (s.withPl pl1) a w ∧ (∀ b, F.ok ι s.pl w b → F.ok ι pl1 w b) ∧ CRs ι w (F.ok ι pl1 w) (ds.map .d) vs
  | [], [], s, hr, _, ds, pl1, h => by cases h; exact ⟨hr, fun _ h => h, trivial⟩
  | [], _ :: _, _, _, hc, _, _, _ => hc.elim
  | _ :: _, [], _, _, hc, _, _, _ => hc.elim
  | c :: cs, v :: vs, s, hr, hc, ds, pl1, h => by
    unfold toDs at h
    cases h1 : toD s.pl c with
    | none => rw [h1] at h; cases h
    | some y =>
      obtain ⟨y, pl2⟩ := y
      rw [h1] at h
      simp only [] at h
      obtain ⟨g1, g2, g3⟩ := toD_sound hr hc.1 h1
      cases h2 : toDs pl2 cs with
      | none => rw [h2] at h; cases h
      | some z =>
        obtain ⟨z, pl3⟩ := z
        rw [h2] at h
        cases h
        have hk : Keeps w w (F.ok ι s.pl w) (F.ok ι pl2 w) := fun b hb => ⟨g2 b hb, rfl⟩
        obtain ⟨k1, k2, k3⟩ := toDs_sound (s := s.withPl pl2) g1 (CRs.keep hk (Shapes.refl w) _ _ hc.2) h2
        exact ⟨k1, fun b hb => k2 b (g2 b hb), RD.keep (fun b hb => ⟨k2 b hb, rfl⟩) _ _ g3, k3⟩

theorem toDW_sound (hr : Rel F N ι s a w) {c : W} {v : Value} (hc : WR ι w (F.ok ι s.pl w) c v) {x : W} {pl1 : List (Nat × Pl)} (h : toDW s.pl c = some (x, pl1)) :
    Rel F N ι (s.withPl pl1) a w ∧ (∀ b, F.ok ι s.pl w b → F.ok ι pl1 w b) ∧ (∀ ι', WR ι' w (F.ok ι pl1 w) x v) := by
  cases c with
  | c c =>
    by_cases hfp : ∃ l, c = .fp l
    · obtain ⟨l, rfl⟩ := hfp
      cases h
      exact ⟨hr, fun _ h => h, fun _ => hc⟩
    · have h' : (match toD s.pl c with | some (y, pl1) => some (W.c (.d y), pl1) | none => none) = some (x, pl1) := by
        rw [← h]
        cases c with
        | fp l => exact absurd ⟨l, rfl⟩ hfp
        | _ => rfl
      cases h1 : toD s.pl c with
      | none => simp only [h1] at h'; cases h'
      | some y =>
        simp only [h1] at h'; cases h'
        obtain ⟨g1, g2, g3⟩ := toD_sound hr hc h1
        exact ⟨g1, g2, fun _ => g3⟩
  | agg cs =>
    simp only [toDW] at h
    cases h1 : toDs s.pl cs with
    | none => simp only [h1] at h; cases h
    | some y =>
      simp only [h1] at h; cases h
      obtain ⟨vs, rfl, hc⟩ := hc
      obtain ⟨g1, g2, g3⟩ := toDs_sound hr hc h1
      refine ⟨g1, g2, fun ι' => ⟨vs, rfl, ?_⟩⟩
      clear h1 hc
      generalize y.1 = ds at *
      induction ds generalizing vs with
      | nil => cases vs <;> exact g3
      | cons d ds ih => cases vs with
        | nil => exact g3
        | cons v vs => exact ⟨g3.1, ih vs g3.2⟩

theorem toDWs_sound : ∀ {cs : List W} {vs : List Value} {s : S} (_ : Rel F N ι s a w) (_ : WRs ι w (F.ok ι s.pl w) cs vs) {ds : List W} {pl1 : List (Nat × Pl)} (_ : toDWs s.pl cs = some (ds, pl1)),
    Rel F N ι (s.withPl pl1) a w ∧ (∀ b, F.ok ι s.pl w b → F.ok ι pl1 w b) ∧ (∀ ι', WRs ι' w (F.ok ι pl1 w) ds vs)
  | [], [], s, hr, _, ds, pl1, h => by cases h; exact ⟨hr, fun _ h => h, fun _ => trivial⟩
  | [], _ :: _, _, _, hc, _, _, _ => hc.elim
  | _ :: _, [], _, _, hc, _, _, _ => hc.elim
  | c :: cs, v :: vs, s, hr, hc, ds, pl1, h => by
    unfold toDWs at h
    cases h1 : toDW s.pl c with
    | none => rw [h1] at h; cases h
    | some y =>
      obtain ⟨y, pl2⟩ := y
      rw [h1] at h
      simp only [] at h
      obtain ⟨g1, g2, g3⟩ := toDW_sound hr hc.1 h1
      cases h2 : toDWs pl2 cs with
      | none => rw [h2] at h; cases h
      | some z =>
        obtain ⟨z, pl3⟩ := z
        rw [h2] at h
        cases h
        have hk : Keeps w w (F.ok ι s.pl w) (F.ok ι pl2 w) := fun b hb => ⟨g2 b hb, rfl⟩
        obtain ⟨k1, k2, k3⟩ := toDWs_sound (s := s.withPl pl2) g1 (WRs.keep hk (Shapes.refl w) _ _ hc.2) h2
        exact ⟨k1, fun b hb => k2 b (g2 b hb), fun ι' => ⟨WR.keep (fun b hb => ⟨k2 b hb, rfl⟩) (Shapes.refl w) _ _ (g3 ι'), k3 ι'⟩⟩
end

/-! Constants and operands. -/
theorem CR_ofCell (ι : Nat → Gh) (w : World) (ok : Nat → Prop) (v : Value) : CR ι w ok (ofCell v) v := by
  unfold ofCell
  split <;> first
    | trivial
    | rfl
    | (simp only [CR, RD]; exact ⟨rfl, rfl⟩)

theorem CRs_ofCell (ι : Nat → Gh) (w : World) (ok : Nat → Prop) : ∀ (vs : List Value), CRs ι w ok (vs.map ofCell) vs
  | [] => trivial
  | v :: vs => ⟨CR_ofCell ι w ok v, CRs_ofCell ι w ok vs⟩

theorem WR_ofValue (ι : Nat → Gh) (w : World) (ok : Nat → Prop) (v : Value) : WR ι w ok (ofValue v) v := by
  unfold ofValue
  split
  · exact ⟨_, by simp, CRs_ofCell ι w ok _⟩
  · exact CR_ofCell ι w ok _

theorem VR_dead (ι : Nat → Gh) (w : World) (ok : Nat → Prop) (v : Value) : VR ι w ok deadV v := trivial

section
variable {F : Fr} {N : Nat} {ι : Nat → Gh} {s : S} {a : Act} {w : World}

theorem VR_tmp (hr : Rel F N ι s a w) (t : Nat) : VR ι w (F.ok ι s.pl w) (s.tmp t) (a.tmps.getD t undef) := by
  unfold S.tmp
  cases h : aget s.sl t with
  | none => trivial
  | some v =>
    obtain ⟨x, h1, h2⟩ := hr.slots t v h
    simp only [Array.getD_eq_getD_getElem?, h1, Option.getD_some]
    exact h2

theorem VR_o (hr : Rel F N ι s a w) (x : Operand) : VR ι w (F.ok ι s.pl w) (s.o (cO x)) (a.eval x) := by
  cases x with
  | tmp t => exact VR_tmp hr t
  | const v => exact WR_ofValue ι w _ v
  | global g => trivial
  | func f => exact ⟨[], rfl, rfl⟩

theorem CR_o (hr : Rel F N ι s a w) (x : Operand) : CR ι w (F.ok ι s.pl w) (s.oc (cO x)) (a.eval x) := by
  have h := VR_o hr x
  unfold S.oc cOf
  cases e : s.o (cO x) with
  | w y => rw [e] at h; cases y with
    | c z => exact h
    | agg cs => trivial
  | tup xs => trivial

theorem WR_o (hr : Rel F N ι s a w) (x : Operand) : WR ι w (F.ok ι s.pl w) (s.ow (cO x)) (a.eval x) := by
  have h := VR_o hr x
  unfold S.ow wOf
  cases e : s.o (cO x) with
  | w y => rw [e] at h; exact h
  | tup xs => trivial

theorem WRs_o (hr : Rel F N ι s a w) : ∀ (l : List Operand), WRs ι w (F.ok ι s.pl w) ((l.map cO).map s.ow) (l.map a.eval)
  | [] => trivial
  | x :: r => ⟨WR_o hr x, WRs_o hr r⟩
end

end Go.AM
