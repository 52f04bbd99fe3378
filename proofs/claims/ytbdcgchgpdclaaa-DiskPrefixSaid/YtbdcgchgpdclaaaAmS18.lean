/- The abstract machine in use: results as data, small lemmas. -/
import Derived.Test.YtbdcgchgpdclaaaAmS11
namespace Go.AM

/-! A result as data: its own leaves are given up. -/
def C.asData (pl : List Pl) : C → C
  | .own q _ n => match pl[q]? with
    | some (.arr _ els _) => .d (.sl (els.take n))
    | _ => .dead
  | .nil => .d (.sl [])
  | x => x
def W.asData (pl : List Pl) : W → W | .c x => .c (x.asData pl) | .agg cs => .agg (cs.map (C.asData pl))
def V.asData (pl : List Pl) : V → V | .w x => .w (x.asData pl) | .tup xs => .tup (xs.map (W.asData pl))
def Res.asData (r : Res) : Res := ⟨r.v.asData r.pl, []⟩

section
variable {F : Fr} {w : World} {ι : Nat → Gh} {pl : List Pl}

theorem zip_up (pl : List Pl) (q : Nat) (x : Pl) : aget (zipPl (upFrom 0 pl.length) pl) q = some x ↔ pl[q]? = some x ∧ x.isGone = false := by
  constructor
  · intro h
    obtain ⟨q', g1, g2, g3⟩ := zip_get _ _ _ _ h
    rw [upFrom_get] at g1
    split at g1
    · cases g1; rw [Nat.zero_add]; exact ⟨g2, g3⟩
    · cases g1
  · rintro ⟨g1, g2⟩
    have hlt : q < pl.length := (List.getElem?_eq_some_iff.1 g1).1
    have hup : (upFrom 0 pl.length)[q]? = some q := by rw [upFrom_get, if_pos hlt, Nat.zero_add]
    have := zip_there _ _ q q x hup g1 g2
    cases hz : aget (zipPl (upFrom 0 pl.length) pl) q with
    | none => exact absurd hz this
    | some y =>
      obtain ⟨q', g3, g4, g5⟩ := zip_get _ _ _ _ hz
      rw [upFrom_get] at g3
      split at g3
      · cases g3; rw [Nat.zero_add] at g1; rw [g1] at g4; cases g4; rfl
      · cases g3

theorem CR_asData (hpl : ∀ p x, aget (zipPl (upFrom 0 pl.length) pl) p = some x → PR ι w (F.ok ι (zipPl (upFrom 0 pl.length) pl) w) p x) (hin : ∀ p x b, aget (zipPl (upFrom 0 pl.length) pl) p = some x → (ι p).b = some b → F.M b ∨ F.w0.heap.size ≤ b)
    (hsh : ∀ p x, aget (zipPl (upFrom 0 pl.length) pl) p = some x → x.live = true) (ι' : Nat → Gh) {c : C} {v : Value} (h : CR ι w (F.ok ι (zipPl (upFrom 0 pl.length) pl) w) c v) (hd : ∀ p o, c ≠ .ptr p o) (he : ∀ p z i k, c ≠ .eptr p z i k) (hcl : ∀ f p ps, c ≠ .clo f (p :: ps)) :
    CR ι' w (F.ok ι' [] w) (c.asData pl) v := by
  have hk : Keeps w w (F.ok ι (zipPl (upFrom 0 pl.length) pl) w) (F.ok ι' [] w) := fun b hb => ⟨⟨hb.1, hb.2.1, fun ⟨_, _, h, _⟩ => by cases h⟩, rfl⟩
  cases c with
  | d x => exact RD.keep hk _ _ h
  | nil =>
    have h : v = .slice none 0 0 := h
    simp only [C.asData, CR, RD]
    exact ⟨none, 0, 0, h, rfl, Nat.le_refl _, Nat.zero_le _, .inl trivial⟩
  | own q sz n =>
    simp only [C.asData]
    split
    · rename_i z els fz hq
      have hq' : aget (zipPl (upFrom 0 pl.length) pl) q = some (.arr z els fz) := (zip_up pl q _).2 ⟨hq, rfl⟩
      obtain ⟨h0, hn, hpr⟩ := hpl q _ hq'
      simp only [CR, RD]
      rcases h with ⟨h1, h2, h3⟩ | ⟨b, cap, t, h1, h2, h3, h4, h5, h6⟩
      · subst h2; exact ⟨none, 0, 0, h3, by simp, Nat.le_refl _, Nat.zero_le _, .inl (by simp)⟩
      · rcases hpr with ⟨e, _⟩ | ⟨b', e1, e2, e3, e4⟩
        · rw [h1] at e; cases e
        · rw [h1] at e1; cases e1
          have hfz : fz = false := by
            have := hsh q _ hq'
            cases fz
            · rfl
            · cases this
          subst hfz
          obtain ⟨cur, e5, _⟩ := e4 rfl
          refine ⟨_, n, cap, h3, by rw [List.length_take]; omega, h4, h5, .inr ⟨b, 0, z, rfl, ⟨.inr (hin q _ b hq' h1), e5.lt, fun ⟨_, _, h, _⟩ => by cases h⟩, ?_⟩⟩
          exact RDs.take n (RDs.keep' hk b z els 0 (fun _ _ _ => rfl) e2)
    · trivial
  | dead => trivial
  | fp l =>
    exact CR.keep (ι := ι') hk (Shapes.refl w) (.fp l) v h
  | clo f caps => cases caps with
    | nil => exact h
    | cons p ps => exact absurd rfl (hcl f p ps)
  | ptr p o => exact absurd rfl (hd p o)
  | eptr p z i k => exact absurd rfl (he p z i k)

def C.plain : C → Bool | .ptr _ _ => false | .eptr _ _ _ _ => false | .clo _ (_ :: _) => false | _ => true
def W.plain : W → Bool | .c x => x.plain | .agg cs => cs.all C.plain
def V.plain : V → Bool | .w x => x.plain | .tup xs => xs.all W.plain

theorem ResR.asData {r : Res} {v : Value} (h : ResR F w r v) (hp : r.v.plain = true) : ResR F w r.asData v := by
  obtain ⟨_, ι, h1, h2, h3, h4, h5, _⟩ := h
  have hC : ∀ {c : C} {v : Value}, CR ι w (F.ok ι (zipPl (upFrom 0 r.pl.length) r.pl) w) c v → c.plain = true → CR ι w (F.ok ι [] w) (c.asData r.pl) v := fun {c v} hc hp =>
    CR_asData h2 h4 h5 ι hc (fun p o e => by rw [e] at hp; cases hp) (fun p z i k e => by rw [e] at hp; cases hp) (fun f p ps e => by rw [e] at hp; cases hp)
  have hCs : ∀ (cs : List C) (vs : List Value), CRs ι w (F.ok ι (zipPl (upFrom 0 r.pl.length) r.pl) w) cs vs → cs.all C.plain = true → CRs ι w (F.ok ι [] w) (cs.map (C.asData r.pl)) vs := by
    intro cs
    induction cs with
    | nil => intro vs h _; cases vs with | nil => trivial | cons _ _ => exact h.elim
    | cons c cs ih =>
      intro vs h hp
      cases vs with
      | nil => exact h.elim
      | cons v vs =>
        rw [List.all_cons, Bool.and_eq_true] at hp
        exact ⟨hC h.1 hp.1, ih vs h.2 hp.2⟩
  have hW : ∀ {x : W} {v : Value}, WR ι w (F.ok ι (zipPl (upFrom 0 r.pl.length) r.pl) w) x v → x.plain = true → WR ι w (F.ok ι [] w) (x.asData r.pl) v := fun {x v} hx hp => by
    cases x with
    | c c => exact hC hx hp
    | agg cs => obtain ⟨vs, e, h⟩ := hx; exact ⟨vs, e, hCs cs vs h hp⟩
  have hWs : ∀ (cs : List W) (vs : List Value), WRs ι w (F.ok ι (zipPl (upFrom 0 r.pl.length) r.pl) w) cs vs → cs.all W.plain = true → WRs ι w (F.ok ι [] w) (cs.map (W.asData r.pl)) vs := by
    intro cs
    induction cs with
    | nil => intro vs h _; cases vs with | nil => trivial | cons _ _ => exact h.elim
    | cons c cs ih =>
      intro vs h hp
      cases vs with
      | nil => exact h.elim
      | cons v vs =>
        rw [List.all_cons, Bool.and_eq_true] at hp
        exact ⟨hW h.1 hp.1, ih vs h.2 hp.2⟩
  refine ⟨Nat.zero_le _, ι, ?_, fun p x h => (by cases h), fun p q x y b h => (by cases h), fun p x b h => (by cases h), fun p x h => (by cases h), fun p x h => (by cases h)⟩
  obtain ⟨v', pl'⟩ := r
  cases v' with
  | w x => exact hW h1 hp
  | tup xs => obtain ⟨vs, e, h⟩ := h1; exact ⟨vs, e, hWs xs vs h hp⟩
end

/-- A contract whose results are data. -/
theorem Sat.data {P : Program} {k : Nat} {args : List W} {Q Q' : Res → Prop} (h : Sat P k args Q) (hq : ∀ r, Q r → r.v.plain = true ∧ Q' r.asData) : Sat P k args Q' :=
  ⟨h.1, fun w A vals h1 h2 => (h.2 w A vals h1 h2).mono fun _ _ ⟨v, r, he, h3, h4, h5⟩ => ⟨v, r.asData, he, (hq r h3).2, h4.asData (hq r h3).1, h5⟩⟩

theorem cond_i {b : Bool} {X Y : Prop} (h1 : b = true → X) (h2 : b = false → Y) : cond b X Y := by cases b; exact h2 rfl; exact h1 rfl

end Go.AM
