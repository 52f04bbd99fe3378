/- Soundness of the abstract machine, 10: regions in a fixed order, code. -/
import Derived.Test.YtbdcgchgpdclaaaAmS9
namespace Go.AM

theorem Act.put_same {a : Act} {d : Nat} {x : Value} (h : a.tmps[d]? = some x) : a.put (some d) x = a := by
  cases a with
  | mk tmps defers =>
    simp only [Act.put] at h ⊢
    congr 1
    apply Array.ext_getElem?
    intro i
    rw [Array.getElem?_setIfInBounds]
    split
    · rename_i hi
      subst hi
      split
      · exact h.symm
      · rename_i hlt
        rw [Array.getElem?_eq_none (by omega)]
    · rfl

section
variable {P : Program} {F : Fr} {N : Nat} {ι : Nat → Gh} {s : S} {a : Act} {w : World} {K : S → Prop}

theorem Rel.drop (hr : Rel F N ι s a w) (l : List Nat) : Rel F N ι (s.drop l) a w :=
  hr.sub _ (fun _ _ h => (aget_afilter _ _ _ _ h).1) (fun _ _ h => h)
theorem Rel.norm (hr : Rel F N ι s a w) (keep : List Nat) : Rel F N ι (s.norm keep) a w :=
  hr.sub _ (fun _ _ h => (aget_afilter _ _ _ _ h).1) (fun _ _ h => (aget_afilter _ _ _ _ h).1)

theorem Rel.look (hr : Rel F N ι s a w) {d : Nat} {v : V} (h : s.tmp d = v) (hv : v ≠ deadV) : ∃ x, a.tmps[d]? = some x ∧ VR ι w (F.ok ι s.pl w) v x := by
  unfold S.tmp at h
  split at h
  · rename_i v' hv'
    subst h
    exact hr.slots d _ hv'
  · exact absurd h.symm hv

theorem bool_look (hr : Rel F N ι s a w) {d : Nat} {b : Bool} (h : s.tmp d = boolV b) : a.tmps[d]? = some (.bool b) := by
  obtain ⟨x, h1, h2⟩ := hr.look h (by intro h; cases h)
  rw [h1]
  exact congrArg some h2.1

theorem litBool_lit {v : V} {b : Bool} (h : litBool v = some b) : v = boolV b := by
  unfold litBool at h
  split at h
  · cases h; rfl
  · cases h

theorem split_sound (hr : Rel F N ι s a w) {dst : Option Nat} (hd : ∀ k, dst = some k → k < N) {isG : Bool} (h : split isG dst s K) : ∃ s', Rel F N ι s' a w ∧ K s' := by
  unfold split at h
  cases isG with
  | false => exact ⟨s, hr, h⟩
  | true =>
    simp only [cond_true] at h
    cases dst with
    | none => exact ⟨s, hr, h⟩
    | some d =>
      simp only at h
      cases hb : litBool (s.tmp d) with
      | none => rw [hb] at h; exact ⟨s, hr, h⟩
      | some b =>
        rw [hb] at h
        have hb := litBool_lit hb
        have hx := bool_look hr hb
        have hp := hr.put (some d) hd (boolV b) (.bool b) ⟨rfl, rfl⟩
        rw [Act.put_same hx] at hp
        cases b
        · exact ⟨_, hp, h⟩
        · exact ⟨_, hp, h⟩

/-- One operation of a region, its guard looked at. -/
theorem dst_ok {o : Oper} (h : dstOk N o.dst = true) : ∀ k, o.dst = some k → k < N := by
  intro k hk
  rw [hk] at h
  exact Nat.le_of_ble_eq_true h

theorem yielded_at {ops : Array Oper} {j d : Nat} (h : dstAt ops.toList j = some d) (tmps : Array Value) : yielded ops tmps j = match tmps[d]? with | some (.bool b) => some b | _ => none := by
  unfold dstAt at h
  unfold yielded
  cases ho : ops.toList[j]? with
  | none => rw [ho] at h; cases h
  | some o =>
    rw [ho] at h
    have : ops[j]? = some o := by rw [← Array.getElem?_toList]; exact ho
    simp only at h
    simp only [this, h, Option.bind_some]
    cases tmps[d]? with
    | none => rfl
    | some v => cases v <;> rfl

/-- The three ways on: carried out, or passed by. -/
theorem step_sound (hr : Rel F N ι s a w) {ops : Array Oper} {o : Oper} {x : AOp} {g : Option (Nat × Bool)} (hg : cGuard ops.toList o.guard = some g)
    {isG : Bool} {drop : List Nat} {rest : List AI} (h : awpOps P (.mk o.dst g isG x drop :: rest) s K) :
    (Region.wanted o (yielded ops a.tmps) = true ∧ aop P o.dst x s fun s1 => split isG o.dst s1 fun s2 => awpOps P rest (s2.drop drop) K) ∨
    (Region.wanted o (yielded ops a.tmps) = false ∧ awpOps P rest ((s.put o.dst undefV).drop drop) K) := by
  cases hog : o.guard with
  | none =>
    rw [hog] at hg
    simp only [cGuard, Option.some.injEq] at hg
    subst hg
    simp only [awpOps, force_eq] at h
    exact .inl ⟨by simp [Region.wanted, hog], h⟩
  | some jw =>
    obtain ⟨j, want⟩ := jw
    rw [hog] at hg
    simp only [cGuard] at hg
    cases hda : dstAt ops.toList j with
    | none => rw [hda] at hg; cases hg
    | some d =>
      rw [hda] at hg
      simp only [Option.some.injEq] at hg
      subst hg
      have hy := yielded_at hda a.tmps
      simp only [awpOps] at h
      split at h
      · rename_i b hb
        have hb' := bool_look hr hb
        rw [hb'] at hy
        simp only at hy
        cases b <;> cases want <;> simp only [Bool.not_true, Bool.not_false, cond_true, cond_false, force_eq] at h <;>
          first
            | exact .inl ⟨by simp [Region.wanted, hog, hy], h⟩
            | exact .inr ⟨by simp [Region.wanted, hog, hy], h⟩
      · rename_i hb
        obtain ⟨v, h1, h2⟩ := hr.look hb (by intro h; cases h)
        obtain ⟨vs, h3, h4⟩ := h2
        rw [h1, h3] at hy
        simp only at hy
        rw [force_eq] at h
        exact .inr ⟨by simp [Region.wanted, hog, hy], h⟩
      · exact h.elim

theorem VR_undef (ι : Nat → Gh) (w : World) (ok : Nat → Prop) : VR ι w ok undefV undef := ⟨[], rfl, trivial⟩

theorem awpOps_sound {ops : Array Oper} {hs gs : List Nat} {Q : Exit → Act → World → Prop} (hQ : ∀ ι s a w, Rel F N ι s a w → K s → Q .normal a w) :
    ∀ (l : List Nat) (xs : List AI), cOps P N hs ops.toList gs l = some (xs.map AI.erase) → ∀ (ι : Nat → Gh) (s : S) (a : Act) (w : World), Rel F N ι s a w → awpOps P xs s K → wpOps P ops Q l a w := by
  intro l
  induction l with
  | nil =>
    intro xs hx ι s a w hr h
    cases xs with
    | nil => exact hQ ι s a w hr h
    | cons x r => simp [cOps] at hx
  | cons i l ih =>
    intro xs hx ι s a w hr h
    simp only [cOps] at hx
    split at hx
    case h_2 => cases hx
    rename_i o ho
    have ho' : ops[i]? = some o := by rw [← Array.getElem?_toList]; exact ho
    cases hd : dstOk N o.dst with
    | false => rw [hd] at hx; cases hx
    | true =>
      rw [hd] at hx
      simp only [cond_true] at hx
      split at hx
      case h_2 => cases hx
      rename_i x g ys hx1 hg hys
      cases xs with
      | nil => simp at hx
      | cons y rest =>
        cases y with
        | mk d1 g1 isG1 op1 drop =>
          simp only [Option.some.injEq, List.map_cons, AI.erase, List.cons.injEq, AI.mk.injEq, and_true] at hx
          obtain ⟨⟨rfl, rfl, rfl, rfl⟩, rfl⟩ := hx
          have hd' := dst_ok hd
          simp only [wpOps, ho']
          rcases step_sound hr hg h with ⟨hw, h1⟩ | ⟨hw, h1⟩
          · rw [if_pos hw]
            refine .inl (cop_sound hr hd' ⟨_, hx1⟩ h1 _ _ fun ι1 s1 a1 w1 hr1 hk => ?_)
            obtain ⟨s2, hr2, hk2⟩ := split_sound hr1 hd' hk
            exact ih rest hys ι1 _ a1 w1 (hr2.drop drop) hk2
          · rw [if_neg (by rw [hw]; simp)]
            exact ih rest hys ι _ _ w ((hr.put o.dst hd' undefV undef (VR_undef _ _ _)).drop drop) h1

theorem upFrom_eq (n : Nat) : ∀ i, upFrom i n = List.range' i n := by
  induction n with
  | zero => intro i; rfl
  | succ n ih => intro i; simp only [upFrom, ih, List.range'_succ]
end

/-- A loop whose rounds are told apart by something that the machine's state need not show. -/
theorem wp_loop_ix {P : Program} {Q : Exit → Act → World → Prop} {a : Act} {w : World} {c : Code} {σ : Type} (I : σ → Act → World → Prop) (μ : σ → Nat) (x₀ : σ) (h₀ : I x₀ a w)
    (round : ∀ x a w, I x a w → c.wp P (Exit.then (fun a' w' => ∃ x', I x' a' w' ∧ μ x' < μ x) Q) a w) : (Code.loop c).wp P Q a w := by
  intro b k cs
  have key : ∀ n x a w, μ x = n → I x a w →
      ∃ e a' w', Q e a' w' ∧ Arrives P (lone (b.at a (.code c :: .inLoop c :: k)) cs w) b k cs e a' w' := by
    intro n
    induction n using Nat.strongRecOn with
    | _ n ih =>
      intro x a w hn hI
      obtain ⟨e, a₁, w₁, hq, harr⟩ := round x a w hI b (.inLoop c :: k) cs
      cases e with
      | normal =>
        obtain ⟨x₁, hI₁, hlt⟩ := hq
        obtain ⟨e₂, a₂, w₂, hq₂, harr₂⟩ := ih (μ x₁) (hn ▸ hlt) x₁ a₁ w₁ rfl hI₁
        exact ⟨e₂, a₂, w₂, hq₂, .of_steps (Steps.trans harr (.one step_inLoop)) harr₂⟩
      | exit id => exact ⟨_, a₁, w₁, hq, .pass (x := .inLoop c) rfl (fun _ _ => .inl (by simp)) harr⟩
      | goto l => exact ⟨_, a₁, w₁, hq, .pass (x := .inLoop c) rfl (fun _ _ => .inl (by simp)) harr⟩
      | ret => exact ⟨_, a₁, w₁, hq, .pass (x := .inLoop c) rfl (fun _ _ => .inl (by simp)) harr⟩
      | panic ch => exact ⟨_, a₁, w₁, hq, .pass (x := .inLoop c) rfl (fun _ _ => .inl (by simp)) harr⟩
      | outgrown => exact ⟨_, a₁, w₁, hq, .pass (x := .inLoop c) rfl (fun _ _ => .inl (by simp)) harr⟩
  obtain ⟨e, a', w', hq, harr⟩ := key _ x₀ a w rfl h₀
  exact ⟨e, a', w', hq, .of_steps (.one step_loop) harr⟩

section
variable {P : Program} {F : Fr} {N : Nat}

def Vis (F : Fr) (N : Nat) (K : S → Prop) (a : Act) (w : World) : Prop := ∃ ι s, Rel F N ι s a w ∧ K s

def up (F : Fr) (N : Nat) (Q : E → S → Prop) : Exit → Act → World → Prop
  | .normal => Vis F N (Q .normal)
  | .exit i => Vis F N (Q (.exit i))
  | .ret => Vis F N (Q .ret)
  | _ => fun _ _ => False
end

end Go.AM
