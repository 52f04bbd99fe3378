/- Soundness of the abstract machine: code. -/
import Derived.Test.YtbdcgchgpdclaaaAmS17
import Derived.Scope
namespace Go.AM

theorem cReg_reg {P : Program} {N : Nat} {ords : List (Nat × List Nat)} {id : Nat} {ops : Array Oper} {d : Bool} {y : ACode} (h : cReg P N ords id ops d = some y) : ∃ xs, y = .reg xs := by
  cases d
  · simp only [cReg, Option.map_eq_some_iff] at h
    obtain ⟨ys, _, rfl⟩ := h
    exact ⟨ys, rfl⟩
  · simp only [cReg] at h
    split at h
    · rcases bif_or h with h | h
      · simp only [Option.map_eq_some_iff] at h
        obtain ⟨ys, _, rfl⟩ := h
        exact ⟨ys, rfl⟩
      · cases h
    · cases h

section
variable {P : Program} {F : Fr} {N : Nat} {ords : List (Nat × List Nat)}

theorem awp_sound : ∀ (x : ACode) (c : Code), cCode P N ords c = some x.erase → ∀ (Q : E → S → Prop) (ι : Nat → Gh) (s : S) (a : Act) (w : World), Rel F N ι s a w → awp P x Q s → c.wp P (up F N Q) a w := by
  intro x
  induction x with
  | skip =>
    intro c hc Q ι s a w hr h
    cases c with
    | skip => exact wp_skip ⟨ι, s, hr, h⟩
    | label l => exact wp_label ⟨ι, s, hr, h⟩
    | region id ops d => obtain ⟨xs, h⟩ := cReg_reg hc; simp [ACode.erase] at h
    | _ => (simp only [cCode] at hc; (repeat' split at hc) <;> simp_all [ACode.erase])
  | reg xs =>
    intro c hc Q ι s a w hr h
    cases c with
    | region id ops d =>
      cases d with
      | true => exact draw_sound (hc : cReg P N ords id ops true = some (.reg (xs.map AI.erase))) hr h
      | false =>
        have hc : cReg P N ords id ops false = some (.reg (xs.map AI.erase)) := hc
        simp only [cReg, Option.map_eq_some_iff, ACode.reg.injEq] at hc
        obtain ⟨ys, h1, rfl⟩ := hc
        refine wp_region ?_
        have := awpOps_sound (F := F) (K := Q .normal) (Q := up F N Q) (fun ι s a w hr hk => ⟨ι, s, hr, hk⟩) _ xs h1 ι s a w hr h
        rw [upFrom_eq, ← List.range_eq_range', Array.length_toList] at this
        exact this
    | _ => (simp only [cCode] at hc; (repeat' split at hc) <;> simp_all [ACode.erase])
  | seq x y ihx ihy =>
    intro c hc Q ι s a w hr h
    cases c with
    | seq c d =>
      simp only [cCode, ACode.erase] at hc
      split at hc
      · rename_i x' y' hx hy
        simp only [Option.some.injEq, ACode.seq.injEq] at hc
        obtain ⟨rfl, rfl⟩ := hc
        refine wp_seq (wp_mono (ihx c hx _ ι s a w hr h) ?_)
        intro e a' w' he
        cases e with
        | normal => obtain ⟨ι1, s1, hr1, h1⟩ := he; exact ihy d hy Q ι1 s1 a' w' hr1 h1
        | exit i => exact he
        | ret => exact he
        | _ => exact he.elim
      · cases hc
    | region id ops d => obtain ⟨xs, h⟩ := cReg_reg hc; simp [ACode.erase] at h
    | _ => (simp only [cCode] at hc; (repeat' split at hc) <;> simp_all [ACode.erase])
  | cond o x y ihx ihy =>
    intro c hc Q ι s a w hr h
    cases c with
    | cond q c d =>
      simp only [cCode, ACode.erase] at hc
      split at hc
      · rename_i x' y' hx hy
        simp only [Option.some.injEq, ACode.cond.injEq] at hc
        obtain ⟨rfl, rfl, rfl⟩ := hc
        simp only [awp] at h
        split at h
        · rename_i t ht
          have hv := VR_o hr q
          rw [litBool_lit ht] at hv
          have hq : a.eval q = .bool t := hv.1
          refine wp_cond hq ?_
          cases t
          · exact ihy d hy Q ι s a w hr h
          · exact ihx c hx Q ι s a w hr h
        · exact h.elim
      · cases hc
    | region id ops d => obtain ⟨xs, h⟩ := cReg_reg hc; simp [ACode.erase] at h
    | _ => (simp only [cCode] at hc; (repeat' split at hc) <;> simp_all [ACode.erase])
  | block i x ih =>
    intro c hc Q ι s a w hr h
    cases c with
    | block j c =>
      simp only [cCode, Option.map_eq_some_iff, ACode.erase, ACode.block.injEq] at hc
      obtain ⟨y, h1, rfl, rfl⟩ := hc
      refine wp_block (wp_mono (ih c h1 _ ι s a w hr h) ?_)
      intro e a' w' he
      cases e with
      | normal => exact he
      | exit k =>
        obtain ⟨ι1, s1, hr1, h1⟩ := he
        simp only [Exit.inBlock]
        by_cases hk : k = j
        · subst hk
          rw [if_pos rfl]
          simp only [beq_self, cond_true] at h1
          exact ⟨ι1, s1, hr1, h1⟩
        · rw [if_neg hk]
          simp only [beq_false hk, cond_false] at h1
          exact ⟨ι1, s1, hr1, h1⟩
      | ret => exact he
      | _ => exact he.elim
    | region id ops d => obtain ⟨xs, h⟩ := cReg_reg hc; simp [ACode.erase] at h
    | _ => (simp only [cCode] at hc; (repeat' split at hc) <;> simp_all [ACode.erase])
  | loop keep x ih =>
    intro c hc Q ι s a w hr h
    cases c with
    | loop c =>
      simp only [cCode, Option.map_eq_some_iff, ACode.erase, ACode.loop.injEq, true_and] at hc
      obtain ⟨y, h1, rfl⟩ := hc
      obtain ⟨I, μ, h2, h3⟩ := h
      rw [normP_eq] at h2
      refine wp_loop_ix (σ := S) (fun s a w => (∃ ι, Rel F N ι s a w) ∧ I s) μ (s.norm keep) ⟨⟨ι, hr.norm keep⟩, h2⟩ ?_
      rintro s1 a1 w1 ⟨⟨ι1, hr1⟩, hi⟩
      refine wp_mono (ih c h1 _ ι1 s1 a1 w1 hr1 (h3 s1 hi)) ?_
      intro e a' w' he
      cases e with
      | normal =>
        obtain ⟨ι2, s2, hr2, h4⟩ := he
        simp only [normP_eq] at h4
        exact ⟨s2.norm keep, ⟨⟨ι2, hr2.norm keep⟩, h4.1⟩, h4.2⟩
      | exit k => exact he
      | ret => exact he
      | _ => exact he.elim
    | region id ops d => obtain ⟨xs, h⟩ := cReg_reg hc; simp [ACode.erase] at h
    | _ => (simp only [cCode] at hc; (repeat' split at hc) <;> simp_all [ACode.erase])
  | scope x ih =>
    intro c hc Q ι s a w hr h
    cases c with
    | scope c =>
      simp only [cCode, Option.map_eq_some_iff, ACode.erase, ACode.scope.injEq] at hc
      obtain ⟨y, h1, rfl⟩ := hc
      refine wp_scope_straight (wp_mono (ih c h1 _ ι s a w hr h) ?_)
      intro e a' w' he
      cases e with
      | normal => exact he
      | exit k => exact he
      | ret => exact he
      | _ => exact he.elim
    | region id ops d => obtain ⟨xs, h⟩ := cReg_reg hc; simp [ACode.erase] at h
    | _ => (simp only [cCode] at hc; (repeat' split at hc) <;> simp_all [ACode.erase])
  | exit i =>
    intro c hc Q ι s a w hr h
    cases c with
    | exit j => simp only [cCode, ACode.erase, Option.some.injEq, ACode.exit.injEq] at hc; subst hc; exact wp_exit ⟨ι, s, hr, h⟩
    | region id ops d => obtain ⟨xs, h⟩ := cReg_reg hc; simp [ACode.erase] at h
    | _ => (simp only [cCode] at hc; (repeat' split at hc) <;> simp_all [ACode.erase])
  | ret =>
    intro c hc Q ι s a w hr h
    cases c with
    | ret => exact wp_ret ⟨ι, s, hr, h⟩
    | region id ops d => obtain ⟨xs, h⟩ := cReg_reg hc; simp [ACode.erase] at h
    | _ => (simp only [cCode] at hc; (repeat' split at hc) <;> simp_all [ACode.erase])
end

end Go.AM
