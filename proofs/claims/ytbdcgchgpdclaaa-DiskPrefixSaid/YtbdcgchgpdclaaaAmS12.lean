/- Soundness of the abstract machine: operations whose place in a drawn order does not matter. -/
import Derived.Test.YtbdcgchgpdclaaaAmS10
namespace Go.AM

section
variable {P : Program} {F : Fr} {N : Nat} {ι : Nat → Gh} {s : S} {a : Act} {w : World} {o : Oper} {K : S → Prop}

/-- The worlds in which what the operation computes stays the same. -/
def Cw (x : AOp) (w w' : World) : Prop := x.reads = true → Ext w w'

theorem FineQ.weak {C C' : World → Prop} (h : FineQ P F N o a w C K) (hc : ∀ w', C' w' → C w') : FineQ P F N o a w C' K :=
  let ⟨v, ι', s', h1, h2, h3⟩ := h
  ⟨v, ι', s', fun w' hw => h1 w' (hc w' hw), h2, h3⟩

theorem aopQ_sound (hr : Rel F N ι s a w) (hd : ∀ k, o.dst = some k → k < N) {x : AOp} (hx : cOp P o.op o.type = some x) (hq : x.quiet = true) (h : aop P o.dst x s K) : FineQ P F N o a w (Cw x w) K := by
  unfold cOp at hx
  split at hx
  · rename_i y ho; cases hx; exact (sound_mov hr hd (.inl ho) h).weak fun _ _ => trivial
  · rename_i y ho; cases hx; exact (sound_mov hr hd (.inr ho) h).weak fun _ _ => trivial
  · rename_i c y z ho; cases hx; exact (sound_pick hr hd ho h).weak fun _ _ => trivial
  · cases hx; cases hq
  · cases hx; cases hq
  · rename_i t parts ho
    split at hx
    · rename_i fs l hu hl
      obtain ⟨hc, rfl⟩ := okv_spec hx
      rw [Bool.and_eq_true] at hc
      exact (sound_build hr hd ho hu hl hc.1 hc.2 h).weak fun _ _ => trivial
    · cases hx
  · split at hx
    · obtain ⟨_, rfl⟩ := okv_spec hx; cases hq
    · cases hx
  · rename_i t y ho
    split at hx
    · rename_i g ht; cases hx; exact (sound_ld hr hd ho ht h).weak fun _ hc => hc rfl
    · cases hx
  · obtain ⟨_, rfl⟩ := okv_spec hx; cases hq
  · rename_i y ho; cases hx; exact (sound_nc hr hd ho h).weak fun _ _ => trivial
  · rename_i src dst y ho
    cases h1 : isKind P src false && isKind P dst true
    · rw [h1] at hx
      cases h2 : isKind P src true && isKind P dst false
      · rw [h2] at hx
        simp only [cond_false] at hx
        cases h3 : convOp P src dst y with
        | none => simp only [h3] at hx; cases hx; exact (sound_pure hr hd (by rw [ho]; rfl) h).weak fun _ _ => trivial
        | some z => simp only [h3] at hx; cases hx; exact (sound_conv hr hd ho h3 h).2.weak fun _ _ => trivial
      · rw [h2] at hx; cases hx; cases hq
    · rw [h1] at hx; cases hx
      rw [Bool.and_eq_true] at h1
      exact (sound_b2s hr hd ho h1.1 h1.2 h).weak fun _ hc => hc rfl
  · obtain ⟨_, rfl⟩ := okv_spec hx; cases hq
  · split at hx
    · split at hx
      · obtain ⟨_, rfl⟩ := okv_spec hx; cases hq
      · cases hx
    · cases hx
  · rename_i t y lo hi mx ho
    split at hx
    · rename_i hu; cases hx; exact (sound_sls hr hd ho hu h).weak fun _ _ => trivial
    · rename_i e hu
      obtain ⟨hc, rfl⟩ := okv_spec hx
      obtain ⟨i, hi'⟩ := isSome_spec hc
      exact (sound_sli hr hd ho hu hi' h).weak fun _ _ => trivial
    · cases hx
  · rename_i t y f ho
    split at hx
    · rename_i off ft ht
      obtain ⟨hc, rfl⟩ := okv_spec hx
      exact (sound_fa hr hd ho ht hc h).weak fun _ _ => trivial
    · cases hx
  · rename_i t y f ho
    split at hx
    · rename_i off ft ht
      split at hx
      · rename_i g hg; cases hx; exact (sound_fld hr hd ho ht hg h).weak fun _ _ => trivial
      · cases hx
    · cases hx
  · rename_i t y i ho
    split at hx
    · rename_i e ht
      obtain ⟨hc, rfl⟩ := okv_spec hx
      exact (sound_ia hr hd ho ht hc h).weak fun _ _ => trivial
    · cases hx
  · rename_i t y i ho
    split at hx
    · rename_i hu; cases hx; exact (sound_six hr hd ho hu h).weak fun _ _ => trivial
    · cases hx
  · rename_i y i ho; cases hx; exact (sound_ext hr hd ho h).weak fun _ _ => trivial
  · rename_i args ts ho
    split at hx
    · rename_i y t hargs hts
      split at hx
      · rename_i e ht; cases hx; exact (sound_len hr hd ho hargs hts ht h).weak fun _ _ => trivial
      · cases h3 : lenOp P t y with
        | none => simp only [h3] at hx; cases hx; exact (sound_pure hr hd (by rw [ho]; rfl) h).weak fun _ _ => trivial
        | some z => simp only [h3] at hx; cases hx; exact (sound_slen hr hd ho hargs hts h3 h).2.weak fun _ _ => trivial
    · cases hx
  · split at hx
    · split at hx
      · obtain ⟨_, rfl⟩ := okv_spec hx; cases hq
      · obtain ⟨_, rfl⟩ := okv_spec hx; cases hq
      · cases hx
    · cases hx
  · cases hx; cases hq
  · cases hx; cases hq
  · rename_i b args ts h1 h2 ho
    cases hm : mmOp b args.toList with
    | some y => simp only [hm] at hx; cases hx; exact (sound_mm hr hd ho hm h).weak fun _ _ => trivial
    | none => simp only [hm] at hx; cases hx; exact (sound_pure hr hd (by rw [ho]; rfl) h).weak fun _ _ => trivial
  · rename_i b t y z u ho
    cases hn : nilCmp P b t z with
    | some neg => simp only [hn] at hx; cases hx; exact (sound_isn hr hd ho hn h).weak fun _ _ => trivial
    | none =>
    simp only [hn] at hx
    cases h3 : eqaOp P b t y z with
    | some q => simp only [h3] at hx; cases hx; exact (sound_eqa hr hd ho h3 h).2.weak fun _ _ => trivial
    | none =>
    simp only [h3] at hx
    cases h1 : plainBin b && isBasic P t
    · rw [h1] at hx; cases hx; exact (sound_pure hr hd (by rw [ho]; rfl) h).weak fun _ _ => trivial
    · rw [h1] at hx; cases hx; exact (sound_bin hr hd ho h).weak fun _ _ => trivial
  · rename_i u t y ho; cases hx; exact (sound_pure hr hd (by rw [ho]; rfl) h).weak fun _ _ => trivial
  · cases hx

theorem convOp_is {s t : TypeId} {x : Operand} {z : AOp} (h : convOp P s t x = some z) : isCall z = false := by
  unfold convOp at h
  (repeat' split at h) <;> cases h <;> rfl
theorem lenOp_is {t : TypeId} {x : Operand} {z : AOp} (h : lenOp P t x = some z) : isCall z = false := by
  unfold lenOp at h
  (repeat' split at h) <;> cases h <;> rfl
theorem eqaOp_is {b : BinOp} {t : TypeId} {x y : Operand} {z : AOp} (h : eqaOp P b t x y = some z) : isCall z = false := by
  unfold eqaOp at h
  (repeat' split at h) <;> cases h <;> rfl
theorem bif_or {α : Type} {c : Bool} {p q r : α} (h : (bif c then p else q) = r) : p = r ∨ q = r := by
  cases c
  · exact .inr h
  · exact .inl h

/-- A call leaves what was there as it was. -/
theorem aopX_sound (hr : Rel F N ι s a w) (hd : ∀ k, o.dst = some k → k < N) {x : AOp} (hx : cOp P o.op o.type = some x) (hq : isCall x = true) (h : aop P o.dst x s K) : FineX P F N o a w K := by
  unfold cOp at hx
  split at hx
  case h_22 => rename_i f args ts ho; cases hx; exact sound_call hr hd ho h
  case h_23 => rename_i y args ts ho hne; cases hx; exact sound_calv hr hd hne h
  case h_24 =>
    rename_i b args ts h1 h2 ho
    cases hm : mmOp b args.toList with
    | some y =>
      simp only [hm] at hx
      cases hx
      obtain ⟨x1, y1, _, ⟨_, rfl⟩ | ⟨_, rfl⟩⟩ := mmOp_spec hm <;> cases hq
    | none => simp only [hm] at hx; cases hx; cases hq
  case h_11 =>
    rcases bif_or hx with h1 | h1
    · cases h1; cases hq
    · rcases bif_or h1 with h1 | h1
      · cases h1; cases hq
      · split at h1
        · rename_i z h3; cases h1; rw [convOp_is h3] at hq; cases hq
        · cases h1; cases hq
  case h_20 =>
    (repeat' split at hx)
    · cases hx; cases hq
    · rename_i h3; cases hx; rw [lenOp_is h3] at hq; cases hq
    · cases hx; cases hq
    · cases hx
  case h_25 =>
    (repeat' split at hx)
    · cases hx; cases hq
    · rename_i h3; cases hx; rw [eqaOp_is h3] at hq; cases hq
    · rcases bif_or hx with h1 | h1 <;> (cases h1; cases hq)
  all_goals first
    | (cases hx; done)
    | (rcases bif_or hx with h1 | h1 <;> (cases h1; cases hq); done)
    | (split at hx <;> first | (cases hx; cases hq; done) | (rcases bif_or hx with h1 | h1 <;> (cases h1; cases hq); done))
    | (cases hx; cases hq; done)
    | (obtain ⟨_, rfl⟩ := okv_spec hx; cases hq; done)
    | (exfalso; repeat' split at hx) <;> first | (cases hx; done) | (cases hx; cases hq; done) | (obtain ⟨_, rfl⟩ := okv_spec hx; cases hq; done) | skip
end

end Go.AM
