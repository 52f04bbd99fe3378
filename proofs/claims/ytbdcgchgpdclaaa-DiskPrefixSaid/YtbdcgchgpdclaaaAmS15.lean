/- Soundness of the abstract machine: a new variable that an order brings early. -/
import Derived.Test.YtbdcgchgpdclaaaAmS13
namespace Go.AM

section
variable {P : Program} {F F' : Fr} {N : Nat} {ι : Nat → Gh} {s : S} {a : Act} {w : World}

/-- What a frame inside the frame F knows, a block b of F's own being left out. -/
structure Under (F F' : Fr) (b : Nat) : Prop where
  A : ∀ x, F'.A x → (F.A x ∨ F.M x ∨ F.w0.heap.size ≤ x) ∧ x ≠ b
  M : ∀ x, F'.M x → (F.M x ∨ F.w0.heap.size ≤ x) ∧ x ≠ b
  g : Grows F.M F.w0 F'.w0
  h : F'.h = F.h
  b1 : F.w0.heap.size ≤ b
  b2 : b < F'.w0.heap.size

theorem Rel.hide (hr : Rel F N ι s a w) {w1 : World} (hg : Grows (fun _ => False) w w1) (hb : w.heap.size < w1.heap.size) :
    ∃ F', Under F F' w.heap.size ∧ F'.w0 = w1 ∧ Rel F' N ι s a w1 := by
  have hr1 := hr.grown hg
  let F' : Fr := ⟨w1, fun x => F.ok ι s.pl w1 x ∧ x ≠ w.heap.size, Owns ι s.pl, F.h⟩
  have hkeep : Keeps w w1 (F.ok ι s.pl w) (F'.ok ι s.pl w1) := fun x hx =>
    ⟨⟨.inl ⟨⟨hx.1, Nat.lt_of_lt_of_le hx.2.1 hg.size, hx.2.2⟩, by have := hx.2.1; omega⟩, Nat.lt_of_lt_of_le hx.2.1 hg.size, hx.2.2⟩, hg.block x hx.2.1 (fun h => h)⟩
  have hsh := Shapes.of_grows hg
  refine ⟨F', ⟨fun x hx => ⟨hx.1.1, hx.2⟩, fun x hx => ⟨(hr.mine x hx).1, by have := (hr.mine x hx).2; omega⟩, hr1.grows, rfl, hr.grows.size, hb⟩, rfl, ?_⟩
  refine ⟨hr.room, fun k v hv => ?_, fun p x hx => ?_, hr.inj, fun x hx => ⟨.inl hx, (hr1.mine x hx).2⟩, hr.defers, Grows.refl _ _, fun x hx => ⟨hx.1.2.1, hx.1.2.2⟩, fun x hx => (hr1.mine x hx).2, hr.few, hr.hdom, hr.hkeep⟩
  · obtain ⟨x, e1, e2⟩ := hr.slots k v hv
    exact ⟨x, e1, VR.keep hkeep hsh v x e2⟩
  · have h := hr.places p x hx
    cases x with
    | fbox ds => obtain ⟨b, e1, e2, e3⟩ := h; exact ⟨b, e1, (hkeep b e2).1, RDc.keep hkeep b e2 _ _ e3⟩
    | gone => exact h.elim
    | box cs => obtain ⟨b, cur, e1, ⟨t, e2⟩, e3⟩ := h; exact ⟨b, cur, e1, ⟨t, by rw [hg.block b (RowAt.lt ⟨t, e2⟩) (fun h => h)]; exact e2⟩, CRs.keep hkeep hsh _ _ e3⟩
    | arr sz els fz =>
      obtain ⟨h0, hn, h | ⟨b, e1, e2, e3, e4⟩⟩ := h
      · exact ⟨h0, hn, .inl h⟩
      · have hlt : b < w.heap.size := by
          cases fz
          · obtain ⟨cur, e5, _⟩ := e4 rfl; exact e5.lt
          · exact (e3 rfl).2.1
        refine ⟨h0, hn, .inr ⟨b, e1, RDs.keep' hkeep b sz els 0 (fun j _ _ => cell_of_heap (hg.block b hlt (fun h => h)) j) e2, fun hf => (hkeep b (e3 hf)).1, fun hf => ?_⟩⟩
        obtain ⟨cur, ⟨t, e5⟩, e6⟩ := e4 hf
        exact ⟨cur, ⟨t, by rw [hg.block b hlt (fun h => h)]; exact e5⟩, e6⟩

theorem Rel.unhide {b : Nat} (hr : Rel F' N ι s a w) (hu : Under F F' b) (hf : ∀ x, F.A x → x < F.w0.heap.size ∧ ¬ F.M x) (hh : ∀ x, F.M x → x < F.w0.heap.size) {cur : Array Value} (hrow : RowAt F'.w0 b cur)
    {cs : List C} (hcs : ∀ ι w ok, CRs ι w ok cs cur.toList) {d : Nat} (hd : d < N) :
    Rel F N (upd ι d ⟨some b, 0⟩) ((s.place d (.box cs)).put (some d) (cV (.ptr d 0))) (a.put (some d) (.pointer (some ⟨b, 0, none⟩))) w := by
  let ι' := upd ι d ⟨some b, 0⟩
  have hbM : ¬ F'.M b := fun h => (hu.M b h).2 rfl
  have hrow' : RowAt w b cur := by
    obtain ⟨t, h⟩ := hrow
    exact ⟨t, by rw [hr.grows.block b hu.b2 hbM]; exact h⟩
  have hne : ∀ x, F'.ok ι s.pl w x → x ≠ b := by
    intro x hx he
    subst he
    rcases hx.1 with h | h | h
    · exact (hu.A _ h).2 rfl
    · exact (hu.M _ h).2 rfl
    · have := hu.b2; omega
  have hnot : ¬ Owns ι s.pl b := by
    intro h
    rcases (hr.mine b h).1 with h | h
    · exact hbM h
    · have := hu.b2; omega
  have hιd : ι' d = ⟨some b, 0⟩ := upd_same _ _ _
  have hιo : ∀ p, isin p [d] = false → ι' p = ι p := fun p hp => upd_other ι _ (isin_one hp)
  have hget : ∀ p x, aget (s.place d (.box cs)).pl p = some x → (p = d ∧ x = .box cs) ∨ (p ≠ d ∧ ∃ y, aget s.pl p = some y ∧ x = y.kill [d]) := by
    intro p x hx
    unfold S.place at hx
    rw [S.redo_pl] at hx
    simp only [aget_cons] at hx
    by_cases hpd : d = p
    · subst hpd
      simp only [if_true, Option.some.injEq] at hx
      exact .inl ⟨rfl, hx.symm⟩
    · rw [if_neg hpd] at hx
      simp only [aget] at hx
      split at hx
      · cases hp : aget s.pl p with
        | none => rw [hp] at hx; cases hx
        | some y => rw [hp] at hx; simp at hx; exact .inr ⟨fun e => hpd e.symm, y, rfl, hx.symm⟩
      · cases hx
  have hisin : ∀ p, p ≠ d → isin p [d] = false := fun p hp => by
    cases h : isin p [d] with
    | false => rfl
    | true => have := (isin_iff p [d]).1 h; simp at this; exact absurd this hp
  have hown : ∀ x, Owns ι' (s.place d (.box cs)).pl x → x = b ∨ Owns ι s.pl x := by
    rintro x ⟨p, y, h1, h2, h3⟩
    rcases hget p y h1 with ⟨rfl, rfl⟩ | ⟨hp, z, hz, rfl⟩
    · rw [hιd] at h3; cases h3; exact .inl rfl
    · rw [hιo p (hisin p hp)] at h3
      rw [Pl.live_kill] at h2
      exact .inr ⟨p, z, hz, h2, h3⟩
  have hkeep : Keeps w w (F'.ok ι s.pl w) (F.ok ι' (s.place d (.box cs)).pl w) := by
    intro x hx
    refine ⟨⟨?_, hx.2.1, fun ho => ?_⟩, rfl⟩
    · rcases hx.1 with h | h | h
      · exact (hu.A x h).1
      · exact (hu.M x h).1.elim (fun h => .inr (.inl h)) (fun h => .inr (.inr h))
      · exact .inr (.inr (Nat.le_trans hu.g.size h))
    · rcases hown x ho with h | h
      · exact hne x hx h
      · exact hx.2.2 h
  have hrel : Rel F N ι' (s.place d (.box cs)) a w := by
    refine ⟨hr.room, fun k v hv => ?_, fun p x hx => ?_, ?_, ?_, hr.defers, ?_, hf, hh, hr.few, by rw [← hu.h]; exact hr.hdom, fun p x g hx hg => ?_⟩
    rotate_left 5
    · rw [← hu.h] at hg
      rcases hget p x hx with ⟨rfl, _⟩ | ⟨hp, z, hz, _⟩
      · rw [hr.h_slot hd] at hg; cases hg
      · rw [hιo p (hisin p hp)]; exact hr.hkeep p z g hz hg
    · unfold S.place at hv
      rw [S.redo_sl] at hv
      cases hk : aget s.sl k with
      | none => rw [hk] at hv; cases hv
      | some u =>
        rw [hk] at hv; simp at hv; subst hv
        obtain ⟨x, e1, e2⟩ := hr.slots k u hk
        exact ⟨x, e1, VR.kill hkeep (Shapes.refl w) hιo u x e2⟩
    · rcases hget p x hx with ⟨rfl, rfl⟩ | ⟨hp, z, hz, rfl⟩
      · exact ⟨b, cur, by rw [hιd], hrow', hcs _ _ _⟩
      · exact PR.kill hkeep (Shapes.refl w) hιo p (hisin p hp) z (fun _ _ _ => rfl) (hr.places p z hz)
    · intro p q x y b' hx hy hpq hl hb' hq
      rcases hget p x hx with ⟨rfl, rfl⟩ | ⟨hp, z, hz, rfl⟩ <;> rcases hget q y hy with ⟨rfl, rfl⟩ | ⟨hq', u, hu', rfl⟩
      · exact hpq rfl
      · rw [hιd] at hb'; cases hb'
        rw [hιo q (hisin q hq')] at hq
        have h := hr.places q u hu'
        cases u with
        | box cs => exact hnot ⟨q, _, hu', rfl, hq⟩
        | fbox ds => obtain ⟨b'', e1, e2, _⟩ := h; rw [hq] at e1; cases e1; exact hne _ e2 rfl
        | gone => exact h.elim
        | arr z els fz => cases fz with
          | false => exact hnot ⟨q, _, hu', rfl, hq⟩
          | true =>
            obtain ⟨_, _, h | ⟨b'', e1, _, e3, _⟩⟩ := h
            · rw [hq] at h; cases h.1
            · rw [hq] at e1; cases e1
              exact hne _ (e3 rfl) rfl
      · rw [hιd] at hq; cases hq
        rw [hιo p (hisin p hp)] at hb'
        rw [Pl.live_kill] at hl
        exact hnot ⟨p, z, hz, hl, hb'⟩
      · rw [hιo p (hisin p hp)] at hb'
        rw [hιo q (hisin q hq')] at hq
        rw [Pl.live_kill] at hl
        exact hr.inj p q z u b' hz hu' hpq hl hb' hq
    · intro x hx
      rcases hown x hx with rfl | h
      · exact ⟨.inr hu.b1, Nat.lt_of_lt_of_le hu.b2 hr.grows.size⟩
      · refine ⟨?_, (hr.mine x h).2⟩
        rcases (hr.mine x h).1 with h | h
        · exact (hu.M x h).1
        · exact .inr (Nat.le_trans hu.g.size h)
    · refine ⟨hr.grows.os.trans hu.g.os, hr.grows.tape.trans hu.g.tape, hr.grows.output.trans hu.g.output, Nat.le_trans hu.g.size hr.grows.size, fun x hx hm => ?_, fun c t m h => hr.grows.shapes c t m (hu.g.shapes c t m h)⟩
      rw [hr.grows.block x (Nat.lt_of_lt_of_le hx hu.g.size) (fun h => (hu.M x h).1.elim hm (fun h => by omega))]
      exact hu.g.block x hx hm
  exact hrel.put (some d) (fun k hk => by cases hk; exact hd) _ _ ⟨b, by rw [hιd], rfl⟩

/-- Where an operation of class 4 is carried out. -/
theorem alloc_run {o : Oper} {cs : List C} (hx : cOp P o.op o.type = some (.alloc cs)) (hs : solid cs = true) :
    ∃ t cur, (∀ ι w ok, CRs ι w ok cs (cur : Array Value).toList) ∧ ∀ (a : Act) (w : World), (execOp a.eval o).run P w = .ok (.value (.pointer (some ⟨w.heap.size, 0, none⟩))) (w.alloc (.cells cur t)) := by
  have key : ∃ t, o.op = .alloc t ∧ cs = (tzero P t).cells := by
    unfold cOp at hx
    split at hx
    case h_4 => rename_i t ho; cases hx; exact ⟨t, ho, rfl⟩
    case h_24 =>
      rename_i b args ts h1 h2 ho
      cases hm : mmOp b args.toList with
      | some y =>
        simp only [hm] at hx
        cases hx
        obtain ⟨x1, y1, _, ⟨_, h⟩ | ⟨_, h⟩⟩ := mmOp_spec hm <;> cases h
      | none => simp only [hm] at hx; cases hx
    case h_11 =>
      rcases bif_or hx with h1 | h1
      · cases h1
      · rcases bif_or h1 with h1 | h1
        · cases h1
        · split at h1
          · rename_i z h3; cases h1; unfold convOp at h3; (repeat' split at h3) <;> cases h3
          · cases h1
    case h_20 =>
      (repeat' split at hx)
      · cases hx
      · rename_i h3; cases hx; unfold lenOp at h3; (repeat' split at h3) <;> cases h3
      · cases hx
      · cases hx
    case h_25 =>
      (repeat' split at hx)
      · cases hx
      · rename_i h3; cases hx; unfold eqaOp at h3; (repeat' split at h3) <;> cases h3
      · rcases bif_or hx with h1 | h1 <;> cases h1
    all_goals first
      | (cases hx; done)
      | (rcases bif_or hx with h1 | h1 <;> (cases h1; done); done)
      | (split at hx <;> first | (cases hx; done) | (rcases bif_or hx with h1 | h1 <;> (cases h1; done); done))
      | (obtain ⟨_, h⟩ := okv_spec hx; cases h; done)
      | ((repeat' split at hx) <;> first | (cases hx; done) | (obtain ⟨_, h⟩ := okv_spec hx; cases h; done))
  obtain ⟨t, ho, rfl⟩ := key
  unfold tzero at hs ⊢
  cases hi : P.info? t with
  | none => simp only [hi] at hs; cases hs
  | some i =>
    simp only [hi] at hs ⊢
    cases hz : i.zero with
    | none => simp only [hz] at hs; cases hs
    | some v =>
      simp only [hz] at hs ⊢
      rw [ofValue_cells hs]
      exact ⟨t, v.cells, fun ι w ok => CRs_ofCell ι w ok v.cells.toList, fun a w => by simp [execOp, ho, Instr.alloc, zeroValue, typeInfo, hi, hz, newVar, newRow]⟩

theorem Grows.alloc (w : World) (cur : Array Value) (t : TypeId) : Grows (fun _ => False) w (w.alloc (.cells cur t)) := by
  have h := NewRow.alloc w cur t
  exact ⟨h.os, h.tape, h.output, by rw [h.size]; omega, fun b hb _ => h.old hb, h.shapes⟩
end

end Go.AM
