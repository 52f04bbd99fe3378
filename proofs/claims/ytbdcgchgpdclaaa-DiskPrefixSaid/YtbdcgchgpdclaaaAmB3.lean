/- The boundary: an argument that reads as data, as the abstract machine's. -/
import Derived.Test.YtbdcgchgpdclaaaAmB2
namespace Go.AM

section
variable {H : Type} {enc : TypeId × Value → H} {P : Program} {w : World} {base : Nat} {spare : Nat → Bool} {held : Bool} {ι : Nat → Gh}

theorem RDc_len {ok : Nat → Prop} : ∀ {ds : List D} {vs : List Value}, CRs ι w ok (ds.map .d) vs → ds.length = vs.length := fun h => by
  have := h.length
  simpa using this

/-- The elements of a row, each of which reads. -/
theorem els_of {R : List D → Prop} {ok : Nat → Prop} {g : Nat → Option (List Value)} : ∀ (len : Nat), (∀ i, i < len → ∃ cs ds, g i = some cs ∧ R ds ∧ CRs ι w ok (ds.map .d) cs) →
    ∃ els : List (List D), els.length = len ∧ (∀ y ∈ els, R y) ∧ ∀ i e, els[i]? = some e → ∃ cs, g i = some cs ∧ CRs ι w ok (e.map .d) cs
  | 0, _ => ⟨[], rfl, fun _ h => (by cases h), fun i e h => (by simp at h)⟩
  | n + 1, h => by
    obtain ⟨els, h1, h2, h3⟩ := els_of (R := R) (ok := ok) (g := g) n (fun i hi => h i (by omega))
    obtain ⟨cs, ds, h4, h5, h6⟩ := h n (by omega)
    refine ⟨els ++ [ds], by simp [h1], fun y hy => ?_, fun i e he => ?_⟩
    · rcases List.mem_append.1 hy with hy | hy
      · exact h2 y hy
      · simp at hy; subst hy; exact h5
    · by_cases hi : i < els.length
      · rw [List.getElem?_append_left hi] at he
        exact h3 i e he
      · rw [List.getElem?_append_right (by omega)] at he
        have : i - els.length = 0 := by
          rcases Nat.eq_zero_or_pos (i - els.length) with h | h
          · exact h
          · rw [List.getElem?_eq_none (by simp; omega)] at he; cases he
        rw [this] at he
        simp at he
        subst he
        rw [show i = n by omega]
        exact ⟨cs, h4, h6⟩

/-- Fields one behind the other. -/
theorem fields_of {ok : Nat → Prop} {n : Nat} (cs : List Value) : ∀ (fs : List Field) (o m : Nat), laid P o fs = some m → m ≤ cs.length →
    (∀ f ∈ fs, ∃ ds, Ty P n f.type ds ∧ CRs ι w ok (ds.map .d) ((cs.drop f.offset).take (P.cellsOf f.type))) →
    o ≤ m ∧ ∃ dss : List (List D), All2 (fun f d => Ty P n f.type d) fs dss ∧ CRs ι w ok (dss.flatten.map .d) ((cs.drop o).take (m - o))
  | [], o, m, h, _, _ => by
    cases h
    exact ⟨Nat.le_refl _, [], trivial, by simp; trivial⟩
  | f :: fs, o, m, h, hm, hall => by
    simp only [laid] at h
    cases hb : Nat.beq f.offset o with
    | false => rw [hb] at h; cases h
    | true =>
      rw [hb] at h
      have hb := Nat.eq_of_beq_eq_true hb
      obtain ⟨ds, h1, h2⟩ := hall f List.mem_cons_self
      obtain ⟨h3, dss, h4, h5⟩ := fields_of cs fs _ m h hm fun f' hf => hall f' (List.mem_cons_of_mem _ hf)
      refine ⟨by omega, ds :: dss, ⟨h1, h4⟩, ?_⟩
      rw [hb] at h2
      rw [List.flatten_cons, List.map_append]
      have : (cs.drop o).take (m - o) = (cs.drop o).take (P.cellsOf f.type) ++ (cs.drop (o + P.cellsOf f.type)).take (m - (o + P.cellsOf f.type)) := by
        rw [show m - o = P.cellsOf f.type + (m - (o + P.cellsOf f.type)) by omega, List.take_add, List.drop_drop]
      rw [this]
      exact CRs.append h2 h5
end

end Go.AM
