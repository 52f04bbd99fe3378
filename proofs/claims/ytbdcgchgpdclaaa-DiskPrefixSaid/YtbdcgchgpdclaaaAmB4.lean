/- The boundary: an argument that reads as data, as the abstract machine's: the theorem. -/
import Derived.Test.YtbdcgchgpdclaaaAmB3
namespace Go.AM

section
variable {H : Type} {enc : TypeId × Value → H} {P : Program} {w : World} {base : Nat} {spare : Nat → Bool} {held : Bool} {ι : Nat → Gh}

theorem readD : ∀ (n : Nat) (t : TypeId), plainTy P n t = true → ∀ (fuel : Nat) (cs : List Value) (x : DataW H × List MemPlace), DataW.trod enc P w base spare held fuel t cs = some x →
    ∃ ds, Ty P n t ds ∧ CRs ι w (Okw w) (ds.map .d) cs := by
  intro n
  induction n with
  | zero => intro t h; cases h
  | succ n ih =>
    intro t hp fuel cs x hx
    simp only [plainTy] at hp
    simp only [Ty]
    split at hp
    · rename_i hu
      obtain ⟨b, rfl, _⟩ := DataW.trod_bool hu hx
      exact ⟨_, ⟨b, rfl⟩, ⟨by simp only [CR, RD]; exact ⟨trivial, rfl⟩, trivial⟩⟩
    · rename_i k hu
      obtain ⟨m, rfl, _, hw⟩ := DataW.trod_int hu hx
      exact ⟨_, ⟨m, rfl, hw⟩, ⟨by simp only [CR, RD]; exact ⟨trivial, rfl⟩, trivial⟩⟩
    · rename_i hu
      obtain ⟨s, rfl, _, hw⟩ := DataW.trod_string hu hx
      exact ⟨_, ⟨s, rfl, hw⟩, ⟨by simp only [CR, RD]; exact ⟨trivial, rfl⟩, trivial⟩⟩
    · rename_i e hu
      rw [Bool.and_eq_true] at hp
      have hpos : 0 < P.cellsOf e := Nat.le_of_ble_eq_true hp.1
      rcases DataW.trod_slice hu hx with ⟨rfl, _⟩ | ⟨a, len, cap, elems, rest, m, _, rfl, _, hb, hl, hm, hlen, hel, _, _⟩
      · exact ⟨_, ⟨[], rfl, Nat.zero_le _, fun _ h => (by cases h)⟩, ⟨by simp only [CR, RD]; exact ⟨none, 0, 0, rfl, rfl, Nat.le_refl _, Nat.zero_le _, .inl trivial⟩, trivial⟩⟩
      · obtain ⟨els, h1, h2, h3⟩ := els_of (w := w) (ι := ι) (R := Ty P n e) (ok := Okw w) (g := fun i => w.cells? base (a.add (i * P.cellsOf e)) (P.cellsOf e)) len (fun i hi => by
          have h := hel i hi
          rw [List.getElem?_eq_getElem (by omega)] at h
          obtain ⟨cs', g1, g2⟩ := Option.bind_eq_some_iff.1 h
          obtain ⟨ds, g3, g4⟩ := ih e hp.2 m cs' _ g2
          exact ⟨cs', ds, g1, g3, g4⟩)
        refine ⟨_, ⟨els, rfl, by omega, h2⟩, ⟨?_, trivial⟩⟩
        simp only [CR, RD]
        refine ⟨some a, len, cap, rfl, h1.symm, hl, hm, ?_⟩
        cases hels : els with
        | nil => exact .inl rfl
        | cons e0 r =>
          right
          have hcell : ∀ i y, els[i]? = some y → ∃ cs', cs'.length = P.cellsOf e ∧ (∀ j, j < P.cellsOf e → w.cell? ((a.add (i * P.cellsOf e)).add j) = cs'[j]?) ∧ CRs ι w (Okw w) (y.map .d) cs' := fun i y hy => by
            obtain ⟨cs', g1, g2⟩ := h3 i y hy
            obtain ⟨_, g3, g4⟩ := World.cells?_some g1
            exact ⟨cs', g3, g4, g2⟩
          obtain ⟨cs0, c1, c2, _⟩ := hcell 0 e0 (by rw [hels]; rfl)
          have hc0 := c2 0 hpos
          rw [List.getElem?_eq_getElem (by omega)] at hc0
          have hspot : a.spot = none ∧ a.block < w.heap.size := by
            have := cell_spot hc0
            refine ⟨?_, ?_⟩
            · cases hs : a.spot with
              | none => rfl
              | some s => exfalso; have h5 := this.1; simp [Addr.add, hs] at h5
            · have h5 := this.2
              unfold Addr.add at h5
              (repeat' split at h5) <;> exact h5
          refine ⟨a.block, a.off, P.cellsOf e, ?_, hspot.2, ?_⟩
          · obtain ⟨b, o, s⟩ := a
            cases hspot.1; rfl
          · rw [← hels]
            refine RDs_of els a.off fun i y hy => ?_
            obtain ⟨cs', g1, g2, g3⟩ := hcell i y hy
            refine ⟨by rw [RDc_len g3, g1], RDc_of_CRs g3 fun j v hv => ?_⟩
            have hj : j < P.cellsOf e := by rw [← g1]; exact (List.getElem?_eq_some_iff.1 hv).1
            have := g2 j hj
            rw [addr_add' a _ hspot.1, addr_add] at this
            rw [this, hv]
    · rename_i fs hu
      rw [Bool.and_eq_true] at hp
      obtain ⟨hp1, hp2⟩ := hp
      split at hp1
      · rename_i m hm
        have hm' := Nat.eq_of_beq_eq_true hp1
        obtain ⟨xs, k, _, _, hlen, hxs, hf⟩ := DataW.trod_struct hu hx
        obtain ⟨_, dss, h1, h2⟩ := fields_of (w := w) (ι := ι) (ok := Okw w) (n := n) cs fs.toList 0 m hm (by omega) (fun f hfm => by
          obtain ⟨i, hi⟩ := List.getElem?_of_mem hfm
          have hi' : fs[i]? = some f := by rw [← Array.getElem?_toList]; exact hi
          have hlt : i < xs.length := by rw [hxs]; exact (Array.getElem?_eq_some_iff.1 hi').1
          have h := hf i f hi'
          rw [List.getElem?_eq_getElem hlt] at h
          exact ih f.type (List.all_eq_true.1 hp2 f hfm) k _ _ h)
        refine ⟨dss.flatten, ⟨dss, rfl, h1⟩, ?_⟩
        rw [List.drop_zero, Nat.sub_zero, List.take_of_length_le (by omega)] at h2
        exact h2
      · cases hp1
    · cases hp
end

end Go.AM
