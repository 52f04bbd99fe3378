/- The boundary: what reads as data is data of the abstract machine, shown. -/
import Derived.Test.YtbdcgchgpdclaaaAmB1
import Derived.ChangeArms
import Derived.DataReads
namespace Go.AM

section
variable {H : Type} {enc : TypeId × Value → H} {P : Program} {w : World} {base : Nat} {spare : Nat → Bool} {held : Bool} {ι : Nat → Gh}

def Okw (w : World) (b : Nat) : Prop := b < w.heap.size

theorem addr_add' (a : Addr) (j : Nat) (h : a.spot = none) : a.add j = ⟨a.block, a.off + j, none⟩ := by
  cases a with
  | mk b o s => cases h; exact addr_add b o j

theorem cell_spot {a : Addr} {v : Value} (h : w.cell? a = some v) : a.spot = none ∧ a.block < w.heap.size := by
  unfold World.cell? at h
  split at h
  · rename_i hb
    cases hs : a.spot with
    | none => exact ⟨rfl, (Array.getElem?_eq_some_iff.1 hb).1⟩
    | some s => rw [hs] at h; simp at h
  · cases h

theorem RDc_of_CRs {b : Nat} : ∀ {ds : List D} {vs : List Value} {o : Nat}, CRs ι w (Okw w) (ds.map .d) vs → (∀ j v, vs[j]? = some v → w.cell? ⟨b, o + j, none⟩ = some v) → RDc w (Okw w) b o ds
  | [], _, _, _, _ => by simp only [RDc]
  | d :: ds, [], _, h, _ => h.elim
  | d :: ds, v :: vs, o, h, hc => by
    simp only [RDc]
    refine ⟨⟨v, hc 0 v rfl, h.1⟩, RDc_of_CRs h.2 fun j u hu => ?_⟩
    rw [show o + 1 + j = o + (j + 1) by omega]
    exact hc (j + 1) u (by simpa using hu)

theorem RDs_of {b sz : Nat} : ∀ (els : List (List D)) (o : Nat), (∀ (i : Nat) (e : List D), els[i]? = some e → e.length = sz ∧ RDc w (Okw w) b (o + i * sz) e) → RDs w (Okw w) b sz o els
  | [], _, _ => by simp only [RDs]
  | e :: r, o, h => by
    simp only [RDs]
    refine ⟨(h 0 e rfl).1, by simpa using (h 0 e rfl).2, RDs_of r (o + sz) fun i x hx => ?_⟩
    have := h (i + 1) x (by simpa using hx)
    refine ⟨this.1, ?_⟩
    rw [show o + sz + i * sz = o + (i + 1) * sz by rw [Nat.add_mul, Nat.one_mul]; omega]
    exact this.2
end

end Go.AM
