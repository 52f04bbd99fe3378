/- The law DiskKeeps: for every input it returns true and leaves its arguments as they were. -/
import Derived.Test.YtbdcgchgpdclaaaRows
import Derived.Test.YtbdcgchgpdclaaaChecked
import Derived.Test.YtbdcgchgpdclaaaDisk10
import Derived.Test.YtbdcgchgpdclaaaDisk14
namespace Go.Proofs.Ytbdcgchgpdclaaa
open Go Go.AM Go.ChangeShapes Go.WideShapes Go.ChangeAt Go.RowKit
set_option maxRecDepth 100000

theorem diskKeeps_spec (H : Type) : ∀ ds : List (DataW H), ds.length = 3 → (Rows.diskKeepsSpec.fn H ds).results = [.lit (.bool true)] ∧ (Rows.diskKeepsSpec.fn H ds).args = ds ∧ (Rows.diskKeepsSpec.fn H ds).vars = []
  | [d1, d2, d3], _ => ⟨rfl, rfl, rfl⟩
  | [], h => by cases h
  | [_], h => by cases h
  | [_, _], h => by cases h
  | _ :: _ :: _ :: _ :: _, h => by simp at h

theorem diskKeeps_lifted (os : Os) (started : os.Started) (H : Type) (enc : TypeId × Value → H) :
    ReturnsInHanded {} Try.checked os 7 .any (Rows.diskKeepsSpec.pre6 enc Try.prog Try.f7 Rows.diskKeepsRow.domain false) (Rows.diskKeepsSpec.post enc Try.prog Try.f7 false true false false) := by
  refine returnsInHanded_of_change (C := Try.checked) own started (by kernel_rfl) Try.func7
    (ChangeSpec.witness6 (enc := enc) (C := Try.checked) false ⟨#[], #[.slice none 0 0,.slice none 0 0,.int .i64 0], []⟩ 8 (by kernel_rfl) (by kernel_rfl) (by kernel_rfl) (by kernel_rfl)) ?_
  intro W base args ds gs before hval hW _ _
  refine law_step (n := 6) laidOut (by kernel_rfl) rfl (by kernel_rfl : Try.f7.resultTypes = #[4]) (by kernel_rfl) (fun H ds h => diskKeeps_spec H ds ?_) ?_ W base args ds gs before hval hW
  · rw [Try.params7] at h; exact h
  · rw [Try.params7]
    intro xs h
    obtain ⟨x, _, rfl, h1, h⟩ := all2_cons h
    obtain ⟨y, _, rfl, h2, h⟩ := all2_cons h
    obtain ⟨z, _, rfl, h3, h⟩ := all2_cons h
    cases all2_nil h
    obtain ⟨b, rfl⟩ := arg_bytes h1
    obtain ⟨os, rfl, _⟩ := arg_ops h2
    obtain ⟨k, rfl⟩ := arg_int h3
    exact sat_keeps b os k

theorem diskKeeps_over : Rows.diskKeepsRow.holds Try.pinned (OpenSpec.ofChange Rows.diskKeepsSpec) :=
  OpenClaim.holds_of_wide 7 Try.f7 rfl rfl rfl rfl rfl rfl rfl ⟨rfl, rfl, rfl, rfl, rfl⟩ rfl rfl rfl rfl rfl (by kernel_rfl) Try.func7 (by kernel_rfl)
    (of_decide_eq_true (by kernel_rfl)) (by unfold Func.isWrapper; first | (rw [if_pos (by decide +kernel)]; kernel_rfl) | (rw [if_neg (by decide +kernel)]; exact ⟨rfl, rfl⟩))
    (fun os started H enc _ => diskKeeps_lifted os started H enc)

theorem diskKeeps_holds : Rows.DiskKeepsSaid := diskKeeps_over
#print axioms diskKeeps_holds
end Go.Proofs.Ytbdcgchgpdclaaa
