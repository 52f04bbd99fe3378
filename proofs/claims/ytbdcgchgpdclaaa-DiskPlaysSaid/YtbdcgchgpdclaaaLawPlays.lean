/- The law DiskPlays: for every input it returns true and leaves its arguments as they were. -/
import Derived.Test.YtbdcgchgpdclaaaRows
import Derived.Test.YtbdcgchgpdclaaaChecked
import Derived.Test.YtbdcgchgpdclaaaDisk10
import Derived.Test.YtbdcgchgpdclaaaDisk12
namespace Go.Proofs.Ytbdcgchgpdclaaa
open Go Go.AM Go.ChangeShapes Go.WideShapes Go.ChangeAt Go.RowKit
set_option maxRecDepth 100000

theorem diskPlays_spec (H : Type) : ∀ ds : List (DataW H), ds.length = 2 → (Rows.diskPlaysSpec.fn H ds).results = [.lit (.bool true)] ∧ (Rows.diskPlaysSpec.fn H ds).args = ds ∧ (Rows.diskPlaysSpec.fn H ds).vars = []
  | [d1, d2], _ => ⟨rfl, rfl, rfl⟩
  | [], h => by cases h
  | [_], h => by cases h
  | _ :: _ :: _ :: _, h => by simp at h

theorem diskPlays_lifted (os : Os) (started : os.Started) (H : Type) (enc : TypeId × Value → H) :
    ReturnsInHanded {} Try.checked os 3 .any (Rows.diskPlaysSpec.pre6 enc Try.prog Try.f3 Rows.diskPlaysRow.domain false) (Rows.diskPlaysSpec.post enc Try.prog Try.f3 false true false false) := by
  refine returnsInHanded_of_change (C := Try.checked) own started (by kernel_rfl) Try.func3
    (ChangeSpec.witness6 (enc := enc) (C := Try.checked) false ⟨#[], #[.int .i64 0,.slice none 0 0], []⟩ 8 (by kernel_rfl) (by kernel_rfl) (by kernel_rfl) (by kernel_rfl)) ?_
  intro W base args ds gs before hval hW _ _
  refine law_step (n := 6) laidOut (by kernel_rfl) rfl (by kernel_rfl : Try.f3.resultTypes = #[4]) (by kernel_rfl) (fun H ds h => diskPlays_spec H ds ?_) ?_ W base args ds gs before hval hW
  · rw [Try.params3] at h; exact h
  · rw [Try.params3]
    intro xs h
    obtain ⟨x, _, rfl, h1, h⟩ := all2_cons h
    obtain ⟨y, _, rfl, h2, h⟩ := all2_cons h
    cases all2_nil h
    obtain ⟨k, rfl⟩ := arg_int h1
    obtain ⟨os, rfl, _⟩ := arg_ops h2
    exact sat_plays k os

theorem diskPlays_over : Rows.diskPlaysRow.holds Try.pinned (OpenSpec.ofChange Rows.diskPlaysSpec) :=
  OpenClaim.holds_of_wide 3 Try.f3 rfl rfl rfl rfl rfl rfl rfl ⟨rfl, rfl, rfl, rfl, rfl⟩ rfl rfl rfl rfl rfl (by kernel_rfl) Try.func3 (by kernel_rfl)
    (of_decide_eq_true (by kernel_rfl)) (by unfold Func.isWrapper; first | (rw [if_pos (by decide +kernel)]; kernel_rfl) | (rw [if_neg (by decide +kernel)]; exact ⟨rfl, rfl⟩))
    (fun os started H enc _ => diskPlays_lifted os started H enc)

theorem diskPlays_holds : Rows.DiskPlaysSaid := diskPlays_over
#print axioms diskPlays_holds
end Go.Proofs.Ytbdcgchgpdclaaa
