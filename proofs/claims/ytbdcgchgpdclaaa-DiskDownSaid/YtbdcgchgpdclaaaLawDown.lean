/- The law DiskDown: for every input it returns true and leaves its arguments as they were. -/
import Derived.Test.YtbdcgchgpdclaaaRows
import Derived.Test.YtbdcgchgpdclaaaChecked
import Derived.Test.YtbdcgchgpdclaaaDisk10
namespace Go.Proofs.Ytbdcgchgpdclaaa
open Go Go.AM Go.ChangeShapes Go.WideShapes Go.ChangeAt Go.RowKit
set_option maxRecDepth 100000

theorem diskDown_spec (H : Type) : ∀ ds : List (DataW H), ds.length = 2 → (Rows.diskDownSpec.fn H ds).results = [.lit (.bool true)] ∧ (Rows.diskDownSpec.fn H ds).args = ds ∧ (Rows.diskDownSpec.fn H ds).vars = []
  | [d1, d2], _ => ⟨rfl, rfl, rfl⟩
  | [], h => by cases h
  | [_], h => by cases h
  | _ :: _ :: _ :: _, h => by simp at h

theorem diskDown_lifted (os : Os) (started : os.Started) (H : Type) (enc : TypeId × Value → H) :
    ReturnsInHanded {} Try.checked os 6 .any (Rows.diskDownSpec.pre6 enc Try.prog Try.f6 Rows.diskDownRow.domain false) (Rows.diskDownSpec.post enc Try.prog Try.f6 false true false false) := by
  refine returnsInHanded_of_change (C := Try.checked) own started (by kernel_rfl) Try.func6
    (ChangeSpec.witness6 (enc := enc) (C := Try.checked) false ⟨#[], #[.agg #[.int .i64 0, .slice none 0 0, .int .i64 0, .int .i64 0, .bool false],.agg #[.int .i64 0, .int .i64 0, .slice none 0 0]], []⟩ 8 (by kernel_rfl) (by kernel_rfl) (by kernel_rfl) (by kernel_rfl)) ?_
  intro W base args ds gs before hval hW _ _
  refine law_step (n := 6) laidOut (by kernel_rfl) rfl (by kernel_rfl : Try.f6.resultTypes = #[4]) (by kernel_rfl) (fun H ds h => diskDown_spec H ds ?_) ?_ W base args ds gs before hval hW
  · rw [Try.params6] at h; exact h
  · rw [Try.params6]
    intro xs h
    obtain ⟨x, _, rfl, h1, h⟩ := all2_cons h
    obtain ⟨y, _, rfl, h2, h⟩ := all2_cons h
    cases all2_nil h
    obtain ⟨m, rfl⟩ := arg_dk h1
    obtain ⟨o, rfl⟩ := arg_op h2
    exact sat_down m o

theorem diskDown_over : Rows.diskDownRow.holds Try.pinned (OpenSpec.ofChange Rows.diskDownSpec) :=
  OpenClaim.holds_of_wide 6 Try.f6 rfl rfl rfl rfl rfl rfl rfl ⟨rfl, rfl, rfl, rfl, rfl⟩ rfl rfl rfl rfl rfl (by kernel_rfl) Try.func6 (by kernel_rfl)
    (of_decide_eq_true (by kernel_rfl)) (by unfold Func.isWrapper; first | (rw [if_pos (by decide +kernel)]; kernel_rfl) | (rw [if_neg (by decide +kernel)]; exact ⟨rfl, rfl⟩))
    (fun os started H enc _ => diskDown_lifted os started H enc)

theorem diskDown_holds : Rows.DiskDownSaid := diskDown_over
#print axioms diskDown_holds
end Go.Proofs.Ytbdcgchgpdclaaa
