/- The law DiskPrefix: for every input it returns true and leaves its arguments as they were. -/
import Derived.Test.YtbdcgchgpdclaaaRows
import Derived.Test.YtbdcgchgpdclaaaChecked
import Derived.Test.YtbdcgchgpdclaaaDisk10
import Derived.Test.YtbdcgchgpdclaaaDisk16
namespace Go.Proofs.Ytbdcgchgpdclaaa
open Go Go.AM Go.ChangeShapes Go.WideShapes Go.ChangeAt Go.RowKit
set_option maxRecDepth 100000

theorem diskPrefix_spec (H : Type) : ∀ ds : List (DataW H), ds.length = 2 → (Rows.diskPrefixSpec.fn H ds).results = [.lit (.bool true)] ∧ (Rows.diskPrefixSpec.fn H ds).args = ds ∧ (Rows.diskPrefixSpec.fn H ds).vars = []
  | [d1, d2], _ => ⟨rfl, rfl, rfl⟩
  | [], h => by cases h
  | [_], h => by cases h
  | _ :: _ :: _ :: _, h => by simp at h

theorem diskPrefix_lifted (os : Os) (started : os.Started) (H : Type) (enc : TypeId × Value → H) :
    ReturnsInHanded {} Try.checked os 5 .any (Rows.diskPrefixSpec.pre6 enc Try.prog Try.f5 Rows.diskPrefixRow.domain false) (Rows.diskPrefixSpec.post enc Try.prog Try.f5 false true false false) := by
  refine returnsInHanded_of_change (C := Try.checked) own started (by kernel_rfl) Try.func5
    (ChangeSpec.witness6 (enc := enc) (C := Try.checked) false ⟨#[], #[.slice none 0 0,.int .i64 0], []⟩ 8 (by kernel_rfl) (by kernel_rfl) (by kernel_rfl) (by kernel_rfl)) ?_
  intro W base args ds gs before hval hW _ _
  refine law_step (n := 6) laidOut (by kernel_rfl) rfl (by kernel_rfl : Try.f5.resultTypes = #[4]) (by kernel_rfl) (fun H ds h => diskPrefix_spec H ds ?_) ?_ W base args ds gs before hval hW
  · rw [Try.params5] at h; exact h
  · rw [Try.params5]
    intro xs h
    obtain ⟨x, _, rfl, h1, h⟩ := all2_cons h
    obtain ⟨y, _, rfl, h2, h⟩ := all2_cons h
    cases all2_nil h
    obtain ⟨os, rfl, _⟩ := arg_ops h1
    obtain ⟨k, rfl⟩ := arg_int h2
    exact sat_prefix os k

theorem diskPrefix_over : Rows.diskPrefixRow.holds Try.pinned (OpenSpec.ofChange Rows.diskPrefixSpec) :=
  OpenClaim.holds_of_wide 5 Try.f5 rfl rfl rfl rfl rfl rfl rfl ⟨rfl, rfl, rfl, rfl, rfl⟩ rfl rfl rfl rfl rfl (by kernel_rfl) Try.func5 (by kernel_rfl)
    (of_decide_eq_true (by kernel_rfl)) (by unfold Func.isWrapper; first | (rw [if_pos (by decide +kernel)]; kernel_rfl) | (rw [if_neg (by decide +kernel)]; exact ⟨rfl, rfl⟩))
    (fun os started H enc _ => diskPrefix_lifted os started H enc)

theorem diskPrefix_holds : Rows.DiskPrefixSaid := diskPrefix_over
#print axioms diskPrefix_holds
end Go.Proofs.Ytbdcgchgpdclaaa
