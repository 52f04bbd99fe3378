/- The law DeltaLinear: for every input it returns true and leaves its arguments as they were. -/
import Derived.Test.YtcajnlkkjdhjdaaRows
import Derived.Test.YtcajnlkkjdhjdaaChecked
import Derived.Test.YtcajnlkkjdhjdaaLn11
set_option linter.unusedSimpArgs false
set_option linter.unusedVariables false
namespace Go.Proofs.Ytcajnlkkjdhjdaa
open Go Go.AM Go.ChangeShapes Go.WideShapes Go.ChangeAt Go.RowKit
set_option maxRecDepth 100000

theorem deltaLinear_spec (H : Type) : ∀ ds : List (DataW H), ds.length = 2 → (Rows.deltaLinearSpec.fn H ds).results = [.lit (.bool true)] ∧ (Rows.deltaLinearSpec.fn H ds).args = ds ∧ (Rows.deltaLinearSpec.fn H ds).vars = []
  | [d1, d2], _ => ⟨rfl, rfl, rfl⟩
  | [], h => by cases h
  | [_], h => by cases h
  | _ :: _ :: _ :: _, h => by simp at h

theorem deltaLinear_lifted (os : Os) (started : os.Started) (H : Type) (enc : TypeId × Value → H) :
    ReturnsInHanded {} Try.checked os 4 .any (Rows.deltaLinearSpec.pre6 enc Try.prog Try.f4 Rows.deltaLinearRow.domain false) (Rows.deltaLinearSpec.post enc Try.prog Try.f4 false true false false) := by
  refine returnsInHanded_of_change (C := Try.checked) own started (by kernel_rfl) Try.func4
    (ChangeSpec.witness6 (enc := enc) (C := Try.checked) false ⟨#[], #[.agg #[.string ⟨#[]⟩, .slice none 0 0],.string ⟨#[]⟩], []⟩ 8 (by kernel_rfl) (by kernel_rfl) (by kernel_rfl) (by kernel_rfl)) ?_
  intro W base args ds gs before hval hW _ _
  refine law_stepT (nums := apiNums) (tab := apiTab) (gs0 := [.ref 19, .str]) laidOut api_ok (by kernel_rfl) (by kernel_rfl) rfl (by kernel_rfl : Try.f4.resultTypes = #[4]) (by kernel_rfl) (fun H ds h => deltaLinear_spec H ds ?_) ?_ W base args ds gs before hval hW
  · rw [Try.params4] at h; exact h
  · intro xs h
    obtain ⟨x, _, rfl, h1, h⟩ := all2_cons h
    obtain ⟨y, _, rfl, h2, h⟩ := all2_cons h
    cases all2_nil h
    obtain ⟨q, rfl⟩ := arg_qry h1
    obtain ⟨s, rfl⟩ := arg_str h2
    exact sat_linear q s

theorem deltaLinear_over : Rows.deltaLinearRow.holds Try.pinned (OpenSpec.ofChange Rows.deltaLinearSpec) :=
  OpenClaim.holds_of_wide 4 Try.f4 rfl rfl rfl rfl rfl rfl rfl ⟨rfl, rfl, rfl, rfl, rfl⟩ rfl rfl rfl rfl rfl (by kernel_rfl) Try.func4 (by kernel_rfl)
    (of_decide_eq_true (by kernel_rfl)) (by unfold Func.isWrapper; first | (rw [if_pos (by decide +kernel)]; kernel_rfl) | (rw [if_neg (by decide +kernel)]; exact ⟨rfl, rfl⟩))
    (fun os started H enc _ => deltaLinear_lifted os started H enc)

theorem deltaLinear_holds : Rows.DeltaLinearSaid := deltaLinear_over
#print axioms deltaLinear_holds
end Go.Proofs.Ytcajnlkkjdhjdaa
