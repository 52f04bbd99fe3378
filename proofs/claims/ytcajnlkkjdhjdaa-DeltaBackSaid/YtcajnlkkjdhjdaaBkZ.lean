/- The law DeltaBack: for every input it returns true and leaves its arguments as they were. -/
import Derived.Test.YtcajnlkkjdhjdaaRows
import Derived.Test.YtcajnlkkjdhjdaaChecked
import Derived.Test.YtcajnlkkjdhjdaaBk10
set_option linter.unusedSimpArgs false
set_option linter.unusedVariables false
namespace Go.Proofs.Ytcajnlkkjdhjdaa
open Go Go.AM Go.ChangeShapes Go.WideShapes Go.ChangeAt Go.RowKit
set_option maxRecDepth 100000

theorem deltaBack_spec (H : Type) : ∀ ds : List (DataW H), ds.length = 2 → (Rows.deltaBackSpec.fn H ds).results = [.lit (.bool true)] ∧ (Rows.deltaBackSpec.fn H ds).args = ds ∧ (Rows.deltaBackSpec.fn H ds).vars = []
  | [d1, d2], _ => ⟨rfl, rfl, rfl⟩
  | [], h => by cases h
  | [_], h => by cases h
  | _ :: _ :: _ :: _, h => by simp at h

theorem deltaBack_lifted (os : Os) (started : os.Started) (H : Type) (enc : TypeId × Value → H) :
    ReturnsInHanded {} Try.checked os 3 .any (Rows.deltaBackSpec.pre6 enc Try.prog Try.f3 Rows.deltaBackRow.domain false) (Rows.deltaBackSpec.post enc Try.prog Try.f3 false true false false) := by
  refine returnsInHanded_of_change (C := Try.checked) own started (by kernel_rfl) Try.func3
    (ChangeSpec.witness6 (enc := enc) (C := Try.checked) false ⟨#[], #[.agg #[.slice none 0 0, .slice none 0 0],.slice none 0 0], []⟩ 8 (by kernel_rfl) (by kernel_rfl) (by kernel_rfl) (by kernel_rfl)) ?_
  intro W base args ds gs before hval hW _ _
  refine law_stepT (nums := apiNums) (tab := apiTab) (gs0 := [.ref 5, .ref 7]) laidOut api_ok (by kernel_rfl) (by kernel_rfl) rfl (by kernel_rfl : Try.f3.resultTypes = #[4]) (by kernel_rfl) (fun H ds h => deltaBack_spec H ds ?_) ?_ W base args ds gs before hval hW
  · rw [Try.params3] at h; exact h
  · intro xs h
    obtain ⟨x, _, rfl, h1, h⟩ := all2_cons h
    obtain ⟨y, _, rfl, h2, h⟩ := all2_cons h
    cases all2_nil h
    obtain ⟨t, rfl⟩ := arg_tbl h1
    obtain ⟨l, rfl⟩ := arg_chgs h2
    exact sat_back t l

theorem deltaBack_over : Rows.deltaBackRow.holds Try.pinned (OpenSpec.ofChange Rows.deltaBackSpec) :=
  OpenClaim.holds_of_wide 3 Try.f3 rfl rfl rfl rfl rfl rfl rfl ⟨rfl, rfl, rfl, rfl, rfl⟩ rfl rfl rfl rfl rfl (by kernel_rfl) Try.func3 (by kernel_rfl)
    (of_decide_eq_true (by kernel_rfl)) (by unfold Func.isWrapper; first | (rw [if_pos (by decide +kernel)]; kernel_rfl) | (rw [if_neg (by decide +kernel)]; exact ⟨rfl, rfl⟩))
    (fun os started H enc _ => deltaBack_lifted os started H enc)

theorem deltaBack_holds : Rows.DeltaBackSaid := deltaBack_over
#print axioms deltaBack_holds
end Go.Proofs.Ytcajnlkkjdhjdaa
