/- The law DeltaDiffs: for every input it returns true and leaves its arguments as they were. -/
import Derived.Test.YtcajnlkkjdhjdaaGreatRows
import Derived.Test.YtcajnlkkjdhjdaaGreatChecked
import Derived.Test.YtcajnlkkjdhjdaaGreatHf11
set_option linter.unusedSimpArgs false
set_option linter.unusedVariables false
namespace Go.Proofs.YtcajnlkkjdhjdaaGreat
open Go Go.AM Go.ChangeShapes Go.WideShapes Go.ChangeAt Go.RowKit
set_option maxRecDepth 100000

theorem deltaDiffs_spec (H : Type) : ∀ ds : List (DataW H), ds.length = 2 → (Rows.deltaDiffsSpec.fn H ds).results = [.lit (.bool true)] ∧ (Rows.deltaDiffsSpec.fn H ds).args = ds ∧ (Rows.deltaDiffsSpec.fn H ds).vars = []
  | [d1, d2], _ => ⟨rfl, rfl, rfl⟩
  | [], h => by cases h
  | [_], h => by cases h
  | _ :: _ :: _ :: _, h => by simp at h

theorem deltaDiffs_lifted (os : Os) (started : os.Started) (H : Type) (enc : TypeId × Value → H) :
    ReturnsInHanded {} Tryz.checked os 3 .any (Rows.deltaDiffsSpec.pre6 enc Tryz.prog Tryz.f3 Rows.deltaDiffsRow.domain false) (Rows.deltaDiffsSpec.post enc Tryz.prog Tryz.f3 false true false false) := by
  refine returnsInHanded_of_change (C := Tryz.checked) own started (by kernel_rfl) Tryz.func3
    (ChangeSpec.witness6 (enc := enc) (C := Tryz.checked) false ⟨#[], #[.agg #[.slice none 0 0, .slice none 0 0],.agg #[.slice none 0 0, .slice none 0 0]], []⟩ 8 (by kernel_rfl) (by kernel_rfl) (by kernel_rfl) (by kernel_rfl)) ?_
  intro W base args ds gs before hval hW _ _
  refine law_stepT (nums := apiNums) (tab := apiTab) (gs0 := [.ref 5, .ref 5]) laidOut api_ok (by kernel_rfl) (by kernel_rfl) rfl (by kernel_rfl : Tryz.f3.resultTypes = #[4]) (by kernel_rfl) (fun H ds h => deltaDiffs_spec H ds ?_) ?_ W base args ds gs before hval hW
  · rw [Tryz.params3] at h; exact h
  · intro xs h
    obtain ⟨x, _, rfl, h1, h⟩ := all2_cons h
    obtain ⟨y, _, rfl, h2, h⟩ := all2_cons h
    cases all2_nil h
    obtain ⟨t, rfl⟩ := arg_tbl h1
    obtain ⟨l, rfl⟩ := arg_tbl h2
    exact sat_diffs t l

theorem deltaDiffs_over : Rows.deltaDiffsRow.holds Tryz.pinned (OpenSpec.ofChange Rows.deltaDiffsSpec) :=
  OpenClaim.holds_of_wide 3 Tryz.f3 rfl rfl rfl rfl rfl rfl rfl ⟨rfl, rfl, rfl, rfl, rfl⟩ rfl rfl rfl rfl rfl (by kernel_rfl) Tryz.func3 (by kernel_rfl)
    (of_decide_eq_true (by kernel_rfl)) (by unfold Func.isWrapper; first | (rw [if_pos (by decide +kernel)]; kernel_rfl) | (rw [if_neg (by decide +kernel)]; exact ⟨rfl, rfl⟩))
    (fun os started H enc _ => deltaDiffs_lifted os started H enc)

theorem deltaDiffs_holds : Rows.DeltaDiffsSaid := deltaDiffs_over
#print axioms deltaDiffs_holds
end Go.Proofs.YtcajnlkkjdhjdaaGreat
