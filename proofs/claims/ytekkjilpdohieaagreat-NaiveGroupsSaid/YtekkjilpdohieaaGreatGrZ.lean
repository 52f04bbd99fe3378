/- NaiveGroups: the claim. -/
import Derived.Test.YtekkjilpdohieaaGreatRows
import Derived.Test.YtekkjilpdohieaaGreatChecked
import Derived.HandedShaped
import Derived.Test.YtekkjilpdohieaaGreatGr11
set_option linter.unusedSimpArgs false
set_option linter.unusedVariables false
namespace Go.Proofs.YtekkjilpdohieaaGreat
open Go Go.AM Go.ChangeShapes Go.WideShapes Go.ChangeAt Go.RowKit
set_option maxRecDepth 100000

theorem glb_shaped {W : World} (h : W.ShapedOpen Tryz.prog) : Glb (Okw W) W := fun k hk => by
  have hk0 : k = 0 := by
    have := Nat.le_of_ble_eq_true (hk : Nat.ble (k + 1) 1 = true)
    omega
  subst hk0
  obtain ⟨m, hm⟩ := Tryz.laysM144.s1_3 W h
  exact ⟨World.block_lt_of_cell? W ⟨0, 0, none⟩ hm, m, hm⟩
theorem naiveGroups_spec (H : Type) : ∀ ds : List (DataW H), ds.length = 3 → (Rows.naiveGroupsSpec.fn H ds).results = [.lit (.bool true)] ∧ (Rows.naiveGroupsSpec.fn H ds).args = ds ∧ (Rows.naiveGroupsSpec.fn H ds).vars = []
  | [d1, d2, d3], _ => ⟨rfl, rfl, rfl⟩
  | [], h => by cases h
  | [_], h => by cases h
  | [_, _], h => by cases h
  | _ :: _ :: _ :: _ :: _, h => by simp at h

theorem naiveGroups_lifted (os : Os) (started : os.Started) (H : Type) (enc : TypeId × Value → H) :
    ReturnsInHanded {} Tryz.checked os 4 .any (Rows.naiveGroupsSpec.pre6 enc Tryz.prog Tryz.f4 Rows.naiveGroupsRow.domain false) (Rows.naiveGroupsSpec.post enc Tryz.prog Tryz.f4 false true false false) := by
  refine returnsInHanded_of_change_shaped (C := Tryz.checked) own started (by kernel_rfl) Tryz.func4
    (ChangeSpec.witness6 (enc := enc) (C := Tryz.checked) false ⟨#[], #[.agg #[.slice none 0 0, .slice none 0 0],.slice none 0 0,.int .i64 0], []⟩ 8 (by kernel_rfl) (by kernel_rfl) (by kernel_rfl) (by kernel_rfl)) ?_
  intro W base args ds gs before hval hW _ _ hsh _
  refine law_stepT (nums := apiNums) (tab := apiTab) (gs0 := [.ref 5, .ref 12, .int .i64]) laidOut api_ok (by kernel_rfl) (by kernel_rfl) rfl (by kernel_rfl : Tryz.f4.resultTypes = #[4]) (by kernel_rfl) (fun H ds h => naiveGroups_spec H ds ?_) ?_ W (glb_shaped hsh) base args ds gs before hval hW
  · rw [Tryz.params4] at h; exact h
  · intro xs h
    obtain ⟨x, _, rfl, h1, h⟩ := all2_cons h
    obtain ⟨y, _, rfl, h2, h⟩ := all2_cons h
    obtain ⟨z, _, rfl, h3, h⟩ := all2_cons h
    cases all2_nil h
    obtain ⟨t, rfl⟩ := arg_tbl h1
    obtain ⟨a, rfl⟩ := arg_strs h2
    obtain ⟨b, rfl⟩ := arg_int h3
    exact sat_ngroups ins_any t a b

theorem naiveGroups_over : Rows.naiveGroupsRow.holds Tryz.pinned (OpenSpec.ofChange Rows.naiveGroupsSpec) :=
  OpenClaim.holds_of_wide 4 Tryz.f4 rfl rfl rfl rfl rfl rfl rfl ⟨rfl, rfl, rfl, rfl, rfl⟩ rfl rfl rfl rfl rfl (by kernel_rfl) Tryz.func4 (by kernel_rfl)
    (of_decide_eq_true (by kernel_rfl)) (by unfold Func.isWrapper; first | (rw [if_pos (by decide +kernel)]; kernel_rfl) | (rw [if_neg (by decide +kernel)]; exact ⟨rfl, rfl⟩))
    (fun os started H enc _ => naiveGroups_lifted os started H enc)

theorem naiveGroups_holds : Rows.NaiveGroupsSaid := naiveGroups_over
#print axioms naiveGroups_holds
end Go.Proofs.YtekkjilpdohieaaGreat
