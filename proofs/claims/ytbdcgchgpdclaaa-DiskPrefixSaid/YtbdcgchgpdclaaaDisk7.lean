/- The examples; two laws on the machine. -/
import Derived.Test.YtbdcgchgpdclaaaDisk6
namespace Go.Proofs.Ytbdcgchgpdclaaa
open Go Go.AM
attribute [local irreducible] Sat
set_option maxRecDepth 100000

theorem aw1 : dnew 10 = (⟨10, [], 0, -1, false⟩, 0) := by rfl
theorem aw2 : darm ⟨10, [], 0, -1, false⟩ 3 = (⟨10, [], 0, 3, false⟩, 0) := by rfl
theorem aw3 : dappend ⟨10, [], 0, 3, false⟩ [1, 2, 3, 4, 5] = (⟨10, [1, 2, 3], 0, 0, true⟩, 19) := by rfl
theorem aw4 : dcrash ⟨10, [1, 2, 3], 0, 0, true⟩ 1 = ⟨10, [1], 1, -1, false⟩ := by rfl
theorem aw5 : darm ⟨10, [1], 1, -1, false⟩ 0 = (⟨10, [1], 1, 0, false⟩, 0) := by rfl
theorem aw6 : dappend ⟨10, [1], 1, 0, false⟩ [] = (⟨10, [1], 1, 0, false⟩, 0) := by rfl
theorem aw7 : dsync ⟨10, [1], 1, 0, false⟩ = (⟨10, [1], 1, 0, true⟩, 19) := by rfl

theorem sat_awake : Sat Try.prog 8 [] (fun r => r = oneB true) := by
  refine Sat_of_awpF F8_ok (by kernel_rfl) ?_
  refine Sat.mono (sat_new 10) ?_
  rw [aw1]
  rintro _ rfl
  refine Sat.mono (sat_arm ⟨10, [], 0, -1, false⟩ 3) ?_
  rw [aw2]
  rintro _ rfl
  refine Sat.mono (sat_append ⟨10, [], 0, 3, false⟩ [1, 2, 3, 4, 5] (by decide)) ?_
  rw [aw3]
  rintro _ rfl
  refine Sat.mono (sat_crash ⟨10, [1, 2, 3], 0, 0, true⟩ 1) ?_
  rw [aw4]
  rintro _ rfl
  refine Sat.mono (sat_arm ⟨10, [1], 1, -1, false⟩ 0) ?_
  rw [aw5]
  rintro _ rfl
  refine Sat.mono (sat_append ⟨10, [1], 1, 0, false⟩ [] (by decide)) ?_
  rw [aw6]
  rintro _ rfl
  refine Sat.mono (sat_sync ⟨10, [1], 1, 0, false⟩) ?_
  rw [aw7]
  rintro _ rfl
  obtain ⟨B, hB⟩ : ∃ B, B = bytes [1] := ⟨_, rfl⟩
  refine ⟨B, by rw [hB]; rfl, ?_⟩
  conv => whnf
  refine cond_i (fun _ => ?_) (fun h => ?_)
  · rfl
  · rw [hB, ByteArray.toList_eq, ByteArray.toList_eq] at h
    cases h
end Go.Proofs.Ytbdcgchgpdclaaa
