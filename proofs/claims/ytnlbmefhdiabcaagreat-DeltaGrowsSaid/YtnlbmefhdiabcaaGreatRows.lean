/-
  NARROWER THAN 'FOR EVERY INPUT', by the rows' own cells (each row's printed sentence says how): NaiveRuns: loops · NaiveSteps: loops · NaiveColumns: loops · DeltaGrows: loops.
  DERIVED. THE GIVEN ROWS OF THIS SEAT. 4 by the template 'for every input the law returns true; each argument reads behind the call as it read before'; 0 by the template 'total and deterministic' (their statements: YtnlbmefhdiabcaaGreatTotals.lean).
  GIVEN WITH THE SEED: the statements are not yours to turn. If you find one false, say at which input.
  Laid BY PROGRAM, IN A SANDBOX (cutbox-rows.mjs): the forced cells as the released guide's own fill.sh prints them over the translation 4d6f43f3cc6e5263… (all of the seat's roots in one cut). By AI agents, Wed Nov 11 2026. No macro, syntax, notation, axiom, sorry.
-/
import Derived.Test.YtnlbmefhdiabcaaGreatChecked
import GoSem.Claim
import GoSem.ClaimJoined
import GoSem.ClaimMapViews
import Derived.JoinedTies
import Derived.KernelRfl
namespace Go.Proofs.YtnlbmefhdiabcaaGreat
/- THE CELL 'sum', in the pinned program and in every row, IS THE sha256 OF THE DUMP (.gsa) THAT YtnlbmefhdiabcaaGreatProg.lean LOADS. Nothing in Lean hashes anything: it is a label: what it is worth is what the hold of that sum in a sandbox is worth. -/
noncomputable def Tryz.pinned : Pinned := { name := "ytnlbmefhdiabcaagreat", sum := "4d6f43f3cc6e52637b387cb81c5e6bfb6aade2bc9c9f46e321ccbe5e589e8ecd", checked := Tryz.checked }
namespace Rows
def none {H : Type} : Left H := { results := [], args := [] }

/-- 'tracebooklaw42.NaiveRuns': WHATEVER THE INPUT: true; the input reads as it did. -/
def naiveRunsSpec : ChangeSpec := { name := "naiveRuns", fn := fun _ => fun
  | [d1, d2] => { results := [.lit (.bool true)], args := [d1, d2] }
  | _ => none }
def naiveRunsRow : OpenClaim := { program := "ytnlbmefhdiabcaagreat", sum := "4d6f43f3cc6e52637b387cb81c5e6bfb6aade2bc9c9f46e321ccbe5e589e8ecd", func := "tracebook/tracebooklaw42.NaiveRuns", spec := "naiveRuns", inPlace := ["internal/bytealg.IndexByteString", "internal/bytealg.IndexString", "slices.overlaps[tracebook/naive.group]"], unfollowed := true, recurses := true, named := ["math/bits.divideError", "math/bits.overflowError", "internal/bytealg.MaxLen"], loops := true, apart := false }
def NaiveRunsSaid : Prop := naiveRunsRow.holds Tryz.pinned (OpenSpec.ofChange naiveRunsSpec)

/-- ITS FALSE NEIGHBOUR: 'it returns false'. Refute it at one input. -/
def naiveRunsWrong : ChangeSpec := { name := "naiveRuns", fn := fun _ => fun
  | [d1, d2] => { results := [.lit (.bool false)], args := [d1, d2] }
  | _ => none }
def NaiveRunsWrongFalsely : Prop := naiveRunsRow.holds Tryz.pinned (OpenSpec.ofChange naiveRunsWrong)

/-- 'tracebooklaw42.NaiveSteps': WHATEVER THE INPUT: true; the input reads as it did. -/
def naiveStepsSpec : ChangeSpec := { name := "naiveSteps", fn := fun _ => fun
  | [d1, d2, d3] => { results := [.lit (.bool true)], args := [d1, d2, d3] }
  | _ => none }
def naiveStepsRow : OpenClaim := { program := "ytnlbmefhdiabcaagreat", sum := "4d6f43f3cc6e52637b387cb81c5e6bfb6aade2bc9c9f46e321ccbe5e589e8ecd", func := "tracebook/tracebooklaw42.NaiveSteps", spec := "naiveSteps", inPlace := ["internal/bytealg.IndexByteString", "internal/bytealg.IndexString", "slices.overlaps[tracebook/naive.group]"], unfollowed := true, recurses := true, named := ["math/bits.divideError", "math/bits.overflowError", "internal/bytealg.MaxLen"], loops := true, apart := false }
def NaiveStepsSaid : Prop := naiveStepsRow.holds Tryz.pinned (OpenSpec.ofChange naiveStepsSpec)

/-- ITS FALSE NEIGHBOUR: 'it returns false'. Refute it at one input. -/
def naiveStepsWrong : ChangeSpec := { name := "naiveSteps", fn := fun _ => fun
  | [d1, d2, d3] => { results := [.lit (.bool false)], args := [d1, d2, d3] }
  | _ => none }
def NaiveStepsWrongFalsely : Prop := naiveStepsRow.holds Tryz.pinned (OpenSpec.ofChange naiveStepsWrong)

/-- 'tracebooklaw42.NaiveColumns': WHATEVER THE INPUT: true; the input reads as it did. -/
def naiveColumnsSpec : ChangeSpec := { name := "naiveColumns", fn := fun _ => fun
  | [d1, d2] => { results := [.lit (.bool true)], args := [d1, d2] }
  | _ => none }
def naiveColumnsRow : OpenClaim := { program := "ytnlbmefhdiabcaagreat", sum := "4d6f43f3cc6e52637b387cb81c5e6bfb6aade2bc9c9f46e321ccbe5e589e8ecd", func := "tracebook/tracebooklaw42.NaiveColumns", spec := "naiveColumns", inPlace := ["internal/bytealg.IndexByteString", "internal/bytealg.IndexString", "slices.overlaps[tracebook/naive.group]"], unfollowed := true, recurses := true, named := ["math/bits.divideError", "math/bits.overflowError", "internal/bytealg.MaxLen"], loops := true, apart := false }
def NaiveColumnsSaid : Prop := naiveColumnsRow.holds Tryz.pinned (OpenSpec.ofChange naiveColumnsSpec)

/-- ITS FALSE NEIGHBOUR: 'it returns false'. Refute it at one input. -/
def naiveColumnsWrong : ChangeSpec := { name := "naiveColumns", fn := fun _ => fun
  | [d1, d2] => { results := [.lit (.bool false)], args := [d1, d2] }
  | _ => none }
def NaiveColumnsWrongFalsely : Prop := naiveColumnsRow.holds Tryz.pinned (OpenSpec.ofChange naiveColumnsWrong)

/-- 'tracebooklaw45.DeltaGrows': WHATEVER THE INPUT: true; the input reads as it did. -/
def deltaGrowsSpec : ChangeSpec := { name := "deltaGrows", fn := fun _ => fun
  | [d1, d2, d3] => { results := [.lit (.bool true)], args := [d1, d2, d3] }
  | _ => none }
def deltaGrowsRow : OpenClaim := { program := "ytnlbmefhdiabcaagreat", sum := "4d6f43f3cc6e52637b387cb81c5e6bfb6aade2bc9c9f46e321ccbe5e589e8ecd", func := "tracebook/tracebooklaw45.DeltaGrows", spec := "deltaGrows", inPlace := ["internal/bytealg.IndexByteString", "internal/bytealg.IndexString", "slices.overlaps[tracebook/naive.group]"], unfollowed := true, recurses := true, named := ["math/bits.divideError", "math/bits.overflowError", "internal/bytealg.MaxLen"], loops := true, apart := false }
def DeltaGrowsSaid : Prop := deltaGrowsRow.holds Tryz.pinned (OpenSpec.ofChange deltaGrowsSpec)

/-- ITS FALSE NEIGHBOUR: 'it returns false'. Refute it at one input. -/
def deltaGrowsWrong : ChangeSpec := { name := "deltaGrows", fn := fun _ => fun
  | [d1, d2, d3] => { results := [.lit (.bool false)], args := [d1, d2, d3] }
  | _ => none }
def DeltaGrowsWrongFalsely : Prop := deltaGrowsRow.holds Tryz.pinned (OpenSpec.ofChange deltaGrowsWrong)

/- THE SECOND FORM. 'bulk': how many values and letters a reading holds, each counted each time it is reached (what is shared counts as often as it is met; a slice's spare places count too). A statement '..UptoSaid' is the law's where the arguments, and the package variables that the reading takes, are together of bulk at most 1048576: NARROWER than '..Said'. Prove '..Said' where nothing that the law and all that it calls make is longer than what came in: it says more and counts as full. Else prove '..UptoSaid'. A law counts once. -/
mutual
def uptoBulk {H : Type} : DataW H → Nat
  | .lit (.string bytes) => bytes.length + 1
  | .lit _ => 1
  | .nil => 1
  | .ptr d => uptoBulk d + 1
  | .slice elems spare => uptoBulkAll elems + uptoBulkAll spare + 1
  | .agg parts => uptoBulkAll parts + 1
  | .iface _ d => uptoBulk d + 1
  | .map entries => uptoBulkEntries entries + 1
  | .held _ => 1
def uptoBulkAll {H : Type} : List (DataW H) → Nat
  | [] => 0
  | d :: r => uptoBulk d + uptoBulkAll r
def uptoBulkEntries {H : Type} : List (Lit × DataW H) → Nat
  | [] => 0
  | x :: r => uptoBulkEntry x + uptoBulkEntries r
def uptoBulkEntry {H : Type} : Lit × DataW H → Nat
  | (.string bytes, d) => bytes.length + uptoBulk d + 1
  | (_, d) => uptoBulk d + 1
 end
def uptoSmall : (H : Type) → List (DataW H) → Bool := fun _ ds => decide (uptoBulkAll ds ≤ 1048576)
def OpenSpec.upto (s : _root_.Go.ChangeSpec) : _root_.Go.OpenSpec := { _root_.Go.OpenSpec.ofChange s with cond := some uptoSmall }

/-- 'tracebooklaw42.NaiveRuns', WHERE WHAT IT READS IS OF BULK AT MOST 1048576: true; the input reads as it did. -/
def naiveRunsUptoRow : OpenClaim := { program := "ytnlbmefhdiabcaagreat", sum := "4d6f43f3cc6e52637b387cb81c5e6bfb6aade2bc9c9f46e321ccbe5e589e8ecd", func := "tracebook/tracebooklaw42.NaiveRuns", spec := "naiveRuns", inPlace := ["internal/bytealg.IndexByteString", "internal/bytealg.IndexString", "slices.overlaps[tracebook/naive.group]"], unfollowed := true, recurses := true, named := ["math/bits.divideError", "math/bits.overflowError", "internal/bytealg.MaxLen"], loops := true, apart := false, narrowed := true }
def NaiveRunsUptoSaid : Prop := naiveRunsUptoRow.holds Tryz.pinned (OpenSpec.upto naiveRunsSpec)

/-- 'tracebooklaw42.NaiveSteps', WHERE WHAT IT READS IS OF BULK AT MOST 1048576: true; the input reads as it did. -/
def naiveStepsUptoRow : OpenClaim := { program := "ytnlbmefhdiabcaagreat", sum := "4d6f43f3cc6e52637b387cb81c5e6bfb6aade2bc9c9f46e321ccbe5e589e8ecd", func := "tracebook/tracebooklaw42.NaiveSteps", spec := "naiveSteps", inPlace := ["internal/bytealg.IndexByteString", "internal/bytealg.IndexString", "slices.overlaps[tracebook/naive.group]"], unfollowed := true, recurses := true, named := ["math/bits.divideError", "math/bits.overflowError", "internal/bytealg.MaxLen"], loops := true, apart := false, narrowed := true }
def NaiveStepsUptoSaid : Prop := naiveStepsUptoRow.holds Tryz.pinned (OpenSpec.upto naiveStepsSpec)

/-- 'tracebooklaw42.NaiveColumns', WHERE WHAT IT READS IS OF BULK AT MOST 1048576: true; the input reads as it did. -/
def naiveColumnsUptoRow : OpenClaim := { program := "ytnlbmefhdiabcaagreat", sum := "4d6f43f3cc6e52637b387cb81c5e6bfb6aade2bc9c9f46e321ccbe5e589e8ecd", func := "tracebook/tracebooklaw42.NaiveColumns", spec := "naiveColumns", inPlace := ["internal/bytealg.IndexByteString", "internal/bytealg.IndexString", "slices.overlaps[tracebook/naive.group]"], unfollowed := true, recurses := true, named := ["math/bits.divideError", "math/bits.overflowError", "internal/bytealg.MaxLen"], loops := true, apart := false, narrowed := true }
def NaiveColumnsUptoSaid : Prop := naiveColumnsUptoRow.holds Tryz.pinned (OpenSpec.upto naiveColumnsSpec)

/-- 'tracebooklaw45.DeltaGrows', WHERE WHAT IT READS IS OF BULK AT MOST 1048576: true; the input reads as it did. -/
def deltaGrowsUptoRow : OpenClaim := { program := "ytnlbmefhdiabcaagreat", sum := "4d6f43f3cc6e52637b387cb81c5e6bfb6aade2bc9c9f46e321ccbe5e589e8ecd", func := "tracebook/tracebooklaw45.DeltaGrows", spec := "deltaGrows", inPlace := ["internal/bytealg.IndexByteString", "internal/bytealg.IndexString", "slices.overlaps[tracebook/naive.group]"], unfollowed := true, recurses := true, named := ["math/bits.divideError", "math/bits.overflowError", "internal/bytealg.MaxLen"], loops := true, apart := false, narrowed := true }
def DeltaGrowsUptoSaid : Prop := deltaGrowsUptoRow.holds Tryz.pinned (OpenSpec.upto deltaGrowsSpec)

end Rows
end Go.Proofs.YtnlbmefhdiabcaaGreat
