/-
  NARROWER THAN 'FOR EVERY INPUT', by the rows' own cells (each row's printed sentence says how): NaiveWheres: loops.
  DERIVED. THE GIVEN ROWS OF THIS SEAT. 2 by the template 'for every input the law returns true; each argument reads behind the call as it read before'; 0 by the template 'total and deterministic' (their statements: YtekkjilpdohieaaGreatTotals.lean).
  GIVEN WITH THE SEED: the statements are not yours to turn. If you find one false, say at which input.
  Laid BY PROGRAM, IN A SANDBOX (cutbox-rows.mjs): the forced cells as the released guide's own fill.sh prints them over the translation 75d759850a2f632c… (all of the seat's roots in one cut). By AI agents, Wed Nov 11 2026. No macro, syntax, notation, axiom, sorry.
-/
import Derived.Test.YtekkjilpdohieaaGreatChecked
import GoSem.Claim
import GoSem.ClaimJoined
import GoSem.ClaimMapViews
import Derived.JoinedTies
import Derived.KernelRfl
namespace Go.Proofs.YtekkjilpdohieaaGreat
/- THE CELL 'sum', in the pinned program and in every row, IS THE sha256 OF THE DUMP (.gsa) THAT YtekkjilpdohieaaGreatProg.lean LOADS. Nothing in Lean hashes anything: it is a label: what it is worth is what the hold of that sum in a sandbox is worth. -/
noncomputable def Tryz.pinned : Pinned := { name := "ytekkjilpdohieaagreat", sum := "75d759850a2f632c5cee4df8469ae203483ceca375ade6ddd6cd2d25d3eef200", checked := Tryz.checked }
namespace Rows
def none {H : Type} : Left H := { results := [], args := [] }

/-- 'tracebooklaw42.NaiveWheres': WHATEVER THE INPUT: true; the input reads as it did. -/
def naiveWheresSpec : ChangeSpec := { name := "naiveWheres", fn := fun _ => fun
  | [d1, d2, d3] => { results := [.lit (.bool true)], args := [d1, d2, d3] }
  | _ => none }
def naiveWheresRow : OpenClaim := { program := "ytekkjilpdohieaagreat", sum := "75d759850a2f632c5cee4df8469ae203483ceca375ade6ddd6cd2d25d3eef200", func := "tracebook/tracebooklaw42.NaiveWheres", spec := "naiveWheres", inPlace := ["internal/bytealg.IndexByteString", "internal/bytealg.IndexString", "slices.overlaps[tracebook/naive.group]"], unfollowed := true, recurses := true, named := ["math/bits.divideError", "math/bits.overflowError", "internal/bytealg.MaxLen"], loops := true, apart := false }
def NaiveWheresSaid : Prop := naiveWheresRow.holds Tryz.pinned (OpenSpec.ofChange naiveWheresSpec)

/-- ITS FALSE NEIGHBOUR: 'it returns false'. Refute it at one input. -/
def naiveWheresWrong : ChangeSpec := { name := "naiveWheres", fn := fun _ => fun
  | [d1, d2, d3] => { results := [.lit (.bool false)], args := [d1, d2, d3] }
  | _ => none }
def NaiveWheresWrongFalsely : Prop := naiveWheresRow.holds Tryz.pinned (OpenSpec.ofChange naiveWheresWrong)

/-- 'tracebooklaw42.NaiveGroups': WHATEVER THE INPUT: true; the input reads as it did. -/
def naiveGroupsSpec : ChangeSpec := { name := "naiveGroups", fn := fun _ => fun
  | [d1, d2, d3] => { results := [.lit (.bool true)], args := [d1, d2, d3] }
  | _ => none }
def naiveGroupsRow : OpenClaim := { program := "ytekkjilpdohieaagreat", sum := "75d759850a2f632c5cee4df8469ae203483ceca375ade6ddd6cd2d25d3eef200", func := "tracebook/tracebooklaw42.NaiveGroups", spec := "naiveGroups", inPlace := ["internal/bytealg.IndexByteString", "internal/bytealg.IndexString", "slices.overlaps[tracebook/naive.group]"], unfollowed := true, recurses := true, named := ["math/bits.divideError", "math/bits.overflowError", "internal/bytealg.MaxLen"], apart := false }
def NaiveGroupsSaid : Prop := naiveGroupsRow.holds Tryz.pinned (OpenSpec.ofChange naiveGroupsSpec)

/-- ITS FALSE NEIGHBOUR: 'it returns false'. Refute it at one input. -/
def naiveGroupsWrong : ChangeSpec := { name := "naiveGroups", fn := fun _ => fun
  | [d1, d2, d3] => { results := [.lit (.bool false)], args := [d1, d2, d3] }
  | _ => none }
def NaiveGroupsWrongFalsely : Prop := naiveGroupsRow.holds Tryz.pinned (OpenSpec.ofChange naiveGroupsWrong)

/- THE SECOND FORM. 'bulk': how many values and letters a reading holds, each counted each time it is reached (what is shared counts as often as it is met; a slice's spare places count too). A statement '..UptoSaid' is the law's where the arguments, and the package variables that the reading takes, are together of bulk at most 1048576: NARROWER than '..Said'. Prove '..Said' where nothing that the law and all that it calls make is longer than what came in: it says more and counts as full. Else prove '..UptoSaid'. A law counts once. -/
mutual
def uptoBulk {H : Type} : DataW H → Nat
  | .lit (.string bytes) => bytes.length + 1
  | .lit _ => 1
  | .nil => 1
  | .ptr d => uptoBulk d + 1
  | .slice elems spare => uptoBulkAll elems + uptoBulkAll spare + 1
  | .agg parts => uptoBulkAll parts + 1
  | .iface _ d => uptoBulk d + 1
  | .map entries => uptoBulkEntries entries + 1
  | .held _ => 1
def uptoBulkAll {H : Type} : List (DataW H) → Nat
  | [] => 0
  | d :: r => uptoBulk d + uptoBulkAll r
def uptoBulkEntries {H : Type} : List (Lit × DataW H) → Nat
  | [] => 0
  | x :: r => uptoBulkEntry x + uptoBulkEntries r
def uptoBulkEntry {H : Type} : Lit × DataW H → Nat
  | (.string bytes, d) => bytes.length + uptoBulk d + 1
  | (_, d) => uptoBulk d + 1
 end
def uptoSmall : (H : Type) → List (DataW H) → Bool := fun _ ds => decide (uptoBulkAll ds ≤ 1048576)
def OpenSpec.upto (s : _root_.Go.ChangeSpec) : _root_.Go.OpenSpec := { _root_.Go.OpenSpec.ofChange s with cond := some uptoSmall }

/-- 'tracebooklaw42.NaiveWheres', WHERE WHAT IT READS IS OF BULK AT MOST 1048576: true; the input reads as it did. -/
def naiveWheresUptoRow : OpenClaim := { program := "ytekkjilpdohieaagreat", sum := "75d759850a2f632c5cee4df8469ae203483ceca375ade6ddd6cd2d25d3eef200", func := "tracebook/tracebooklaw42.NaiveWheres", spec := "naiveWheres", inPlace := ["internal/bytealg.IndexByteString", "internal/bytealg.IndexString", "slices.overlaps[tracebook/naive.group]"], unfollowed := true, recurses := true, named := ["math/bits.divideError", "math/bits.overflowError", "internal/bytealg.MaxLen"], loops := true, apart := false, narrowed := true }
def NaiveWheresUptoSaid : Prop := naiveWheresUptoRow.holds Tryz.pinned (OpenSpec.upto naiveWheresSpec)

/-- 'tracebooklaw42.NaiveGroups', WHERE WHAT IT READS IS OF BULK AT MOST 1048576: true; the input reads as it did. -/
def naiveGroupsUptoRow : OpenClaim := { program := "ytekkjilpdohieaagreat", sum := "75d759850a2f632c5cee4df8469ae203483ceca375ade6ddd6cd2d25d3eef200", func := "tracebook/tracebooklaw42.NaiveGroups", spec := "naiveGroups", inPlace := ["internal/bytealg.IndexByteString", "internal/bytealg.IndexString", "slices.overlaps[tracebook/naive.group]"], unfollowed := true, recurses := true, named := ["math/bits.divideError", "math/bits.overflowError", "internal/bytealg.MaxLen"], apart := false, narrowed := true }
def NaiveGroupsUptoSaid : Prop := naiveGroupsUptoRow.holds Tryz.pinned (OpenSpec.upto naiveGroupsSpec)

end Rows
end Go.Proofs.YtekkjilpdohieaaGreat
