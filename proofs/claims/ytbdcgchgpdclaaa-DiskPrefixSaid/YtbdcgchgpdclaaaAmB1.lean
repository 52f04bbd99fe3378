/- The boundary: what reads as data is data of the abstract machine. -/
import Derived.Test.YtbdcgchgpdclaaaAmS18
import Derived.ProofKit
namespace Go.AM

/-- Consecutive fields. -/
def laid (P : Program) : Nat → List Field → Option Nat
  | o, [] => some o
  | o, f :: r => bif Nat.beq f.offset o then laid P (o + P.cellsOf f.type) r else none

def plainTy (P : Program) : Nat → TypeId → Bool
  | 0, _ => false
  | n + 1, t => match P.underlying t with
    | some .bool => true
    | some (.int _) => true
    | some .string => true
    | some (.slice e) => Nat.blt 0 (P.cellsOf e) && plainTy P n e
    | some (.struct fs) => (match laid P 0 fs.toList with | some m => Nat.beq m (P.cellsOf t) | none => false) && fs.toList.all fun f => plainTy P n f.type
    | _ => false

def All2 {α β : Type} (R : α → β → Prop) : List α → List β → Prop
  | [], [] => True
  | x :: xs, y :: ys => R x y ∧ All2 R xs ys
  | _, _ => False

/-- The data that a type's values read as. -/
def Ty (P : Program) : Nat → TypeId → List D → Prop
  | 0, _, _ => False
  | n + 1, t, ds => match P.underlying t with
    | some .bool => ∃ b, ds = [.lit (.bool b)]
    | some (.int k) => ∃ m, ds = [.lit (.int k m)] ∧ (Lit.int k m).wf = true
    | some .string => ∃ s : ByteArray, ds = [.lit (.string s)] ∧ s.size ≤ maxLen
    | some (.slice e) => ∃ els, ds = [.sl els] ∧ els.length ≤ maxLen ∧ ∀ y ∈ els, Ty P n e y
    | some (.struct fs) => ∃ dss : List (List D), ds = dss.flatten ∧ All2 (fun f d => Ty P n f.type d) fs.toList dss
    | _ => False

end Go.AM
