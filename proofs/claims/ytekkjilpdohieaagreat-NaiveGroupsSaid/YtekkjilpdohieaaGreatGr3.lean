/- Merged from the texts: AmM2 -/
import Derived.Test.YtekkjilpdohieaaGreatGr2
set_option linter.unusedSimpArgs false
set_option linter.unusedVariables false
namespace Go.AM

def sortedB {α : Type} : List (Nat × α) → Bool
  | [] => true
  | (k, _) :: r => match r with
    | [] => true
    | (j, _) :: _ => bif Nat.blt k j then sortedB r else false

def isLitB (v : V) (want : Bool) : Bool := match v with | .w (.c (.d (.lit (.bool x)))) => (bif want then x else !x) | _ => false

def AI.dst : AI → Option Nat | .mk d _ _ _ _ => d
def AI.drop : AI → List Nat | .mk _ _ _ _ l => l

/-- The operations from here on that stand under the guard d, straight or over others. -/
def spanB (d : Nat) : List Nat → List AI → List AI × List AI
  | _, [] => ([], [])
  | U, i :: r => match i with
    | .mk dst (some (e, _)) _ _ _ => bif Nat.beq e d || isin e U then
        match spanB d (match dst with | some x => x :: U | none => U) r with
        | (a, b) => (i :: a, b)
      else ([], i :: r)
    | _ => ([], i :: r)

/-- Under a guard that does not hold: all these operations are left out. -/
def failB (d : Nat) (w : Bool) : List Nat → List AI → Bool
  | _, [] => true
  | U, .mk dst g _ _ drop :: r => match g with
    | some (e, w') => bif (bif Nat.beq e d then w == w' else isin e U) then
        (bif isin d drop then false else match dst with
          | some x => bif Nat.beq x d then false else failB d w ((x :: U).filter fun k => !isin k drop) r
          | none => failB d w (U.filter fun k => !isin k drop) r)
      else false
    | none => false
def fails : List AI → S → S
  | [], s => s
  | .mk dst _ _ _ drop :: r, s => fails r ((s.put dst undefV).drop drop)

/-- What they write and forget is among these. -/
def withinB (l : List Nat) : List AI → Bool
  | [] => true
  | .mk dst _ _ _ drop :: r => bif (match dst with | some x => isin x l | none => false) && allL (fun k => isin k l) drop then withinB l r else false

def guardEq : Option (Nat × Bool) → Option (Nat × Bool) → Bool
  | none, none => true
  | some (a, b), some (c, d) => bif Nat.beq a c then b == d else false
  | _, _ => false
/-- The guard holds in s. -/
def guardOk (s : S) : Option (Nat × Bool) → Bool
  | none => true
  | some (d, w) => isLitB (s.tmp d) w
def guardOut (l : List Nat) : Option (Nat × Bool) → Bool
  | none => true
  | some (d, _) => !isin d l

def implL (c : Bool) (ps : List Prop) : List Prop := match ps with | [] => [] | _ => [c = true → andL ps True]

/-- The choice at the end of a block. -/
def scV (w b bi bo : Bool) : V :=
  match w, bo with
  | true, false => boolV (b && bi)
  | false, true => boolV (b || bi)
  | true, true => boolV (cond b bi true)
  | false, false => boolV (cond b false bi)
theorem scV_eq (w b bi bo : Bool) : scV w b bi bo = boolV (bif w then cond b bi bo else cond b bo bi) := by
  cases w <;> cases bo <;> cases b <;> rfl

mutual
/-- A block under the guard (d, want). -/
def mevB (f : FuncId → List W → Option W) : Nat → Nat → Bool → List AI → S → Option (List Prop × S)
  | 0, _, _, _, _ => none
  | n + 1, d, want, ops, s => match ops with
    | [] => some ([], s)
    | .mk dst g isG op drop :: r => bif guardEq g (some (d, want)) && isLitB (s.tmp d) want && isSome dst then
        match aval f op s with
        | none => none
        | some (ps, v) => match (bif isG then scB f n (some (d, want)) dst drop r (s.put dst v) else some ([], (s.put dst v).drop drop, r)) with
          | none => none
          | some (ps2, s2, r2) => match mevB f n d want r2 s2 with
            | none => none
            | some (ps3, s3) => some (ps ++ (ps2 ++ ps3), s3)
      else none
/-- Behind an operation that guards others: the block under it, and the choice at its end. -/
def scB (f : FuncId → List W → Option W) : Nat → Option (Nat × Bool) → Option Nat → List Nat → List AI → S → Option (List Prop × S × List AI)
  | 0, _, _, _, _, _ => none
  | n + 1, gd, dst, dr, ops, s => match dst with
    | none => none
    | some d => match litBool (s.tmp d) with
      | none => none
      | some b => match spanB d [] ops with
        | (.mk dst1 (some (e, w)) isG1 op1 drop1 :: blk', .mk (some dp) g2 false (.pick (.t c) x y) drop :: r2) =>
          bif Nat.beq c d && guardEq g2 gd && guardOut drop gd && guardOk (s.drop dr) gd && failB d w [] (.mk dst1 (some (e, w)) isG1 op1 drop1 :: blk') && withinB drop (.mk dst1 (some (e, w)) isG1 op1 drop1 :: blk') && isin d drop && !isin d dr && sortedB s.sl then
            match mevB f n d w (.mk dst1 (some (e, w)) isG1 op1 drop1 :: blk') ((s.put (some d) (boolV w)).drop dr) with
            | none => none
            | some (ps, sb) => match litBool (sb.o (bif w then x else y)), (bif w then y else x) with
              | some bi, .k v => match litBool v with
                | some bo => bif isLitB (sb.tmp d) w then some (implL (bif w then b else !b) ps, ((s.drop dr).put (some dp) (scV w b bi bo)).drop drop, r2) else none
                | none => none
              | _, _ => none
          else none
        | _ => none
end
end Go.AM
