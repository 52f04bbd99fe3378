/- The abstract machine: its values, its states, and the rules by which it says what must hold before a piece of code. -/
import Derived.Tactics2
import Derived.KernelRfl
namespace Go.AM

inductive D where
  | lit (v : Value)
  | sl (l : List (List D))
  | fn (f : FuncId) (caps : List (List D))

/-- What one cell holds. ptr: into a place; eptr: into an element of an array place; own: a slice over an array place; fp: a pointer into memory that stays as it is. -/
inductive C where
  | dead
  | d (x : D)
  | nil
  | ptr (p off : Nat)
  | eptr (p sz i k : Nat)
  | own (p sz len : Nat)
  | fp (cells : List D)
  | clo (f : FuncId) (caps : List Nat)

inductive W where
  | c (x : C)
  | agg (cs : List C)

inductive V where
  | w (x : W)
  | tup (xs : List W)

inductive Pl where
  | box (cells : List C)
  | arr (sz : Nat) (els : List (List D)) (fz : Bool)
  | fbox (ds : List D)
  | gone

structure S where
  sl : List (Nat × V)
  pl : List (Nat × Pl)

def aget {α : Type} : List (Nat × α) → Nat → Option α
  | [], _ => none
  | (k, v) :: r, n => bif Nat.beq k n then some v else aget r n

def aput {α : Type} (n : Nat) (v : α) : List (Nat × α) → List (Nat × α)
  | [] => [(n, v)]
  | (k, u) :: r => bif Nat.beq k n then (n, v) :: r else bif Nat.blt n k then (n, v) :: (k, u) :: r else (k, u) :: aput n v r

def isin (n : Nat) : List Nat → Bool
  | [] => false
  | k :: r => bif Nat.beq k n then true else isin n r

def ofCell : Value → C
  | .slice none 0 0 => .nil
  | .bool b => .d (.lit (.bool b))
  | .int k n => .d (.lit (.int k n))
  | .string x => .d (.lit (.string x))
  | .pointer none => .d (.lit (.pointer none))
  | .map none => .d (.lit (.map none))
  | .nilFunc => .d (.lit .nilFunc)
  | .nilIface => .d (.lit .nilIface)
  | _ => .dead

def ofValue : Value → W
  | .agg cs => .agg (cs.toList.map ofCell)
  | v => .c (ofCell v)

def deadV : V := .w (.c .dead)
def undefV : V := .tup []

def S.tmp (s : S) (t : Nat) : V := match aget s.sl t with | some v => v | none => deadV

def S.put (s : S) (dst : Option Tmp) (v : V) : S :=
  match dst with
  | some d => { s with sl := aput d v s.sl }
  | none => s

/-! 'force s K' is 'K s': it is there so that a state is written out before one goes on. -/
def forceC : C → (C → Prop) → Prop
  | .dead, K => K .dead
  | .d x, K => K (.d x)
  | .nil, K => K .nil
  | .ptr p o, K => K (.ptr p o)
  | .eptr p z i k, K => K (.eptr p z i k)
  | .own p z n, K => K (.own p z n)
  | .fp l, K => K (.fp l)
  | .clo f l, K => K (.clo f l)
def forceCs : List C → (List C → Prop) → Prop
  | [], K => K []
  | x :: r, K => forceC x fun x => forceCs r fun r => K (x :: r)
def forceW : W → (W → Prop) → Prop
  | .c x, K => forceC x fun x => K (.c x)
  | .agg cs, K => forceCs cs fun cs => K (.agg cs)
def forceWs : List W → (List W → Prop) → Prop
  | [], K => K []
  | x :: r, K => forceW x fun x => forceWs r fun r => K (x :: r)
def forceV : V → (V → Prop) → Prop
  | .w x, K => forceW x fun x => K (.w x)
  | .tup xs, K => forceWs xs fun xs => K (.tup xs)
def forcePl : Pl → (Pl → Prop) → Prop
  | .box cs, K => forceCs cs fun cs => K (.box cs)
  | .arr z els true, K => K (.arr z els true)
  | .arr z els false, K => K (.arr z els false)
  | .fbox ds, K => K (.fbox ds)
  | .gone, K => K .gone
def forceSl : List (Nat × V) → (List (Nat × V) → Prop) → Prop
  | [], K => K []
  | (k, v) :: r, K => forceV v fun v => forceSl r fun r => K ((k, v) :: r)
def forcePls : List (Nat × Pl) → (List (Nat × Pl) → Prop) → Prop
  | [], K => K []
  | (k, v) :: r, K => forcePl v fun v => forcePls r fun r => K ((k, v) :: r)
def force : S → (S → Prop) → Prop
  | ⟨sl, pl⟩, K => forceSl sl fun sl => forcePls pl fun pl => K ⟨sl, pl⟩

theorem forceC_eq (x : C) (K : C → Prop) : forceC x K = K x := by cases x <;> rfl
theorem forceCs_eq : ∀ (x : List C) (K : List C → Prop), forceCs x K = K x
  | [], _ => rfl
  | x :: r, K => by simp only [forceCs, forceC_eq, forceCs_eq r]
theorem forceW_eq (x : W) (K : W → Prop) : forceW x K = K x := by cases x <;> simp only [forceW, forceC_eq, forceCs_eq]
theorem forceWs_eq : ∀ (x : List W) (K : List W → Prop), forceWs x K = K x
  | [], _ => rfl
  | x :: r, K => by simp only [forceWs, forceW_eq, forceWs_eq r]
theorem forceV_eq (x : V) (K : V → Prop) : forceV x K = K x := by cases x <;> simp only [forceV, forceW_eq, forceWs_eq]
theorem forcePl_eq (x : Pl) (K : Pl → Prop) : forcePl x K = K x := by
  cases x with
  | box cs => simp only [forcePl, forceCs_eq]
  | arr z els fz => cases fz <;> rfl
  | fbox ds => rfl
  | gone => rfl
theorem forceSl_eq : ∀ (x : List (Nat × V)) (K : List (Nat × V) → Prop), forceSl x K = K x
  | [], _ => rfl
  | (_, _) :: r, K => by simp only [forceSl, forceV_eq, forceSl_eq r]
theorem forcePls_eq : ∀ (x : List (Nat × Pl)) (K : List (Nat × Pl) → Prop), forcePls x K = K x
  | [], _ => rfl
  | (_, _) :: r, K => by simp only [forcePls, forcePl_eq, forcePls_eq r]
theorem force_eq (s : S) (K : S → Prop) : force s K = K s := by cases s; simp only [force, forceSl_eq, forcePls_eq]

/-! Memory-free values, and what the model computes of them without looking at the world. -/
def litC : C → Option Value
  | .d (.lit v) => some v
  | .nil => some (.slice none 0 0)
  | _ => none

def litCs : List C → Option (List Value)
  | [] => some []
  | x :: r => match litC x, litCs r with
    | some v, some l => some (v :: l)
    | _, _ => none

def litW : W → Option Value
  | .c x => litC x
  | .agg cs => match litCs cs with
    | some l => some (.agg l.toArray)
    | none => none

def litV : V → Option Value
  | .w x => litW x
  | _ => none

def pureRun {α : Type} (P : Program) : Sem α → Option α
  | .pure a => some a
  | .program k => pureRun P (k P)
  | .mark _ k => pureRun P k
  | _ => none


def isSome {α : Type} : Option α → Bool | some _ => true | none => false

def W.cells : W → List C
  | .c x => [x]
  | .agg cs => cs

def C.isDead : C → Bool | .dead => true | _ => false
def solid : List C → Bool
  | [] => true
  | x :: r => bif x.isDead then false else solid r

def splice {α : Type} (l : List α) (off : Nat) (new : List α) : List α := l.take off ++ new ++ l.drop (off + new.length)

/-! Forgetting references to places. -/
def C.kill (l : List Nat) : C → C
  | .ptr q o => bif isin q l then .dead else .ptr q o
  | .eptr q sz i k => bif isin q l then .dead else .eptr q sz i k
  | .own q sz n => bif isin q l then .dead else .own q sz n
  | .clo f caps => bif caps.any (fun q => isin q l) then .dead else .clo f caps
  | x => x
def W.kill (l : List Nat) : W → W
  | .c x => .c (x.kill l)
  | .agg cs => .agg (cs.map (C.kill l))
def V.kill (l : List Nat) : V → V
  | .w x => .w (x.kill l)
  | .tup xs => .tup (xs.map (W.kill l))
def Pl.kill (l : List Nat) : Pl → Pl
  | .box cs => .box (cs.map (C.kill l))
  | x => x

def afilter {α : Type} (f : Nat → Bool) : List (Nat × α) → List (Nat × α)
  | [] => []
  | (k, v) :: r => bif f k then (k, v) :: afilter f r else afilter f r

def addPls : List (Nat × Pl) → List (Nat × Pl) → List (Nat × Pl)
  | [], pl => pl
  | (k, x) :: r, pl => aput k x (addPls r pl)

/-- Some places are gone, some new ones are there. -/
def S.redo (s : S) (kills : List Nat) (new : List (Nat × Pl)) : S :=
  { sl := s.sl.map fun x => (x.1, x.2.kill kills), pl := addPls new ((afilter (fun k => !isin k kills) s.pl).map fun x => (x.1, x.2.kill kills)) }

/-- A new place p. -/
def S.place (s : S) (p : Nat) (x : Pl) : S := s.redo [p] [(p, x)]

/-! A slice of the frame's own as data: its place is then frozen. -/
def freezeP (pl : List (Nat × Pl)) (p : Nat) : List (Nat × Pl) :=
  match aget pl p with
  | some (.arr sz els _) => aput p (.arr sz els true) pl
  | _ => pl

def toD (pl : List (Nat × Pl)) : C → Option (D × List (Nat × Pl))
  | .d x => some (x, pl)
  | .nil => some (.sl [], pl)
  | .own p _ n => match aget pl p with
    | some (.arr _ els _) => some (.sl (els.take n), freezeP pl p)
    | _ => none
  | .clo f [] => some (.fn f [], pl)
  | _ => none

def toDs (pl : List (Nat × Pl)) : List C → Option (List D × List (Nat × Pl))
  | [] => some ([], pl)
  | x :: r => match toD pl x with
    | some (y, pl1) => match toDs pl1 r with
      | some (ys, pl2) => some (y :: ys, pl2)
      | none => none
    | none => none

def toDW (pl : List (Nat × Pl)) : W → Option (W × List (Nat × Pl))
  | .c (.fp l) => some (.c (.fp l), pl)
  | .c x => match toD pl x with
    | some (y, pl1) => some (.c (.d y), pl1)
    | none => none
  | .agg cs => match toDs pl cs with
    | some (ys, pl1) => some (.agg (ys.map .d), pl1)
    | none => none

def toDWs (pl : List (Nat × Pl)) : List W → Option (List W × List (Nat × Pl))
  | [] => some ([], pl)
  | x :: r => match toDW pl x with
    | some (y, pl1) => match toDWs pl1 r with
      | some (ys, pl2) => some (y :: ys, pl2)
      | none => none
    | none => none

/-! Results of calls: the places that they name are numbered from 0 on; first come those that were handed over. -/
structure Res where
  v : V
  pl : List Pl

def C.scalar : C → Bool | .d (.lit _) => true | _ => false
def W.scalar : W → Bool | .c x => x.scalar | .agg cs => cs.all C.scalar
def V.scalar : V → Bool | .w x => x.scalar | .tup xs => xs.all W.scalar

def nthO {α : Type} : List (Option α) → Nat → Option α
  | [], _ => none
  | x :: _, 0 => x
  | _ :: r, n + 1 => nthO r n

/-- A result's places get names. -/
def C.ren (l : List (Option Nat)) : C → C
  | .ptr q o => match nthO l q with | some p => .ptr p o | none => .dead
  | .eptr q sz i k => match nthO l q with | some p => .eptr p sz i k | none => .dead
  | .own q sz k => match nthO l q with | some p => .own p sz k | none => .dead
  | .clo f [] => .clo f []
  | .clo _ _ => .dead
  | .d x => .d x
  | .nil => .nil
  | .fp l => .fp l
  | .dead => .dead
def W.ren (l : List (Option Nat)) : W → W | .c x => .c (x.ren l) | .agg cs => .agg (cs.map (C.ren l))
def V.ren (l : List (Option Nat)) : V → V | .w x => .w (x.ren l) | .tup xs => .tup (xs.map (W.ren l))
def Pl.ren (l : List (Option Nat)) : Pl → Pl
  | .box cs => .box (cs.map (C.ren l))
  | .arr z els fz => .arr z els fz
  | .fbox ds => .fbox ds
  | .gone => .gone

def numbered : Nat → List Pl → List (Nat × Pl)
  | _, [] => []
  | n, x :: r => (n, x) :: numbered (n + 1) r
def names : List (Nat × Pl) → List Nat
  | [] => []
  | (k, _) :: r => k :: names r

def base (d : Nat) : Nat := 600000 + 16 * d
def upFrom : Nat → Nat → List Nat
  | _, 0 => []
  | i, n + 1 => i :: upFrom (i + 1) n

/-- Names of what is there, of what is gone, and the places themselves. -/
def lnames : List Nat → List Pl → List (Option Nat)
  | n :: ns, .gone :: xs => none :: lnames ns xs
  | n :: ns, _ :: xs => some n :: lnames ns xs
  | _, _ => []
def zipPl : List Nat → List Pl → List (Nat × Pl)
  | _ :: ns, .gone :: xs => zipPl ns xs
  | n :: ns, x :: xs => (n, x) :: zipPl ns xs
  | _, _ => []
/-- Whose references are forgotten: of the first m names those whose places are gone, and all other names. -/
def kilN : Nat → List Nat → List Pl → List Nat
  | m + 1, n :: ns, .gone :: xs => n :: kilN m ns xs
  | m + 1, _ :: ns, _ :: xs => kilN m ns xs
  | 0, n :: ns, _ :: xs => n :: kilN 0 ns xs
  | _, _, _ => []
def distinct : List Nat → Bool
  | [] => true
  | x :: r => !isin x r && distinct r

/-- The frame behind a call to which the places U were handed; new places are named from nb on. -/
def recvN (s : S) (U : List Nat) (nb : Nat) (dst : Option Tmp) (r : Res) : S :=
  (s.redo (kilN U.length (U ++ upFrom nb (r.pl.length - U.length)) r.pl)
    (zipPl (U ++ upFrom nb (r.pl.length - U.length)) (r.pl.map (Pl.ren (lnames (U ++ upFrom nb (r.pl.length - U.length)) r.pl))))).put dst
    (r.v.ren (lnames (U ++ upFrom nb (r.pl.length - U.length)) r.pl))

def okNames (U : List Nat) (nb : Nat) (r : Res) : Bool := distinct (names (zipPl (U ++ upFrom nb (r.pl.length - U.length)) r.pl))

/-- The frame behind a call: s, where the result cannot share memory with what was handed over; s1, where it may. -/
def recv (s s1 : S) (dst : Option Tmp) (r : Res) : S :=
  match dst with
  | some d => bif r.v.scalar then s.put (some d) r.v
    else recvN s1 [] (base d) (some d) r
  | none => s

/-! Packing: the places in the list U get their numbers in it. -/
def idx (p : Nat) : List Nat → Option Nat
  | [] => none
  | k :: r => bif Nat.beq k p then some 0 else match idx p r with | some i => some (i + 1) | none => none

def C.pk (pl : List (Nat × Pl)) (U : List Nat) : C → C
  | .own p z n => match aget pl p with
    | some (.arr _ _ false) => match idx p U with | some k => .own k z n | none => .dead
    | some (.arr _ els true) => .d (.sl (els.take n))
    | _ => .dead
  | .ptr p o => match aget pl p with
    | some (.box _) => match idx p U with | some k => .ptr k o | none => .dead
    | some (.fbox ds) => .fp (ds.drop o)
    | _ => .dead
  | .d x => .d x
  | .nil => .nil
  | .clo f [] => .d (.fn f [])
  | .fp l => .fp l
  | _ => .dead
def W.pk (pl : List (Nat × Pl)) (U : List Nat) : W → W | .c x => .c (x.pk pl U) | .agg cs => .agg (cs.map (C.pk pl U))
def V.pk (pl : List (Nat × Pl)) (U : List Nat) : V → V | .w x => .w (x.pk pl U) | .tup xs => .tup (xs.map (W.pk pl U))
/-- What the place p, the k-th of the list, holds. -/
def pkPl (pl : List (Nat × Pl)) (U : List Nat) (k p : Nat) : Pl :=
  match idx p U with
  | some i => bif Nat.beq i k then
      match aget pl p with
      | some (.box cs) => .box (cs.map (C.pk pl U))
      | some (.arr z els false) => .arr z els false
      | _ => .gone
    else .gone
  | none => .gone
def pkPls (pl : List (Nat × Pl)) (U : List Nat) : Nat → List Nat → List Pl
  | _, [] => []
  | k, p :: r => pkPl pl U k p :: pkPls pl U (k + 1) r

def C.refs : C → List Nat
  | .ptr p _ => [p]
  | .eptr p _ _ _ => [p]
  | .own p _ _ => [p]
  | .clo _ ps => ps
  | _ => []
def refsCs : List C → List Nat
  | [] => []
  | x :: r => x.refs ++ refsCs r
def W.refs : W → List Nat
  | .c x => x.refs
  | .agg cs => refsCs cs
def refsWs : List W → List Nat
  | [] => []
  | x :: r => x.refs ++ refsWs r
def V.refs : V → List Nat
  | .w x => x.refs
  | .tup xs => refsWs xs

/-- Places of the frame's own that are not frozen, each once. -/
def addAll (pl : List (Nat × Pl)) : List Nat → List Nat → List Nat
  | U, [] => U
  | U, p :: r => match aget pl p with
    | some (.box _) => bif isin p U then addAll pl U r else addAll pl (U ++ [p]) r
    | some (.arr _ _ false) => bif isin p U then addAll pl U r else addAll pl (U ++ [p]) r
    | _ => addAll pl U r
def at? : List Nat → Nat → Option Nat
  | [], _ => none
  | x :: _, 0 => some x
  | _ :: r, n + 1 => at? r n
/-- And all that boxes among them lead to. -/
def reach (pl : List (Nat × Pl)) : Nat → Nat → List Nat → List Nat
  | 0, _, U => U
  | n + 1, i, U => match at? U i with
    | some p => match aget pl p with
      | some (.box cs) => reach pl n (i + 1) (addAll pl U (refsCs cs))
      | _ => reach pl n (i + 1) U
    | none => U
def reached (pl : List (Nat × Pl)) (U l : List Nat) : List Nat := reach pl 40 0 (addAll pl U l)

def packed (pl : List (Nat × Pl)) (U : List Nat) (v : V) : Res := ⟨v.pk pl U, pkPls pl U 0 U⟩
def packV (pl : List (Nat × Pl)) (U : List Nat) (v : V) : Res := packed pl (reached pl U v.refs) v

end Go.AM
