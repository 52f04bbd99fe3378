/- Merged from the texts: Shelf AmDefs AmRel AmWp AmS1 AmS2 AmS3 AmS4 AmS5 AmS6 AmS7 AmS8 -/
import Derived.Shelf.Strings.Search3
import Derived.Shelf.LaysM
import Derived.Ground.NamesProg
import Derived.Test.YtekkjilpdohieaaGreatProg
import Derived.Tactics2
import Derived.KernelRfl
import Derived.WalkKit
set_option linter.unusedSimpArgs false
set_option linter.unusedVariables false
namespace Go.Proofs
open Go.Shelf
def Tryz.laysM144_ren : Go.Shelf.Ren := ⟨fun | 144 => 154 | 143 => 158 | 219 => 164 | 217 => 115 | 225 => 166 | 224 => 167 | 267 => 168 | 266 => 139 | 314 => 170 | n => n, fun | 9 => 9 | 4 => 4 | 3 => 3 | 5 => 5 | 46 => 191 | 146 => 213 | 51 => 212 | n => n, fun | 1 => 0 | n => n⟩
theorem Tryz.laysM144 : Go.Proofs.LaysM.n144 Tryz.prog Tryz.laysM144_ren := {
  mixed := by kernel_rfl
  f143 := Tryz.func158.trans (congrArg some (by kernel_rfl))
  f144 := Tryz.func154.trans (congrArg some (by kernel_rfl))
  f217 := Tryz.func115.trans (congrArg some (by kernel_rfl))
  f219 := Tryz.func164.trans (congrArg some (by kernel_rfl))
  f224 := Tryz.func167.trans (congrArg some (by kernel_rfl))
  f225 := Tryz.func166.trans (congrArg some (by kernel_rfl))
  f266 := Tryz.func139.trans (congrArg some (by kernel_rfl))
  f267 := Tryz.func168.trans (congrArg some (by kernel_rfl))
  f314 := Tryz.func170.trans (congrArg some (by kernel_rfl))
  t3 := Tryz.underlying3
  a3 := Tryz.isAgg3
  z3 := Tryz.sizeOf3
  v3 := Tryz.zeroValue3
  t4 := Tryz.underlying4
  a4 := Tryz.isAgg4
  z4 := Tryz.sizeOf4
  v4 := Tryz.zeroValue4
  t5 := Tryz.underlying5
  a5 := Tryz.isAgg5
  z5 := Tryz.sizeOf5
  v5 := Tryz.zeroValue5
  t9 := Tryz.underlying9
  a9 := Tryz.isAgg9
  z9 := Tryz.sizeOf9
  v9 := Tryz.zeroValue9
  t46 := Tryz.underlying191
  a46 := Tryz.isAgg191
  z46 := Tryz.sizeOf191
  v46 := Tryz.zeroValue191
  t51 := Tryz.underlying212
  a51 := Tryz.isAgg212
  z51 := Tryz.sizeOf212
  v51 := Tryz.zeroValue212
  t146 := Tryz.underlying213
  a146 := Tryz.isAgg213
  z146 := Tryz.sizeOf213
  v146 := Tryz.zeroValue213
  g1 := by kernel_rfl
  i3 := by kernel_rfl
  i4 := by kernel_rfl
  i5 := by kernel_rfl
  i9 := by kernel_rfl
  i46 := by kernel_rfl
  i51 := by kernel_rfl
  i146 := by kernel_rfl
  m1 := by kernel_rfl
  s1_3 := fun w h => Go.Proofs.cell_of_shapedOpen_int (zero := #[.int .i64 0]) (t := 3) h (of_decide_eq_true (by kernel_rfl)) (by kernel_rfl) rfl (by kernel_rfl) (by kernel_rfl) Tryz.underlying3 }
end Go.Proofs

namespace Go.AM

inductive D where
  | lit (v : Value)
  | sl (l : List (List D))
  | fn (f : FuncId) (caps : List (List D))

/-- What one cell holds. ptr: into a place; eptr: into an element of an array place; own: a slice over an array place; sub: a slice of an array place from an element on; fp: a pointer into memory that stays as it is. -/
inductive C where
  | dead
  | d (x : D)
  | nil
  | ptr (p off : Nat)
  | eptr (p sz i k : Nat)
  | own (p sz len : Nat)
  | sub (p sz off n : Nat)
  | fp (cells : List D)
  | clo (f : FuncId) (caps : List Nat)

inductive W where
  | c (x : C)
  | agg (cs : List C)

inductive V where
  | w (x : W)
  | tup (xs : List W)

inductive Pl where
  | box (cells : List C)
  | arr (sz : Nat) (els : List (List D)) (fz : Bool)
  | fbox (ds : List D)
  | gone

structure S where
  sl : List (Nat × V)
  pl : List (Nat × Pl)

def aget {α : Type} : List (Nat × α) → Nat → Option α
  | [], _ => none
  | (k, v) :: r, n => bif Nat.beq k n then some v else aget r n

def aput {α : Type} (n : Nat) (v : α) : List (Nat × α) → List (Nat × α)
  | [] => [(n, v)]
  | (k, u) :: r => bif Nat.beq k n then (n, v) :: r else bif Nat.blt n k then (n, v) :: (k, u) :: r else (k, u) :: aput n v r

def isin (n : Nat) : List Nat → Bool
  | [] => false
  | k :: r => bif Nat.beq k n then true else isin n r

def ofCell : Value → C
  | .slice none 0 0 => .nil
  | .bool b => .d (.lit (.bool b))
  | .int k n => .d (.lit (.int k n))
  | .string x => .d (.lit (.string x))
  | .pointer none => .d (.lit (.pointer none))
  | .map none => .d (.lit (.map none))
  | .nilFunc => .d (.lit .nilFunc)
  | .nilIface => .d (.lit .nilIface)
  | _ => .dead

def ofValue : Value → W
  | .agg cs => .agg (cs.toList.map ofCell)
  | v => .c (ofCell v)

def deadV : V := .w (.c .dead)
def undefV : V := .tup []

def S.tmp (s : S) (t : Nat) : V := match aget s.sl t with | some v => v | none => deadV

def S.put (s : S) (dst : Option Tmp) (v : V) : S :=
  match dst with
  | some d => { s with sl := aput d v s.sl }
  | none => s

/-! 'force s K' is 'K s': it is there so that a state is written out before one goes on. -/
def forceC : C → (C → Prop) → Prop
  | .dead, K => K .dead
  | .d x, K => K (.d x)
  | .nil, K => K .nil
  | .ptr p o, K => K (.ptr p o)
  | .eptr p z i k, K => K (.eptr p z i k)
  | .own p z n, K => K (.own p z n)
  | .sub p z o n, K => K (.sub p z o n)
  | .fp l, K => K (.fp l)
  | .clo f l, K => K (.clo f l)
def forceCs : List C → (List C → Prop) → Prop
  | [], K => K []
  | x :: r, K => forceC x fun x => forceCs r fun r => K (x :: r)
def forceW : W → (W → Prop) → Prop
  | .c x, K => forceC x fun x => K (.c x)
  | .agg cs, K => forceCs cs fun cs => K (.agg cs)
def forceWs : List W → (List W → Prop) → Prop
  | [], K => K []
  | x :: r, K => forceW x fun x => forceWs r fun r => K (x :: r)
def forceV : V → (V → Prop) → Prop
  | .w x, K => forceW x fun x => K (.w x)
  | .tup xs, K => forceWs xs fun xs => K (.tup xs)
def forcePl : Pl → (Pl → Prop) → Prop
  | .box cs, K => forceCs cs fun cs => K (.box cs)
  | .arr z els true, K => K (.arr z els true)
  | .arr z els false, K => K (.arr z els false)
  | .fbox ds, K => K (.fbox ds)
  | .gone, K => K .gone
def forceSl : List (Nat × V) → (List (Nat × V) → Prop) → Prop
  | [], K => K []
  | (k, v) :: r, K => forceV v fun v => forceSl r fun r => K ((k, v) :: r)
def forcePls : List (Nat × Pl) → (List (Nat × Pl) → Prop) → Prop
  | [], K => K []
  | (k, v) :: r, K => forcePl v fun v => forcePls r fun r => K ((k, v) :: r)
def force : S → (S → Prop) → Prop
  | ⟨sl, pl⟩, K => forceSl sl fun sl => forcePls pl fun pl => K ⟨sl, pl⟩

theorem forceC_eq (x : C) (K : C → Prop) : forceC x K = K x := by cases x <;> rfl
theorem forceCs_eq : ∀ (x : List C) (K : List C → Prop), forceCs x K = K x
  | [], _ => rfl
  | x :: r, K => by simp only [forceCs, forceC_eq, forceCs_eq r]
theorem forceW_eq (x : W) (K : W → Prop) : forceW x K = K x := by cases x <;> simp only [forceW, forceC_eq, forceCs_eq]
theorem forceWs_eq : ∀ (x : List W) (K : List W → Prop), forceWs x K = K x
  | [], _ => rfl
  | x :: r, K => by simp only [forceWs, forceW_eq, forceWs_eq r]
theorem forceV_eq (x : V) (K : V → Prop) : forceV x K = K x := by cases x <;> simp only [forceV, forceW_eq, forceWs_eq]
theorem forcePl_eq (x : Pl) (K : Pl → Prop) : forcePl x K = K x := by
  cases x with
  | box cs => simp only [forcePl, forceCs_eq]
  | arr z els fz => cases fz <;> rfl
  | fbox ds => rfl
  | gone => rfl
theorem forceSl_eq : ∀ (x : List (Nat × V)) (K : List (Nat × V) → Prop), forceSl x K = K x
  | [], _ => rfl
  | (_, _) :: r, K => by simp only [forceSl, forceV_eq, forceSl_eq r]
theorem forcePls_eq : ∀ (x : List (Nat × Pl)) (K : List (Nat × Pl) → Prop), forcePls x K = K x
  | [], _ => rfl
  | (_, _) :: r, K => by simp only [forcePls, forcePl_eq, forcePls_eq r]
theorem force_eq (s : S) (K : S → Prop) : force s K = K s := by cases s; simp only [force, forceSl_eq, forcePls_eq]

/-! Memory-free values, and what the model computes of them without looking at the world. -/
def litC : C → Option Value
  | .d (.lit v) => some v
  | .nil => some (.slice none 0 0)
  | _ => none

def litCs : List C → Option (List Value)
  | [] => some []
  | x :: r => match litC x, litCs r with
    | some v, some l => some (v :: l)
    | _, _ => none

def litW : W → Option Value
  | .c x => litC x
  | .agg cs => match litCs cs with
    | some l => some (.agg l.toArray)
    | none => none

def litV : V → Option Value
  | .w x => litW x
  | _ => none

def pureRun {α : Type} (P : Program) : Sem α → Option α
  | .pure a => some a
  | .program k => pureRun P (k P)
  | .mark _ k => pureRun P k
  | _ => none


def isSome {α : Type} : Option α → Bool | some _ => true | none => false

def W.cells : W → List C
  | .c x => [x]
  | .agg cs => cs

def C.isDead : C → Bool | .dead => true | _ => false
def solid : List C → Bool
  | [] => true
  | x :: r => bif x.isDead then false else solid r

def splice {α : Type} (l : List α) (off : Nat) (new : List α) : List α := l.take off ++ new ++ l.drop (off + new.length)

/-! Forgetting references to places. -/
def C.kill (l : List Nat) : C → C
  | .ptr q o => bif isin q l then .dead else .ptr q o
  | .eptr q sz i k => bif isin q l then .dead else .eptr q sz i k
  | .own q sz n => bif isin q l then .dead else .own q sz n
  | .sub q sz o n => bif isin q l then .dead else .sub q sz o n
  | .clo f caps => bif caps.any (fun q => isin q l) then .dead else .clo f caps
  | x => x
def W.kill (l : List Nat) : W → W
  | .c x => .c (x.kill l)
  | .agg cs => .agg (cs.map (C.kill l))
def V.kill (l : List Nat) : V → V
  | .w x => .w (x.kill l)
  | .tup xs => .tup (xs.map (W.kill l))
def Pl.kill (l : List Nat) : Pl → Pl
  | .box cs => .box (cs.map (C.kill l))
  | x => x

def afilter {α : Type} (f : Nat → Bool) : List (Nat × α) → List (Nat × α)
  | [] => []
  | (k, v) :: r => bif f k then (k, v) :: afilter f r else afilter f r

def addPls : List (Nat × Pl) → List (Nat × Pl) → List (Nat × Pl)
  | [], pl => pl
  | (k, x) :: r, pl => aput k x (addPls r pl)

def amap {α β : Type} (f : α → β) : List (Nat × α) → List (Nat × β)
  | [] => []
  | (k, v) :: r => (k, f v) :: amap f r

/-- Some places are gone, some new ones are there. -/
def S.redo (s : S) (kills : List Nat) (new : List (Nat × Pl)) : S :=
  { sl := amap (V.kill kills) s.sl, pl := addPls new (amap (Pl.kill kills) (afilter (fun k => !isin k kills) s.pl)) }

/-- A new place p. -/
def S.place (s : S) (p : Nat) (x : Pl) : S := s.redo [p] [(p, x)]

/-! A slice of the frame's own as data: its place is then frozen. -/
def freezeP (pl : List (Nat × Pl)) (p : Nat) : List (Nat × Pl) :=
  match aget pl p with
  | some (.arr sz els _) => aput p (.arr sz els true) pl
  | _ => pl

def toD (pl : List (Nat × Pl)) : C → Option (D × List (Nat × Pl))
  | .d x => some (x, pl)
  | .nil => some (.sl [], pl)
  | .own p _ n => match aget pl p with
    | some (.arr _ els _) => some (.sl (els.take n), freezeP pl p)
    | _ => none
  | .clo f [] => some (.fn f [], pl)
  | _ => none

def toDs (pl : List (Nat × Pl)) : List C → Option (List D × List (Nat × Pl))
  | [] => some ([], pl)
  | x :: r => match toD pl x with
    | some (y, pl1) => match toDs pl1 r with
      | some (ys, pl2) => some (y :: ys, pl2)
      | none => none
    | none => none

def toDW (pl : List (Nat × Pl)) : W → Option (W × List (Nat × Pl))
  | .c (.fp l) => some (.c (.fp l), pl)
  | .c x => match toD pl x with
    | some (y, pl1) => some (.c (.d y), pl1)
    | none => none
  | .agg cs => match toDs pl cs with
    | some (ys, pl1) => some (.agg (ys.map .d), pl1)
    | none => none

def toDWs (pl : List (Nat × Pl)) : List W → Option (List W × List (Nat × Pl))
  | [] => some ([], pl)
  | x :: r => match toDW pl x with
    | some (y, pl1) => match toDWs pl1 r with
      | some (ys, pl2) => some (y :: ys, pl2)
      | none => none
    | none => none

/-! Results of calls: the places that they name are numbered from 0 on; first come those that were handed over. -/
structure Res where
  v : V
  pl : List Pl

def C.scalar : C → Bool | .d (.lit _) => true | _ => false
def W.scalar : W → Bool | .c x => x.scalar | .agg cs => cs.all C.scalar
def V.scalar : V → Bool | .w x => x.scalar | .tup xs => xs.all W.scalar

def nthO {α : Type} : List (Option α) → Nat → Option α
  | [], _ => none
  | x :: _, 0 => x
  | _ :: r, n + 1 => nthO r n

/-- A result's places get names. -/
def C.ren (l : List (Option Nat)) : C → C
  | .ptr q o => match nthO l q with | some p => .ptr p o | none => .dead
  | .eptr q sz i k => match nthO l q with | some p => .eptr p sz i k | none => .dead
  | .own q sz k => match nthO l q with | some p => .own p sz k | none => .dead
  | .sub _ _ _ _ => .dead
  | .clo f [] => .clo f []
  | .clo _ _ => .dead
  | .d x => .d x
  | .nil => .nil
  | .fp l => .fp l
  | .dead => .dead
def W.ren (l : List (Option Nat)) : W → W | .c x => .c (x.ren l) | .agg cs => .agg (cs.map (C.ren l))
def V.ren (l : List (Option Nat)) : V → V | .w x => .w (x.ren l) | .tup xs => .tup (xs.map (W.ren l))
def Pl.ren (l : List (Option Nat)) : Pl → Pl
  | .box cs => .box (cs.map (C.ren l))
  | .arr z els fz => .arr z els fz
  | .fbox ds => .fbox ds
  | .gone => .gone

def numbered : Nat → List Pl → List (Nat × Pl)
  | _, [] => []
  | n, x :: r => (n, x) :: numbered (n + 1) r
def names : List (Nat × Pl) → List Nat
  | [] => []
  | (k, _) :: r => k :: names r

def base (d : Nat) : Nat := 600000 + 16 * d
def upFrom : Nat → Nat → List Nat
  | _, 0 => []
  | i, n + 1 => i :: upFrom (i + 1) n

/-- Names of what is there, of what is gone, and the places themselves. -/
def lnames : List Nat → List Pl → List (Option Nat)
  | n :: ns, .gone :: xs => none :: lnames ns xs
  | n :: ns, _ :: xs => some n :: lnames ns xs
  | _, _ => []
def zipPl : List Nat → List Pl → List (Nat × Pl)
  | _ :: ns, .gone :: xs => zipPl ns xs
  | n :: ns, x :: xs => (n, x) :: zipPl ns xs
  | _, _ => []
/-- Whose references are forgotten: of the first m names those whose places are gone, and all other names. -/
def kilN : Nat → List Nat → List Pl → List Nat
  | m + 1, n :: ns, .gone :: xs => n :: kilN m ns xs
  | m + 1, _ :: ns, _ :: xs => kilN m ns xs
  | 0, n :: ns, _ :: xs => n :: kilN 0 ns xs
  | _, _, _ => []
def distinct : List Nat → Bool
  | [] => true
  | x :: r => !isin x r && distinct r

/-- The frame behind a call to which the places U were handed; new places are named from nb on. -/
def recvN (s : S) (U : List Nat) (nb : Nat) (dst : Option Tmp) (r : Res) : S :=
  (s.redo (kilN U.length (U ++ upFrom nb (r.pl.length - U.length)) r.pl)
    (zipPl (U ++ upFrom nb (r.pl.length - U.length)) (r.pl.map (Pl.ren (lnames (U ++ upFrom nb (r.pl.length - U.length)) r.pl))))).put dst
    (r.v.ren (lnames (U ++ upFrom nb (r.pl.length - U.length)) r.pl))

def okNames (U : List Nat) (nb : Nat) (r : Res) : Bool := distinct (names (zipPl (U ++ upFrom nb (r.pl.length - U.length)) r.pl))

/-- The frame behind a call: s, where the result cannot share memory with what was handed over; s1, where it may. -/
def recv (s s1 : S) (dst : Option Tmp) (r : Res) : S :=
  match dst with
  | some d => bif r.v.scalar then s.put (some d) r.v
    else recvN s1 [] (base d) (some d) r
  | none => s

/-! Packing: the places in the list U get their numbers in it. -/
def idx (p : Nat) : List Nat → Option Nat
  | [] => none
  | k :: r => bif Nat.beq k p then some 0 else match idx p r with | some i => some (i + 1) | none => none

def C.pk (pl : List (Nat × Pl)) (U : List Nat) : C → C
  | .own p z n => match aget pl p with
    | some (.arr _ _ false) => match idx p U with | some k => .own k z n | none => .dead
    | some (.arr _ els true) => .d (.sl (els.take n))
    | _ => .dead
  | .ptr p o => match aget pl p with
    | some (.box _) => match idx p U with | some k => .ptr k o | none => .dead
    | some (.fbox ds) => .fp (ds.drop o)
    | _ => .dead
  | .d x => .d x
  | .nil => .nil
  | .clo f [] => .d (.fn f [])
  | .fp l => .fp l
  | _ => .dead
def W.pk (pl : List (Nat × Pl)) (U : List Nat) : W → W | .c x => .c (x.pk pl U) | .agg cs => .agg (cs.map (C.pk pl U))
def V.pk (pl : List (Nat × Pl)) (U : List Nat) : V → V | .w x => .w (x.pk pl U) | .tup xs => .tup (xs.map (W.pk pl U))
/-- What the place p, the k-th of the list, holds. -/
def pkPl (pl : List (Nat × Pl)) (U : List Nat) (k p : Nat) : Pl :=
  match idx p U with
  | some i => bif Nat.beq i k then
      match aget pl p with
      | some (.box cs) => .box (cs.map (C.pk pl U))
      | some (.arr z els false) => .arr z els false
      | _ => .gone
    else .gone
  | none => .gone
def pkPls (pl : List (Nat × Pl)) (U : List Nat) : Nat → List Nat → List Pl
  | _, [] => []
  | k, p :: r => pkPl pl U k p :: pkPls pl U (k + 1) r

def C.refs : C → List Nat
  | .ptr p _ => [p]
  | .eptr p _ _ _ => [p]
  | .own p _ _ => [p]
  | .sub p _ _ _ => [p]
  | .clo _ ps => ps
  | _ => []
def refsCs : List C → List Nat
  | [] => []
  | x :: r => x.refs ++ refsCs r
def W.refs : W → List Nat
  | .c x => x.refs
  | .agg cs => refsCs cs
def refsWs : List W → List Nat
  | [] => []
  | x :: r => x.refs ++ refsWs r
def V.refs : V → List Nat
  | .w x => x.refs
  | .tup xs => refsWs xs

/-- Places of the frame's own that are not frozen, each once. -/
def addAll (pl : List (Nat × Pl)) : List Nat → List Nat → List Nat
  | U, [] => U
  | U, p :: r => match aget pl p with
    | some (.box _) => bif isin p U then addAll pl U r else addAll pl (U ++ [p]) r
    | some (.arr _ _ false) => bif isin p U then addAll pl U r else addAll pl (U ++ [p]) r
    | _ => addAll pl U r
def at? : List Nat → Nat → Option Nat
  | [], _ => none
  | x :: _, 0 => some x
  | _ :: r, n + 1 => at? r n
/-- And all that boxes among them lead to. -/
def reach (pl : List (Nat × Pl)) : Nat → Nat → List Nat → List Nat
  | 0, _, U => U
  | n + 1, i, U => match at? U i with
    | some p => match aget pl p with
      | some (.box cs) => reach pl n (i + 1) (addAll pl U (refsCs cs))
      | _ => reach pl n (i + 1) U
    | none => U
def reached (pl : List (Nat × Pl)) (U l : List Nat) : List Nat := reach pl 40 0 (addAll pl U l)

def packed (pl : List (Nat × Pl)) (U : List Nat) (v : V) : Res := ⟨v.pk pl U, pkPls pl U 0 U⟩
def packV (pl : List (Nat × Pl)) (U : List Nat) (v : V) : Res := packed pl (reached pl U v.refs) v

end Go.AM

namespace Go.AM

/-! Data that stays as it is: 'ok' are the blocks in which it may lie. -/
mutual
def RD (w : World) (ok : Nat → Prop) : D → Value → Prop
  | .lit v, x => x = v ∧ v.oneCell' = true
  | .sl l, x => ∃ a n c, x = .slice a n c ∧ n = l.length ∧ n ≤ c ∧ c ≤ maxLen ∧ (l = [] ∨ ∃ b o sz, a = some ⟨b, o, none⟩ ∧ ok b ∧ RDs w ok b sz o l)
  | .fn f caps, x => ∃ vs : List Value, x = .func (.func f) #[] vs.toArray ∧ RDf w ok vs caps
def RDs (w : World) (ok : Nat → Prop) (b sz : Nat) : Nat → List (List D) → Prop
  | _, [] => True
  | o, e :: r => e.length = sz ∧ RDc w ok b o e ∧ RDs w ok b sz (o + sz) r
def RDc (w : World) (ok : Nat → Prop) (b : Nat) : Nat → List D → Prop
  | _, [] => True
  | o, d :: r => (∃ v, w.cell? ⟨b, o, none⟩ = some v ∧ RD w ok d v) ∧ RDc w ok b (o + 1) r
def RDf (w : World) (ok : Nat → Prop) : List Value → List (List D) → Prop
  | vs, [] => vs = []
  | vs, c :: r => ∃ b o vs', vs = .pointer (some ⟨b, o, none⟩) :: vs' ∧ ok b ∧ RDc w ok b o c ∧ RDf w ok vs' r
end

/-- Where a place lies (none: a nil slice stands for an array place without elements), and how many elements it has. -/
structure Gh where
  b : Option Nat
  n : Nat

/-- One cell. ι: where the places lie. -/
def CR (ι : Nat → Gh) (w : World) (ok : Nat → Prop) : C → Value → Prop
  | .dead, _ => True
  | .d x, v => RD w ok x v
  | .nil, v => v = .slice none 0 0
  | .ptr p off, v => ∃ b, (ι p).b = some b ∧ v = .pointer (some ⟨b, off, none⟩)
  | .eptr p sz i k, v => ∃ b, (ι p).b = some b ∧ v = .pointer (some ⟨b, i * sz + k, none⟩)
  | .own p sz n, v => ((ι p).b = none ∧ n = 0 ∧ v = .slice none 0 0) ∨
      ∃ b cap t, (ι p).b = some b ∧ n ≤ (ι p).n ∧ v = .slice (some ⟨b, 0, none⟩) n cap ∧ n ≤ cap ∧ cap ≤ maxLen ∧ w.shape? b = some (t, cap * sz)
  | .sub p sz off n, v => ∃ ad c, v = .slice ad n c ∧ n ≤ c ∧ c ≤ maxLen ∧ (n = 0 ∨ ∃ b, (ι p).b = some b ∧ ad = some ⟨b, off * sz, none⟩ ∧ off + n ≤ (ι p).n)
  | .fp cells, v => ∃ b o, v = .pointer (some ⟨b, o, none⟩) ∧ ok b ∧ RDc w ok b o cells
  | .clo f caps, v => ∃ bs : List Nat, caps.map (fun p => (ι p).b) = bs.map some ∧ v = .func (.func f) #[] (bs.map fun b => Value.pointer (some ⟨b, 0, none⟩)).toArray

def CRs (ι : Nat → Gh) (w : World) (ok : Nat → Prop) : List C → List Value → Prop
  | [], [] => True
  | c :: cs, v :: vs => CR ι w ok c v ∧ CRs ι w ok cs vs
  | _, _ => False

def WR (ι : Nat → Gh) (w : World) (ok : Nat → Prop) : W → Value → Prop
  | .c x, v => CR ι w ok x v
  | .agg cs, v => ∃ vs : List Value, v = .agg vs.toArray ∧ CRs ι w ok cs vs

def WRs (ι : Nat → Gh) (w : World) (ok : Nat → Prop) : List W → List Value → Prop
  | [], [] => True
  | c :: cs, v :: vs => WR ι w ok c v ∧ WRs ι w ok cs vs
  | _, _ => False

def VR (ι : Nat → Gh) (w : World) (ok : Nat → Prop) : V → Value → Prop
  | .w x, v => WR ι w ok x v
  | .tup xs, v => ∃ vs : List Value, v = .tuple vs.toArray ∧ WRs ι w ok xs vs

/-- A row of cells of the frame's own, written through at will. -/
def RowAt (w : World) (b : Nat) (cur : Array Value) : Prop := ∃ t, w.heap[b]? = some (.cells cur t (0, 0))

def PR (ι : Nat → Gh) (w : World) (ok : Nat → Prop) (p : Nat) : Pl → Prop
  | .box cs => ∃ b cur, (ι p).b = some b ∧ RowAt w b cur ∧ CRs ι w ok cs cur.toList
  | .arr sz els fz => 0 < sz ∧ els.length = (ι p).n ∧ (((ι p).b = none ∧ els = []) ∨
      ∃ b, (ι p).b = some b ∧ RDs w ok b sz 0 els ∧ (fz = true → ok b) ∧ (fz = false → ∃ cur, RowAt w b cur ∧ els.length * sz ≤ cur.size))
  | .fbox ds => ∃ b, (ι p).b = some b ∧ ok b ∧ RDc w ok b 0 ds
  | .gone => False

def Pl.live : Pl → Bool
  | .box _ => true
  | .arr _ _ fz => !fz
  | .fbox _ => false
  | .gone => false

/-- The blocks that may be written. -/
def Owns (ι : Nat → Gh) (pl : List (Nat × Pl)) (b : Nat) : Prop := ∃ p x, aget pl p = some x ∧ x.live = true ∧ (ι p).b = some b

/-- What a frame knows: w0 the world in which it began, A the foreign blocks that hold its arguments' data, M the blocks that were handed to it. -/
structure Fr where
  w0 : World
  A : Nat → Prop
  M : Nat → Prop
  h : Nat → Option Gh

def Fr.ok (F : Fr) (ι : Nat → Gh) (pl : List (Nat × Pl)) (w : World) (b : Nat) : Prop :=
  (F.A b ∨ F.M b ∨ F.w0.heap.size ≤ b) ∧ b < w.heap.size ∧ ¬ Owns ι pl b

/-- What was printed stays; what was drawn grows. -/
def Out (w w' : World) : Prop := w'.output = w.output ∧ w.drawn ≤ w'.drawn
theorem Out.refl (w : World) : Out w w := ⟨rfl, Nat.le_refl _⟩
theorem Out.trans {a b c : World} (k : Out b c) (h : Out a b) : Out a c := ⟨k.1.trans h.1, Nat.le_trans h.2 k.2⟩

structure Grows (M : Nat → Prop) (w w' : World) : Prop where
  os : w'.os = w.os
  tape : w'.tape = w.tape
  output : Out w w'
  size : w.heap.size ≤ w'.heap.size
  block : ∀ b, b < w.heap.size → ¬ M b → w'.heap[b]? = w.heap[b]?
  shapes : ∀ b t m, w.shape? b = some (t, m) → w'.shape? b = some (t, m)

/-- The package variables that are single ints (the first blocks): nothing is said of their values. -/
def gl (k : Nat) : Bool := Nat.blt k 1
/-- They lie among the blocks that stay as they are. -/
def Glb (A : Nat → Prop) (w : World) : Prop := ∀ k, gl k = true → A k ∧ ∃ m, w.cell? ⟨k, 0, none⟩ = some (.int .i64 m)

structure Rel (F : Fr) (N : Nat) (ι : Nat → Gh) (s : S) (a : Act) (w : World) : Prop where
  room : N ≤ a.tmps.size
  slots : ∀ k v, aget s.sl k = some v → ∃ x, a.tmps[k]? = some x ∧ VR ι w (F.ok ι s.pl w) v x
  places : ∀ p x, aget s.pl p = some x → PR ι w (F.ok ι s.pl w) p x
  inj : ∀ p q x y b, aget s.pl p = some x → aget s.pl q = some y → p ≠ q → x.live = true → (ι p).b = some b → (ι q).b ≠ some b
  mine : ∀ b, Owns ι s.pl b → (F.M b ∨ F.w0.heap.size ≤ b) ∧ b < w.heap.size
  defers : a.defers = []
  grows : Grows F.M F.w0 w
  foreign : ∀ b, F.A b → b < F.w0.heap.size ∧ ¬ F.M b
  handed : (∀ b, F.M b → b < F.w0.heap.size) ∧ Glb F.A F.w0
  few : N ≤ 5000
  hdom : ∀ p g, F.h p = some g → 100000 ≤ p ∧ p < 600000
  hkeep : ∀ p x g, aget s.pl p = some x → F.h p = some g → ι p = g

/-- What is known of a frame by s is known by t too. -/
def Weak (s t : S) : Prop := ∀ (F : Fr) (N : Nat) (ι : Nat → Gh) (a : Act) (w : World), Rel F N ι s a w → ∃ ι', Rel F N ι' t a w
theorem Weak.refl (s : S) : Weak s s := fun _ _ ι _ _ h => ⟨ι, h⟩
theorem Weak.trans {s t u : S} (h : Weak s t) (k : Weak t u) : Weak s u := fun F N ι a w hr => let ⟨ι1, h1⟩ := h F N ι a w hr; k F N ι1 a w h1

/-- What a result says. The first m of its places are those that were handed over (where they lay: ι0), unless they are gone; all others are new, or lie in blocks of those that are gone. -/
def ResH (F : Fr) (ι0 : Nat → Gh) (m : Nat) (w' : World) (r : Res) (v : Value) : Prop :=
  m ≤ r.pl.length ∧ ∃ ι : Nat → Gh,
    let pl := zipPl (upFrom 0 r.pl.length) r.pl
    let ok := F.ok ι pl w'
    VR ι w' ok r.v v ∧ (∀ p x, aget pl p = some x → PR ι w' ok p x) ∧ (∀ p q x y b, aget pl p = some x → aget pl q = some y → p ≠ q → (ι p).b = some b → (ι q).b ≠ some b) ∧
    (∀ p x b, aget pl p = some x → (ι p).b = some b → F.M b ∨ F.w0.heap.size ≤ b) ∧ (∀ p x, aget pl p = some x → x.live = true) ∧ (∀ p x, p < m → aget pl p = some x → ι p = ι0 p)

def ResR (F : Fr) (w' : World) (r : Res) (v : Value) : Prop := ResH F (fun _ => ⟨none, 0⟩) 0 w' r v

/-- The function has a body that a call enters. -/
def callable (P : Program) (k : Nat) : Bool :=
  match P.funcs[k]? with
  | some fn => fn.body.isSome && !(fn.name == "runtime.NumGoroutine")
  | none => false

/-- A function's contract: called with arguments that are data, in whatever world, it returns, and its result meets Q. -/
def Sat (P : Program) (k : Nat) (args : List W) (Q : Res → Prop) : Prop :=
  callable P k = true ∧ ∀ (w : World) (A : Nat → Prop) (vals : List Value), ((∀ b, A b → b < w.heap.size) ∧ Glb A w) → WRs (fun _ => ⟨none, 0⟩) w A args vals →
    Calls P k vals.toArray w fun e w' => ∃ v r, e = .returned v ∧ Q r ∧ ResR ⟨w, A, fun _ => False, fun _ => none⟩ w' r v ∧ Grows (fun _ => False) w w'

theorem Sat.mono {P : Program} {k : Nat} {args : List W} {Q Q' : Res → Prop} (h : Sat P k args Q) (hq : ∀ r, Q r → Q' r) : Sat P k args Q' :=
  ⟨h.1, fun w A vals h1 h2 => (h.2 w A vals h1 h2).mono fun _ _ ⟨v, r, he, h3, h4⟩ => ⟨v, r, he, hq r h3, h4⟩⟩

/-- The blocks of places that are handed over. -/
def Handed (ι : Nat → Gh) (hs : List Pl) (b : Nat) : Prop := ∃ i x, hs[i]? = some x ∧ (ι i).b = some b

/-- A contract of a function to which places are handed over (numbered from 0 on): it may write them. -/
def SatH (P : Program) (k : Nat) (args : List W) (hs : List Pl) (Q : Res → Prop) : Prop :=
  callable P k = true ∧ ∀ (w : World) (A : Nat → Prop) (ι : Nat → Gh) (vals : List Value), (∀ b, A b → b < w.heap.size ∧ ¬ Handed ι hs b) → ((∀ b, Handed ι hs b → b < w.heap.size) ∧ Glb A w) →
    (∀ i x, hs[i]? = some x → PR ι w A i x ∧ x.live = true) → (∀ i j x y b, hs[i]? = some x → hs[j]? = some y → i ≠ j → (ι i).b = some b → (ι j).b ≠ some b) → WRs ι w A args vals →
    Calls P k vals.toArray w fun e w' => ∃ v r, e = .returned v ∧ Q r ∧ ResH ⟨w, A, Handed ι hs, fun _ => none⟩ ι hs.length w' r v ∧ Grows (Handed ι hs) w w'

theorem SatH.mono {P : Program} {k : Nat} {args : List W} {hs : List Pl} {Q Q' : Res → Prop} (h : SatH P k args hs Q) (hq : ∀ r, Q r → Q' r) : SatH P k args hs Q' :=
  ⟨h.1, fun w A ι vals h1 h2 h3 h4 h5 => (h.2 w A ι vals h1 h2 h3 h4 h5).mono fun _ _ ⟨v, r, he, h6, h7⟩ => ⟨v, r, he, hq r h6, h7⟩⟩

end Go.AM

namespace Go.AM

inductive O where
  | t (n : Nat)
  | k (v : V)

inductive AOp where
  | mov (x : O)
  | pick (c a b : O)
  | alloc (cs : List C)
  | bx (x : O)
  | build (zero : List C) (parts : List (Nat × Nat × O))
  | lits (sz : Nat) (parts : List O)
  | ld (agg : Bool) (sz : Nat) (x : O)
  | st (sz : Nat) (a x : O)
  | nc (x : O)
  | b2s (x : O)
  | s2b (x : O)
  | clo (f : Nat) (caps : List O)
  | clof (f : Nat) (caps : List O)
  | slen (x : O)
  | cap (x : O)
  | cpy (sz : Nat) (x y : O)
  | clr (sz : Nat) (z : List D) (x : O)
  | slw (sz : Nat) (x : O) (lo hi : Option O)
  | bnot (x : O)
  | ineg (x : O)
  | beq (neg : Bool) (x y : O)
  | shf (left : Bool) (x y : O)
  | stop
  | conv (k : IntKind) (x : O)
  | eqa (neg : Bool) (ks : List Nat) (x y : O)
  | callh (f : Nat) (args : List O)
  | mk (sz bytes : Nat) (z : List D) (n c : O)
  | sli (sz : Nat) (x : O) (lo hi : Option O)
  | sls (x : O) (lo hi : Option O)
  | fa (off : Nat) (x : O)
  | fld (agg : Bool) (sz off : Nat) (x : O)
  | ia (sz : Nat) (x i : O)
  | six (x i : O)
  | ext (x : O) (i : Nat)
  | len (x : O)
  | app (sz bytes : Nat) (x y : O)
  | apps (x y : O)
  | appz (sz bytes : Nat) (z : List D) (x n : O)
  | bin (o : BinOp) (x y : O)
  | isn (neg : Bool) (x : O)
  | mm (mx : Bool) (x y : O)
  | pure (o : Op) (ty : TypeId)
  | call (f : Nat) (args : List O)
  | calv (x : O) (args : List O)

/-- One operation: where its value goes; the slot that guards it; whether it guards others; what need not be known any more behind it. -/
inductive AI where
  | mk (dst : Option Nat) (g : Option (Nat × Bool)) (isG : Bool) (op : AOp) (drop : List Nat)

/-- Operations in more than one order: a row of them, then a choice. -/
inductive ATr where
  | fin
  | run (ops : List AI) (t : ATr)
  | br (a b : ATr)

inductive ACode where
  | skip
  | reg (ops : List AI)
  | seq (a b : ACode)
  | cond (c : O) (a b : ACode)
  | block (id : Nat) (a : ACode)
  | loop (keep : List Nat) (a : ACode)
  | scope (a : ACode)
  | exit (id : Nat)
  | ret
  | tree (t : ATr)

inductive ARes where
  | tmp (t : Nat)
  | cell (a : Nat) (agg : Bool) (sz : Nat)

structure AFun where
  code : ACode
  res : List ARes

/-! Types. -/
def tsz (P : Program) (t : TypeId) : Nat := match P.info? t with | some i => i.size | none => 0
def tbytes (P : Program) (t : TypeId) : Nat := match P.info? t with | some i => i.bytes | none => 0
def tagg (P : Program) (t : TypeId) : Option Bool := match P.underlying t with | some (.struct _) => some true | some (.array _ _) => some true | some _ => some false | none => none
def tzero (P : Program) (t : TypeId) : W := match P.info? t with | some i => (match i.zero with | some v => ofValue v | none => .c .dead) | none => .c .dead
def telem (P : Program) (t : TypeId) : Option TypeId := match P.underlying t with | some (.slice e) => some e | _ => none
def tfield (P : Program) (t : TypeId) (f : Nat) : Option (Nat × TypeId) :=
  match P.underlying t with
  | some (.struct fs) => match fs[f]? with | some x => some (x.offset, x.type) | none => none
  | _ => none
def isKind (P : Program) (t : TypeId) (s : Bool) : Bool :=
  match P.underlying t with
  | some .string => s
  | some (.slice e) => match P.underlying e with | some (.int .u8) => !s | _ => false
  | _ => false

def infos (P : Program) : List Field → Bool
  | [] => true
  | f :: r => bif isSome (P.info? f.type) then infos P r else false
def hasZero (P : Program) (t : TypeId) : Bool := match P.info? t with | some i => isSome i.zero | none => false
/-- The zero value of an element type fills its size. -/
def zeroFits (P : Program) (t : TypeId) : Bool := match P.info? t with | some i => (match i.zero with | some z => Nat.beq z.cells.size i.size | none => false) | none => false
def isBasic (P : Program) (t : TypeId) : Bool :=
  match P.underlying t with
  | some (.int _) => true
  | some .string => true
  | _ => false
def plainBin : BinOp → Bool
  | .quo => true | .rem => true | .and => true | .or => true | .xor => true | .andNot => true
  | .add => true | .sub => true | .mul => true | .eql => true | .neq => true | .lss => true | .leq => true | .gtr => true | .geq => true
  | _ => false

/-- A slice is compared with nil. -/
def nilCmp (P : Program) (b : BinOp) (t : TypeId) (y : Operand) : Option Bool :=
  match y with
  | .const (.slice none _ _) => match P.underlying t with
    | some (.slice _) => match b with
      | .eql => some false
      | .neq => some true
      | _ => none
    | _ => none
  | _ => none

/-! From the model's code to the compact code. -/
def cO : Operand → O
  | .tmp t => .t t
  | .const v => .k (.w (ofValue v))
  | .global _ => .k deadV
  | .func f => .k (.w (.c (.clo f [])))

/-- A struct all of whose cells are integers, strings or bools: it is compared cell by cell. -/
def flatK (P : Program) (t : TypeId) : Option Nat :=
  match P.underlying t with
  | some (.int _) => some 0
  | some .string => some 1
  | some .bool => some 2
  | _ => none
def flatF (P : Program) : Nat → List Field → Option (List Nat)
  | _, [] => some []
  | o, f :: r => bif Nat.beq f.offset o && !(f.name == "_") && P.plainKey f.type then
      match flatK P f.type, flatF P (o + 1) r with
      | some k, some l => some (k :: l)
      | _, _ => none
    else none
def flatT (P : Program) (t : TypeId) : Option (List Nat) :=
  match P.underlying t with
  | some (.struct fs) => bif !P.stoodInHeld t && !P.eqGuardType P.depth t then flatF P 0 fs.toList else none
  | _ => none
def eqaOp (P : Program) (b : BinOp) (t : TypeId) (x y : Operand) : Option AOp :=
  match flatT P t with
  | some n => match b with
    | .eql => some (.eqa false n (cO x) (cO y))
    | .neq => some (.eqa true n (cO x) (cO y))
    | _ => none
  | none => none
def unOp' (P : Program) (b : UnOp) (t : TypeId) (x : Operand) : Option AOp :=
  match b with
  | .not => some (.bnot (cO x))
  | .neg => match P.underlying t with | some (.int _) => some (.ineg (cO x)) | _ => none
  | _ => none
def beqOp (P : Program) (b : BinOp) (t : TypeId) (x y : Operand) : Option AOp :=
  match b with
  | .eql => match P.underlying t with | some .bool => some (.beq false (cO x) (cO y)) | _ => none
  | .neq => match P.underlying t with | some .bool => some (.beq true (cO x) (cO y)) | _ => none
  | .shl => match P.underlying t with | some (.int _) => some (.shf true (cO x) (cO y)) | _ => none
  | .shr => match P.underlying t with | some (.int _) => some (.shf false (cO x) (cO y)) | _ => none
  | _ => none
def convOp (P : Program) (src dst : TypeId) (x : Operand) : Option AOp :=
  match P.underlying src with
  | some (.int _) => match P.underlying dst with
    | some (.int k) => some (.conv k (cO x))
    | _ => none
  | _ => none
def lenOp (P : Program) (t : TypeId) (x : Operand) : Option AOp :=
  match P.underlying t with
  | some .string => some (.slen (cO x))
  | _ => none

def okv {α : Type} (c : Bool) (x : α) : Option α := bif c then some x else none

def cParts (P : Program) (t : TypeId) : List (Nat × Operand) → Option (List (Nat × Nat × O))
  | [] => some []
  | (i, x) :: r => match tfield P t i, cParts P t r with
    | some (off, ft), some l => some ((off, tsz P ft, cO x) :: l)
    | _, _ => none

def inOrder : Nat → List (Nat × Operand) → Bool
  | _, [] => true
  | i, (j, _) :: r => Nat.beq i j && inOrder (i + 1) r

def mmOp (b : Builtin) (l : List Operand) : Option AOp :=
  match b with
  | .min => match l with | [x, y] => some (.mm false (cO x) (cO y)) | _ => none
  | .max => match l with | [x, y] => some (.mm true (cO x) (cO y)) | _ => none
  | _ => none

def bltOp (P : Program) (b : Builtin) (l : List Operand) (ts : List TypeId) : Option AOp :=
  match b with
  | .cap => match l, ts with
    | [x], [t] => match telem P t with
      | some _ => some (.cap (cO x))
      | none => none
    | _, _ => none
  | .copy => match l, ts with
    | [x, y], [t, u] => match telem P t, P.underlying u with
      | some e, some (.slice _) => okv (Nat.blt 0 (tsz P e) && zeroFits P e) (.cpy (tsz P e) (cO x) (cO y))
      | _, _ => none
    | _, _ => none
  | .clear => match l, ts with
    | [x], [t] => match telem P t with
      | some e => match toDs [] (tzero P e).cells with
        | some (z, _) => okv (Nat.blt 0 (tsz P e) && Nat.beq z.length (tsz P e) && zeroFits P e) (.clr (tsz P e) z (cO x))
        | none => none
      | none => none
    | _, _ => none
  | _ => none

def cOp (P : Program) (op : Op) (ty : TypeId) : Option AOp :=
  match op with
  | .move x => some (.mov (cO x))
  | .assign x => some (.mov (cO x))
  | .pick c a b => some (.pick (cO c) (cO a) (cO b))
  | .alloc t => some (.alloc (tzero P t).cells)
  | .box _ x => some (.bx (cO x))
  | .build t parts => match P.underlying t, cParts P t parts.toList with
    | some (.struct fs), some l => okv (infos P fs.toList && solid (tzero P t).cells) (.build (tzero P t).cells l)
    | _, _ => none
  | .buildSlice t n parts => match telem P t with
    | some e => okv (Nat.blt 0 (tsz P e) && Nat.beq n parts.toList.length && Nat.ble (n * tsz P e) 16777216 && inOrder 0 parts.toList && hasZero P e) (.lits (tsz P e) (parts.toList.map fun x => cO x.2))
    | none => none
  | .load t a => match tagg P t with | some g => some (.ld g (tsz P t) (cO a)) | none => none
  | .store t a x => okv (isSome (P.info? t)) (.st (tsz P t) (cO a) (cO x))
  | .nilCheck x => some (.nc (cO x))
  | .convert src dst x => bif isKind P src false && isKind P dst true then some (.b2s (cO x)) else bif isKind P src true && isKind P dst false then some (.s2b (cO x)) else match convOp P src dst x with
    | some z => some z
    | none => some (.pure op ty)
  | .makeFunc (.func f) first caps => okv first.toList.isEmpty (.clo f (caps.toList.map cO))
  | .makeSlice t n c => match telem P t with
    | some e => match toDs [] (tzero P e).cells with
      | some (z, _) => okv (Nat.blt 0 (tsz P e) && Nat.beq z.length (tsz P e)) (.mk (tsz P e) (tbytes P e) z (cO n) (cO c))
      | none => none
    | none => none
  | .slice t x lo hi mx => match mx, P.underlying t with
    | none, some .string => some (.sls (cO x) (lo.map cO) (hi.map cO))
    | none, some (.slice e) => okv (isSome (P.info? e)) (.sli (tsz P e) (cO x) (lo.map cO) (hi.map cO))
    | _, _ => none
  | .fieldAddr t x f => match tfield P t f with
    | some (off, ft) => okv (Nat.blt 0 (tsz P ft)) (.fa off (cO x))
    | none => none
  | .field t x f => match tfield P t f with
    | some (off, ft) => match tagg P ft with | some g => some (.fld g (tsz P ft) off (cO x)) | none => none
    | none => none
  | .indexAddr t x i => match telem P t with
    | some e => okv (Nat.blt 0 (tsz P e)) (.ia (tsz P e) (cO x) (cO i))
    | none => none
  | .index t x i => match P.underlying t with
    | some .string => some (.six (cO x) (cO i))
    | _ => none
  | .extract x i => some (.ext (cO x) i)
  | .call { callee := .builtin .len, args, argTypes } => match args.toList, argTypes.toList with
    | [x], [t] => match telem P t with
      | some _ => some (.len (cO x))
      | none => match lenOp P t x with
        | some z => some z
        | none => some (.pure op ty)
    | _, _ => none
  | .call { callee := .builtin .append, args, argTypes } => match args.toList, argTypes.toList with
    | [x, y], [t, u] => match telem P t, P.underlying u with
      | some e, some (.slice _) => okv (Nat.blt 0 (tsz P e) && zeroFits P e) (.app (tsz P e) (tbytes P e) (cO x) (cO y))
      | some e, some (.int _) => match toDs [] (tzero P e).cells with
        | some (z, _) => okv (Nat.blt 0 (tsz P e) && Nat.beq z.length (tsz P e) && zeroFits P e) (.appz (tsz P e) (tbytes P e) z (cO x) (cO y))
        | none => none
      | some e, some .string => okv (Nat.beq (tsz P e) 1 && Nat.beq (tbytes P e) 1 && zeroFits P e) (.apps (cO x) (cO y))
      | _, _ => none
    | _, _ => none
  | .call { callee := .value (.func f), args, argTypes := _ } => some (.call f (args.toList.map cO))
  | .call { callee := .value x, args, argTypes := _ } => some (.calv (cO x) (args.toList.map cO))
  | .call { callee := .builtin b, args, argTypes } => match mmOp b args.toList with
    | some x => some x
    | none => match bltOp P b args.toList argTypes.toList with
      | some x => some x
      | none => some (.pure op ty)
  | .binOp b t x y _ => match nilCmp P b t y with
    | some neg => some (.isn neg (cO x))
    | none => match eqaOp P b t x y with
      | some z => some z
      | none => match beqOp P b t x y with
      | some z => some z
      | none => bif plainBin b && isBasic P t then some (.bin b (cO x) (cO y)) else some (.pure op ty)
  | .unOp b t x => match unOp' P b t x with
    | some z => some z
    | none => some (.pure op ty)
  | .select _ _ => none
  | _ => some .stop

def guardIx : List Oper → List Nat
  | [] => []
  | o :: r => match o.guard with
    | some (j, _) => bif isin j (guardIx r) then guardIx r else j :: guardIx r
    | none => guardIx r

def dstAt (ops : List Oper) (j : Nat) : Option Tmp := match ops[j]? with | some o => o.dst | none => none

def cGuard (all : List Oper) (g : Option (Nat × Bool)) : Option (Option (Nat × Bool)) :=
  match g with
  | none => some none
  | some (j, w) => match dstAt all j with
    | some d => some (some (d, w))
    | none => none

def dstOk (N : Nat) : Option Tmp → Bool
  | some d => Nat.blt d N
  | none => true

/-- An operation that was marked: what it captures is frozen; what it is given is handed over. -/
def cOpH (P : Program) (op : Op) (ty : TypeId) : Option AOp :=
  match op with
  | .makeFunc (.func f) first caps => okv first.toList.isEmpty (.clof f (caps.toList.map cO))
  | .call { callee := .value (.func f), args, argTypes := _ } => some (.callh f (args.toList.map cO))
  | .slice t x lo hi none => match P.underlying t with
    | some (.slice e) => okv (isSome (P.info? e)) (.slw (tsz P e) (cO x) (lo.map cO) (hi.map cO))
    | _ => cOp P op ty
  | op => cOp P op ty
def cOpM (P : Program) (b : Bool) (op : Op) (ty : TypeId) : Option AOp := bif b then cOpH P op ty else cOp P op ty

/-- The operations with these numbers, in this order. -/
def cOps (P : Program) (N : Nat) (hs : List Nat) (all : List Oper) (gs : List Nat) : List Nat → Option (List AI)
  | [] => some []
  | i :: r => match all[i]? with
    | some o => bif dstOk N o.dst then
        match cOpM P (isin i hs) o.op o.type, cGuard all o.guard, cOps P N hs all gs r with
        | some x, some g, some l => some (.mk o.dst g (isin i gs) x [] :: l)
        | _, _, _ => none
      else none
    | none => none


/-! Regions that draw their order. -/
def AOp.quiet : AOp → Bool
  | .mov _ => true | .pick _ _ _ => true | .ld _ _ _ => true | .nc _ => true | .b2s _ => true | .sli _ _ _ _ => true | .sls _ _ _ => true | .fa _ _ => true | .fld _ _ _ _ => true
  | .ia _ _ _ => true | .six _ _ => true | .ext _ _ => true | .len _ => true | .bin _ _ _ => true | .pure _ _ => true | .build _ _ => true | .isn _ _ => true | .mm _ _ _ => true
  | .slen _ => true | .bnot _ => true | .ineg _ => true | .beq _ _ _ => true | .shf _ _ _ => true | .conv _ _ => true | .eqa _ _ _ _ => true
  | _ => false
def AOp.reads : AOp → Bool
  | .ld _ _ _ => true | .b2s _ => true
  | _ => false

/-- Calls, and what else makes memory and leaves what is there as it is. -/
def isCall : AOp → Bool
  | .call _ _ => true | .calv _ _ => true | .bx _ => true | .lits _ _ => true | .mk _ _ _ _ _ => true | .s2b _ => true
  | _ => false

def isAllocOf (o : Oper) : AOp → Bool
  | .alloc cs => solid cs && !isSome o.guard && isSome o.dst
  | _ => false

/-- 1, 2: computes a value (2: from memory too); 3: a call; 4: a new zero variable; 0: all else. -/
def cls (P : Program) (o : Oper) : Nat :=
  match cOp P o.op o.type with
  | some x => bif x.quiet then (bif x.reads then 2 else 1) else bif isCall x then 3 else bif isAllocOf o x then 4 else 0
  | none => 0
/-- What is marked waits in its place. -/
def clsAt (P : Program) (hs : List Nat) (ops : Array Oper) (j : Nat) : Nat := bif isin j hs then 0 else match ops[j]? with | some o => cls P o | none => 0

def anyL {α : Type} (f : α → Bool) : List α → Bool | [] => false | x :: r => bif f x then true else anyL f r
def allL {α : Type} (f : α → Bool) : List α → Bool | [] => true | x :: r => bif f x then allL f r else false

/-- The operation neither looks at the slot nor writes it. -/
def sepB (ops : Array Oper) (d : Option Tmp) (o : Oper) : Bool :=
  match d with
  | some t => !isin t (o.looksAt ops) && (match o.dst with | some e => !Nat.beq e t | none => true)
  | none => true
def apartB (ops : Array Oper) (x y : Oper) : Bool := sepB ops x.dst y && (match y.dst with | some e => !isin e (x.looksAt ops) | none => true)
def waitsFor (ops : Array Oper) (j : Nat) (f : Nat → Bool) : Bool := match ops[j]? with | some o => anyL (fun e => Region.binds .any e && f e.on) o.after.toList | none => true

def dstOf (ops : Array Oper) (j : Nat) : Option Tmp := match ops[j]? with | some o => o.dst | none => none

def apartAt (P : Program) (hs : List Nat) (ops : Array Oper) (o : Oper) (c j : Nat) : Bool := match ops[j]? with | some y => apartB ops o y && (Nat.beq c 1 || Nat.ble 1 (clsAt P hs ops j)) | none => false

/-- Of these operations those that wait, over others or straight, for operation i. -/
def depsL (P : Program) (hs : List Nat) (ops : Array Oper) (i : Nat) : List Nat → List Nat → List Nat
  | [], T => T
  | j :: r, T => depsL P hs ops i r (bif !Nat.beq (clsAt P hs ops j) 4 && waitsFor ops j (fun n => Nat.beq n i || isin n T) then j :: T else T)

def front (P : Program) (hs : List Nat) (ops : Array Oper) (i : Nat) (r : List Nat) : Bool :=
  match ops[i]? with
  | none => false
  | some o =>
    !isin i r && allL (fun e => !Region.binds .any e || (Nat.blt e.on ops.size && !isin e.on (i :: r))) o.after.toList &&
    allL (fun j => !Nat.beq (clsAt P hs ops j) 4 || sepB ops (dstOf ops j) o) r &&
    (bif Nat.beq (clsAt P hs ops i) 1 || Nat.beq (clsAt P hs ops i) 2 then allL (fun j => isin j (depsL P hs ops i r []) || apartAt P hs ops o (clsAt P hs ops i) j) r
     else allL (fun j => Nat.beq (clsAt P hs ops j) 4 || waitsFor ops j (fun n => isin n (i :: r) && (Nat.beq n i || !Nat.beq (clsAt P hs ops n) 4))) r)

def okOrd (P : Program) (hs : List Nat) (ops : Array Oper) : List Nat → Bool
  | [] => true
  | i :: r => bif front P hs ops i r then okOrd P hs ops r else false

def fewAllocs (P : Program) (hs : List Nat) (ops : Array Oper) : List Nat → Bool
  | [] => true
  | i :: r => bif Nat.beq (clsAt P hs ops i) 4 then allL (fun j => !Nat.beq (clsAt P hs ops j) 4) r else fewAllocs P hs ops r

def okDraw (P : Program) (hs : List Nat) (ops : Array Oper) (ord : List Nat) : Bool :=
  P.follows .mixedOrders && allL (fun i => isin i ord) (upFrom 0 ops.size) && Nat.ble ord.length ops.size && fewAllocs P hs ops ord && okOrd P hs ops ord

/-- Which operations of a region are marked. -/
def marked (ords : List (Nat × List Nat)) (id : Nat) : List Nat := match aget ords (1000000 + id) with | some l => l | none => []

/-! Regions that draw their order, where more than one order is to be looked at: a tree of orders. -/
inductive Tr where
  | fin
  | run (l : List Nat) (t : Tr)
  | br (a b : Tr)
def takeN : Nat → List Nat → List Nat
  | n + 1, x :: r => x :: takeN n r
  | _, _ => []
def dropN : Nat → List Nat → List Nat
  | n + 1, _ :: r => dropN n r
  | _, l => l
/-- A tree out of a list: 0; 1, how many, which, and what follows; 2 and two trees. -/
def decT : Nat → List Nat → Option (Tr × List Nat)
  | 0, _ => none
  | _ + 1, [] => none
  | n + 1, c :: r => match c with
    | 0 => some (.fin, r)
    | 1 => match r with
      | k :: r1 => match decT n (dropN k r1) with
        | some (t, r2) => some (.run (takeN k r1) t, r2)
        | none => none
      | [] => none
    | _ => match decT n r with
      | some (a, r1) => match decT n r1 with
        | some (b, r2) => some (.br a b, r2)
        | none => none
      | none => none
def rmv (i : Nat) : List Nat → List Nat
  | [] => []
  | x :: r => bif Nat.beq x i then rmv i r else x :: rmv i r
def isNilB : List Nat → Bool | [] => true | _ :: _ => false
def okRun (P : Program) (hs : List Nat) (ops : Array Oper) : List Nat → List Nat → (List Nat → Bool) → Bool
  | [], rest, f => f rest
  | i :: l, rest, f => bif isin i rest && front P hs ops i (rmv i rest) then okRun P hs ops l (rmv i rest) f else false
def readyS (ops : Array Oper) (rest : List Nat) (j : Nat) : Bool := match ops[j]? with | some o => allL (fun e => !Region.binds .any e || (Nat.blt e.on ops.size && !isin e.on rest)) o.after.toList | none => false
def heads : Tr → List Nat
  | .run (j :: _) _ => [j]
  | .br a b => heads a ++ heads b
  | _ => []
/-- b: the first operation is one of those that may come up, and need not be one that can be taken ahead. -/
def okTr (P : Program) (hs : List Nat) (ops : Array Oper) : Bool → Tr → List Nat → Bool
  | false, .fin, rest => isNilB rest
  | true, .fin, _ => false
  | false, .run l t, rest => okRun P hs ops l rest (okTr P hs ops false t)
  | true, .run l t, rest => match l with
    | j :: l => isin j rest && okRun P hs ops l (rmv j rest) (okTr P hs ops false t)
    | [] => false
  | b, .br x y, rest => okTr P hs ops true x rest && okTr P hs ops true y rest && (b || (anyL (readyS ops rest) rest && allL (fun j => !readyS ops rest j || isin j (heads x ++ heads y)) rest))
def okDrawT (P : Program) (hs : List Nat) (ops : Array Oper) (t : Tr) : Bool :=
  P.follows .mixedOrders && allL (fun j => !Nat.beq (clsAt P hs ops j) 4) (upFrom 0 ops.size) && okTr P hs ops false t (upFrom 0 ops.size)
def cTree (P : Program) (N : Nat) (hs : List Nat) (all : List Oper) (gs : List Nat) : Tr → Option ATr
  | .fin => some .fin
  | .run l t => match cOps P N hs all gs l, cTree P N hs all gs t with
    | some x, some y => some (.run x y)
    | _, _ => none
  | .br a b => match cTree P N hs all gs a, cTree P N hs all gs b with
    | some x, some y => some (.br x y)
    | _, _ => none

def cReg (P : Program) (N : Nat) (ords : List (Nat × List Nat)) (id : Nat) (ops : Array Oper) : Bool → Option ACode
  | false => (cOps P N (marked ords id) ops.toList (guardIx ops.toList) (upFrom 0 ops.toList.length)).map .reg
  | true => match aget ords (2000000 + id) with
    | some l => match decT 300 l with
      | some (t, _) => bif okDrawT P (marked ords id) ops t then (cTree P N (marked ords id) ops.toList (guardIx ops.toList) t).map .tree else none
      | none => none
    | none => match aget ords id with
      | some ord => bif okDraw P (marked ords id) ops ord then (cOps P N (marked ords id) ops.toList (guardIx ops.toList) ord).map .reg else none
      | none => none

def cCode (P : Program) (N : Nat) (ords : List (Nat × List Nat)) : Code → Option ACode
  | .skip => some .skip
  | .region id ops d => cReg P N ords id ops d
  | .seq a b => match cCode P N ords a, cCode P N ords b with
    | some x, some y => some (.seq x y)
    | _, _ => none
  | .cond c a b => match cCode P N ords a, cCode P N ords b with
    | some x, some y => some (.cond (cO c) x y)
    | _, _ => none
  | .block i a => (cCode P N ords a).map (.block i)
  | .loop a => (cCode P N ords a).map (.loop [])
  | .scope a => (cCode P N ords a).map .scope
  | .label _ => some .skip
  | .exit i => some (.exit i)
  | .ret => some .ret
  | _ => none

def cRes (P : Program) : List ResultVar → Option (List ARes)
  | [] => some []
  | .tmp t :: r => (cRes P r).map (.tmp t :: ·)
  | .cell a t :: r => match tagg P t, cRes P r with
    | some g, some l => some (.cell a g (tsz P t) :: l)
    | _, _ => none

def cFun (P : Program) (ords : List (Nat × List Nat)) (k : Nat) : Option AFun :=
  match P.funcs[k]? with
  | some fn => match fn.body with
    | some c => match cCode P fn.ntmps ords c, cRes P fn.results.toList with
      | some x, some r => bif Nat.ble fn.ntmps 5000 then some ⟨x, r⟩ else none
      | _, _ => none
    | none => none
  | none => none

def AI.erase : AI → AI
  | .mk d g i o _ => .mk d g i o []
def ATr.erase : ATr → ATr
  | .fin => .fin
  | .run ops t => .run (ops.map AI.erase) t.erase
  | .br a b => .br a.erase b.erase
def ACode.erase : ACode → ACode
  | .skip => .skip
  | .reg ops => .reg (ops.map AI.erase)
  | .seq a b => .seq a.erase b.erase
  | .cond c a b => .cond c a.erase b.erase
  | .block i a => .block i a.erase
  | .loop _ a => .loop [] a.erase
  | .scope a => .scope a.erase
  | .exit i => .exit i
  | .ret => .ret
  | .tree t => .tree t.erase
def AFun.erase (F : AFun) : AFun := ⟨F.code.erase, F.res⟩

/-! The rules. -/
def litInt : V → Option Int
  | .w (.c (.d (.lit (.int _ n)))) => some n
  | _ => none
def litBool : V → Option Bool
  | .w (.c (.d (.lit (.bool b)))) => some b
  | _ => none
def cOf : V → C
  | .w (.c x) => x
  | _ => .dead
def wOf : V → W
  | .w x => x
  | _ => .c .dead
def cV (x : C) : V := .w (.c x)
def intV (n : Int) : V := cV (.d (.lit (.int .i64 n)))
def boolV (b : Bool) : V := cV (.d (.lit (.bool b)))
def encBytes (b : ByteArray) : List (List D) := b.data.toList.map fun x => [D.lit (.int .u8 x.toNat)]

def S.o (s : S) : O → V
  | .t n => s.tmp n
  | .k v => v
def S.oc (s : S) (x : O) : C := cOf (s.o x)
def S.ow (s : S) (x : O) : W := wOf (s.o x)

def mkW (agg : Bool) (sz : Nat) (cells : List C) : Option W :=
  bif agg then (bif Nat.ble sz cells.length then some (.agg (cells.take sz)) else none)
  else match cells with | x :: _ => some (.c x) | [] => none

/-- What an append or a make may take up. -/
def fits (n bytes : Nat) : Prop := n * bytes ≤ 140737488355328

def aLd (dst : Option Nat) (agg : Bool) (sz : Nat) (x : C) (s : S) (K : S → Prop) : Prop :=
  match x with
  | .ptr p off => match aget s.pl p with
    | some (.box cs) => match mkW agg sz (cs.drop off) with
      | some w => K (s.put dst (.w w))
      | none => False
    | some (.fbox ds) => match mkW agg sz ((ds.drop off).map .d) with
      | some w => K (s.put dst (.w w))
      | none => False
    | _ => False
  | .fp cells => match mkW agg sz (cells.map .d) with
    | some w => K (s.put dst (.w w))
    | none => False
  | .eptr p z i k => match aget s.pl p with
    | some (.arr z1 els _) => bif Nat.beq z z1 then
        ∃ e, els[i]? = some e ∧ (match mkW agg sz ((e.drop k).map .d) with
          | some w => K (s.put dst (.w w))
          | none => False)
      else False
    | _ => False
  | _ => False

def aSt (sz : Nat) (x : C) (v : W) (s : S) (K : S → Prop) : Prop :=
  bif Nat.beq v.cells.length sz then
    match x with
    | .ptr p off => match aget s.pl p with
      | some (.box cs) =>
        bif solid v.cells && Nat.ble (off + v.cells.length) cs.length then
          K { s with pl := aput p (.box (splice cs off v.cells)) s.pl }
        else False
      | _ => False
    | .eptr p z i k => match toDs s.pl v.cells with
      | some (ds, pl1) => match aget pl1 p with
        | some (.arr z1 els false) => bif Nat.beq z z1 then
            ∃ e, els[i]? = some e ∧ k + ds.length ≤ e.length ∧ K { s with pl := aput p (.arr z1 (els.set i (splice e k ds)) false) pl1 }
          else False
        | _ => False
      | none => False
    | _ => False
  else False

def buildParts (s : S) : List C → List (Nat × Nat × O) → Option (List C)
  | cs, [] => some cs
  | cs, (off, sz, x) :: r => bif solid (s.ow x).cells && Nat.beq (s.ow x).cells.length sz && Nat.ble (off + sz) cs.length then buildParts s (splice cs off (s.ow x).cells) r else none

/-- The elements of a slice literal. -/
def litEls (s : S) (sz : Nat) (pl : List (Nat × Pl)) : List O → Option (List (List D) × List (Nat × Pl))
  | [] => some ([], pl)
  | x :: r => bif Nat.beq (s.ow x).cells.length sz then
      match toDs pl (s.ow x).cells with
      | some (ds, pl1) => match litEls s sz pl1 r with
        | some (es, pl2) => some (ds :: es, pl2)
        | none => none
      | none => none
    else none

def orI (o : Option Int) (n : Int) : Int := match o with | some m => m | none => n

/-- A bound of a slice expression. -/
def S.bnd (s : S) : Option O → Option (Option Int)
  | none => some none
  | some x => match litInt (s.o x) with | some n => some (some n) | none => none

def aSli (dst : Option Nat) (sz : Nat) (x : C) (lo hi : Option Int) (s : S) (K : S → Prop) : Prop :=
  match x with
  | .d (.sl els) => match lo with
    | none => 0 ≤ orI hi els.length ∧ orI hi els.length ≤ els.length ∧ K (s.put dst (cV (.d (.sl (els.take (orI hi els.length).toNat)))))
    | some l => (∀ y ∈ els, y.length = sz) ∧ 0 ≤ l ∧ l ≤ orI hi els.length ∧ orI hi els.length ≤ els.length ∧
        K (s.put dst (cV (.d (.sl ((els.take (orI hi els.length).toNat).drop l.toNat)))))
  | .own p z n => bif Nat.beq z sz then
      match lo with
      | none => 0 ≤ orI hi n ∧ orI hi n ≤ n ∧ K (s.put dst (cV (.own p z (orI hi n).toNat)))
      | some l => match aget s.pl p with
        | some (.arr z1 els _) => bif Nat.beq z z1 then 0 ≤ l ∧ l ≤ orI hi n ∧ orI hi n ≤ n ∧
            K ({ s with pl := freezeP s.pl p }.put dst (cV (.d (.sl ((els.take (orI hi n).toNat).drop l.toNat)))))
          else False
        | _ => False
    else False
  | .nil => 0 ≤ orI lo 0 ∧ orI lo 0 ≤ orI hi 0 ∧ orI hi 0 ≤ 0 ∧ K (s.put dst (cV .nil))
  | _ => False

def aSls (dst : Option Nat) (x : C) (lo hi : Option Int) (s : S) (K : S → Prop) : Prop :=
  match x with
  | .d (.lit (.string b)) => 0 ≤ orI lo 0 ∧ orI lo 0 ≤ orI hi b.size ∧ orI hi b.size ≤ b.size ∧
      K (s.put dst (cV (.d (.lit (.string (b.extract (orI lo 0).toNat (orI hi b.size).toNat))))))
  | _ => False

/-- A slice expression over memory that is the frame's own, to be written through. -/
def aSlw (dst : Option Nat) (sz : Nat) (x : C) (lo hi : Option Int) (s : S) (K : S → Prop) : Prop :=
  match x with
  | .own p z n => bif Nat.beq z sz then 0 ≤ orI lo 0 ∧ orI lo 0 ≤ orI hi n ∧ orI hi n ≤ n ∧ K (s.put dst (cV (.sub p z (orI lo 0).toNat ((orI hi n).toNat - (orI lo 0).toNat)))) else False
  | .nil => 0 ≤ orI lo 0 ∧ orI lo 0 ≤ orI hi 0 ∧ orI hi 0 ≤ 0 ∧ K (s.put dst (cV .nil))
  | _ => False
/-- A place, an element of it, and how many from there on. -/
def range : C → Option (Nat × Nat × Nat × Nat)
  | .own p z n => some (p, z, 0, n)
  | .sub p z off n => some (p, z, off, n)
  | _ => none

/-- What a slice that is read holds. -/
def readEls (pl : List (Nat × Pl)) : C → Option (List (List D))
  | .d (.sl l) => some l
  | .nil => some []
  | .own p _ n => match aget pl p with
    | some (.arr _ els _) => some (els.take n)
    | _ => none
  | _ => none

def readElsW (pl : List (Nat × Pl)) : C → Option (List (List D))
  | .sub p z off n => match aget pl p with
    | some (.arr z1 els _) => bif Nat.beq z z1 then some ((els.drop off).take n) else none
    | _ => none
  | x => readEls pl x
def aCpy (dst : Option Nat) (sz : Nat) (x : C) (src : Option (List (List D))) (s : S) (K : S → Prop) : Prop :=
  match src with
  | some l => match x with
    | .nil => K (s.put dst (intV 0))
    | x => match range x with
      | some (p, z, off, n) => match aget s.pl p with
        | some (.arr z1 els false) => bif Nat.beq z z1 && Nat.beq z sz then (∀ y ∈ l, y.length = sz) ∧
            K ({ s with pl := aput p (.arr z1 (splice els off (l.take n)) false) s.pl }.put dst (intV (min l.length n : Nat)))
          else False
        | _ => False
      | none => False
  | none => False
def aClr (dst : Option Nat) (sz : Nat) (zr : List D) (x : C) (s : S) (K : S → Prop) : Prop :=
  match x with
  | .nil => K (s.put dst undefV)
  | x => match range x with
    | some (p, z, off, n) => match aget s.pl p with
      | some (.arr z1 els false) => bif Nat.beq z z1 && Nat.beq z sz then K ({ s with pl := aput p (.arr z1 (splice els off (List.replicate n zr)) false) s.pl }.put dst undefV) else False
      | _ => False
    | none => False

def aApp (d : Nat) (sz bytes : Nat) (x : C) (new : Option (List (List D))) (s : S) (K : S → Prop) : Prop :=
  match new with
  | some l =>
    match x with
    | .nil => (∀ y ∈ l, y.length = sz) ∧ fits l.length bytes ∧ l.length ≤ 9223372036854775807 ∧
        K ((s.place d (.arr sz l false)).put (some d) (cV (.own d sz l.length)))
    | .own p z n => match aget s.pl p with
      | some (.arr z1 els false) => bif Nat.beq z z1 && Nat.beq z sz then
          (∀ y ∈ l, y.length = sz) ∧ fits (n + l.length) bytes ∧ n + l.length ≤ 9223372036854775807 ∧
            K ((s.redo [p, d] [(d, .arr sz (els.take n ++ l) false)]).put (some d) (cV (.own d sz (n + l.length))))
        else False
      | _ => False
    | _ => False
  | _ => False

/-- What is captured, frozen. -/
def frz (s : S) (pl : List (Nat × Pl)) : List O → Option (List (List D) × List (Nat × Pl))
  | [] => some ([], pl)
  | x :: r => match s.oc x with
    | .fp ds => match frz s pl r with
      | some (l, pl2) => some (ds :: l, pl2)
      | none => none
    | .ptr p 0 => match aget pl p with
      | some (.box cs) => match toDs pl cs with
        | some (ds, pl1) => match frz s (aput p (.fbox ds) pl1) r with
          | some (l, pl2) => some (ds :: l, pl2)
          | none => none
        | none => none
      | some (.fbox ds) => match frz s pl r with
        | some (l, pl2) => some (ds :: l, pl2)
        | none => none
      | _ => none
    | _ => none

def ptrs (s : S) : List O → Option (List Nat)
  | [] => some []
  | x :: r => match s.oc x, ptrs s r with
    | .ptr p 0, some l => some (p :: l)
    | _, _ => none

def aCall (P : Program) (dst : Option Nat) (f : FuncId) (args : List W) (s : S) (K : S → Prop) : Prop :=
  match toDWs s.pl args with
  | some (ds, pl1) => Sat P f ds fun r => K (recv s { s with pl := pl1 } dst r)
  | none => False

/-- Where a call without a result puts new places. -/
def nbase (dst : Option Nat) (U : List Nat) : Nat :=
  match dst with
  | some d => base d
  | none => match U with
    | p :: _ => 10000000 + 16 * p
    | [] => 10000000

def aCallH (P : Program) (dst : Option Nat) (f : FuncId) (args : List W) (s : S) (K : S → Prop) : Prop :=
  SatH P f (args.map (W.pk s.pl (reached s.pl [] (refsWs args)))) (pkPls s.pl (reached s.pl [] (refsWs args)) 0 (reached s.pl [] (refsWs args))) fun r =>
    cond (okNames (reached s.pl [] (refsWs args)) (nbase dst (reached s.pl [] (refsWs args))) r)
      (K (recvN s (reached s.pl [] (refsWs args)) (nbase dst (reached s.pl [] (refsWs args))) dst r)) False

/-- An operation on memory-free operands. -/
def allLit (s : S) : List Operand → Bool
  | [] => true
  | x :: r => match litV (s.o (cO x)) with
    | some _ => allLit s r
    | none => false

def rho (s : S) (x : Operand) : Value := match litV (s.o (cO x)) with | some v => v | none => undef

def pureOp (op : Op) (ty : TypeId) : Oper := { dst := none, op, type := ty, pos := "", after := #[], guard := none }

def aPure (P : Program) (dst : Option Nat) (op : Op) (ty : TypeId) (s : S) (K : S → Prop) : Prop :=
  bif allLit s op.operands.toList then
    match pureRun P (execOp (rho s) (pureOp op ty)) with
    | some (.value v) => K (s.put dst (.w (ofValue v)))
    | _ => False
  else False

def bitI (b : BinOp) (k : IntKind) (x y : Int) : Int :=
  match b with
  | .and => k.wrap (BitVec.ofInt k.bits x &&& BitVec.ofInt k.bits y).toNat
  | .or => k.wrap (BitVec.ofInt k.bits x ||| BitVec.ofInt k.bits y).toNat
  | .xor => k.wrap (BitVec.ofInt k.bits x ^^^ BitVec.ofInt k.bits y).toNat
  | _ => k.wrap (BitVec.ofInt k.bits x &&& ~~~(BitVec.ofInt k.bits y)).toNat
def shI (left : Bool) (k : IntKind) (x y : Int) : Int := bif left then k.wrap (x * 2 ^ min y.toNat k.bits) else x.fdiv (2 ^ min y.toNat k.bits)
/-- Strings compared: kept closed. -/
def beqS (x y : ByteArray) : Bool := x.toList == y.toList
def ltS (x y : ByteArray) : Bool := Op.bytesLess x.toList y.toList
def binI (b : BinOp) (k : IntKind) (x y : Int) : Option Value :=
  match b with
  | .and => some (.int k (bitI .and k x y))
  | .or => some (.int k (bitI .or k x y))
  | .xor => some (.int k (bitI .xor k x y))
  | .andNot => some (.int k (bitI .andNot k x y))
  | .add => some (.int k (k.wrap (x + y)))
  | .sub => some (.int k (k.wrap (x - y)))
  | .mul => some (.int k (k.wrap (x * y)))
  | .eql => some (.bool (x == y))
  | .neq => some (.bool (x != y))
  | .lss => some (.bool (decide (x < y)))
  | .leq => some (.bool (decide (x ≤ y)))
  | .gtr => some (.bool (decide (x > y)))
  | .geq => some (.bool (decide (x ≥ y)))
  | _ => none
def binS (b : BinOp) (x y : ByteArray) : Option Value :=
  match b with
  | .eql => some (.bool (beqS x y))
  | .neq => some (.bool (!beqS x y))
  | .lss => some (.bool (ltS x y))
  | .leq => some (.bool (ltS x y || beqS x y))
  | .gtr => some (.bool (!(ltS x y || beqS x y)))
  | .geq => some (.bool (!ltS x y))
  | _ => none
def kindEq : IntKind → IntKind → Bool
  | .i8, .i8 => true | .i16, .i16 => true | .i32, .i32 => true | .i64, .i64 => true
  | .u8, .u8 => true | .u16, .u16 => true | .u32, .u32 => true | .u64, .u64 => true
  | _, _ => false
def aBin (dst : Option Nat) (b : BinOp) (x y : C) (s : S) (K : S → Prop) : Prop :=
  match x, y with
  | .d (.lit (.int k m)), .d (.lit (.int k1 n)) => bif kindEq k k1 then
      match binI b k m n with
      | some v => K (s.put dst (cV (.d (.lit v))))
      | none => match b with
        | .quo => n ≠ 0 ∧ K (s.put dst (cV (.d (.lit (.int k (k.wrap (m.tdiv n)))))))
        | .rem => n ≠ 0 ∧ K (s.put dst (cV (.d (.lit (.int k (m.tmod n))))))
        | _ => False
    else False
  | .d (.lit (.string m)), .d (.lit (.string n)) => match binS b m n with
    | some v => K (s.put dst (cV (.d (.lit v))))
    | none => match b with
      | .add => m.size + n.size ≤ 9223372036854775807 ∧ K (s.put dst (cV (.d (.lit (.string (m ++ n))))))
      | _ => False
  | _, _ => False

def mmI (mx : Bool) (m n : Int) : Int := bif mx then (if n > m then n else m) else (if n < m then n else m)
def aMm (dst : Option Nat) (mx : Bool) (x y : C) (s : S) (K : S → Prop) : Prop :=
  match x, y with
  | .d (.lit (.int k m)), .d (.lit (.int k1 n)) => bif kindEq k k1 then K (s.put dst (cV (.d (.lit (.int k (mmI mx m n)))))) else False
  | _, _ => False

/-- Structs of basic cells, compared. -/
def eqCell (k : Nat) (x y : C) : Option Bool :=
  match x, y with
  | .d (.lit (.int k1 m)), .d (.lit (.int k2 n)) => bif Nat.beq k 0 && kindEq k1 k2 then some (m == n) else none
  | .d (.lit (.string m)), .d (.lit (.string n)) => bif Nat.beq k 1 then some (beqS m n) else none
  | .d (.lit (.bool m)), .d (.lit (.bool n)) => bif Nat.beq k 2 then some (m == n) else none
  | _, _ => none
def eqCells : List Nat → List C → List C → Option Bool
  | [], [], [] => some true
  | k :: ks, x :: xs, y :: ys => match eqCell k x y, eqCells ks xs ys with
    | some a, some b => some (a && b)
    | _, _ => none
  | _, _, _ => none

/-- A slice without elements may be nil or not. -/
def aIsn (dst : Option Nat) (neg : Bool) (x : C) (s : S) (K : S → Prop) : Prop :=
  match x with
  | .nil => K (s.put dst (boolV (!neg)))
  | .d (.sl l) => (l = [] → K (s.put dst (boolV (!neg)))) ∧ K (s.put dst (boolV neg))
  | .own _ _ n => (n = 0 → K (s.put dst (boolV (!neg)))) ∧ K (s.put dst (boolV neg))
  | _ => False

def aop (P : Program) (dst : Option Nat) (op : AOp) (s : S) (K : S → Prop) : Prop :=
  match op with
  | .mov x => K (s.put dst (s.o x))
  | .pick c a b => match litBool (s.o c) with
    | some t => cond t (K (s.put dst (s.o a))) (K (s.put dst (s.o b)))
    | none => False
  | .alloc cs => match dst with
    | some d => bif solid cs then K ((s.place d (.box cs)).put (some d) (cV (.ptr d 0))) else False
    | none => False
  | .bx x => match dst, s.o x with
    | some d, .w w => bif solid w.cells then K ((s.place d (.box (w.cells.map (C.kill [d])))).put (some d) (cV (.ptr d 0))) else False
    | _, _ => False
  | .build zero parts => match buildParts s zero parts with
    | some cs => K (s.put dst (.w (.agg cs)))
    | none => False
  | .lits sz parts => match dst, litEls s sz s.pl parts with
    | some d, some (els, pl1) => K (({ s with pl := pl1 }.place d (.arr sz els false)).put (some d) (cV (.own d sz els.length)))
    | _, _ => False
  | .ld g sz x => aLd dst g sz (s.oc x) s K
  | .st sz a x => match dst with
    | none => aSt sz (s.oc a) (s.ow x) s K
    | some _ => False
  | .nc x => match s.oc x with
    | .ptr p k => K (s.put dst (cV (.ptr p k)))
    | .eptr p z i k => K (s.put dst (cV (.eptr p z i k)))
    | .fp l => K (s.put dst (cV (.fp l)))
    | _ => False
  | .b2s x => match readEls s.pl (s.oc x) with
    | some l => ∃ b : ByteArray, l = encBytes b ∧ K (s.put dst (cV (.d (.lit (.string b)))))
    | none => False
  | .s2b x => match dst, s.oc x with
    | some d, .d (.lit (.string b)) => b.size ≤ 9223372036854775807 ∧ K ((s.place d (.arr 1 (encBytes b) true)).put (some d) (cV (.own d 1 b.size)))
    | _, _ => False
  | .clo f caps => match ptrs s caps with
    | some ps => K (s.put dst (cV (.clo f ps)))
    | none => False
  | .clof f caps => match frz s s.pl caps with
    | some (l, pl1) => K ({ s with pl := pl1 }.put dst (cV (.d (.fn f l))))
    | none => False
  | .slen x => match s.oc x with
    | .d (.lit (.string b)) => K (s.put dst (intV b.size))
    | _ => False
  | .cap x => match s.oc x with
    | .d (.sl l) => ∀ c : Nat, l.length ≤ c → c ≤ 9223372036854775807 → K (s.put dst (intV c))
    | .nil => K (s.put dst (intV 0))
    | .own _ _ n => ∀ c : Nat, n ≤ c → c ≤ 9223372036854775807 → K (s.put dst (intV c))
    | _ => False
  | .cpy sz x y => aCpy dst sz (s.oc x) (readElsW s.pl (s.oc y)) s K
  | .clr sz z x => aClr dst sz z (s.oc x) s K
  | .slw sz x lo hi => match s.bnd lo, s.bnd hi with
    | some l, some h => aSlw dst sz (s.oc x) l h s K
    | _, _ => False
  | .bnot x => match litBool (s.o x) with
    | some b => K (s.put dst (boolV (!b)))
    | none => False
  | .ineg x => match s.oc x with
    | .d (.lit (.int k n)) => K (s.put dst (cV (.d (.lit (.int k (k.wrap (0 - n)))))))
    | _ => False
  | .beq neg x y => match litBool (s.o x), litBool (s.o y) with
    | some a, some b => K (s.put dst (boolV (bif neg then a != b else a == b)))
    | _, _ => False
  | .shf left x y => match s.oc x, s.oc y with
    | .d (.lit (.int k m)), .d (.lit (.int _ n)) => 0 ≤ n ∧ K (s.put dst (cV (.d (.lit (.int k (shI left k m n))))))
    | _, _ => False
  | .stop => False
  | .conv k x => match s.oc x with
    | .d (.lit (.int _ n)) => K (s.put dst (cV (.d (.lit (.int k (k.wrap n))))))
    | _ => False
  | .eqa neg ks x y => match s.o x, s.o y with
    | .w (.agg xs), .w (.agg ys) => match eqCells ks xs ys with
      | some b => K (s.put dst (boolV (bif neg then !b else b)))
      | none => False
    | _, _ => False
  | .callh f args => aCallH P dst f (args.map s.ow) s K
  | .mk sz bytes z n c => match dst, litInt (s.o n), litInt (s.o c) with
    | some d, some n, some c => 0 ≤ n ∧ n ≤ c ∧ fits c.toNat bytes ∧ c ≤ 9223372036854775807 ∧
        K ((s.place d (.arr sz (List.replicate n.toNat z) false)).put (some d) (cV (.own d sz n.toNat)))
    | _, _, _ => False
  | .sli sz x lo hi => match s.bnd lo, s.bnd hi with
    | some l, some h => aSli dst sz (s.oc x) l h s K
    | _, _ => False
  | .sls x lo hi => match s.bnd lo, s.bnd hi with
    | some l, some h => aSls dst (s.oc x) l h s K
    | _, _ => False
  | .fa off x => match s.oc x with
    | .ptr p o => K (s.put dst (cV (.ptr p (o + off))))
    | .eptr p z i k => K (s.put dst (cV (.eptr p z i (k + off))))
    | .fp cells => K (s.put dst (cV (.fp (cells.drop off))))
    | _ => False
  | .fld g sz off x => match s.o x with
    | .w (.agg cs) => match mkW g sz (cs.drop off) with
      | some w => K (s.put dst (.w w))
      | none => False
    | _ => False
  | .ia sz x i => match litInt (s.o i) with
    | some n => match s.oc x with
      | .d (.sl l) => 0 ≤ n ∧ ∃ y, l[n.toNat]? = some y ∧ y.length = sz ∧ K (s.put dst (cV (.fp y)))
      | .own p z m => bif Nat.beq z sz then 0 ≤ n ∧ n < m ∧ K (s.put dst (cV (.eptr p z n.toNat 0))) else False
      | _ => False
    | none => False
  | .six x i => match s.oc x, litInt (s.o i) with
    | .d (.lit (.string b)), some n => 0 ≤ n ∧ n < b.size ∧ K (s.put dst (cV (.d (.lit (.int .u8 (b.data.toList.getD n.toNat 0).toNat)))))
    | _, _ => False
  | .ext x i => match s.o x with
    | .tup xs => match xs[i]? with
      | some w => K (s.put dst (.w w))
      | none => False
    | _ => False
  | .len x => match s.oc x with
    | .d (.sl l) => K (s.put dst (intV l.length))
    | .nil => K (s.put dst (intV 0))
    | .own _ _ n => K (s.put dst (intV n))
    | _ => False
  | .app sz bytes x y => match dst with
    | some d => aApp d sz bytes (s.oc x) (readEls s.pl (s.oc y)) s K
    | none => False
  | .appz sz bytes z x n => match dst, s.oc x, litInt (s.o n) with
    | some d, .nil, some m => 0 ≤ m ∧ fits m.toNat bytes ∧ m ≤ 9223372036854775807 ∧ K ((s.place d (.arr sz (List.replicate m.toNat z) false)).put (some d) (cV (.own d sz m.toNat)))
    | _, _, _ => False
  | .apps x y => match dst, s.oc y with
    | some d, .d (.lit (.string b)) => aApp d 1 1 (s.oc x) (some (encBytes b)) s K
    | _, _ => False
  | .bin b x y => aBin dst b (s.oc x) (s.oc y) s K
  | .isn neg x => aIsn dst neg (s.oc x) s K
  | .mm mx x y => aMm dst mx (s.oc x) (s.oc y) s K
  | .pure op ty => aPure P dst op ty s K
  | .call f args => aCall P dst f (args.map s.ow) s K
  | .calv x args => match s.oc x with
    | .clo f [] => aCall P dst f (args.map s.ow) s K
    | .d (.fn f caps) => aCall P dst f (args.map s.ow ++ caps.map fun ds => W.c (.fp ds)) s K
    | _ => False

/-- Behind an operation that guards others its outcome is looked at at once. -/
def split (isG : Bool) (dst : Option Nat) (s : S) (K : S → Prop) : Prop :=
  bif isG then
    match dst with
    | some d => match litBool (s.tmp d) with
      | some b => cond b (K (s.put dst (boolV true))) (K (s.put dst (boolV false)))
      | none => K s
    | none => K s
  else K s

def S.drop (s : S) (l : List Nat) : S := { s with sl := afilter (fun k => !isin k l) s.sl }

def awpOps (P : Program) : List AI → S → (S → Prop) → Prop
  | [], s, K => K s
  | .mk dst g isG op drop :: rest, s, K =>
    match g with
    | none => aop P dst op s fun s1 => split isG dst s1 fun s2 => force (s2.drop drop) fun s2 => awpOps P rest s2 K
    | some (d, want) => match s.tmp d with
      | .w (.c (.d (.lit (.bool b)))) =>
        bif (bif b then want else !want) then aop P dst op s fun s1 => split isG dst s1 fun s2 => force (s2.drop drop) fun s2 => awpOps P rest s2 K
        else force ((s.put dst undefV).drop drop) fun s => awpOps P rest s K
      | .tup [] => force ((s.put dst undefV).drop drop) fun s => awpOps P rest s K
      | _ => False

inductive E where
  | normal
  | exit (id : Nat)
  | ret

def refsSl : List (Nat × V) → List Nat
  | [] => []
  | (_, v) :: r => v.refs ++ refsSl r
def refsPl : List Nat → List (Nat × Pl) → List Nat
  | _, [] => []
  | live, (p, .box cs) :: r => bif isin p live then refsCs cs ++ refsPl live r else refsPl live r
  | live, _ :: r => refsPl live r

def addNew : List Nat → List Nat → List Nat
  | [], l => l
  | x :: r, l => bif isin x l then addNew r l else addNew r (x :: l)
def S.norm (s : S) (keep : List Nat) : S :=
  { sl := afilter (fun k => isin k keep) s.sl,
    pl := afilter (fun k => isin k (addNew (refsPl (addNew (refsPl (addNew (refsSl (afilter (fun k => isin k keep) s.sl)) []) s.pl) (addNew (refsSl (afilter (fun k => isin k keep) s.sl)) [])) s.pl)
      (addNew (refsPl (addNew (refsSl (afilter (fun k => isin k keep) s.sl)) []) s.pl) (addNew (refsSl (afilter (fun k => isin k keep) s.sl)) [])))) s.pl }

/-! The same, each list being written out before it is used. -/
def forceL : List Nat → (List Nat → Prop) → Prop
  | [], K => K []
  | x :: r, K => forceL r fun r => K (x :: r)
theorem forceL_eq : ∀ (l : List Nat) (K : List Nat → Prop), forceL l K = K l
  | [], _ => rfl
  | x :: r, K => by simp only [forceL, forceL_eq r]
def normP (s : S) (keep : List Nat) (K : S → Prop) : Prop :=
  forceL (addNew (refsSl (afilter (fun k => isin k keep) s.sl)) []) fun l0 => forceL (addNew (refsPl l0 s.pl) l0) fun l1 => forceL (addNew (refsPl l1 s.pl) l1) fun l2 =>
    force ⟨afilter (fun k => isin k keep) s.sl, afilter (fun k => isin k l2) s.pl⟩ K
theorem normP_eq (s : S) (keep : List Nat) (K : S → Prop) : normP s keep K = K (s.norm keep) := by
  unfold normP
  rw [forceL_eq, forceL_eq, forceL_eq, force_eq]
  rfl

/-- The frame is cut down to what is wanted; ahead of it less may be said of it. -/
def normW (s : S) (keep : List Nat) (K : S → Prop) : Prop := ∃ t, Weak s t ∧ normP t keep K
theorem normW_of {s : S} {keep : List Nat} {K : S → Prop} (h : normP s keep K) : normW s keep K := ⟨s, Weak.refl s, h⟩

def atr (P : Program) : ATr → S → (S → Prop) → Prop
  | .fin, s, K => K s
  | .run ops t, s, K => awpOps P ops s fun s1 => atr P t s1 K
  | .br a b, s, K => atr P a s K ∧ atr P b s K
def awp (P : Program) : ACode → (E → S → Prop) → S → Prop
  | .skip, Q, s => Q .normal s
  | .reg ops, Q, s => awpOps P ops s (Q .normal)
  | .seq a b, Q, s => awp P a (fun e s1 => match e with | .normal => awp P b Q s1 | .exit i => Q (.exit i) s1 | .ret => Q .ret s1) s
  | .cond c a b, Q, s => match litBool (s.o c) with
    | some t => cond t (awp P a Q s) (awp P b Q s)
    | none => False
  | .block id a, Q, s => awp P a (fun e s1 => match e with | .normal => Q .normal s1 | .exit i => bif Nat.beq i id then Q .normal s1 else Q (.exit i) s1 | .ret => Q .ret s1) s
  | .loop keep body, Q, s => ∃ (I : S → Prop) (μ : S → Nat), normW s keep I ∧ ∀ s1, I s1 →
      awp P body (fun e s2 => match e with | .normal => normW s2 keep fun s2 => I s2 ∧ μ s2 < μ s1 | .exit i => Q (.exit i) s2 | .ret => Q .ret s2) s1
  | .scope a, Q, s => awp P a Q s
  | .exit i, Q, s => Q (.exit i) s
  | .ret, Q, s => Q .ret s
  | .tree t, Q, s => atr P t s (Q .normal)

/-! Functions. -/
def retW (s : S) : ARes → Option W
  | .tmp t => match s.tmp t with | .w w => some w | _ => none
  | .cell a g sz => match cOf (s.tmp a) with
    | .ptr p off => match aget s.pl p with
      | some (.box cs) => mkW g sz (cs.drop off)
      | some (.fbox ds) => mkW g sz ((ds.drop off).map .d)
      | _ => none
    | _ => none

def retWs (s : S) : List ARes → Option (List W)
  | [] => some []
  | x :: r => match retW s x, retWs s r with
    | some w, some l => some (w :: l)
    | _, _ => none

def retV (s : S) (l : List ARes) : Option V :=
  match retWs s l with
  | some [w] => some (.w w)
  | some ws => some (.tup ws)
  | none => none

def initSl : Nat → List W → List (Nat × V)
  | _, [] => []
  | i, w :: r => (i, .w w) :: initSl (i + 1) r

def retQ (res : List ARes) (U : List Nat) (Q : Res → Prop) (s : S) : Prop :=
  match retV s res with
  | some v => Q (packV s.pl U v)
  | none => False

def awpF (P : Program) (F : AFun) (args : List W) (Q : Res → Prop) : Prop :=
  force ⟨initSl 0 args, []⟩ fun s => awp P F.code (fun e s => match e with | .exit _ => False | .normal => retQ F.res [] Q s | .ret => retQ F.res [] Q s) s

/-- The names of what was handed over. -/
def hnames (n0 : Nat) (hs : List Pl) : List Nat := upFrom n0 hs.length
def awpFHat (n0 : Nat) (P : Program) (F : AFun) (args : List W) (hs : List Pl) (Q : Res → Prop) : Prop :=
  force ⟨initSl 0 (args.map (W.ren ((hnames n0 hs).map some))), numbered n0 (hs.map (Pl.ren ((hnames n0 hs).map some)))⟩ fun s =>
    awp P F.code (fun e s => match e with | .exit _ => False | .normal => retQ F.res (hnames n0 hs) Q s | .ret => retQ F.res (hnames n0 hs) Q s) s
def awpFH (P : Program) (F : AFun) (args : List W) (hs : List Pl) (Q : Res → Prop) : Prop := awpFHat 100000 P F args hs Q

end Go.AM

namespace Go.AM

/-! Association lists. -/
section
variable {α β : Type}
theorem beq_false {m n : Nat} (h : m ≠ n) : Nat.beq m n = false := by
  cases e : Nat.beq m n
  · rfl
  · exact absurd (Nat.eq_of_beq_eq_true e) h
theorem beq_self (n : Nat) : Nat.beq n n = true := Nat.beq_refl n

theorem aget_cons (k : Nat) (v : α) (r : List (Nat × α)) (n : Nat) : aget ((k, v) :: r) n = if k = n then some v else aget r n := by
  by_cases h : k = n
  · subst h; simp [aget]
  · simp [aget, beq_false h, h]

theorem aget_aput (l : List (Nat × α)) (n m : Nat) (v : α) : aget (aput n v l) m = if n = m then some v else aget l m := by
  induction l with
  | nil => simp [aput, aget_cons]
  | cons x r ih =>
    obtain ⟨k, u⟩ := x
    unfold aput
    by_cases h : k = n
    · subst h
      simp only [beq_self, cond_true, aget_cons]
      by_cases h2 : k = m <;> simp [h2]
    · rw [beq_false h]
      cases hb : Nat.blt n k
      · simp only [cond_false, aget_cons, ih]
        by_cases h2 : k = m
        · subst h2; simp [Ne.symm h]
        · simp [h2]
      · simp only [cond_false, cond_true, aget_cons]

theorem aget_map (l : List (Nat × α)) (f : α → β) (m : Nat) : aget (amap f l) m = (aget l m).map f := by
  induction l with
  | nil => simp [aget, amap]
  | cons x r ih =>
    obtain ⟨k, u⟩ := x
    simp only [amap, aget_cons, ih]
    by_cases h : k = m <;> simp [h]

theorem aget_afilter_eq (l : List (Nat × α)) (f : Nat → Bool) (m : Nat) : aget (afilter f l) m = if f m = true then aget l m else none := by
  induction l with
  | nil => simp [afilter, aget]
  | cons x r ih =>
    obtain ⟨k, u⟩ := x
    unfold afilter
    cases hf : f k
    · simp only [cond_false, ih, aget_cons]
      by_cases hk : k = m
      · subst hk; simp [hf]
      · simp [hk]
    · simp only [cond_true, aget_cons, ih]
      by_cases hk : k = m
      · subst hk; simp [hf]
      · simp [hk]

theorem aget_afilter (l : List (Nat × α)) (f : Nat → Bool) (m : Nat) (v : α) (h : aget (afilter f l) m = some v) : aget l m = some v ∧ f m = true := by
  rw [aget_afilter_eq] at h
  split at h
  · exact ⟨h, by assumption⟩
  · cases h
end

theorem isin_iff (n : Nat) (l : List Nat) : isin n l = true ↔ n ∈ l := by
  induction l with
  | nil => simp [isin]
  | cons k r ih =>
    unfold isin
    by_cases h : k = n
    · subst h; simp
    · rw [beq_false h]; simp [ih, Ne.symm h]

theorem aget_addPls (new pl : List (Nat × Pl)) (m : Nat) : aget (addPls new pl) m = match aget new m with | some x => some x | none => aget pl m := by
  induction new with
  | nil => rfl
  | cons x r ih =>
    obtain ⟨k, u⟩ := x
    simp only [addPls, aget_aput, ih, aget_cons]
    by_cases h : k = m <;> simp [h]

/-! Data that stays as it is. -/
/-- From (w, ok) to (w', ok'): what was data still is. -/
def Keeps (w w' : World) (ok ok' : Nat → Prop) : Prop := ∀ b, ok b → ok' b ∧ w'.heap[b]? = w.heap[b]?

theorem cell_of_heap {w w' : World} {b : Nat} (h : w'.heap[b]? = w.heap[b]?) (o : Nat) : w'.cell? ⟨b, o, none⟩ = w.cell? ⟨b, o, none⟩ := by
  simp [World.cell?, h]

mutual
theorem RD.keep {w w' : World} {ok ok' : Nat → Prop} (h : Keeps w w' ok ok') : ∀ (d : D) (v : Value), RD w ok d v → RD w' ok' d v
  | .lit x, v, hd => by simp only [RD] at hd ⊢; exact hd
  | .sl l, v, hd => by
    simp only [RD] at hd ⊢
    obtain ⟨a, n, c, h1, h2, h3, h4, h5⟩ := hd
    refine ⟨a, n, c, h1, h2, h3, h4, ?_⟩
    rcases h5 with h5 | ⟨b, o, sz, e1, e2, e3⟩
    · exact .inl h5
    · exact .inr ⟨b, o, sz, e1, (h b e2).1, RDs.keep h b e2 sz l o e3⟩
  | .fn f caps, v, hd => by
    simp only [RD] at hd ⊢
    obtain ⟨bs, h1, h2⟩ := hd
    exact ⟨bs, h1, RDf.keep h caps bs h2⟩
theorem RDs.keep {w w' : World} {ok ok' : Nat → Prop} (h : Keeps w w' ok ok') (b : Nat) (hb : ok b) (sz : Nat) : ∀ (l : List (List D)) (o : Nat), RDs w ok b sz o l → RDs w' ok' b sz o l
  | [], o, _ => by simp only [RDs]
  | e :: r, o, hd => by
    simp only [RDs] at hd ⊢
    exact ⟨hd.1, RDc.keep h b hb e o hd.2.1, RDs.keep h b hb sz r (o + sz) hd.2.2⟩
theorem RDc.keep {w w' : World} {ok ok' : Nat → Prop} (h : Keeps w w' ok ok') (b : Nat) (hb : ok b) : ∀ (l : List D) (o : Nat), RDc w ok b o l → RDc w' ok' b o l
  | [], o, _ => by simp only [RDc]
  | d :: r, o, hd => by
    simp only [RDc] at hd ⊢
    obtain ⟨⟨v, h1, h2⟩, h3⟩ := hd
    exact ⟨⟨v, by rw [cell_of_heap (h b hb).2]; exact h1, RD.keep h d v h2⟩, RDc.keep h b hb r (o + 1) h3⟩
theorem RDf.keep {w w' : World} {ok ok' : Nat → Prop} (h : Keeps w w' ok ok') : ∀ (l : List (List D)) (bs : List Value), RDf w ok bs l → RDf w' ok' bs l
  | [], bs, hd => by simp only [RDf] at hd ⊢; exact hd
  | c :: r, bs, hd => by
    simp only [RDf] at hd ⊢
    obtain ⟨b, o, bs', h1, h2, h3, h4⟩ := hd
    exact ⟨b, o, bs', h1, (h b h2).1, RDc.keep h b h2 c o h3, RDf.keep h r bs' h4⟩
end

/-- In a block whose cells are still there, though the block may be written elsewhere: RDs over cells that read as they did. -/
theorem RDc.keep' {w w' : World} {ok ok' : Nat → Prop} (h : Keeps w w' ok ok') (b : Nat) : ∀ (l : List D) (o : Nat), (∀ j, o ≤ j → j < o + l.length → w'.cell? ⟨b, j, none⟩ = w.cell? ⟨b, j, none⟩) → RDc w ok b o l → RDc w' ok' b o l
  | [], o, _, _ => by simp only [RDc]
  | d :: r, o, hc, hd => by
    simp only [RDc] at hd ⊢
    obtain ⟨⟨v, h1, h2⟩, h3⟩ := hd
    refine ⟨⟨v, by rw [hc o (Nat.le_refl _) (by simp)]; exact h1, RD.keep h d v h2⟩, RDc.keep' h b r (o + 1) (fun j h1 h2 => hc j (by omega) (by simp at h2 ⊢; omega)) h3⟩

theorem RDs.keep' {w w' : World} {ok ok' : Nat → Prop} (h : Keeps w w' ok ok') (b sz : Nat) : ∀ (l : List (List D)) (o : Nat), (∀ j, o ≤ j → j < o + l.length * sz → w'.cell? ⟨b, j, none⟩ = w.cell? ⟨b, j, none⟩) → RDs w ok b sz o l → RDs w' ok' b sz o l
  | [], o, _, _ => by simp only [RDs]
  | e :: r, o, hc, hd => by
    simp only [RDs] at hd ⊢
    refine ⟨hd.1, RDc.keep' h b e o (fun j h1 h2 => hc j h1 ?_) hd.2.1, RDs.keep' h b sz r (o + sz) (fun j h1 h2 => hc j (by omega) ?_) hd.2.2⟩
    · rw [hd.1] at h2; simp only [List.length_cons, Nat.add_mul, Nat.one_mul]; omega
    · simp only [List.length_cons, Nat.add_mul, Nat.one_mul]; omega

/-! Elements of a row. -/
theorem RDs.len {w : World} {ok : Nat → Prop} {b sz : Nat} : ∀ {l : List (List D)} {o : Nat}, RDs w ok b sz o l → ∀ e ∈ l, e.length = sz
  | [], _, _, e, he => by cases he
  | x :: r, o, hd, e, he => by
    simp only [RDs] at hd
    rcases List.mem_cons.1 he with rfl | he
    · exact hd.1
    · exact RDs.len hd.2.2 e he

theorem RDs.get {w : World} {ok : Nat → Prop} {b sz : Nat} : ∀ {l : List (List D)} {o i : Nat} {e : List D}, RDs w ok b sz o l → l[i]? = some e → RDc w ok b (o + i * sz) e
  | [], _, i, e, _, he => by simp at he
  | x :: r, o, 0, e, hd, he => by
    simp only [RDs] at hd; simp at he; subst he; simpa using hd.2.1
  | x :: r, o, i + 1, e, hd, he => by
    simp only [RDs] at hd; simp at he
    have := RDs.get hd.2.2 he
    rwa [show o + (i + 1) * sz = o + sz + i * sz by rw [Nat.add_mul]; omega]

theorem RDs.take {w : World} {ok : Nat → Prop} {b sz : Nat} : ∀ {l : List (List D)} {o : Nat} (n : Nat), RDs w ok b sz o l → RDs w ok b sz o (l.take n)
  | [], _, n, _ => by simp [RDs]
  | x :: r, o, 0, hd => by simp [RDs]
  | x :: r, o, n + 1, hd => by
    simp only [RDs, List.take_succ_cons] at hd ⊢
    exact ⟨hd.1, hd.2.1, RDs.take n hd.2.2⟩

theorem RDs.drop {w : World} {ok : Nat → Prop} {b sz : Nat} : ∀ {l : List (List D)} {o : Nat} (n : Nat), RDs w ok b sz o l → RDs w ok b sz (o + n * sz) (l.drop n)
  | [], _, n, _ => by simp [RDs]
  | x :: r, o, 0, hd => by simpa using hd
  | x :: r, o, n + 1, hd => by
    simp only [List.drop_succ_cons]
    simp only [RDs] at hd
    have := RDs.drop n hd.2.2
    rwa [show o + (n + 1) * sz = o + sz + n * sz by rw [Nat.add_mul]; omega]

theorem RDs.append {w : World} {ok : Nat → Prop} {b sz : Nat} : ∀ {l l2 : List (List D)} {o : Nat}, RDs w ok b sz o l → RDs w ok b sz (o + l.length * sz) l2 → RDs w ok b sz o (l ++ l2)
  | [], l2, o, _, h2 => by simpa using h2
  | x :: r, l2, o, hd, h2 => by
    simp only [RDs, List.cons_append] at hd ⊢
    refine ⟨hd.1, hd.2.1, RDs.append hd.2.2 ?_⟩
    rwa [show o + sz + r.length * sz = o + (x :: r).length * sz by simp only [List.length_cons, Nat.add_mul]; omega]

theorem RDc.drop {w : World} {ok : Nat → Prop} {b : Nat} : ∀ {l : List D} {o : Nat} (n : Nat), RDc w ok b o l → RDc w ok b (o + n) (l.drop n)
  | [], _, n, _ => by simp [RDc]
  | x :: r, o, 0, hd => by simpa using hd
  | x :: r, o, n + 1, hd => by
    simp only [List.drop_succ_cons]
    simp only [RDc] at hd
    have := RDc.drop n hd.2
    rwa [show o + (n + 1) = o + 1 + n by omega]

theorem RDc.get {w : World} {ok : Nat → Prop} {b : Nat} : ∀ {l : List D} {o i : Nat} {d : D}, RDc w ok b o l → l[i]? = some d → ∃ v, w.cell? ⟨b, o + i, none⟩ = some v ∧ RD w ok d v
  | [], _, i, e, _, he => by simp at he
  | x :: r, o, 0, e, hd, he => by
    simp only [RDc] at hd; simp at he; subst he; simpa using hd.1
  | x :: r, o, i + 1, e, hd, he => by
    simp only [RDc] at hd; simp at he
    have := RDc.get hd.2 he
    rwa [show o + (i + 1) = o + 1 + i by omega]

end Go.AM

namespace Go.AM

/-- Rows keep their size. -/
def Shapes (w w' : World) : Prop := ∀ b t m, w.shape? b = some (t, m) → w'.shape? b = some (t, m)

theorem Shapes.refl (w : World) : Shapes w w := fun _ _ _ h => h

section
variable {ι ι' : Nat → Gh} {w w' : World} {ok ok' : Nat → Prop} {l : List Nat}

theorem CR.kill (hk : Keeps w w' ok ok') (hs : Shapes w w') (hι : ∀ p, isin p l = false → ι' p = ι p) (c : C) (v : Value) (h : CR ι w ok c v) : CR ι' w' ok' (c.kill l) v := by
  cases c with
  | dead => trivial
  | d x => exact RD.keep hk x v h
  | nil => exact h
  | ptr p o =>
    simp only [C.kill]
    cases hp : isin p l
    · obtain ⟨b, h1, h2⟩ := h; exact ⟨b, by rw [hι p hp]; exact h1, h2⟩
    · trivial
  | eptr p z i k =>
    simp only [C.kill]
    cases hp : isin p l
    · obtain ⟨b, h1, h2⟩ := h; exact ⟨b, by rw [hι p hp]; exact h1, h2⟩
    · trivial
  | own p z n =>
    simp only [C.kill]
    cases hp : isin p l
    · rcases h with ⟨h1, h2, h3⟩ | ⟨b, cap, t, h1, h2, h3, h4, h5, h6⟩
      · exact .inl ⟨by rw [hι p hp]; exact h1, h2, h3⟩
      · exact .inr ⟨b, cap, t, by rw [hι p hp]; exact h1, by rw [hι p hp]; exact h2, h3, h4, h5, hs _ _ _ h6⟩
    · trivial
  | sub p z o n =>
    simp only [C.kill]
    cases hp : isin p l
    · simp only [CR] at h; simp only [CR, cond_false]; rw [hι p hp]; exact h
    · trivial
  | fp cells =>
    obtain ⟨b, o, h1, h2, h3⟩ := h
    exact ⟨b, o, h1, (hk b h2).1, RDc.keep hk b h2 _ _ h3⟩
  | clo f caps =>
    simp only [C.kill]
    cases hp : caps.any (fun q => isin q l)
    · obtain ⟨bs, h1, h2⟩ := h
      refine ⟨bs, ?_, h2⟩
      rw [← h1]
      apply List.map_congr_left
      intro q hq
      apply congrArg Gh.b
      apply hι
      have := List.any_eq_false.1 hp q hq
      simpa using this
    · trivial

theorem CR.keep (hk : Keeps w w' ok ok') (hs : Shapes w w') (c : C) (v : Value) (h : CR ι w ok c v) : CR ι w' ok' c v := by
  cases c with
  | dead => trivial
  | d x => exact RD.keep hk x v h
  | nil => exact h
  | ptr p o => exact h
  | eptr p z i k => exact h
  | own p z n =>
    rcases h with h | ⟨b, cap, t, h1, h2, h3, h4, h5, h6⟩
    · exact .inl h
    · exact .inr ⟨b, cap, t, h1, h2, h3, h4, h5, hs _ _ _ h6⟩
  | sub p z o n => exact h
  | fp cells =>
    obtain ⟨b, o, h1, h2, h3⟩ := h
    exact ⟨b, o, h1, (hk b h2).1, RDc.keep hk b h2 _ _ h3⟩
  | clo f caps => exact h

theorem CRs.kill (hk : Keeps w w' ok ok') (hs : Shapes w w') (hι : ∀ p, isin p l = false → ι' p = ι p) : ∀ (cs : List C) (vs : List Value), CRs ι w ok cs vs → CRs ι' w' ok' (cs.map (C.kill l)) vs
  | [], [], _ => trivial
  | [], _ :: _, h => h
  | _ :: _, [], h => h
  | c :: cs, v :: vs, h => ⟨CR.kill hk hs hι c v h.1, CRs.kill hk hs hι cs vs h.2⟩

theorem CRs.keep (hk : Keeps w w' ok ok') (hs : Shapes w w') : ∀ (cs : List C) (vs : List Value), CRs ι w ok cs vs → CRs ι w' ok' cs vs
  | [], [], _ => trivial
  | [], _ :: _, h => h
  | _ :: _, [], h => h
  | c :: cs, v :: vs, h => ⟨CR.keep hk hs c v h.1, CRs.keep hk hs cs vs h.2⟩

theorem WR.kill (hk : Keeps w w' ok ok') (hs : Shapes w w') (hι : ∀ p, isin p l = false → ι' p = ι p) (x : W) (v : Value) (h : WR ι w ok x v) : WR ι' w' ok' (x.kill l) v := by
  cases x with
  | c x => exact CR.kill hk hs hι x v h
  | agg cs => obtain ⟨vs, h1, h2⟩ := h; exact ⟨vs, h1, CRs.kill hk hs hι cs vs h2⟩

theorem WR.keep (hk : Keeps w w' ok ok') (hs : Shapes w w') (x : W) (v : Value) (h : WR ι w ok x v) : WR ι w' ok' x v := by
  cases x with
  | c x => exact CR.keep hk hs x v h
  | agg cs => obtain ⟨vs, h1, h2⟩ := h; exact ⟨vs, h1, CRs.keep hk hs cs vs h2⟩

theorem WRs.kill (hk : Keeps w w' ok ok') (hs : Shapes w w') (hι : ∀ p, isin p l = false → ι' p = ι p) : ∀ (cs : List W) (vs : List Value), WRs ι w ok cs vs → WRs ι' w' ok' (cs.map (W.kill l)) vs
  | [], [], _ => trivial
  | [], _ :: _, h => h
  | _ :: _, [], h => h
  | c :: cs, v :: vs, h => ⟨WR.kill hk hs hι c v h.1, WRs.kill hk hs hι cs vs h.2⟩

theorem WRs.keep (hk : Keeps w w' ok ok') (hs : Shapes w w') : ∀ (cs : List W) (vs : List Value), WRs ι w ok cs vs → WRs ι w' ok' cs vs
  | [], [], _ => trivial
  | [], _ :: _, h => h
  | _ :: _, [], h => h
  | c :: cs, v :: vs, h => ⟨WR.keep hk hs c v h.1, WRs.keep hk hs cs vs h.2⟩

theorem VR.kill (hk : Keeps w w' ok ok') (hs : Shapes w w') (hι : ∀ p, isin p l = false → ι' p = ι p) (x : V) (v : Value) (h : VR ι w ok x v) : VR ι' w' ok' (x.kill l) v := by
  cases x with
  | w x => exact WR.kill hk hs hι x v h
  | tup cs => obtain ⟨vs, h1, h2⟩ := h; exact ⟨vs, h1, WRs.kill hk hs hι cs vs h2⟩

theorem VR.keep (hk : Keeps w w' ok ok') (hs : Shapes w w') (x : V) (v : Value) (h : VR ι w ok x v) : VR ι w' ok' x v := by
  cases x with
  | w x => exact WR.keep hk hs x v h
  | tup cs => obtain ⟨vs, h1, h2⟩ := h; exact ⟨vs, h1, WRs.keep hk hs cs vs h2⟩
end

theorem CRs.length {ι : Nat → Gh} {w : World} {ok : Nat → Prop} : ∀ {cs : List C} {vs : List Value}, CRs ι w ok cs vs → cs.length = vs.length
  | [], [], _ => rfl
  | [], _ :: _, h => h.elim
  | _ :: _, [], h => h.elim
  | _ :: _, _ :: _, h => by simp [CRs.length h.2]

theorem CRs.get {ι : Nat → Gh} {w : World} {ok : Nat → Prop} : ∀ {cs : List C} {vs : List Value} {i : Nat} {c : C}, CRs ι w ok cs vs → cs[i]? = some c → ∃ v, vs[i]? = some v ∧ CR ι w ok c v
  | [], _, _, _, _, he => by simp at he
  | _ :: _, [], _, _, h, _ => h.elim
  | c :: cs, v :: vs, 0, _, h, he => by simp at he; subst he; exact ⟨v, rfl, h.1⟩
  | c :: cs, v :: vs, i + 1, _, h, he => by simp at he; simpa using CRs.get h.2 he

theorem CRs.take {ι : Nat → Gh} {w : World} {ok : Nat → Prop} : ∀ {cs : List C} {vs : List Value} (n : Nat), CRs ι w ok cs vs → CRs ι w ok (cs.take n) (vs.take n)
  | [], [], n, _ => by simp [CRs]
  | [], _ :: _, _, h => h.elim
  | _ :: _, [], _, h => h.elim
  | _ :: _, _ :: _, 0, _ => by simp [CRs]
  | _ :: _, _ :: _, n + 1, h => ⟨h.1, CRs.take n h.2⟩

theorem CRs.drop {ι : Nat → Gh} {w : World} {ok : Nat → Prop} : ∀ {cs : List C} {vs : List Value} (n : Nat), CRs ι w ok cs vs → CRs ι w ok (cs.drop n) (vs.drop n)
  | [], [], n, _ => by simp [CRs]
  | [], _ :: _, _, h => h.elim
  | _ :: _, [], _, h => h.elim
  | _ :: _, _ :: _, 0, h => h
  | _ :: _, _ :: _, n + 1, h => CRs.drop n h.2

theorem CRs.append {ι : Nat → Gh} {w : World} {ok : Nat → Prop} : ∀ {cs ds : List C} {vs us : List Value}, CRs ι w ok cs vs → CRs ι w ok ds us → CRs ι w ok (cs ++ ds) (vs ++ us)
  | [], _, [], _, _, h2 => h2
  | [], _, _ :: _, _, h, _ => h.elim
  | _ :: _, _, [], _, h, _ => h.elim
  | _ :: _, _, _ :: _, _, h, h2 => ⟨h.1, CRs.append h.2 h2⟩

theorem CR.one {ι : Nat → Gh} {w : World} {ok : Nat → Prop} {c : C} {v : Value} (h : CR ι w ok c v) (hd : c.isDead = false) : v.oneCell' = true := by
  cases c with
  | dead => cases hd
  | d x => cases x with
    | lit u => simp only [CR, RD] at h; obtain ⟨rfl, h⟩ := h; exact h
    | sl l => simp only [CR, RD] at h; obtain ⟨_, _, _, rfl, _⟩ := h; rfl
    | fn f l => simp only [CR, RD] at h; obtain ⟨_, rfl, _⟩ := h; rfl
  | nil => simp only [CR] at h; subst h; rfl
  | ptr p o => obtain ⟨_, _, rfl⟩ := h; rfl
  | eptr p z i k => obtain ⟨_, _, rfl⟩ := h; rfl
  | own p z n => rcases h with ⟨_, _, rfl⟩ | ⟨_, _, _, _, _, rfl, _⟩ <;> rfl
  | sub p z o n => obtain ⟨_, _, rfl, _⟩ := h; rfl
  | fp cells => obtain ⟨_, _, rfl, _⟩ := h; rfl
  | clo f caps => obtain ⟨_, _, rfl⟩ := h; rfl

theorem CRs.ones {ι : Nat → Gh} {w : World} {ok : Nat → Prop} : ∀ {cs : List C} {vs : List Value}, CRs ι w ok cs vs → solid cs = true → ∀ v ∈ vs, v.oneCell' = true
  | [], [], _, _, _, hv => by cases hv
  | [], _ :: _, h, _, _, _ => h.elim
  | _ :: _, [], h, _, _, _ => h.elim
  | c :: cs, v :: vs, h, hs, u, hu => by
    unfold solid at hs
    cases hd : c.isDead
    · rw [hd] at hs
      rcases List.mem_cons.1 hu with rfl | hu
      · exact CR.one h.1 hd
      · exact CRs.ones h.2 hs u hu
    · rw [hd] at hs; cases hs

/-! Places. -/
theorem Pl.live_kill (x : Pl) (l : List Nat) : (x.kill l).live = x.live := by cases x <;> rfl

theorem RowAt.cell {w : World} {b : Nat} {cur : Array Value} (h : RowAt w b cur) (j : Nat) : w.cell? ⟨b, j, none⟩ = cur[j]? := by
  obtain ⟨t, h⟩ := h; exact cell_of_row w b j cur t (0, 0) h

theorem RowAt.shape {w : World} {b : Nat} {cur : Array Value} (h : RowAt w b cur) : ∃ t, w.shape? b = some (t, cur.size) := by
  obtain ⟨t, h⟩ := h; exact ⟨t, by simp [World.shape?, h]⟩

theorem RowAt.lt {w : World} {b : Nat} {cur : Array Value} (h : RowAt w b cur) : b < w.heap.size := by
  obtain ⟨t, h⟩ := h; exact (Array.getElem?_eq_some_iff.1 h).1

theorem PR.kill {ι ι' : Nat → Gh} {w w' : World} {ok ok' : Nat → Prop} {l : List Nat} (hk : Keeps w w' ok ok') (hs : Shapes w w') (hι : ∀ p, isin p l = false → ι' p = ι p) (p : Nat) (hp : isin p l = false) (x : Pl)
    (hb : x.live = true → ∀ b, (ι p).b = some b → w'.heap[b]? = w.heap[b]?) (h : PR ι w ok p x) : PR ι' w' ok' p (x.kill l) := by
  cases x with
  | box cs =>
    obtain ⟨b, cur, h1, ⟨t, h2⟩, h3⟩ := h
    exact ⟨b, cur, by rw [hι p hp]; exact h1, ⟨t, by rw [hb rfl b h1]; exact h2⟩, CRs.kill hk hs hι cs _ h3⟩
  | arr sz els fz =>
    obtain ⟨h0, hn, h⟩ := h
    refine ⟨h0, by rw [hι p hp]; exact hn, ?_⟩
    rcases h with ⟨h1, h2⟩ | ⟨b, h1, h2, h3, h4⟩
    · exact .inl ⟨by rw [hι p hp]; exact h1, h2⟩
    · refine .inr ⟨b, by rw [hι p hp]; exact h1, ?_, fun hf => (hk b (h3 hf)).1, fun hf => ?_⟩
      · have hsame : w'.heap[b]? = w.heap[b]? := by
          cases fz
          · exact hb rfl b h1
          · exact (hk b (h3 rfl)).2
        exact RDs.keep' hk b sz els 0 (fun j _ _ => cell_of_heap hsame j) h2
      · obtain ⟨cur, ⟨t, h5⟩, h6⟩ := h4 hf
        subst hf
        exact ⟨cur, ⟨t, by rw [hb rfl b h1]; exact h5⟩, h6⟩
  | fbox ds =>
    obtain ⟨b, h1, h2, h3⟩ := h
    exact ⟨b, by rw [hι p hp]; exact h1, (hk b h2).1, RDc.keep hk b h2 _ _ h3⟩
  | gone => exact h.elim

/-! Frames. -/
theorem Grows.refl (M : Nat → Prop) (w : World) : Grows M w w := ⟨rfl, rfl, Out.refl w, Nat.le_refl _, fun _ _ _ => rfl, fun _ _ _ h => h⟩
theorem Grows.trans {M : Nat → Prop} {a b c : World} (h : Grows M a b) (k : Grows M b c) : Grows M a c :=
  ⟨k.os.trans h.os, k.tape.trans h.tape, k.output.trans h.output, Nat.le_trans h.size k.size, fun i hi hm => (k.block i (Nat.lt_of_lt_of_le hi h.size) hm).trans (h.block i hi hm), fun b t m hb => k.shapes b t m (h.shapes b t m hb)⟩

section
variable {F : Fr} {N : Nat} {ι : Nat → Gh} {s : S} {a : Act} {w : World}

theorem S.redo_sl (s : S) (kills : List Nat) (new : List (Nat × Pl)) (k : Nat) : aget (s.redo kills new).sl k = (aget s.sl k).map (V.kill kills) := by
  simp only [S.redo]; exact aget_map s.sl (V.kill kills) k

theorem S.redo_pl (s : S) (kills : List Nat) (new : List (Nat × Pl)) (p : Nat) :
    aget (s.redo kills new).pl p = match aget new p with | some x => some x | none => if isin p kills = false then (aget s.pl p).map (Pl.kill kills) else none := by
  simp only [S.redo, aget_addPls]
  cases aget new p with
  | some x => rfl
  | none =>
    simp only []
    rw [aget_map (afilter (fun k => !isin k kills) s.pl) (Pl.kill kills) p, aget_afilter_eq]
    cases isin p kills <;> simp

/-- The general step: some places are forgotten, new ones lie in new blocks or in blocks of the forgotten; all other blocks are as they were. -/
theorem Rel.redoG (hr : Rel F N ι s a w) (kills : List Nat) (new : List (Nat × Pl)) (ι' : Nat → Gh) (w' : World)
    (hι : ∀ p, isin p kills = false → ι' p = ι p)
    (hsame : ∀ b, b < w.heap.size → (∀ q y, (isin q kills = true ∨ aget new q ≠ none) → aget s.pl q = some y → y.live = true → (ι q).b ≠ some b) → w'.heap[b]? = w.heap[b]?)
    (hs : Shapes w w') (hos : w'.os = w.os) (htape : w'.tape = w.tape) (hout : Out w w') (hsize : w.heap.size ≤ w'.heap.size)
    (hpl : ∀ p x, aget new p = some x → PR ι' w' (F.ok ι' (s.redo kills new).pl w') p x)
    (hfresh : ∀ p x b, aget new p = some x → (ι' p).b = some b → b < w'.heap.size ∧ (w.heap.size ≤ b ∨ ∃ q y, (isin q kills = true ∨ aget new q ≠ none) ∧ aget s.pl q = some y ∧ y.live = true ∧ (ι q).b = some b))
    (hinj : ∀ p q x y b, aget new p = some x → aget new q = some y → p ≠ q → (ι' p).b = some b → (ι' q).b ≠ some b)
    (hh : ∀ p x g, aget new p = some x → F.h p = some g → ι' p = g) :
    Rel F N ι' (s.redo kills new) a w' := by
  have hownOld : ∀ b, Owns ι' (s.redo kills new).pl b → (w.heap.size ≤ b ∨ Owns ι s.pl b) ∧ b < w'.heap.size := by
    rintro b ⟨p, x, hx, hl, hb⟩
    rw [S.redo_pl] at hx
    cases hn : aget new p with
    | some y =>
      simp only [hn] at hx
      obtain ⟨h1, h2⟩ := hfresh p y b hn hb
      refine ⟨?_, h1⟩
      rcases h2 with h2 | ⟨q, z, _, h4, h5, h6⟩
      · exact .inl h2
      · exact .inr ⟨q, z, h4, h5, h6⟩
    | none =>
      simp only [hn] at hx
      split at hx
      · rename_i hk
        cases hp : aget s.pl p with
        | none => rw [hp] at hx; cases hx
        | some y =>
          rw [hp] at hx; simp at hx; subst hx
          have ho : Owns ι s.pl b := ⟨p, y, hp, by rw [← Pl.live_kill y kills]; exact hl, by rw [← hι p hk]; exact hb⟩
          exact ⟨.inr ho, Nat.lt_of_lt_of_le (hr.mine b ho).2 hsize⟩
      · cases hx
  have hkeep : Keeps w w' (F.ok ι s.pl w) (F.ok ι' (s.redo kills new).pl w') := by
    intro b hb
    obtain ⟨h1, h2, h3⟩ := hb
    refine ⟨⟨h1, Nat.lt_of_lt_of_le h2 hsize, fun ho => ?_⟩, hsame b h2 (fun q y _ hy hl hq => h3 ⟨q, y, hy, hl, hq⟩)⟩
    rcases (hownOld b ho).1 with h | h
    · omega
    · exact h3 h
  refine ⟨hr.room, ?_, ?_, ?_, ?_, hr.defers, ?_, hr.foreign, hr.handed, hr.few, hr.hdom, ?_⟩
  rotate_left 5
  · intro p x g hx hg
    rw [S.redo_pl] at hx
    cases hn : aget new p with
    | some y => exact hh p y g hn hg
    | none =>
      simp only [hn] at hx
      split at hx
      · rename_i hk
        cases hp : aget s.pl p with
        | none => rw [hp] at hx; cases hx
        | some y => rw [hι p hk]; exact hr.hkeep p y g hp hg
      · cases hx
  · intro k v hv
    rw [S.redo_sl] at hv
    cases hk : aget s.sl k with
    | none => rw [hk] at hv; cases hv
    | some u =>
      rw [hk] at hv; simp at hv; subst hv
      obtain ⟨x, h1, h2⟩ := hr.slots k u hk
      exact ⟨x, h1, VR.kill hkeep hs hι u x h2⟩
  · intro p x hx
    rw [S.redo_pl] at hx
    cases hn : aget new p with
    | some y => simp only [hn] at hx; cases hx; exact hpl p _ hn
    | none =>
      simp only [hn] at hx
      split at hx
      · rename_i hk
        cases hp : aget s.pl p with
        | none => rw [hp] at hx; cases hx
        | some y =>
          rw [hp] at hx; simp at hx; subst hx
          refine PR.kill hkeep hs hι p hk y (fun hl b hb => ?_) (hr.places p y hp)
          refine hsame b (hr.mine b ⟨p, y, hp, hl, hb⟩).2 (fun q z hq hz hlz hqb => ?_)
          have hpq : p ≠ q := fun e => by subst e; rcases hq with hq | hq; · rw [hk] at hq; cases hq
                                          · exact hq hn
          exact hr.inj p q y z b hp hz hpq hl hb hqb
      · cases hx
  · intro p q x y b hx hy hpq hl hb hq
    rw [S.redo_pl] at hx hy
    cases hn : aget new p with
    | some x' =>
      simp only [hn] at hx; cases hx
      cases hm : aget new q with
      | some y' => exact hinj p q _ _ b hn hm hpq hb hq
      | none =>
        simp only [hm] at hy
        split at hy
        · rename_i hk
          cases hq' : aget s.pl q with
          | none => rw [hq'] at hy; cases hy
          | some z =>
            rw [hq'] at hy; simp at hy
            rw [hι q hk] at hq
            obtain ⟨_, h2⟩ := hfresh p _ b hn hb
            have hlt : b < w.heap.size := by
              have hz := hr.places q z hq'
              cases z with
              | box cs => obtain ⟨b', cur, e1, e2, _⟩ := hz; rw [hq] at e1; cases e1; exact e2.lt
              | arr sz els fz =>
                obtain ⟨_, _, hz | ⟨b', e1, e2, e3, e4⟩⟩ := hz
                · rw [hq] at hz; cases hz.1
                · rw [hq] at e1; cases e1
                  cases fz
                  · obtain ⟨cur, e5, _⟩ := e4 rfl; exact e5.lt
                  · exact (e3 rfl).2.1
              | fbox ds => obtain ⟨b', e1, e2, _⟩ := hz; rw [hq] at e1; cases e1; exact e2.2.1
              | gone => exact hz.elim
            rcases h2 with h2 | ⟨r, u, h3, h4, h5, h6⟩
            · omega
            · have hrq : r ≠ q := fun e => by subst e; rcases h3 with h3 | h3; · rw [hk] at h3; cases h3
                                              · exact h3 hm
              exact hr.inj r q u z b h4 hq' hrq h5 h6 hq
        · cases hy
    | none =>
      simp only [hn] at hx
      split at hx
      · rename_i hk
        cases hp : aget s.pl p with
        | none => rw [hp] at hx; cases hx
        | some x' =>
          rw [hp] at hx; simp at hx; subst hx
          rw [Pl.live_kill] at hl
          rw [hι p hk] at hb
          cases hm : aget new q with
          | some y' =>
            obtain ⟨_, h2⟩ := hfresh q y' b hm hq
            rcases h2 with h2 | ⟨r, u, h3, h4, h5, h6⟩
            · have := (hr.mine b ⟨p, x', hp, hl, hb⟩).2; omega
            · have hpr : p ≠ r := fun e => by subst e; rcases h3 with h3 | h3; · rw [hk] at h3; cases h3
                                              · exact h3 hn
              exact hr.inj p r x' u b hp h4 hpr hl hb h6
          | none =>
            simp only [hm] at hy
            split at hy
            · rename_i hk2
              cases hq' : aget s.pl q with
              | none => rw [hq'] at hy; cases hy
              | some z =>
                rw [hι q hk2] at hq
                exact hr.inj p q x' z b hp hq' hpq hl hb hq
            · cases hy
      · cases hx
  · intro b hb
    obtain ⟨h1, h2⟩ := hownOld b hb
    refine ⟨?_, h2⟩
    rcases h1 with h1 | h1
    · exact .inr (Nat.le_trans hr.grows.size h1)
    · exact (hr.mine b h1).1
  · refine ⟨hos.trans hr.grows.os, htape.trans hr.grows.tape, hout.trans hr.grows.output, Nat.le_trans hr.grows.size hsize, fun b hb hm => ?_, fun b t m h => hs b t m (hr.grows.shapes b t m h)⟩
    rw [hsame b (Nat.lt_of_lt_of_le hb hr.grows.size) ?_]
    · exact hr.grows.block b hb hm
    · intro q y _ hy hl hq
      rcases (hr.mine b ⟨q, y, hy, hl, hq⟩).1 with h | h
      · exact hm h
      · omega

theorem Rel.redo (hr : Rel F N ι s a w) (kills : List Nat) (new : List (Nat × Pl)) (ι' : Nat → Gh) (w' : World)
    (hι : ∀ p, isin p kills = false → ι' p = ι p)
    (hsame : ∀ b, b < w.heap.size → (∀ q y, isin q kills = true → aget s.pl q = some y → y.live = true → (ι q).b ≠ some b) → w'.heap[b]? = w.heap[b]?)
    (hs : Shapes w w') (hos : w'.os = w.os) (htape : w'.tape = w.tape) (hout : Out w w') (hsize : w.heap.size ≤ w'.heap.size)
    (hpl : ∀ p x, aget new p = some x → PR ι' w' (F.ok ι' (s.redo kills new).pl w') p x)
    (hfresh : ∀ p x b, aget new p = some x → (ι' p).b = some b → b < w'.heap.size ∧ (w.heap.size ≤ b ∨ ∃ q y, isin q kills = true ∧ aget s.pl q = some y ∧ y.live = true ∧ (ι q).b = some b))
    (hinj : ∀ p q x y b, aget new p = some x → aget new q = some y → p ≠ q → (ι' p).b = some b → (ι' q).b ≠ some b)
    (hh : ∀ p x, aget new p = some x → F.h p = none) :
    Rel F N ι' (s.redo kills new) a w' :=
  hr.redoG kills new ι' w' hι (fun b hb h => hsame b hb fun q y hq => h q y (.inl hq)) hs hos htape hout hsize hpl
    (fun p x b hx hb => ⟨(hfresh p x b hx hb).1, (hfresh p x b hx hb).2.imp id fun ⟨q, y, h, r⟩ => ⟨q, y, .inl h, r⟩⟩) hinj (fun p x g hx hg => by rw [hh p x hx] at hg; cases hg)

/-- A slot's number, and what is made of it, is no name of what was handed over. -/
theorem Rel.h_slot (hr : Rel F N ι s a w) {d : Nat} (hd : d < N) : F.h d = none := by
  cases h : F.h d with
  | none => rfl
  | some g => have := hr.hdom d g h; have := hr.few; omega
theorem Rel.h_big (hr : Rel F N ι s a w) {i : Nat} (hi : 600000 ≤ i) : F.h i = none := by
  cases h : F.h i with
  | none => rfl
  | some g => have := hr.hdom i g h; omega
theorem PR.keep {ι : Nat → Gh} {w : World} {ok ok' : Nat → Prop} (hk : Keeps w w ok ok') {p : Nat} {x : Pl} (h : PR ι w ok p x) : PR ι w ok' p x := by
  cases x with
  | box cs => obtain ⟨b, cur, e1, e2, e3⟩ := h; exact ⟨b, cur, e1, e2, CRs.keep hk (Shapes.refl w) _ _ e3⟩
  | arr sz els fz =>
    obtain ⟨h0, hn, h | ⟨b, e1, e2, e3, e4⟩⟩ := h
    · exact ⟨h0, hn, .inl h⟩
    · exact ⟨h0, hn, .inr ⟨b, e1, RDs.keep' hk b sz els 0 (fun _ _ _ => rfl) e2, fun hf => (hk b (e3 hf)).1, e4⟩⟩
  | fbox ds => obtain ⟨b, e1, e2, e3⟩ := h; exact ⟨b, e1, (hk b e2).1, RDc.keep hk b e2 _ _ e3⟩
  | gone => exact h.elim

/-- Knowing less. -/
theorem Rel.sub (hr : Rel F N ι s a w) (t : S) (h1 : ∀ k v, aget t.sl k = some v → aget s.sl k = some v) (h2 : ∀ p x, aget t.pl p = some x → aget s.pl p = some x) : Rel F N ι t a w := by
  have hown : ∀ b, Owns ι t.pl b → Owns ι s.pl b := fun b ⟨p, x, e1, e2, e3⟩ => ⟨p, x, h2 p x e1, e2, e3⟩
  have hkeep : Keeps w w (F.ok ι s.pl w) (F.ok ι t.pl w) := fun b hb => ⟨⟨hb.1, hb.2.1, fun h => hb.2.2 (hown b h)⟩, rfl⟩
  refine ⟨hr.room, fun k v hv => ?_, fun p x hx => ?_, fun p q x y b hx hy => hr.inj p q x y b (h2 p x hx) (h2 q y hy), fun b hb => hr.mine b (hown b hb), hr.defers, hr.grows, hr.foreign, hr.handed, hr.few, hr.hdom, fun p x g hx hg => hr.hkeep p x g (h2 p x hx) hg⟩
  · obtain ⟨x, e1, e2⟩ := hr.slots k v (h1 k v hv)
    exact ⟨x, e1, VR.keep hkeep (Shapes.refl w) v x e2⟩
  · have h := hr.places p x (h2 p x hx)
    cases x with
    | box cs => obtain ⟨b, cur, e1, e2, e3⟩ := h; exact ⟨b, cur, e1, e2, CRs.keep hkeep (Shapes.refl w) _ _ e3⟩
    | arr sz els fz =>
      obtain ⟨h0, hn, h | ⟨b, e1, e2, e3, e4⟩⟩ := h
      · exact ⟨h0, hn, .inl h⟩
      · exact ⟨h0, hn, .inr ⟨b, e1, RDs.keep' hkeep b sz els 0 (fun _ _ _ => rfl) e2, fun hf => (hkeep b (e3 hf)).1, e4⟩⟩
    | fbox ds => obtain ⟨b, e1, e2, e3⟩ := h; exact ⟨b, e1, (hkeep b e2).1, RDc.keep hkeep b e2 _ _ e3⟩
    | gone => exact h.elim

theorem Act.put_size (a : Act) (d : Option Tmp) (v : Value) : (a.put d v).tmps.size = a.tmps.size := by
  cases d <;> simp [Act.put]
theorem Act.put_defers (a : Act) (d : Option Tmp) (v : Value) : (a.put d v).defers = a.defers := by
  cases d <;> simp [Act.put]

/-- A value goes into its slot. -/
theorem Rel.put (hr : Rel F N ι s a w) (d : Option Tmp) (hd : ∀ k, d = some k → k < N) (v : V) (x : Value) (hv : VR ι w (F.ok ι s.pl w) v x) : Rel F N ι (s.put d v) (a.put d x) w := by
  cases d with
  | none => exact hr
  | some d =>
    have hlt : d < a.tmps.size := Nat.lt_of_lt_of_le (hd d rfl) hr.room
    refine ⟨by rw [Act.put_size]; exact hr.room, fun k u hu => ?_, hr.places, hr.inj, hr.mine, by rw [Act.put_defers]; exact hr.defers, hr.grows, hr.foreign, hr.handed, hr.few, hr.hdom, hr.hkeep⟩
    simp only [S.put, aget_aput] at hu
    simp only [Act.put]
    by_cases hk : d = k
    · subst hk
      simp only [if_true] at hu
      cases hu
      exact ⟨x, by simp [hlt], hv⟩
    · rw [if_neg hk] at hu
      obtain ⟨y, e1, e2⟩ := hr.slots k u hu
      exact ⟨y, by rw [Array.getElem?_setIfInBounds, if_neg hk]; exact e1, e2⟩
end

end Go.AM

namespace Go.AM

section
variable {F : Fr} {N : Nat} {ι : Nat → Gh} {s : S} {a : Act} {w : World}

def S.withPl (s : S) (pl : List (Nat × Pl)) : S := { s with pl := pl }

theorem aget_freezeP (pl : List (Nat × Pl)) (p q : Nat) : aget (freezeP pl p) q = if p = q then (match aget pl p with | some (.arr z els _) => some (.arr z els true) | x => x) else aget pl q := by
  unfold freezeP
  cases h : aget pl p with
  | none => by_cases e : p = q <;> simp [e]; subst e; exact h
  | some x =>
    cases x with
    | arr z els fz => simp only [aget_aput]
    | _ => by_cases e : p = q <;> simp [e]; subst e; exact h

theorem Rel.freeze (hr : Rel F N ι s a w) (p : Nat) : Rel F N ι (s.withPl (freezeP s.pl p)) a w := by
  have hown : ∀ b, Owns ι (freezeP s.pl p) b → Owns ι s.pl b := by
    rintro b ⟨q, x, h1, h2, h3⟩
    rw [aget_freezeP] at h1
    split at h1
    · rename_i e; subst e
      cases hp : aget s.pl p with
      | none => rw [hp] at h1; cases h1
      | some y =>
        rw [hp] at h1
        cases y with
        | arr z els fz => cases h1; cases h2
        | _ => cases h1; exact ⟨p, _, hp, h2, h3⟩
    · exact ⟨q, x, h1, h2, h3⟩
  have hkeep : Keeps w w (F.ok ι s.pl w) (F.ok ι (freezeP s.pl p) w) := fun b hb => ⟨⟨hb.1, hb.2.1, fun h => hb.2.2 (hown b h)⟩, rfl⟩
  refine ⟨hr.room, fun k v hv => ?_, fun q x hx => ?_, fun q r x y b hx hy hqr hl hb hrb => ?_, fun b hb => hr.mine b (hown b hb), hr.defers, hr.grows, hr.foreign, hr.handed, hr.few, hr.hdom, fun q x g hx hg => ?_⟩
  rotate_left 3
  · have hx' : aget (freezeP s.pl p) q = some x := hx
    rw [aget_freezeP] at hx'
    split at hx'
    · rename_i e; subst e
      cases hp : aget s.pl p with
      | none => rw [hp] at hx'; cases hx'
      | some y => exact hr.hkeep p y g hp hg
    · exact hr.hkeep q x g hx' hg
  · obtain ⟨x, e1, e2⟩ := hr.slots k v hv
    exact ⟨x, e1, VR.keep hkeep (Shapes.refl w) v x e2⟩
  · have hx' : aget (freezeP s.pl p) q = some x := hx
    rw [aget_freezeP] at hx'
    split at hx'
    · rename_i e; subst e
      cases hp : aget s.pl p with
      | none => rw [hp] at hx'; cases hx'
      | some y =>
        have h := hr.places p y hp
        rw [hp] at hx'
        cases y with
        | box cs => cases hx'; obtain ⟨b, cur, e1, e2, e3⟩ := h; exact ⟨b, cur, e1, e2, CRs.keep hkeep (Shapes.refl w) _ _ e3⟩
        | fbox ds => cases hx'; obtain ⟨b, e1, e2, e3⟩ := h; exact ⟨b, e1, (hkeep b e2).1, RDc.keep hkeep b e2 _ _ e3⟩
        | gone => exact h.elim
        | arr z els fz =>
          cases hx'
          obtain ⟨h0, hn, h | ⟨b, e1, e2, e3, e4⟩⟩ := h
          · exact ⟨h0, hn, .inl h⟩
          · refine ⟨h0, hn, .inr ⟨b, e1, RDs.keep' hkeep b z els 0 (fun _ _ _ => rfl) e2, fun _ => ?_, fun hf => by cases hf⟩⟩
            cases fz
            · have ho : Owns ι s.pl b := ⟨p, _, hp, rfl, e1⟩
              refine ⟨?_, (hr.mine b ho).2, ?_⟩
              · rcases (hr.mine b ho).1 with h | h
                · exact .inr (.inl h)
                · exact .inr (.inr h)
              · rintro ⟨q, x, h1, h2, h3⟩
                have h1' : aget (freezeP s.pl p) q = some x := h1
                rw [aget_freezeP] at h1'
                split at h1'
                · rename_i e; subst e; rw [hp] at h1'; cases h1'; cases h2
                · rename_i hne
                  exact hr.inj p q _ x b hp h1' hne rfl e1 h3
            · exact (hkeep b (e3 rfl)).1
    · have h := hr.places q x hx'
      cases x with
      | box cs => obtain ⟨b, cur, e1, e2, e3⟩ := h; exact ⟨b, cur, e1, e2, CRs.keep hkeep (Shapes.refl w) _ _ e3⟩
      | fbox ds => obtain ⟨b, e1, e2, e3⟩ := h; exact ⟨b, e1, (hkeep b e2).1, RDc.keep hkeep b e2 _ _ e3⟩
      | gone => exact h.elim
      | arr sz els fz =>
        obtain ⟨h0, hn, h | ⟨b, e1, e2, e3, e4⟩⟩ := h
        · exact ⟨h0, hn, .inl h⟩
        · exact ⟨h0, hn, .inr ⟨b, e1, RDs.keep' hkeep b sz els 0 (fun _ _ _ => rfl) e2, fun hf => (hkeep b (e3 hf)).1, e4⟩⟩
  · have hx' : aget (freezeP s.pl p) q = some x := hx
    have hy' : aget (freezeP s.pl p) r = some y := hy
    rw [aget_freezeP] at hx' hy'
    have h1 : ∃ x', aget s.pl q = some x' ∧ x'.live = true := by
      split at hx'
      · rename_i e; subst e
        cases hp : aget s.pl p with
        | none => rw [hp] at hx'; cases hx'
        | some z =>
          rw [hp] at hx'
          cases z with
          | arr z els fz => cases hx'; cases hl
          | _ => cases hx'; exact ⟨_, rfl, hl⟩
      · exact ⟨x, hx', hl⟩
    have h2 : ∃ y', aget s.pl r = some y' := by
      split at hy'
      · rename_i e; subst e
        cases hp : aget s.pl p with
        | none => rw [hp] at hy'; cases hy'
        | some z => exact ⟨z, rfl⟩
      · exact ⟨y, hy'⟩
    obtain ⟨x', h1, h1'⟩ := h1
    obtain ⟨y', h2⟩ := h2
    exact hr.inj q r x' y' b h1 h2 hqr h1' hb hrb

theorem ok_freeze (p b : Nat) (h : F.ok ι s.pl w b) : F.ok ι (freezeP s.pl p) w b := by
  refine ⟨h.1, h.2.1, fun ho => h.2.2 ?_⟩
  obtain ⟨q, x, h1, h2, h3⟩ := ho
  rw [aget_freezeP] at h1
  split at h1
  · rename_i e; subst e
    cases hp : aget s.pl p with
    | none => rw [hp] at h1; cases h1
    | some y =>
      rw [hp] at h1
      cases y with
      | arr z els fz => cases h1; cases h2
      | _ => cases h1; exact ⟨p, _, hp, h2, h3⟩
  · exact ⟨q, x, h1, h2, h3⟩

/-- A place of the frame's own that is written no more. -/
theorem Rel.still (hr : Rel F N ι s a w) {p : Nat} {x y : Pl} (hp : aget s.pl p = some x) (hx : x.live = true) (hy : y.live = false)
    (hpr : (∀ b, F.ok ι s.pl w b → F.ok ι (aput p y s.pl) w b) → (∀ b, (ι p).b = some b → F.ok ι (aput p y s.pl) w b) → PR ι w (F.ok ι (aput p y s.pl) w) p y) :
    Rel F N ι (s.withPl (aput p y s.pl)) a w ∧ (∀ b, F.ok ι s.pl w b → F.ok ι (aput p y s.pl) w b) ∧ (∀ b, (ι p).b = some b → F.ok ι (aput p y s.pl) w b) := by
  have hown : ∀ b, Owns ι (aput p y s.pl) b → Owns ι s.pl b ∧ (ι p).b ≠ some b := by
    rintro b ⟨q, z, h1, h2, h3⟩
    rw [aget_aput] at h1
    split at h1
    · cases h1; rw [hy] at h2; cases h2
    · rename_i hne
      exact ⟨⟨q, z, h1, h2, h3⟩, fun e => hr.inj p q x z b hp h1 hne hx e h3⟩
  have hmono : ∀ b, F.ok ι s.pl w b → F.ok ι (aput p y s.pl) w b := fun b hb => ⟨hb.1, hb.2.1, fun h => hb.2.2 (hown b h).1⟩
  have hkeep : Keeps w w (F.ok ι s.pl w) (F.ok ι (aput p y s.pl) w) := fun b hb => ⟨hmono b hb, rfl⟩
  have hnew : ∀ b, (ι p).b = some b → F.ok ι (aput p y s.pl) w b := fun b hb => by
    have ho : Owns ι s.pl b := ⟨p, x, hp, hx, hb⟩
    refine ⟨?_, (hr.mine b ho).2, fun h => (hown b h).2 hb⟩
    rcases (hr.mine b ho).1 with h | h
    · exact .inr (.inl h)
    · exact .inr (.inr h)
  refine ⟨⟨hr.room, fun k v hv => ?_, fun q z hz => ?_, fun q r z u b hz hu hqr hl hb hrb => ?_, fun b hb => hr.mine b (hown b hb).1, hr.defers, hr.grows, hr.foreign, hr.handed, hr.few, hr.hdom, fun q z g hz hg => ?_⟩, hmono, hnew⟩
  · obtain ⟨u, e1, e2⟩ := hr.slots k v hv
    exact ⟨u, e1, VR.keep hkeep (Shapes.refl w) v u e2⟩
  · have hz' : aget (aput p y s.pl) q = some z := hz
    rw [aget_aput] at hz'
    split at hz'
    · rename_i e; subst e; cases hz'
      exact hpr hmono hnew
    · exact PR.keep hkeep (hr.places q z hz')
  · have hz' : aget (aput p y s.pl) q = some z := hz
    have hu' : aget (aput p y s.pl) r = some u := hu
    rw [aget_aput] at hz' hu'
    split at hz'
    · cases hz'; rw [hy] at hl; cases hl
    · split at hu'
      · rename_i e; subst e
        exact hr.inj q p z x b hz' hp hqr hl hb hrb
      · exact hr.inj q r z u b hz' hu' hqr hl hb hrb
  · have hz' : aget (aput p y s.pl) q = some z := hz
    rw [aget_aput] at hz'
    split at hz'
    · rename_i e; subst e; exact hr.hkeep p x g hp hg
    · exact hr.hkeep q z g hz' hg

/-- What an own slice holds. -/
theorem own_data (hr : Rel F N ι s a w) {p z n : Nat} {v : Value} {sz : Nat} {els : List (List D)} {fz : Bool} (hp : aget s.pl p = some (.arr sz els fz)) (hz : z = sz)
    (h : CR ι w (F.ok ι s.pl w) (.own p z n) v) : n ≤ els.length ∧ ((n = 0 ∧ v = .slice none 0 0 ∧ (ι p).b = none ∧ els = []) ∨
      ∃ b cap t, (ι p).b = some b ∧ v = .slice (some ⟨b, 0, none⟩) n cap ∧ n ≤ cap ∧ cap ≤ maxLen ∧ w.shape? b = some (t, cap * sz) ∧ RDs w (F.ok ι s.pl w) b sz 0 els) := by
  subst hz
  obtain ⟨h0, hn, hpl⟩ := hr.places p _ hp
  rcases h with ⟨h1, h2, h3⟩ | ⟨b, cap, t, h1, h2, h3, h4, h5, h6⟩
  · subst h2
    refine ⟨Nat.zero_le _, .inl ⟨rfl, h3, h1, ?_⟩⟩
    rcases hpl with ⟨_, e⟩ | ⟨b, e, _⟩
    · exact e
    · rw [h1] at e; cases e
  · refine ⟨by rw [hn]; exact h2, .inr ⟨b, cap, t, h1, h3, h4, h5, h6, ?_⟩⟩
    rcases hpl with ⟨e, _⟩ | ⟨b', e, e2, _⟩
    · rw [h1] at e; cases e
    · rw [h1] at e; cases e; exact e2

theorem own_data' (hr : Rel F N ι s a w) {p z n : Nat} {v : Value} {sz : Nat} {els : List (List D)} {fz : Bool} (hp : aget s.pl p = some (.arr sz els fz))
    (h : CR ι w (F.ok ι s.pl w) (.own p z n) v) : n ≤ els.length ∧ ((n = 0 ∧ v = .slice none 0 0 ∧ (ι p).b = none ∧ els = []) ∨
      ∃ b cap t, (ι p).b = some b ∧ v = .slice (some ⟨b, 0, none⟩) n cap ∧ n ≤ cap ∧ cap ≤ maxLen ∧ w.shape? b = some (t, cap * z) ∧ RDs w (F.ok ι s.pl w) b sz 0 els) := by
  obtain ⟨h0, hn, hpl⟩ := hr.places p _ hp
  rcases h with ⟨h1, h2, h3⟩ | ⟨b, cap, t, h1, h2, h3, h4, h5, h6⟩
  · subst h2
    refine ⟨Nat.zero_le _, .inl ⟨rfl, h3, h1, ?_⟩⟩
    rcases hpl with ⟨_, e⟩ | ⟨b, e, _⟩
    · exact e
    · rw [h1] at e; cases e
  · refine ⟨by rw [hn]; exact h2, .inr ⟨b, cap, t, h1, h3, h4, h5, h6, ?_⟩⟩
    rcases hpl with ⟨e, _⟩ | ⟨b', e, e2, _⟩
    · rw [h1] at e; cases e
    · rw [h1] at e; cases e; exact e2

/-- Part of an own slice, as data, once it is frozen. -/
theorem own_RD (hr : Rel F N ι s a w) {p sz n : Nat} {els : List (List D)} {fz : Bool} (hp : aget s.pl p = some (.arr sz els fz)) {b cap : Nat} (h1 : (ι p).b = some b) (hn : n ≤ els.length)
    (hnc : n ≤ cap) (hcm : cap ≤ maxLen) :
    RD w (F.ok ι (freezeP s.pl p) w) (.sl (els.take n)) (.slice (some ⟨b, 0, none⟩) n cap) := by
  simp only [RD]
  refine ⟨_, _, _, rfl, by simp; omega, hnc, hcm, ?_⟩
  have hf := (hr.freeze p).places p (.arr sz els true) (by show aget (freezeP s.pl p) p = _; rw [aget_freezeP, if_pos rfl, hp])
  obtain ⟨_, _, hf | ⟨b', e1, e2, e3, e4⟩⟩ := hf
  · rw [h1] at hf; cases hf.1
  · rw [h1] at e1; cases e1
    exact .inr ⟨b, 0, sz, rfl, e3 rfl, RDs.take n e2⟩

theorem toD_sound (hr : Rel F N ι s a w) {c : C} {v : Value} (hc : CR ι w (F.ok ι s.pl w) c v) {x : D} {pl1 : List (Nat × Pl)} (h : toD s.pl c = some (x, pl1)) :
    Rel F N ι (s.withPl pl1) a w ∧ (∀ b, F.ok ι s.pl w b → F.ok ι pl1 w b) ∧ RD w (F.ok ι pl1 w) x v := by
  cases c with
  | d y => cases h; exact ⟨hr, fun _ h => h, hc⟩
  | nil => cases h; exact ⟨hr, fun _ h => h, by simp only [CR] at hc; subst hc; simp only [RD]; exact ⟨none, 0, 0, rfl, rfl, Nat.le_refl _, Nat.zero_le _, .inl trivial⟩⟩
  | own p z n =>
    simp only [toD] at h
    cases hp : aget s.pl p with
    | none => simp only [hp] at h; cases h
    | some y =>
      cases y with
      | box cs => simp only [hp] at h; cases h
      | fbox ds => simp only [hp] at h; cases h
      | gone => simp only [hp] at h; cases h
      | arr sz els fz =>
        simp only [hp] at h
        cases h
        refine ⟨hr.freeze p, fun b => ok_freeze p b, ?_⟩
        obtain ⟨hn, h | ⟨b, cap, t, h1, h2, h3, h4, h5, h6⟩⟩ := own_data' hr hp hc
        · obtain ⟨rfl, rfl, _, _⟩ := h
          simp only [RD, List.take_zero]; exact ⟨none, 0, 0, rfl, rfl, Nat.le_refl _, Nat.zero_le _, .inl trivial⟩
        · subst h2; exact own_RD hr hp h1 hn h3 h4
  | dead => cases h
  | sub p z o n => cases h
  | ptr p o => cases h
  | eptr p z i k => cases h
  | fp l => cases h
  | clo f l =>
    cases l with
    | cons _ _ => cases h
    | nil =>
      cases h
      refine ⟨hr, fun _ h => h, ?_⟩
      obtain ⟨bs, h1, h2⟩ := hc
      have hbs : bs = [] := by simpa using h1.symm
      subst hbs
      simp only [RD, RDf]
      exact ⟨[], h2, rfl⟩

theorem S.withPl_withPl (s : S) (p q : List (Nat × Pl)) : (s.withPl p).withPl q = s.withPl q := rfl

theorem toDs_sound : ∀ {cs : List C} {vs : List Value} {s : S} (_ : Rel F N ι s a w) (_ : CRs ι w (F.ok ι s.pl w) cs vs) {ds : List D} {pl1 : List (Nat × Pl)} (_ : toDs s.pl cs = some (ds, pl1)),
    Rel F N ι (s.withPl pl1) a w ∧ (∀ b, F.ok ι s.pl w b → F.ok ι pl1 w b) ∧ CRs ι w (F.ok ι pl1 w) (ds.map .d) vs
  | [], [], s, hr, _, ds, pl1, h => by cases h; exact ⟨hr, fun _ h => h, trivial⟩
  | [], _ :: _, _, _, hc, _, _, _ => hc.elim
  | _ :: _, [], _, _, hc, _, _, _ => hc.elim
  | c :: cs, v :: vs, s, hr, hc, ds, pl1, h => by
    unfold toDs at h
    cases h1 : toD s.pl c with
    | none => rw [h1] at h; cases h
    | some y =>
      obtain ⟨y, pl2⟩ := y
      rw [h1] at h
      simp only [] at h
      obtain ⟨g1, g2, g3⟩ := toD_sound hr hc.1 h1
      cases h2 : toDs pl2 cs with
      | none => rw [h2] at h; cases h
      | some z =>
        obtain ⟨z, pl3⟩ := z
        rw [h2] at h
        cases h
        have hk : Keeps w w (F.ok ι s.pl w) (F.ok ι pl2 w) := fun b hb => ⟨g2 b hb, rfl⟩
        obtain ⟨k1, k2, k3⟩ := toDs_sound (s := s.withPl pl2) g1 (CRs.keep hk (Shapes.refl w) _ _ hc.2) h2
        exact ⟨k1, fun b hb => k2 b (g2 b hb), RD.keep (fun b hb => ⟨k2 b hb, rfl⟩) _ _ g3, k3⟩

theorem toDW_sound (hr : Rel F N ι s a w) {c : W} {v : Value} (hc : WR ι w (F.ok ι s.pl w) c v) {x : W} {pl1 : List (Nat × Pl)} (h : toDW s.pl c = some (x, pl1)) :
    Rel F N ι (s.withPl pl1) a w ∧ (∀ b, F.ok ι s.pl w b → F.ok ι pl1 w b) ∧ (∀ ι', WR ι' w (F.ok ι pl1 w) x v) := by
  cases c with
  | c c =>
    by_cases hfp : ∃ l, c = .fp l
    · obtain ⟨l, rfl⟩ := hfp
      cases h
      exact ⟨hr, fun _ h => h, fun _ => hc⟩
    · have h' : (match toD s.pl c with | some (y, pl1) => some (W.c (.d y), pl1) | none => none) = some (x, pl1) := by
        rw [← h]
        cases c with
        | fp l => exact absurd ⟨l, rfl⟩ hfp
        | _ => rfl
      cases h1 : toD s.pl c with
      | none => simp only [h1] at h'; cases h'
      | some y =>
        simp only [h1] at h'; cases h'
        obtain ⟨g1, g2, g3⟩ := toD_sound hr hc h1
        exact ⟨g1, g2, fun _ => g3⟩
  | agg cs =>
    simp only [toDW] at h
    cases h1 : toDs s.pl cs with
    | none => simp only [h1] at h; cases h
    | some y =>
      simp only [h1] at h; cases h
      obtain ⟨vs, rfl, hc⟩ := hc
      obtain ⟨g1, g2, g3⟩ := toDs_sound hr hc h1
      refine ⟨g1, g2, fun ι' => ⟨vs, rfl, ?_⟩⟩
      clear h1 hc
      generalize y.1 = ds at *
      induction ds generalizing vs with
      | nil => cases vs <;> exact g3
      | cons d ds ih => cases vs with
        | nil => exact g3
        | cons v vs => exact ⟨g3.1, ih vs g3.2⟩

theorem toDWs_sound : ∀ {cs : List W} {vs : List Value} {s : S} (_ : Rel F N ι s a w) (_ : WRs ι w (F.ok ι s.pl w) cs vs) {ds : List W} {pl1 : List (Nat × Pl)} (_ : toDWs s.pl cs = some (ds, pl1)),
    Rel F N ι (s.withPl pl1) a w ∧ (∀ b, F.ok ι s.pl w b → F.ok ι pl1 w b) ∧ (∀ ι', WRs ι' w (F.ok ι pl1 w) ds vs)
  | [], [], s, hr, _, ds, pl1, h => by cases h; exact ⟨hr, fun _ h => h, fun _ => trivial⟩
  | [], _ :: _, _, _, hc, _, _, _ => hc.elim
  | _ :: _, [], _, _, hc, _, _, _ => hc.elim
  | c :: cs, v :: vs, s, hr, hc, ds, pl1, h => by
    unfold toDWs at h
    cases h1 : toDW s.pl c with
    | none => rw [h1] at h; cases h
    | some y =>
      obtain ⟨y, pl2⟩ := y
      rw [h1] at h
      simp only [] at h
      obtain ⟨g1, g2, g3⟩ := toDW_sound hr hc.1 h1
      cases h2 : toDWs pl2 cs with
      | none => rw [h2] at h; cases h
      | some z =>
        obtain ⟨z, pl3⟩ := z
        rw [h2] at h
        cases h
        have hk : Keeps w w (F.ok ι s.pl w) (F.ok ι pl2 w) := fun b hb => ⟨g2 b hb, rfl⟩
        obtain ⟨k1, k2, k3⟩ := toDWs_sound (s := s.withPl pl2) g1 (WRs.keep hk (Shapes.refl w) _ _ hc.2) h2
        exact ⟨k1, fun b hb => k2 b (g2 b hb), fun ι' => ⟨WR.keep (fun b hb => ⟨k2 b hb, rfl⟩) (Shapes.refl w) _ _ (g3 ι'), k3 ι'⟩⟩
end

/-! Constants and operands. -/
theorem CR_ofCell (ι : Nat → Gh) (w : World) (ok : Nat → Prop) (v : Value) : CR ι w ok (ofCell v) v := by
  unfold ofCell
  split <;> first
    | trivial
    | rfl
    | (simp only [CR, RD]; exact ⟨rfl, rfl⟩)

theorem CRs_ofCell (ι : Nat → Gh) (w : World) (ok : Nat → Prop) : ∀ (vs : List Value), CRs ι w ok (vs.map ofCell) vs
  | [] => trivial
  | v :: vs => ⟨CR_ofCell ι w ok v, CRs_ofCell ι w ok vs⟩

theorem WR_ofValue (ι : Nat → Gh) (w : World) (ok : Nat → Prop) (v : Value) : WR ι w ok (ofValue v) v := by
  unfold ofValue
  split
  · exact ⟨_, by simp, CRs_ofCell ι w ok _⟩
  · exact CR_ofCell ι w ok _

theorem VR_dead (ι : Nat → Gh) (w : World) (ok : Nat → Prop) (v : Value) : VR ι w ok deadV v := trivial

section
variable {F : Fr} {N : Nat} {ι : Nat → Gh} {s : S} {a : Act} {w : World}

theorem VR_tmp (hr : Rel F N ι s a w) (t : Nat) : VR ι w (F.ok ι s.pl w) (s.tmp t) (a.tmps.getD t undef) := by
  unfold S.tmp
  cases h : aget s.sl t with
  | none => trivial
  | some v =>
    obtain ⟨x, h1, h2⟩ := hr.slots t v h
    simp only [Array.getD_eq_getD_getElem?, h1, Option.getD_some]
    exact h2

theorem VR_o (hr : Rel F N ι s a w) (x : Operand) : VR ι w (F.ok ι s.pl w) (s.o (cO x)) (a.eval x) := by
  cases x with
  | tmp t => exact VR_tmp hr t
  | const v => exact WR_ofValue ι w _ v
  | global g => trivial
  | func f => exact ⟨[], rfl, rfl⟩

theorem CR_o (hr : Rel F N ι s a w) (x : Operand) : CR ι w (F.ok ι s.pl w) (s.oc (cO x)) (a.eval x) := by
  have h := VR_o hr x
  unfold S.oc cOf
  cases e : s.o (cO x) with
  | w y => rw [e] at h; cases y with
    | c z => exact h
    | agg cs => trivial
  | tup xs => trivial

theorem WR_o (hr : Rel F N ι s a w) (x : Operand) : WR ι w (F.ok ι s.pl w) (s.ow (cO x)) (a.eval x) := by
  have h := VR_o hr x
  unfold S.ow wOf
  cases e : s.o (cO x) with
  | w y => rw [e] at h; exact h
  | tup xs => trivial

theorem WRs_o (hr : Rel F N ι s a w) : ∀ (l : List Operand), WRs ι w (F.ok ι s.pl w) ((l.map cO).map s.ow) (l.map a.eval)
  | [] => trivial
  | x :: r => ⟨WR_o hr x, WRs_o hr r⟩
end

end Go.AM

namespace Go.AM

/-- From here on, whatever frame in which K holds will do. -/
def Fine (P : Program) (F : Fr) (N : Nat) (o : Oper) (a : Act) (w : World) (K : S → Prop) : Prop :=
  ∀ (next : Act → World → Prop) (Q : Exit → Act → World → Prop), (∀ ι s a' w', Rel F N ι s a' w' → K s → next a' w') → o.wp P a w next Q

section
variable {P : Program} {F : Fr} {N : Nat} {ι : Nat → Gh} {s : S} {a : Act} {w : World} {o : Oper} {K : S → Prop}

theorem Fine.of_value {v : Value} {w' : World} {ι' : Nat → Gh} {s' : S} (h : (execOp a.eval o).run P w = .ok (.value v) w') (hr : Rel F N ι' s' (a.put o.dst v) w') (hk : K s') : Fine P F N o a w K := by
  intro next Q hn
  unfold Oper.wp
  rw [h]
  exact hn ι' s' _ _ hr hk

theorem Fine.of_skip {w' : World} {ι' : Nat → Gh} {s' : S} (h : (execOp a.eval o).run P w = .ok .skip w') (hr : Rel F N ι' s' (a.put o.dst undef) w') (hk : K s') : Fine P F N o a w K := by
  intro next Q hn
  unfold Oper.wp
  rw [h]
  exact hn ι' s' _ _ hr hk

/-- A value that the operation computes without touching the world goes into its slot. -/
theorem Fine.put (hr : Rel F N ι s a w) (hd : ∀ k, o.dst = some k → k < N) {v : Value} {x : V} (h : (execOp a.eval o).run P w = .ok (.value v) w) (hv : VR ι w (F.ok ι s.pl w) x v) (hk : K (s.put o.dst x)) : Fine P F N o a w K :=
  Fine.of_value h (hr.put o.dst hd x v hv) hk

/-- The operation computes one value in every world of the class C, touching none; with it in its slot K holds. -/
def FineQ (P : Program) (F : Fr) (N : Nat) (o : Oper) (a : Act) (w : World) (C : World → Prop) (K : S → Prop) : Prop :=
  ∃ v ι' s', (∀ w', C w' → (execOp a.eval o).run P w' = .ok (.value v) w') ∧ Rel F N ι' s' (a.put o.dst v) w ∧ K s'

theorem FineQ.fine {C : World → Prop} (hC : C w) (h : FineQ P F N o a w C K) : Fine P F N o a w K :=
  let ⟨_, _, _, h1, h2, h3⟩ := h
  Fine.of_value (h1 w hC) h2 h3

theorem FineQ.put {C : World → Prop} (hr : Rel F N ι s a w) (hd : ∀ k, o.dst = some k → k < N) {v : Value} {x : V} (h : ∀ w', C w' → (execOp a.eval o).run P w' = .ok (.value v) w') (hv : VR ι w (F.ok ι s.pl w) x v) (hk : K (s.put o.dst x)) : FineQ P F N o a w C K :=
  ⟨v, ι, _, h, hr.put o.dst hd x v hv, hk⟩

/-- What was there is there as it was. -/
def Ext (w w' : World) : Prop := w.heap.size ≤ w'.heap.size ∧ ∀ b, b < w.heap.size → w'.heap[b]? = w.heap[b]?
theorem Ext.refl (w : World) : Ext w w := ⟨Nat.le_refl _, fun _ _ => rfl⟩
theorem Ext.trans {w w' w'' : World} (h : Ext w w') (k : Ext w' w'') : Ext w w'' :=
  ⟨Nat.le_trans h.1 k.1, fun b hb => (k.2 b (Nat.lt_of_lt_of_le hb h.1)).trans (h.2 b hb)⟩
theorem Ext.cell {w w' : World} (h : Ext w w') {b q : Nat} {v : Value} (hc : w.cell? ⟨b, q, none⟩ = some v) : w'.cell? ⟨b, q, none⟩ = some v := by
  have hb : b < w.heap.size := by
    rcases Nat.lt_or_ge b w.heap.size with h' | h'
    · exact h'
    · simp [World.cell?, Array.getElem?_eq_none h'] at hc
  simp only [World.cell?, h.2 b hb] at hc ⊢
  exact hc

/-- As Fine, and what was there is there as it was. -/
def FineX (P : Program) (F : Fr) (N : Nat) (o : Oper) (a : Act) (w : World) (K : S → Prop) : Prop :=
  ∀ (next : Act → World → Prop) (Q : Exit → Act → World → Prop), (∀ ι s a' w', Rel F N ι s a' w' → K s → Ext w w' → next a' w') → o.wp P a w next Q

theorem FineX.fine (h : FineX P F N o a w K) : Fine P F N o a w K := fun next Q hn => h next Q fun ι s a' w' hr hk _ => hn ι s a' w' hr hk
theorem FineX.of_value {v : Value} {w' : World} {ι' : Nat → Gh} {s' : S} (he : Ext w w') (h : (execOp a.eval o).run P w = .ok (.value v) w') (hr : Rel F N ι' s' (a.put o.dst v) w') (hk : K s') : FineX P F N o a w K := by
  intro next Q hn
  unfold Oper.wp
  rw [h]
  exact hn ι' s' _ _ hr hk he

theorem addr_add (b o j : Nat) : (⟨b, o, none⟩ : Addr).add j = ⟨b, o + j, none⟩ := by
  unfold Addr.add; split <;> simp_all

/-! Types. -/
theorem info_of_underlying {t : TypeId} {d : TypeDesc} (h : P.underlying t = some d) : ∃ i, P.info? t = some i := by
  unfold Program.underlying at h
  cases hi : P.info? t with
  | none => rw [hi] at h; cases h
  | some i => exact ⟨i, rfl⟩

theorem run_sizeOf {t : TypeId} {i : TypeInfo} (h : P.info? t = some i) (w : World) : (sizeOf t).run P w = .ok (tsz P t) w := by
  simp [sizeOf, typeInfo, h, tsz]

theorem tagg_spec {t : TypeId} {g : Bool} (h : tagg P t = some g) : ∃ i, P.info? t = some i ∧ ∀ w, (isAgg t).run P w = .ok g w := by
  unfold tagg at h
  cases hu : P.underlying t with
  | none => rw [hu] at h; cases h
  | some d =>
    obtain ⟨i, hi⟩ := info_of_underlying hu
    refine ⟨i, hi, fun w => ?_⟩
    rw [hu] at h
    cases d <;> cases h <;> simp [isAgg, run_underlying hu]

theorem telem_spec {t e : TypeId} (h : telem P t = some e) : P.underlying t = some (.slice e) := by
  unfold telem at h
  cases hu : P.underlying t with
  | none => rw [hu] at h; cases h
  | some d => rw [hu] at h; cases d <;> cases h; rfl

theorem tfield_spec {t : TypeId} {f off : Nat} {ft : TypeId} (h : tfield P t f = some (off, ft)) : ∃ fs x, P.underlying t = some (.struct fs) ∧ fs[f]? = some x ∧ x.offset = off ∧ x.type = ft := by
  unfold tfield at h
  cases hu : P.underlying t with
  | none => rw [hu] at h; cases h
  | some d =>
    rw [hu] at h
    cases d <;> try (cases h; done)
    case struct fs =>
      cases hx : fs[f]? with
      | none => simp only [hx] at h; cases h
      | some x => simp only [hx] at h; cases h; exact ⟨fs, x, rfl, hx, rfl, rfl⟩

/-! Literals. -/
theorem litInt_spec {v : V} {n : Int} {x : Value} {ok : Nat → Prop} (h : litInt v = some n) (hv : VR ι w ok v x) : ∃ k, x = .int k n ∧ v = .w (.c (.d (.lit (.int k n)))) := by
  unfold litInt at h
  split at h
  · rename_i k m
    cases h
    simp only [VR, WR, CR, RD] at hv
    exact ⟨k, hv.1, rfl⟩
  · cases h

theorem litBool_spec {v : V} {b : Bool} {x : Value} {ok : Nat → Prop} (h : litBool v = some b) (hv : VR ι w ok v x) : x = .bool b := by
  unfold litBool at h
  split at h
  · cases h
    simp only [VR, WR, CR, RD] at hv
    exact hv.1
  · cases h

theorem CR_lit {ok : Nat → Prop} {v x : Value} : CR ι w ok (.d (.lit v)) x → x = v := by
  intro h; simp only [CR, RD] at h; exact h.1

theorem VR_lit {ok : Nat → Prop} {v : Value} (h : v.oneCell' = true) : VR ι w ok (cV (.d (.lit v))) v := by
  simp only [cV, VR, WR, CR, RD]; exact ⟨trivial, h⟩

/-! Slots only. -/
theorem sound_mov (hr : Rel F N ι s a w) (hd : ∀ k, o.dst = some k → k < N) {x : Operand} (ho : o.op = .move x ∨ o.op = .assign x) (h : K (s.put o.dst (s.o (cO x)))) : FineQ P F N o a w (fun _ => True) K := by
  refine FineQ.put hr hd ?_ (VR_o hr x) h
  intro w' _
  rcases ho with ho | ho <;> simp [execOp, ho]

theorem sound_pick (hr : Rel F N ι s a w) (hd : ∀ k, o.dst = some k → k < N) {c x y : Operand} (ho : o.op = .pick c x y)
    (h : match litBool (s.o (cO c)) with | some t => cond t (K (s.put o.dst (s.o (cO x)))) (K (s.put o.dst (s.o (cO y)))) | none => False) : FineQ P F N o a w (fun _ => True) K := by
  cases hb : litBool (s.o (cO c)) with
  | none => simp only [hb] at h
  | some t =>
    simp only [hb] at h
    have hc := litBool_spec hb (VR_o hr c)
    cases t
    · exact FineQ.put hr hd (fun w' _ => by simp [execOp, ho, hc, asBool]) (VR_o hr y) h
    · exact FineQ.put hr hd (fun w' _ => by simp [execOp, ho, hc, asBool]) (VR_o hr x) h

theorem sound_ext (hr : Rel F N ι s a w) (hd : ∀ k, o.dst = some k → k < N) {x : Operand} {i : Nat} (ho : o.op = .extract x i)
    (h : aop P o.dst (.ext (cO x) i) s K) : FineQ P F N o a w (fun _ => True) K := by
  simp only [aop] at h
  have hx := VR_o hr x
  cases e : s.o (cO x) with
  | w y => simp only [e] at h
  | tup xs =>
    simp only [e] at h
    rw [e] at hx
    obtain ⟨vs, hv, hvs⟩ := hx
    cases ei : xs[i]? with
    | none => simp only [ei] at h
    | some y =>
      simp only [ei] at h
      have : ∀ (xs : List W) (vs : List Value) (i : Nat) (y : W), WRs ι w (F.ok ι s.pl w) xs vs → xs[i]? = some y → ∃ v, vs[i]? = some v ∧ WR ι w (F.ok ι s.pl w) y v := by
        intro xs
        induction xs with
        | nil => intro vs i y _ he; simp at he
        | cons z zs ih =>
          intro vs i y hh he
          cases vs with
          | nil => exact hh.elim
          | cons v vs => cases i with
            | zero => simp at he; subst he; exact ⟨v, rfl, hh.1⟩
            | succ i => simp at he; simpa using ih vs i y hh.2 he
      obtain ⟨v, h1, h2⟩ := this xs vs i y hvs ei
      refine FineQ.put hr hd ?_ (show VR ι w _ (.w y) v from h2) h
      intro w' _
      simp [execOp, ho, hv, Instr.extract, h1]

theorem sound_nc (hr : Rel F N ι s a w) (hd : ∀ k, o.dst = some k → k < N) {x : Operand} (ho : o.op = .nilCheck x)
    (h : aop P o.dst (.nc (cO x)) s K) : FineQ P F N o a w (fun _ => True) K := by
  simp only [aop] at h
  have hx := CR_o hr x
  cases e : s.oc (cO x) <;> simp only [e] at h <;> rw [e] at hx
  case ptr p k =>
    obtain ⟨b, h1, h2⟩ := hx
    exact FineQ.put hr hd (v := a.eval x) (fun w' _ => by simp [execOp, ho, h2]) (show VR ι w _ (cV (.ptr p k)) _ from ⟨b, h1, h2⟩) h
  case eptr p z i k =>
    obtain ⟨b, h1, h2⟩ := hx
    exact FineQ.put hr hd (v := a.eval x) (fun w' _ => by simp [execOp, ho, h2]) (show VR ι w _ (cV (.eptr p z i k)) _ from ⟨b, h1, h2⟩) h
  case fp l =>
    obtain ⟨b, q, h1, h2⟩ := hx
    exact FineQ.put hr hd (v := a.eval x) (fun w' _ => by simp [execOp, ho, h1]) (show VR ι w _ (cV (.fp l)) _ from ⟨b, q, h1, h2⟩) h

theorem ptrs_spec (hr : Rel F N ι s a w) : ∀ (caps : List Operand) (ps : List Nat), ptrs s (caps.map cO) = some ps → ∃ bs : List Nat, ps.map (fun p => (ι p).b) = bs.map some ∧ caps.map a.eval = bs.map fun b => Value.pointer (some ⟨b, 0, none⟩)
  | [], ps, h => by cases h; exact ⟨[], rfl, rfl⟩
  | x :: r, ps, h => by
    simp only [List.map_cons, ptrs] at h
    have hx := CR_o hr x
    split at h
    · rename_i p l h1 h2
      cases h
      rw [h1] at hx
      obtain ⟨b, e1, e2⟩ := hx
      obtain ⟨bs, e3, e4⟩ := ptrs_spec hr r l h2
      exact ⟨b :: bs, by simp [e1, e3], by simp [e2, e4]⟩
    · cases h

theorem sound_clo (hr : Rel F N ι s a w) (hd : ∀ k, o.dst = some k → k < N) {f : FuncId} {first caps : Array Operand} (ho : o.op = .makeFunc (.func f) first caps) (hf : first.toList.isEmpty = true)
    (h : aop P o.dst (.clo f (caps.toList.map cO)) s K) : Fine P F N o a w K := by
  simp only [aop] at h
  cases e : ptrs s (caps.toList.map cO) with
  | none => simp only [e] at h
  | some ps =>
    simp only [e] at h
    obtain ⟨bs, h1, h2⟩ := ptrs_spec hr caps.toList ps e
    have hfirst : first = #[] := by
      apply Array.toList_inj.1
      simpa using hf
    refine Fine.put hr hd (v := .func (.func f) #[] (bs.map fun b => Value.pointer (some ⟨b, 0, none⟩)).toArray) ?_ (show VR ι w _ (cV (.clo f ps)) _ from ⟨bs, h1, rfl⟩) h
    have hc : caps.map a.eval = (bs.map fun b => Value.pointer (some ⟨b, 0, none⟩)).toArray := by
      apply Array.toList_inj.1
      simpa using h2
    simp [execOp, ho, Instr.makeFunc, hfirst, hc]

/-! Without the world. -/
theorem pureRun_spec {α : Type} : ∀ (e : Sem α) (v : α), pureRun P e = some v → ∀ w, e.run P w = .ok v w := by
  intro e
  induction e with
  | pure x => intro v h w; simp only [pureRun, Option.some.injEq] at h; subst h; rfl
  | program k ih => intro v h w; exact ih P v h w
  | mark m k ih => intro v h w; exact ih v h w
  | _ => intro v h w; cases h

theorem litCs_spec {ok : Nat → Prop} : ∀ (cs : List C) (l vs : List Value), litCs cs = some l → CRs ι w ok cs vs → vs = l
  | [], _, [], h, _ => by cases h; rfl
  | [], _, _ :: _, _, h => h.elim
  | _ :: _, _, [], _, h => h.elim
  | c :: cs, l, v :: vs, h, hc => by
    simp only [litCs] at h
    split at h
    · rename_i u m h1 h2
      cases h
      have := litCs_spec cs m vs h2 hc.2
      subst this
      have hv := hc.1
      unfold litC at h1
      split at h1
      · cases h1; rw [CR_lit hv]
      · cases h1; simp only [CR] at hv; rw [hv]
      · cases h1
    · cases h

theorem litV_spec {ok : Nat → Prop} {v : V} {u x : Value} (h : litV v = some u) (hv : VR ι w ok v x) : x = u := by
  cases v with
  | tup xs => cases h
  | w y =>
    cases y with
    | c c =>
      simp only [litV, litW] at h
      unfold litC at h
      split at h
      · cases h; exact CR_lit (ι := ι) (w := w) (ok := ok) hv
      · cases h; exact hv
      · cases h
    | agg cs =>
      simp only [litV, litW] at h
      obtain ⟨vs, h1, h2⟩ := hv
      split at h
      · rename_i l hl
        cases h
        rw [h1, litCs_spec cs l vs hl h2]
      · cases h

theorem rho_eval (hr : Rel F N ι s a w) : ∀ (l : List Operand), allLit s l = true → ∀ x ∈ l, rho s x = a.eval x
  | [], _, _, hx => by cases hx
  | y :: r, h, x, hx => by
    simp only [allLit] at h
    split at h
    · rename_i u hu
      rcases List.mem_cons.1 hx with rfl | hx
      · unfold rho
        rw [hu]
        exact (litV_spec hu (VR_o hr x)).symm
      · exact rho_eval hr r h x hx
    · cases h

/-- What an operation of the plain kinds does hangs on its operands' values, its kind and its type alone. -/
def plainOp : Op → Bool
  | .convert _ _ _ | .binOp _ _ _ _ _ | .unOp _ _ _ => true
  | .call { callee := .builtin _, args := _, argTypes := _ } => true
  | _ => false

theorem execOp_rho {ρ ρ' : Operand → Value} {o o' : Oper} (hp : plainOp o.op = true) (h1 : o'.op = o.op) (h2 : o'.type = o.type) (h : ∀ x ∈ o.op.operands.toList, ρ x = ρ' x) : execOp ρ' o' = execOp ρ o := by
  unfold execOp
  rw [h1, h2]
  cases ho : o.op <;> rw [ho] at hp h <;> try (cases hp; done)
  case convert src dst x => simp [Op.operands] at h; simp [h]
  case binOp b t x y u => simp [Op.operands] at h; simp [h.1, h.2]
  case unOp u t x => simp [Op.operands] at h; simp [h]
  case call c =>
    obtain ⟨callee, args, ts⟩ := c
    cases callee <;> try (cases hp; done)
    case builtin b =>
      have hargs : args.map ρ' = args.map ρ := by
        apply Array.map_congr_left
        intro x hx
        exact (h x (by simp [Op.operands, Call.operands]; exact hx)).symm
      simp [resolve, hargs]

theorem sound_pure (hr : Rel F N ι s a w) (hd : ∀ k, o.dst = some k → k < N) (hp : plainOp o.op = true) (h : aop P o.dst (.pure o.op o.type) s K) : FineQ P F N o a w (fun _ => True) K := by
  simp only [aop, aPure] at h
  cases hl : allLit s o.op.operands.toList with
  | false => rw [hl] at h; exact h.elim
  | true =>
    rw [hl] at h
    simp only [cond_true] at h
    split at h
    · rename_i v hv
      have he : execOp a.eval o = execOp (rho s) (pureOp o.op o.type) := execOp_rho (o := pureOp o.op o.type) hp rfl rfl (rho_eval hr _ hl)
      exact FineQ.put hr hd (v := v) (x := .w (ofValue v)) (fun w' _ => by rw [he]; exact pureRun_spec _ _ hv w') (WR_ofValue ι w (F.ok ι s.pl w) v) h
    · exact h.elim

theorem kindEq_spec {k k' : IntKind} (h : kindEq k k' = true) : k = k' := by
  cases k <;> cases k' <;> first | rfl | cases h

theorem binI_one {b : BinOp} {k : IntKind} {m n : Int} {v : Value} (h : binI b k m n = some v) : v.oneCell' = true := by
  unfold binI at h
  split at h <;> cases h <;> rfl
theorem binS_one {b : BinOp} {m n : ByteArray} {v : Value} (h : binS b m n = some v) : v.oneCell' = true := by
  unfold binS at h
  split at h <;> cases h <;> rfl

theorem run_binI {b : BinOp} {k : IntKind} {m n : Int} {v : Value} (h : binI b k m n = some v) (t : TypeId) (w : World) : (binOp b t (.int k m) (.int k n)).run P w = .ok v w := by
  unfold binI at h
  split at h <;> cases h <;> simp [binOp, Op.intArith, Op.intCmp, Op.intBits, bitI]

theorem run_binS {b : BinOp} {m n : ByteArray} {v : Value} (h : binS b m n = some v) (t : TypeId) (w : World) : (binOp b t (.string m) (.string n)).run P w = .ok v w := by
  unfold binS at h
  split at h <;> cases h <;> simp [binOp, Op.stringOp, beqS, ltS]

theorem run_eqGuard_one (b : BinOp) (t : TypeId) (x y : Operand) {u v : Value} (hu : (∃ k n, u = .int k n) ∨ ∃ m, u = .string m) (w : World) : (eqGuard b t x y u v).run P w = .ok () w := by
  rcases hu with ⟨k, n, rfl⟩ | ⟨m, rfl⟩ <;> (unfold eqGuard; cases b <;> simp)

theorem sound_bin (hr : Rel F N ι s a w) (hd : ∀ k, o.dst = some k → k < N) {b : BinOp} {t u : TypeId} {x y : Operand} (ho : o.op = .binOp b t x y u)
    (h : aop P o.dst (.bin b (cO x) (cO y)) s K) : FineQ P F N o a w (fun _ => True) K := by
  simp only [aop] at h
  have hx := CR_o hr x
  have hy := CR_o hr y
  generalize s.oc (cO x) = cx at *
  generalize s.oc (cO y) = cy at *
  unfold aBin at h
  split at h
  · rename_i k m k1 n
    cases hk : kindEq k k1 with
    | false => rw [hk] at h; exact h.elim
    | true =>
      rw [hk] at h
      have := kindEq_spec hk; subst this
      simp only [cond_true] at h
      split at h
      · rename_i v hv
        refine FineQ.put hr hd (v := v) ?_ (VR_lit (binI_one hv)) h
        intro w' _
        simp [execOp, ho, CR_lit hx, CR_lit hy, run_eqGuard_one b t x y (.inl ⟨k, m, rfl⟩), run_binI hv]
      · cases b <;> simp only [] at h
        case quo =>
          refine FineQ.put hr hd (v := .int k (k.wrap (m.tdiv n))) ?_ (VR_lit rfl) h.2
          intro w' _
          simp [execOp, ho, CR_lit hx, CR_lit hy, run_eqGuard_one .quo t x y (.inl ⟨k, m, rfl⟩), binOp, Op.intDiv, h.1]
        case rem =>
          refine FineQ.put hr hd (v := .int k (m.tmod n)) ?_ (VR_lit rfl) h.2
          intro w' _
          simp [execOp, ho, CR_lit hx, CR_lit hy, run_eqGuard_one .rem t x y (.inl ⟨k, m, rfl⟩), binOp, Op.intDiv, h.1]
  · rename_i m n
    split at h
    · rename_i v hv
      refine FineQ.put hr hd (v := v) ?_ (VR_lit (binS_one hv)) h
      intro w' _
      simp [execOp, ho, CR_lit hx, CR_lit hy, run_eqGuard_one b t x y (.inr ⟨m, rfl⟩), run_binS hv]
    · cases b <;> simp only [] at h
      case add =>
        refine FineQ.put hr hd (v := .string (m ++ n)) ?_ (VR_lit rfl) h.2
        intro w' _
        have h63 : ¬ ((m.size + n.size : Nat) : Int) > IntKind.i64.max := by
          have := h.1
          have e : IntKind.i64.max = 9223372036854775807 := by decide
          rw [e]; omega
        simp [execOp, ho, CR_lit hx, CR_lit hy, run_eqGuard_one .add t x y (.inr ⟨m, rfl⟩), binOp, Op.stringOp]
        simp at h63
        simp [h63]
  · exact h.elim

/-! Reading memory. -/
theorem run_loadVar_agg {t : TypeId} (h : tagg P t = some true) {b off : Nat} {vs : List Value} (hl : vs.length = tsz P t) (hc : ∀ j v, vs[j]? = some v → w.cell? ⟨b, off + j, none⟩ = some v) :
    (loadVar t ⟨b, off, none⟩).run P w = .ok (.agg vs.toArray) w := by
  obtain ⟨i, hi, hag⟩ := tagg_spec h
  have hcs := run_loadCells_list (P := P) w ⟨b, off, none⟩ vs (fun j v hv => by rw [addr_add]; exact hc j v hv)
  rw [hl] at hcs
  simp [loadVar, hag, run_sizeOf hi, hcs]

theorem run_loadVar_one {t : TypeId} (h : tagg P t = some false) {b off : Nat} {v : Value} (hc : w.cell? ⟨b, off, none⟩ = some v) :
    (loadVar t ⟨b, off, none⟩).run P w = .ok v w := by
  obtain ⟨i, hi, hag⟩ := tagg_spec h
  simp [loadVar, hag, hc]

/-- Cells from an address on, known as 'cs', read as a value of type t. -/
theorem load_cells {ok : Nat → Prop} {t : TypeId} {g : Bool} (ht : tagg P t = some g) {cs : List C} {vs : List Value} (hcs : CRs ι w ok cs vs) {b off : Nat} (hc : ∀ j v, vs[j]? = some v → w.cell? ⟨b, off + j, none⟩ = some v)
    {x : W} (hm : mkW g (tsz P t) cs = some x) : ∃ v, (∀ w', Ext w w' → (loadVar t ⟨b, off, none⟩).run P w' = .ok v w') ∧ WR ι w ok x v := by
  unfold mkW at hm
  cases g
  · simp only [cond_false] at hm
    cases cs with
    | nil => cases hm
    | cons c cs =>
      cases hm
      cases vs with
      | nil => exact hcs.elim
      | cons v vs => exact ⟨v, fun w' hw' => run_loadVar_one ht (hw'.cell (by simpa using hc 0 v rfl)), hcs.1⟩
  · simp only [cond_true] at hm
    cases hle : Nat.ble (tsz P t) cs.length with
    | false => rw [hle] at hm; cases hm
    | true =>
      rw [hle] at hm; cases hm
      have hle := Nat.le_of_ble_eq_true hle
      refine ⟨.agg (vs.take (tsz P t)).toArray, fun w' hw' => run_loadVar_agg ht ?_ (fun j v hv => hw'.cell ?_), _, rfl, CRs.take _ hcs⟩
      · rw [List.length_take, ← hcs.length]; omega
      · rw [List.getElem?_take] at hv
        split at hv
        · exact hc j v hv
        · cases hv

theorem RDc.vals {ok : Nat → Prop} {b : Nat} : ∀ {l : List D} {off : Nat}, RDc w ok b off l → ∃ vs, CRs ι w ok (l.map .d) vs ∧ ∀ j v, vs[j]? = some v → w.cell? ⟨b, off + j, none⟩ = some v
  | [], off, _ => ⟨[], trivial, fun j v h => by simp at h⟩
  | d :: r, off, h => by
    simp only [RDc] at h
    obtain ⟨⟨v, h1, h2⟩, h3⟩ := h
    obtain ⟨vs, h4, h5⟩ := RDc.vals h3
    refine ⟨v :: vs, ⟨h2, h4⟩, fun j u hu => ?_⟩
    cases j with
    | zero => simp at hu; subst hu; exact h1
    | succ j => simp at hu; rw [show off + (j + 1) = off + 1 + j by omega]; exact h5 j u hu

theorem sound_ld (hr : Rel F N ι s a w) (hd : ∀ k, o.dst = some k → k < N) {t : TypeId} {x : Operand} (ho : o.op = .load t x) {g : Bool} (ht : tagg P t = some g)
    (h : aop P o.dst (.ld g (tsz P t) (cO x)) s K) : FineQ P F N o a w (Ext w) K := by
  simp only [aop] at h
  have hx := CR_o hr x
  generalize s.oc (cO x) = cx at *
  unfold aLd at h
  split at h
  · rename_i p off
    obtain ⟨b, h1, h2⟩ := hx
    split at h
    · rename_i cs hp
      split at h
      · rename_i y hy
        obtain ⟨b', cur, e1, e2, e3⟩ := hr.places p _ hp
        rw [h1] at e1; cases e1
        obtain ⟨v, hv, hw⟩ := load_cells (b := b) (off := off) ht (CRs.drop off e3) (fun j v hv => by
          rw [e2.cell]; rw [List.getElem?_drop] at hv; simpa using hv) hy
        exact FineQ.put hr hd (fun w' hw' => by simp [execOp, ho, h2, Instr.loadAt, Instr.sureAddr, hv w' hw']) (show VR ι w _ (.w y) v from hw) h
      · exact h.elim
    · rename_i ds hp
      split at h
      · rename_i y hy
        obtain ⟨b', e1, e2, e3⟩ := hr.places p _ hp
        rw [h1] at e1; cases e1
        have e3 := RDc.drop off e3
        rw [Nat.zero_add] at e3
        obtain ⟨vs, h4, h5⟩ := RDc.vals (ι := ι) e3
        obtain ⟨v, hv, hw⟩ := load_cells (b := b) (off := off) ht h4 h5 hy
        exact FineQ.put hr hd (fun w' hw' => by simp [execOp, ho, h2, Instr.loadAt, Instr.sureAddr, hv w' hw']) (show VR ι w _ (.w y) v from hw) h
      · exact h.elim
    · exact h.elim
  · rename_i cells
    obtain ⟨b, off, h1, h2, h3⟩ := hx
    split at h
    · rename_i y hy
      obtain ⟨vs, h4, h5⟩ := RDc.vals (ι := ι) h3
      obtain ⟨v, hv, hw⟩ := load_cells (b := b) (off := off) ht h4 h5 hy
      exact FineQ.put hr hd (fun w' hw' => by simp [execOp, ho, h1, Instr.loadAt, Instr.sureAddr, hv w' hw']) (show VR ι w _ (.w y) v from hw) h
    · exact h.elim
  · rename_i p z i k
    obtain ⟨b, h1, h2⟩ := hx
    split at h
    · rename_i z1 els fz hp
      cases hz : Nat.beq z z1 with
      | false => rw [hz] at h; exact h.elim
      | true =>
        rw [hz] at h
        have hz := Nat.eq_of_beq_eq_true hz; subst hz
        simp only [cond_true] at h
        obtain ⟨e, he, h⟩ := h
        split at h
        · rename_i y hy
          obtain ⟨_, _, hpl | ⟨b', e1, e2, _⟩⟩ := hr.places p _ hp
          · rw [hpl.2] at he; simp at he
          · rw [h1] at e1; cases e1
            have h3 := RDc.drop k (RDs.get e2 he)
            rw [Nat.zero_add] at h3
            obtain ⟨vs, h4, h5⟩ := RDc.vals (ι := ι) h3
            obtain ⟨v, hv, hw⟩ := load_cells (b := b) (off := i * z + k) ht h4 h5 hy
            exact FineQ.put hr hd (fun w' hw' => by simp [execOp, ho, h2, Instr.loadAt, Instr.sureAddr, hv w' hw']) (show VR ι w _ (.w y) v from hw) h
        · exact h.elim
    · exact h.elim
  · exact h.elim

theorem sound_fa (hr : Rel F N ι s a w) (hd : ∀ k, o.dst = some k → k < N) {t : TypeId} {x : Operand} {f off : Nat} {ft : TypeId} (ho : o.op = .fieldAddr t x f) (ht : tfield P t f = some (off, ft)) (hz : Nat.blt 0 (tsz P ft) = true)
    (h : aop P o.dst (.fa off (cO x)) s K) : FineQ P F N o a w (fun _ => True) K := by
  simp only [aop] at h
  obtain ⟨fs, y, hu, hy, hoff, htype⟩ := tfield_spec ht
  have hpos : tsz P ft ≠ 0 := by have := Nat.le_of_ble_eq_true hz; omega
  have hinfo : ∃ i, P.info? ft = some i := by
    cases hi : P.info? ft with
    | none => simp [tsz, hi] at hpos
    | some i => exact ⟨i, rfl⟩
  obtain ⟨i, hi⟩ := hinfo
  have hrun : ∀ b q, a.eval x = .pointer (some ⟨b, q, none⟩) → ∀ w' : World, True → (execOp a.eval o).run P w' = .ok (.value (.pointer (some ⟨b, q + off, none⟩))) w' := by
    intro b q e w' _
    simp [execOp, ho, e, Instr.fieldAt, run_underlying hu, hy, Instr.sureAddr, fieldPlace, htype, run_sizeOf hi, hpos, hoff, addr_add]
  have hx := CR_o hr x
  cases e : s.oc (cO x) <;> simp only [e] at h <;> rw [e] at hx
  case ptr p k =>
    obtain ⟨b, h1, h2⟩ := hx
    exact FineQ.put hr hd (hrun b k h2) (show VR ι w _ (cV (.ptr p (k + off))) _ from ⟨b, h1, rfl⟩) h
  case eptr p z i k =>
    obtain ⟨b, h1, h2⟩ := hx
    exact FineQ.put hr hd (hrun b _ h2) (show VR ι w _ (cV (.eptr p z i (k + off))) _ from ⟨b, h1, by rw [Nat.add_assoc]⟩) h
  case fp l =>
    obtain ⟨b, q, h1, h2, h3⟩ := hx
    exact FineQ.put hr hd (hrun b _ h1) (show VR ι w _ (cV (.fp (l.drop off))) _ from ⟨b, q + off, rfl, h2, RDc.drop off h3⟩) h

theorem sound_fld (hr : Rel F N ι s a w) (hd : ∀ k, o.dst = some k → k < N) {t : TypeId} {x : Operand} {f off : Nat} {ft : TypeId} {g : Bool} (ho : o.op = .field t x f) (ht : tfield P t f = some (off, ft)) (hg : tagg P ft = some g)
    (h : aop P o.dst (.fld g (tsz P ft) off (cO x)) s K) : FineQ P F N o a w (fun _ => True) K := by
  simp only [aop] at h
  obtain ⟨fs, y, hu, hy, hoff, htype⟩ := tfield_spec ht
  obtain ⟨i, hi, hag⟩ := tagg_spec hg
  have hx := VR_o hr x
  cases e : s.o (cO x) with
  | tup xs => simp only [e] at h
  | w z =>
    cases z with
    | c c => simp only [e] at h
    | agg cs =>
      simp only [e] at h
      rw [e] at hx
      obtain ⟨vs, h1, h2⟩ := hx
      split at h
      · rename_i q hq
        unfold mkW at hq
        cases g
        · simp only [cond_false] at hq
          split at hq
          · rename_i c r hdrop
            cases hq
            have := CRs.drop off h2
            rw [hdrop] at this
            cases hvd : vs.drop off with
            | nil => rw [hvd] at this; exact this.elim
            | cons v vr =>
              rw [hvd] at this
              have hv : vs[off]? = some v := by
                have : (vs.drop off)[0]? = some v := by rw [hvd]; rfl
                simpa using this
              exact FineQ.put hr hd (v := v) (fun w' _ => by simp [execOp, ho, h1, Instr.field, run_underlying hu, hy, asAgg, part, htype, hag, hoff, hv]) (show VR ι w _ (.w (.c c)) v from this.1) h
          · cases hq
        · simp only [cond_true] at hq
          cases hle : Nat.ble (tsz P ft) (cs.drop off).length with
          | false => rw [hle] at hq; cases hq
          | true =>
            rw [hle] at hq; cases hq
            have hx2 : WR ι w (F.ok ι s.pl w) (.agg ((cs.drop off).take (tsz P ft))) (.agg ((vs.drop off).take (tsz P ft)).toArray) := ⟨_, rfl, CRs.take _ (CRs.drop off h2)⟩
            refine FineQ.put hr hd (v := .agg ((vs.drop off).take (tsz P ft)).toArray) ?_ (show VR ι w _ (.w (.agg ((cs.drop off).take (tsz P ft)))) _ from hx2) h
            intro w' _
            have hex : vs.toArray.extract off (off + tsz P ft) = ((vs.drop off).take (tsz P ft)).toArray := by
              apply Array.toList_inj.1
              simp [List.extract_eq_take_drop]
            simp only [execOp, ho, h1, Instr.field, Sem.run_bind, run_underlying hu, Result.andThen_ok, hy, asAgg, Sem.run_pure, part, htype, hag, hoff, run_sizeOf hi, if_true, hex]
      · exact h.elim

theorem sound_ia (hr : Rel F N ι s a w) (hd : ∀ k, o.dst = some k → k < N) {t e : TypeId} {x y : Operand} (ho : o.op = .indexAddr t x y) (ht : telem P t = some e) (hz : Nat.blt 0 (tsz P e) = true)
    (h : aop P o.dst (.ia (tsz P e) (cO x) (cO y)) s K) : FineQ P F N o a w (fun _ => True) K := by
  simp only [aop] at h
  have hu := telem_spec ht
  have hpos : tsz P e ≠ 0 := by have := Nat.le_of_ble_eq_true hz; omega
  have hinfo : ∃ i, P.info? e = some i := by
    cases hi : P.info? e with
    | none => simp [tsz, hi] at hpos
    | some i => exact ⟨i, rfl⟩
  obtain ⟨i, hi⟩ := hinfo
  split at h
  · rename_i n hn
    obtain ⟨k, hy, _⟩ := litInt_spec hn (VR_o hr y)
    have hrun : ∀ b q m c, a.eval x = .slice (some ⟨b, q, none⟩) m c → 0 ≤ n → n < m → ∀ w' : World, True → (execOp a.eval o).run P w' = .ok (.value (.pointer (some ⟨b, q + n.toNat * tsz P e, none⟩))) w' := by
      intro b q m c e1 e2 e3 w' _
      simp [execOp, ho, e1, hy, Instr.indexAt, run_underlying hu, asIntOf, e2, e3, run_sizeOf hi, addr_add]
    have hx := CR_o hr x
    split at h
    · rename_i l hl
      rw [hl] at hx
      simp only [CR, RD] at hx
      obtain ⟨ad, m, c, h1, h2, h3, h4, h5⟩ := hx
      obtain ⟨g1, y', g2, g3, g4⟩ := h
      rcases h5 with h5 | ⟨b, q, sz, e1, e2, e3⟩
      · rw [h5] at g2; simp at g2
      · subst e1
        have hlt : n.toNat < l.length := (List.getElem?_eq_some_iff.1 g2).1
        have hsz : y'.length = sz := RDs.len e3 y' (List.mem_of_getElem? g2)
        refine FineQ.put hr hd (hrun b q m c h1 g1 (by rw [h2]; omega)) (show VR ι w _ (cV (.fp y')) _ from ⟨b, _, rfl, e2, ?_⟩) g4
        rw [← g3, hsz]
        exact RDs.get e3 g2
    · rename_i p z m hl
      rw [hl] at hx
      cases hzz : Nat.beq z (tsz P e) with
      | false => rw [hzz] at h; exact h.elim
      | true =>
        rw [hzz] at h
        have hzz := Nat.eq_of_beq_eq_true hzz
        simp only [cond_true] at h
        obtain ⟨g1, g2, g3⟩ := h
        rcases hx with ⟨_, h2, _⟩ | ⟨b, cap, ty, h1, h2, h3, h4, h5, h6⟩
        · subst h2; omega
        · refine FineQ.put hr hd (hrun b 0 m cap h3 g1 g2) (show VR ι w _ (cV (.eptr p z n.toNat 0)) _ from ⟨b, h1, ?_⟩) g3
          rw [hzz]; simp
    · exact h.elim
  · exact h.elim

theorem sound_six (hr : Rel F N ι s a w) (hd : ∀ k, o.dst = some k → k < N) {t : TypeId} {x y : Operand} (ho : o.op = .index t x y) (hu : P.underlying t = some .string)
    (h : aop P o.dst (.six (cO x) (cO y)) s K) : FineQ P F N o a w (fun _ => True) K := by
  simp only [aop] at h
  split at h
  · rename_i b n hx hn
    obtain ⟨k, hy, _⟩ := litInt_spec hn (VR_o hr y)
    have hx' := CR_o hr x
    rw [hx] at hx'
    have hx' := CR_lit hx'
    obtain ⟨g1, g2, g3⟩ := h
    have hlt : n.toNat < b.size := by omega
    have hget : b[n.toNat]? = some (b.data.toList.getD n.toNat 0) := by
      have h1 : b[n.toNat]? = some b[n.toNat] := getElem?_pos b n.toNat hlt
      rw [h1]
      have h2 : n.toNat < b.data.toList.length := by simpa using hlt
      simp only [List.getD, List.getElem?_eq_getElem h2, Option.getD_some]
      rfl
    refine FineQ.put hr hd (v := .int .u8 (b.data.toList.getD n.toNat 0).toNat) ?_ (VR_lit rfl) g3
    intro w' _
    simp only [execOp, ho, hx', hy, Instr.index, Sem.run_bind, run_underlying hu, asIntOf, Sem.run_pure, Result.andThen_ok, g1, if_true, hget]
  · exact h.elim

theorem sound_len (hr : Rel F N ι s a w) (hd : ∀ k, o.dst = some k → k < N) {args : Array Operand} {ts : Array TypeId} {x : Operand} {t e : TypeId} (ho : o.op = .call { callee := .builtin .len, args := args, argTypes := ts })
    (hargs : args.toList = [x]) (hts : ts.toList = [t]) (ht : telem P t = some e) (h : aop P o.dst (.len (cO x)) s K) : FineQ P F N o a w (fun _ => True) K := by
  simp only [aop] at h
  have hu := telem_spec ht
  have ha : args = #[x] := Array.toList_inj.1 (by simpa using hargs)
  have hta : ts = #[t] := Array.toList_inj.1 (by simpa using hts)
  have hrun : ∀ b m c, a.eval x = .slice b m c → ∀ w' : World, True → (execOp a.eval o).run P w' = .ok (.value (.int .i64 m)) w' := by
    intro b m c e1 w' _
    simp [execOp, ho, resolve, invoke, builtin, Builtin.len_, ha, hta, e1, run_underlying hu, goInt]
  have hx := CR_o hr x
  split at h
  · rename_i l hl
    rw [hl] at hx
    simp only [CR, RD] at hx
    obtain ⟨ad, m, c, h1, h2, _⟩ := hx
    subst h2
    exact FineQ.put hr hd (hrun _ _ _ h1) (VR_lit rfl) h
  · rename_i hl
    rw [hl] at hx
    exact FineQ.put hr hd (hrun _ _ _ hx) (VR_lit rfl) h
  · rename_i p z m hl
    rw [hl] at hx
    rcases hx with ⟨_, h2, h3⟩ | ⟨b, cap, ty, h1, h2, h3, _⟩
    · subst h2; exact FineQ.put hr hd (hrun _ _ _ h3) (VR_lit rfl) h
    · exact FineQ.put hr hd (hrun _ _ _ h3) (VR_lit rfl) h
  · exact h.elim

theorem sound_isn (hr : Rel F N ι s a w) (hd : ∀ k, o.dst = some k → k < N) {b : BinOp} {t u : TypeId} {x y : Operand} (ho : o.op = .binOp b t x y u) {neg : Bool} (hn : nilCmp P b t y = some neg)
    (h : aop P o.dst (.isn neg (cO x)) s K) : FineQ P F N o a w (fun _ => True) K := by
  have hy : ∃ n c e, y = .const (.slice none n c) ∧ P.underlying t = some (.slice e) ∧ ((b = .eql ∧ neg = false) ∨ (b = .neq ∧ neg = true)) := by
    unfold nilCmp at hn
    split at hn
    · rename_i n c
      split at hn
      · rename_i e he
        split at hn
        · cases hn; exact ⟨n, c, e, rfl, he, .inl ⟨rfl, rfl⟩⟩
        · cases hn; exact ⟨n, c, e, rfl, he, .inr ⟨rfl, rfl⟩⟩
        · cases hn
      · cases hn
    · cases hn
  obtain ⟨n', c', e, rfl, hu, hb⟩ := hy
  have hrun : ∀ ad m c, a.eval x = .slice ad m c → ∀ w' : World, True → (execOp a.eval o).run P w' = .ok (.value (.bool (if ad.isNone then !neg else neg))) w' := by
    intro ad m c hx w' _
    have hyv : a.eval (.const (.slice none n' c')) = .slice none n' c' := rfl
    have heq : (Op.equal t (.slice ad m c) (.slice none n' c')).run P w' = .ok ad.isNone w' := by
      obtain ⟨d, hd⟩ : ∃ d, Op.maxDepth = d + 1 := ⟨_, rfl⟩
      rw [Op.equal, hd, Op.equalIn]
      simp only [Sem.run_bind, run_underlying hu, Result.andThen_ok]
      cases ad <;> rfl
    have hg : ∀ b, (eqGuard b t x (.const (.slice none n' c')) (.slice ad m c) (.slice none n' c')).run P w' = .ok () w' := by
      intro b
      unfold eqGuard
      cases b <;> simp
    rcases hb with ⟨rfl, rfl⟩ | ⟨rfl, rfl⟩
    · have hbin : binOp .eql t (.slice ad m c) (.slice none n' c') = (do pure (.bool (← Op.equal t (.slice ad m c) (.slice none n' c')))) := rfl
      simp only [execOp, ho, hx, hyv, hbin, Sem.run_bind, hg, heq, Result.andThen_ok, Sem.run_pure]
      cases ad <;> rfl
    · have hbin : binOp .neq t (.slice ad m c) (.slice none n' c') = (do pure (.bool (!(← Op.equal t (.slice ad m c) (.slice none n' c'))))) := rfl
      simp only [execOp, ho, hx, hyv, hbin, Sem.run_bind, hg, heq, Result.andThen_ok, Sem.run_pure]
      cases ad <;> rfl
  have hx := CR_o hr x
  simp only [aop] at h
  generalize s.oc (cO x) = cx at *
  unfold aIsn at h
  split at h
  · have hx : a.eval x = .slice none 0 0 := hx
    exact FineQ.put hr hd (hrun _ _ _ hx) (VR_lit rfl) h
  · rename_i l
    simp only [CR, RD] at hx
    obtain ⟨ad, m, c, h1, h2, h3, h4, h5⟩ := hx
    cases ad with
    | none => 
      rcases h5 with h5 | ⟨b', q, sz, e1, _⟩
      · exact FineQ.put hr hd (hrun _ _ _ h1) (VR_lit rfl) (h.1 h5)
      · cases e1
    | some ad => exact FineQ.put hr hd (hrun _ _ _ h1) (VR_lit rfl) h.2
  · rename_i p z m
    rcases hx with ⟨_, h2, h3⟩ | ⟨b', cap, ty, h1, h2, h3, _⟩
    · exact FineQ.put hr hd (hrun _ _ _ h3) (VR_lit rfl) (h.1 h2)
    · exact FineQ.put hr hd (hrun _ _ _ h3) (VR_lit rfl) h.2
  · exact h.elim

theorem mmOp_spec {b : Builtin} {l : List Operand} {z : AOp} (h : mmOp b l = some z) : ∃ x y, l = [x, y] ∧ ((b = .min ∧ z = .mm false (cO x) (cO y)) ∨ (b = .max ∧ z = .mm true (cO x) (cO y))) := by
  unfold mmOp at h
  split at h
  · split at h
    · rename_i x y; cases h; exact ⟨x, y, rfl, .inl ⟨rfl, rfl⟩⟩
    · cases h
  · split at h
    · rename_i x y; cases h; exact ⟨x, y, rfl, .inr ⟨rfl, rfl⟩⟩
    · cases h
  · cases h

theorem sound_mm (hr : Rel F N ι s a w) (hd : ∀ k, o.dst = some k → k < N) {b : Builtin} {args : Array Operand} {ts : Array TypeId} (ho : o.op = .call { callee := .builtin b, args := args, argTypes := ts })
    {z : AOp} (hz : mmOp b args.toList = some z) (h : aop P o.dst z s K) : FineQ P F N o a w (fun _ => True) K := by
  obtain ⟨x, y, hargs, hb⟩ := mmOp_spec hz
  have ha : args = #[x, y] := Array.toList_inj.1 (by simpa using hargs)
  have key : ∀ (mx : Bool), (b = .min ∧ mx = false ∨ b = .max ∧ mx = true) → aMm o.dst mx (s.oc (cO x)) (s.oc (cO y)) s K → FineQ P F N o a w (fun _ => True) K := by
    intro mx hmx h
    have hx := CR_o hr x
    have hy := CR_o hr y
    generalize s.oc (cO x) = cx at *
    generalize s.oc (cO y) = cy at *
    unfold aMm at h
    split at h
    · rename_i k m k1 n
      cases hk : kindEq k k1 with
      | false => rw [hk] at h; exact h.elim
      | true =>
        rw [hk] at h
        simp only [cond_true] at h
        have hx := CR_lit hx
        have hy := CR_lit hy
        refine FineQ.put hr hd (v := .int k (mmI mx m n)) ?_ (VR_lit rfl) h
        intro w' _
        rcases hmx with ⟨rfl, rfl⟩ | ⟨rfl, rfl⟩
        · simp [execOp, ho, resolve, invoke, builtin, Builtin.min_, Builtin.min2, ha, hx, hy, mmI]
        · simp [execOp, ho, resolve, invoke, builtin, Builtin.max_, Builtin.max2, ha, hx, hy, mmI]
    · exact h.elim
  rcases hb with ⟨rfl, rfl⟩ | ⟨rfl, rfl⟩
  · exact key false (.inl ⟨rfl, rfl⟩) h
  · exact key true (.inr ⟨rfl, rfl⟩) h
end

end Go.AM

namespace Go.AM

def upd (ι : Nat → Gh) (p : Nat) (g : Gh) : Nat → Gh := fun q => if q = p then g else ι q

theorem upd_same (ι : Nat → Gh) (p : Nat) (g : Gh) : upd ι p g p = g := by simp [upd]
theorem upd_other (ι : Nat → Gh) {p q : Nat} (g : Gh) (h : q ≠ p) : upd ι p g q = ι q := by simp [upd, h]

theorem isin_one {p q : Nat} (h : isin q [p] = false) : q ≠ p := by
  intro e; subst e; simp [isin] at h
theorem isin_two {p d q : Nat} (h : isin q [p, d] = false) : q ≠ p ∧ q ≠ d := by
  refine ⟨fun e => ?_, fun e => ?_⟩
  · subst e; simp [isin] at h
  · subst e
    unfold isin at h
    cases hb : Nat.beq p q <;> rw [hb] at h
    · simp [isin] at h
    · cases h

theorem aget_one {α : Type} {d p : Nat} {x y : α} (h : aget [(d, x)] p = some y) : p = d ∧ y = x := by
  rw [aget_cons] at h
  split at h
  · cases h; exact ⟨by omega, rfl⟩
  · cases h

section
variable {P : Program} {F : Fr} {N : Nat} {ι : Nat → Gh} {s : S} {a : Act} {w : World} {o : Oper} {K : S → Prop}

theorem redo_keeps (_hr : Rel F N ι s a w) (kills : List Nat) (new : List (Nat × Pl)) (ι' : Nat → Gh) (w' : World)
    (hι : ∀ p, isin p kills = false → ι' p = ι p)
    (hsame : ∀ b, b < w.heap.size → (∀ q y, isin q kills = true → aget s.pl q = some y → y.live = true → (ι q).b ≠ some b) → w'.heap[b]? = w.heap[b]?)
    (hsize : w.heap.size ≤ w'.heap.size)
    (hfresh : ∀ p x b, aget new p = some x → (ι' p).b = some b → b < w'.heap.size ∧ (w.heap.size ≤ b ∨ ∃ q y, isin q kills = true ∧ aget s.pl q = some y ∧ y.live = true ∧ (ι q).b = some b)) :
    Keeps w w' (F.ok ι s.pl w) (F.ok ι' (s.redo kills new).pl w') := by
  intro b hb
  obtain ⟨h1, h2, h3⟩ := hb
  refine ⟨⟨h1, Nat.lt_of_lt_of_le h2 hsize, ?_⟩, hsame b h2 (fun q y _ hy hl hq => h3 ⟨q, y, hy, hl, hq⟩)⟩
  rintro ⟨p, x, hx, hl, hpb⟩
  rw [S.redo_pl] at hx
  cases hn : aget new p with
  | some y =>
    rcases (hfresh p y b hn hpb).2 with h | ⟨q, z, _, h4, h5, h6⟩
    · omega
    · exact h3 ⟨q, z, h4, h5, h6⟩
  | none =>
    simp only [hn] at hx
    split at hx
    · rename_i hk
      cases hp : aget s.pl p with
      | none => rw [hp] at hx; cases hx
      | some y =>
        rw [hp] at hx; simp at hx; subst hx
        exact h3 ⟨p, y, hp, by rw [← Pl.live_kill y kills]; exact hl, by rw [← hι p hk]; exact hpb⟩
    · cases hx

/-- A world with one block more. -/
structure NewRow (w w' : World) (cur : Array Value) (t : TypeId) (mk : Nat × Nat) : Prop where
  heap : w'.heap = w.heap.push (.cells cur t mk)
  os : w'.os = w.os
  tape : w'.tape = w.tape
  output : Out w w'

theorem NewRow.old {w w' : World} {cur : Array Value} {t : TypeId} {mk : Nat × Nat} (h : NewRow w w' cur t mk) {b : Nat} (hb : b < w.heap.size) : w'.heap[b]? = w.heap[b]? := by
  rw [h.heap, Array.getElem?_push, if_neg (by omega)]
theorem NewRow.ext {w w' : World} {cur : Array Value} {t : TypeId} {mk : Nat × Nat} (h : NewRow w w' cur t mk) : Ext w w' := ⟨by rw [h.heap]; simp, fun _ hb => h.old hb⟩
theorem NewRow.new {w w' : World} {cur : Array Value} {t : TypeId} {mk : Nat × Nat} (h : NewRow w w' cur t mk) : w'.heap[w.heap.size]? = some (.cells cur t mk) := by
  rw [h.heap]; simp
theorem NewRow.size {w w' : World} {cur : Array Value} {t : TypeId} {mk : Nat × Nat} (h : NewRow w w' cur t mk) : w'.heap.size = w.heap.size + 1 := by
  rw [h.heap]; simp
theorem NewRow.shapes {w w' : World} {cur : Array Value} {t : TypeId} {mk : Nat × Nat} (h : NewRow w w' cur t mk) : Shapes w w' := by
  intro b ty m hb
  have hlt : b < w.heap.size := by
    rcases Nat.lt_or_ge b w.heap.size with h' | h'
    · exact h'
    · simp [World.shape?, Array.getElem?_eq_none h'] at hb
  simp only [World.shape?, h.old hlt] at hb ⊢
  exact hb
theorem NewRow.cell {w w' : World} {cur : Array Value} {t : TypeId} {mk : Nat × Nat} (h : NewRow w w' cur t mk) (j : Nat) : w'.cell? ⟨w.heap.size, j, none⟩ = cur[j]? := cell_of_row w' _ j cur t mk h.new
theorem NewRow.alloc (w : World) (cur : Array Value) (t : TypeId) : NewRow w (w.alloc (.cells cur t)) cur t (0, 0) := ⟨rfl, rfl, rfl, Out.refl w⟩
theorem NewRow.draw (w : World) (cur : Array Value) (t : TypeId) (mk : Nat × Nat) : NewRow w (w.drew.alloc (.cells cur t mk)) cur t mk := ⟨rfl, rfl, rfl, ⟨rfl, Nat.le_succ _⟩⟩

theorem newRow_keeps (hr : Rel F N ι s a w) {w' : World} {cur : Array Value} {t : TypeId} {mk : Nat × Nat} (hw : NewRow w w' cur t mk) (d : Nat) (x : Pl) (kills : List Nat) (hk : isin d kills = true) (n : Nat) :
    Keeps w w' (F.ok ι s.pl w) (F.ok (upd ι d ⟨some w.heap.size, n⟩) (s.redo kills [(d, x)]).pl w') := by
  refine redo_keeps hr kills [(d, x)] _ w' (fun p hp => upd_other ι _ ?_) (fun b hb _ => hw.old hb) (by rw [hw.size]; omega) ?_
  · intro e; subst e; rw [hk] at hp; cases hp
  · intro p y b hp hb
    obtain ⟨rfl, rfl⟩ := aget_one hp
    rw [upd_same] at hb; cases hb
    exact ⟨by rw [hw.size]; omega, .inl (Nat.le_refl _)⟩

theorem Rel.newRow (hr : Rel F N ι s a w) {w' : World} {cur : Array Value} {t : TypeId} {mk : Nat × Nat} (hw : NewRow w w' cur t mk) (d : Nat) (x : Pl) (kills : List Nat) (hk : isin d kills = true) (n : Nat) (hfd : F.h d = none)
    (hx : PR (upd ι d ⟨some w.heap.size, n⟩) w' (F.ok (upd ι d ⟨some w.heap.size, n⟩) (s.redo kills [(d, x)]).pl w') d x) : Rel F N (upd ι d ⟨some w.heap.size, n⟩) (s.redo kills [(d, x)]) a w' := by
  refine hr.redo kills [(d, x)] _ w' (fun p hp => upd_other ι _ ?_) (fun b hb _ => hw.old hb) hw.shapes hw.os hw.tape hw.output (by rw [hw.size]; omega) ?_ ?_ ?_ (fun p y hp => by obtain ⟨rfl, _⟩ := aget_one hp; exact hfd)
  · intro e; subst e; rw [hk] at hp; cases hp
  · intro p y hp
    obtain ⟨rfl, rfl⟩ := aget_one hp
    exact hx
  · intro p y b hp hb
    obtain ⟨rfl, rfl⟩ := aget_one hp
    rw [upd_same] at hb; cases hb
    exact ⟨by rw [hw.size]; omega, .inl (Nat.le_refl _)⟩
  · intro p q y z b hp hq hpq
    obtain ⟨rfl, rfl⟩ := aget_one hp
    obtain ⟨rfl, rfl⟩ := aget_one hq
    exact absurd rfl hpq

theorem WR_cells {ok : Nat → Prop} {x : W} {v : Value} (h : WR ι w ok x v) (hs : solid x.cells = true) : CRs ι w ok x.cells v.cells.toList := by
  cases x with
  | c c =>
    have hd : c.isDead = false := by
      unfold W.cells solid at hs
      cases hd : c.isDead <;> rw [hd] at hs <;> first | rfl | cases hs
    have h1 := CR.one h hd
    have hv : v.cells.toList = [v] := by cases v <;> first | rfl | cases h1
    rw [hv]
    exact ⟨h, trivial⟩
  | agg cs =>
    obtain ⟨vs, rfl, h⟩ := h
    simpa [W.cells, Value.cells] using h

theorem CRs_kill_new (hr : Rel F N ι s a w) {w' : World} {cur : Array Value} {t : TypeId} {mk : Nat × Nat} (hw : NewRow w w' cur t mk) (d : Nat) (x : Pl) (n : Nat) {cs : List C} {vs : List Value} (h : CRs ι w (F.ok ι s.pl w) cs vs) :
    CRs (upd ι d ⟨some w.heap.size, n⟩) w' (F.ok (upd ι d ⟨some w.heap.size, n⟩) (s.redo [d] [(d, x)]).pl w') (cs.map (C.kill [d])) vs :=
  CRs.kill (newRow_keeps hr hw d x [d] (by simp [isin]) n) hw.shapes (fun _ hp => upd_other ι _ (isin_one hp)) cs vs h

theorem dst_eq {d : Nat} {o : Oper} (h : o.dst = some d) (v : Value) : a.put o.dst v = a.put (some d) v := by rw [h]

/-- The frame with a new box. -/
theorem sound_box (hr : Rel F N ι s a w) {d : Nat} (hdst : o.dst = some d) (hd : d < N) {cs : List C} {v : Value} {t : TypeId} (hcs : CRs ι w (F.ok ι s.pl w) cs v.cells.toList)
    (hrun : (execOp a.eval o).run P w = .ok (.value (.pointer (some ⟨w.heap.size, 0, none⟩))) (w.alloc (.cells v.cells t)))
    (h : K ((s.place d (.box (cs.map (C.kill [d])))).put (some d) (cV (.ptr d 0)))) : FineX P F N o a w K := by
  have hw := NewRow.alloc w v.cells t
  have hrel := hr.newRow hw d (.box (cs.map (C.kill [d]))) [d] (by simp [isin]) 0 (hr.h_slot hd) ⟨w.heap.size, v.cells, by rw [upd_same], ⟨t, hw.new⟩, CRs_kill_new hr hw d _ 0 hcs⟩
  refine FineX.of_value hw.ext (ι' := upd ι d ⟨some w.heap.size, 0⟩) hrun ?_ h
  rw [hdst]
  exact hrel.put (some d) (fun k hk => by cases hk; exact hd) _ _ ⟨w.heap.size, by rw [upd_same], rfl⟩

theorem kill_const : ∀ (vs : List Value) (l : List Nat), (vs.map ofCell).map (C.kill l) = vs.map ofCell
  | [], _ => rfl
  | v :: vs, l => by
    simp only [List.map_cons, kill_const vs l]
    congr 1
    unfold ofCell
    split <;> rfl

theorem ofValue_cells {v : Value} (h : solid (ofValue v).cells = true) : (ofValue v).cells = v.cells.toList.map ofCell := by
  unfold ofValue at h ⊢
  split
  · rfl
  · rename_i hne
    simp only [W.cells] at h ⊢
    cases v <;> first | rfl | (exact absurd rfl (hne _)) | (simp [ofCell, solid, C.isDead] at h)

theorem sound_alloc (hr : Rel F N ι s a w) (hd : ∀ k, o.dst = some k → k < N) {t : TypeId} (ho : o.op = .alloc t) (h : aop P o.dst (.alloc (tzero P t).cells) s K) : Fine P F N o a w K := by
  simp only [aop] at h
  split at h
  · rename_i d hdst
    cases hs : solid (tzero P t).cells with
    | false => rw [hs] at h; exact h.elim
    | true =>
      rw [hs] at h
      simp only [cond_true] at h
      unfold tzero at hs h
      cases hi : P.info? t with
      | none => simp only [hi] at hs; cases hs
      | some i =>
        simp only [hi] at hs h
        cases hz : i.zero with
        | none => simp only [hz] at hs; cases hs
        | some v =>
          simp only [hz] at hs h
          rw [ofValue_cells hs] at h
          rw [← kill_const v.cells.toList [d]] at h
          refine FineX.fine (sound_box hr hdst (hd d hdst) (t := t) (CRs_ofCell ι w _ v.cells.toList) ?_ h)
          simp [execOp, ho, Instr.alloc, zeroValue, typeInfo, hi, hz, newVar, newRow]
  · exact h.elim

theorem sound_bx (hr : Rel F N ι s a w) (hd : ∀ k, o.dst = some k → k < N) {t : TypeId} {x : Operand} (ho : o.op = .box t x) (h : aop P o.dst (.bx (cO x)) s K) : FineX P F N o a w K := by
  simp only [aop] at h
  split at h
  · rename_i d y hdst hy
    cases hs : solid y.cells with
    | false => rw [hs] at h; exact h.elim
    | true =>
      rw [hs] at h
      simp only [cond_true] at h
      have hx := VR_o hr x
      rw [hy] at hx
      refine sound_box hr hdst (hd d hdst) (v := a.eval x) (t := t) (WR_cells hx hs) ?_ h
      simp [execOp, ho, Instr.box, newVar, newRow]
  · exact h.elim

/-! Stores. -/
theorem Shapes.setRow (w : World) (g : Nat) {old cs : Array Value} {t : TypeId} {fr : Nat × Nat} (hg : w.heap[g]? = some (.cells old t fr)) (hs : cs.size = old.size) : Shapes w (w.setRow g cs) := by
  intro b ty m hb
  by_cases hbg : b = g
  · subst hbg
    simp only [World.shape?, hg] at hb
    simp only [World.shape?, setRow_heap w b old cs t fr hg]
    cases hb
    rw [hs]
  · simp only [World.shape?, setRow_other w g b cs hbg]
    exact hb

/-- One place's contents change, in its own block. -/
theorem Rel.write (hr : Rel F N ι s a w) (p : Nat) (x y : Pl) (hp : aget s.pl p = some x) (hx : x.live = true) (hy : y.live = true) {b : Nat} (hb : (ι p).b = some b) {old cur : Array Value} {t : TypeId} (hg : w.heap[b]? = some (.cells old t (0, 0))) (hs : cur.size = old.size)
    (hpr : PR ι (w.setRow b cur) (F.ok ι (aput p y s.pl) (w.setRow b cur)) p y) : Rel F N ι (s.withPl (aput p y s.pl)) a (w.setRow b cur) := by
  have hownEq : ∀ c, Owns ι (aput p y s.pl) c ↔ Owns ι s.pl c := by
    intro c
    constructor
    · rintro ⟨q, z, h1, h2, h3⟩
      rw [aget_aput] at h1
      split at h1
      · rename_i e; subst e; exact ⟨p, x, hp, hx, h3⟩
      · exact ⟨q, z, h1, h2, h3⟩
    · rintro ⟨q, z, h1, h2, h3⟩
      by_cases e : p = q
      · subst e; exact ⟨p, y, by rw [aget_aput, if_pos rfl], hy, h3⟩
      · exact ⟨q, z, by rw [aget_aput, if_neg e]; exact h1, h2, h3⟩
  have hown : Owns ι s.pl b := ⟨p, x, hp, hx, hb⟩
  have hkeep : Keeps w (w.setRow b cur) (F.ok ι s.pl w) (F.ok ι (aput p y s.pl) (w.setRow b cur)) := by
    intro c hc
    have hcb : c ≠ b := fun e => by subst e; exact hc.2.2 hown
    exact ⟨⟨hc.1, by simpa using hc.2.1, fun ho => hc.2.2 ((hownEq c).1 ho)⟩, setRow_other w b c cur hcb⟩
  have hsh := Shapes.setRow w b hg hs
  refine ⟨hr.room, fun k v hv => ?_, fun q z hz => ?_, fun q r z u c hz hu hqr hl hqc => ?_, fun c hc => ?_, hr.defers, ?_, hr.foreign, hr.handed, hr.few, hr.hdom, fun q z g hz hg => ?_⟩
  rotate_left 5
  · have hz' : aget (aput p y s.pl) q = some z := hz
    rw [aget_aput] at hz'
    split at hz'
    · rename_i e; subst e; exact hr.hkeep p x g hp hg
    · exact hr.hkeep q z g hz' hg
  · obtain ⟨v', e1, e2⟩ := hr.slots k v hv
    exact ⟨v', e1, VR.keep hkeep hsh v v' e2⟩
  · have hz' : aget (aput p y s.pl) q = some z := hz
    rw [aget_aput] at hz'
    split at hz'
    · rename_i e; subst e; cases hz'; exact hpr
    · rename_i hpq
      have h := hr.places q z hz'
      have hne : ∀ c, (ι q).b = some c → c ≠ b := fun c hc e => by subst e; exact hr.inj p q x z c hp hz' hpq hx hb hc
      cases z with
      | box cs => obtain ⟨c, cur', e1, ⟨t', e2⟩, e3⟩ := h; exact ⟨c, cur', e1, ⟨t', by rw [setRow_other w b c cur (hne c e1)]; exact e2⟩, CRs.keep hkeep hsh _ _ e3⟩
      | arr sz els fz =>
        obtain ⟨h0, hn, h | ⟨c, e1, e2, e3, e4⟩⟩ := h
        · exact ⟨h0, hn, .inl h⟩
        · refine ⟨h0, hn, .inr ⟨c, e1, RDs.keep' hkeep c sz els 0 (fun j _ _ => cell_of_heap (setRow_other w b c cur (hne c e1)) j) e2, fun hf => (hkeep c (e3 hf)).1, fun hf => ?_⟩⟩
          obtain ⟨cur', ⟨t', e5⟩, e6⟩ := e4 hf
          exact ⟨cur', ⟨t', by rw [setRow_other w b c cur (hne c e1)]; exact e5⟩, e6⟩
      | fbox ds => obtain ⟨c, e1, e2, e3⟩ := h; exact ⟨c, e1, (hkeep c e2).1, RDc.keep hkeep c e2 _ _ e3⟩
      | gone => exact h.elim
  · have hz' : aget (aput p y s.pl) q = some z := hz
    have hu' : aget (aput p y s.pl) r = some u := hu
    rw [aget_aput] at hz' hu'
    have h1 : ∃ z', aget s.pl q = some z' ∧ z'.live = true := by
      split at hz'
      · rename_i e; subst e; exact ⟨x, hp, hx⟩
      · exact ⟨z, hz', hl⟩
    have h2 : ∃ u', aget s.pl r = some u' := by
      split at hu'
      · rename_i e; subst e; exact ⟨x, hp⟩
      · exact ⟨u, hu'⟩
    obtain ⟨z', h1, h1'⟩ := h1
    obtain ⟨u', h2⟩ := h2
    exact hr.inj q r z' u' c h1 h2 hqr h1' hqc
  · have := hr.mine c ((hownEq c).1 hc)
    exact ⟨this.1, by simpa using this.2⟩
  · refine ⟨hr.grows.os, hr.grows.tape, hr.grows.output, by simpa using hr.grows.size, fun c hc hm => ?_, fun c t m h => hsh c t m (hr.grows.shapes c t m h)⟩
    have hcb : c ≠ b := by
      intro e; subst e
      rcases (hr.mine c hown).1 with h | h
      · exact hm h
      · omega
    rw [setRow_other w b c cur hcb]
    exact hr.grows.block c hc hm

theorem write_keeps (_hr : Rel F N ι s a w) (p : Nat) (x y : Pl) (hp : aget s.pl p = some x) (hx : x.live = true) {b : Nat} (hb : (ι p).b = some b) (cur : Array Value) :
    Keeps w (w.setRow b cur) (F.ok ι s.pl w) (F.ok ι (aput p y s.pl) (w.setRow b cur)) := by
  intro c hc
  have hcb : c ≠ b := fun e => by subst e; exact hc.2.2 ⟨p, x, hp, hx, hb⟩
  refine ⟨⟨hc.1, by simpa using hc.2.1, ?_⟩, setRow_other w b c cur hcb⟩
  rintro ⟨q, z, h1, h2, h3⟩
  rw [aget_aput] at h1
  split at h1
  · rename_i e; subst e; exact hc.2.2 ⟨p, x, hp, hx, h3⟩
  · exact hc.2.2 ⟨q, z, h1, h2, h3⟩

theorem run_storeVar {t : TypeId} {i : TypeInfo} (hi : P.info? t = some i) {b off : Nat} {old : Array Value} {ty : TypeId} (hg : w.heap[b]? = some (.cells old ty (0, 0))) {v : Value} (hl : v.cells.toList.length = tsz P t) (hfit : off + v.cells.toList.length ≤ old.size)
    (h1 : ∀ u ∈ v.cells.toList, u.oneCell' = true) : (storeVar t ⟨b, off, none⟩ v).run P w = .ok () (w.setRow b (old.toList.take off ++ v.cells.toList ++ old.toList.drop (off + v.cells.toList.length)).toArray) := by
  have h := run_storeCells_at P b off ty v.cells.toList 0 old w hg (by simpa using hfit) h1
  simp only [Nat.add_zero] at h
  have hne : v.cells.size = tsz P t := by simpa using hl
  simp [storeVar, run_sizeOf hi, hne, h]

theorem CRs_solid_of_ones {ok : Nat → Prop} : ∀ {ds : List D} {vs : List Value}, CRs ι w ok (ds.map .d) vs → ∀ v ∈ vs, v.oneCell' = true
  | [], [], _, _, hv => by cases hv
  | [], _ :: _, h, _, _ => h.elim
  | _ :: _, [], h, _, _ => h.elim
  | d :: ds, v :: vs, h, u, hu => by
    rcases List.mem_cons.1 hu with rfl | hu
    · exact CR.one h.1 rfl
    · exact CRs_solid_of_ones h.2 u hu

theorem put_none (a : Act) (v : Value) : a.put none v = a := rfl

theorem solid_of_toDs {pl1 : List (Nat × Pl)} : ∀ {cs : List C} {pl : List (Nat × Pl)} {ds : List D}, toDs pl cs = some (ds, pl1) → solid cs = true := by
  intro cs
  induction cs with
  | nil => intros; rfl
  | cons c cs ih =>
    intro pl ds h
    simp only [toDs] at h
    split at h
    · rename_i y pl2 h1
      split at h
      · rename_i ys pl3 h2
        have e : pl3 = pl1 := by cases h; rfl
        subst e
        unfold solid
        have hd : c.isDead = false := by cases c <;> first | rfl | cases h1
        rw [hd]
        exact ih h2
      · cases h
    · cases h

theorem RDs_mk {ok : Nat → Prop} {b sz : Nat} : ∀ {els : List (List D)} {off : Nat} {vs : List Value}, (∀ e ∈ els, e.length = sz) → CRs ι w ok (els.flatten.map .d) vs → (∀ j v, vs[j]? = some v → w.cell? ⟨b, off + j, none⟩ = some v) → RDs w ok b sz off els
  | [], _, _, _, _, _ => by simp only [RDs]
  | e :: r, off, vs, hl, hc, hcell => by
    simp only [RDs]
    simp only [List.flatten_cons, List.map_append] at hc
    have he : e.length = sz := hl e (by simp)
    have hspl : ∀ (e : List D) (rest : List C) (vs : List Value) (off : Nat), CRs ι w ok (e.map .d ++ rest) vs → (∀ j v, vs[j]? = some v → w.cell? ⟨b, off + j, none⟩ = some v) → RDc w ok b off e ∧ CRs ι w ok rest (vs.drop e.length) := by
      intro e
      induction e with
      | nil => intro rest vs off h _; exact ⟨by simp only [RDc], by simpa using h⟩
      | cons d e ih =>
        intro rest vs off h hcl
        cases vs with
        | nil => exact h.elim
        | cons v vs =>
          obtain ⟨h1, h2⟩ := ih rest vs (off + 1) h.2 (fun j u hu => by have := hcl (j + 1) u (by simpa using hu); rwa [show off + (j + 1) = off + 1 + j by omega] at this)
          refine ⟨?_, by simpa using h2⟩
          simp only [RDc]
          exact ⟨⟨v, by simpa using hcl 0 v rfl, h.1⟩, h1⟩
    obtain ⟨h1, h2⟩ := hspl e _ vs off hc hcell
    refine ⟨he, h1, RDs_mk (fun x hx => hl x (by simp [hx])) h2 (fun j v hv => ?_)⟩
    rw [List.getElem?_drop] at hv
    have := hcell _ v hv
    rw [he] at this
    rwa [show off + sz + j = off + (sz + j) by omega]

theorem RDs.vals {ok : Nat → Prop} {b sz : Nat} : ∀ {els : List (List D)} {off : Nat}, RDs w ok b sz off els → ∃ vs, CRs ι w ok (els.flatten.map .d) vs ∧ vs.length = els.length * sz ∧ ∀ j v, vs[j]? = some v → w.cell? ⟨b, off + j, none⟩ = some v
  | [], off, _ => ⟨[], trivial, by simp, fun j v h => by simp at h⟩
  | e :: r, off, h => by
    simp only [RDs] at h
    obtain ⟨h1, h2, h3⟩ := h
    obtain ⟨vs1, e1, e2⟩ := RDc.vals (ι := ι) h2
    obtain ⟨vs2, g1, g2, g3⟩ := RDs.vals h3
    have hlen : vs1.length = sz := by rw [← e1.length]; simpa using h1
    refine ⟨vs1 ++ vs2, by simp only [List.flatten_cons, List.map_append]; exact CRs.append e1 g1, by simp only [List.length_append, List.length_cons, hlen, g2, Nat.add_mul]; omega, fun j v hv => ?_⟩
    rw [List.getElem?_append] at hv
    split at hv
    · exact e2 j v hv
    · rename_i hge
      have := g3 _ v hv
      rw [hlen] at this hge
      rwa [show off + sz + (j - sz) = off + j by omega] at this

theorem CRs_vals_cells {ok : Nat → Prop} : ∀ {ds : List D} {vs : List Value}, CRs ι w ok (ds.map .d) vs → ds.length = vs.length := fun h => by simpa using h.length

theorem sound_st (hr : Rel F N ι s a w) {t : TypeId} {x y : Operand} (ho : o.op = .store t x y) {i : TypeInfo} (hi : P.info? t = some i)
    (h : aop P o.dst (.st (tsz P t) (cO x) (cO y)) s K) : Fine P F N o a w K := by
  simp only [aop] at h
  split at h
  case h_2 => exact h.elim
  rename_i hdst
  have hx := CR_o hr x
  have hy := WR_o hr y
  generalize s.oc (cO x) = cx at *
  generalize s.ow (cO y) = wy at *
  unfold aSt at h
  cases hl : Nat.beq wy.cells.length (tsz P t) with
  | false => rw [hl] at h; exact h.elim
  | true =>
    rw [hl] at h
    simp only [cond_true] at h
    have hl := Nat.eq_of_beq_eq_true hl
    split at h
    · rename_i p off
      split at h
      · rename_i cs hp
        cases hs : solid wy.cells && Nat.ble (off + wy.cells.length) cs.length with
        | false => rw [hs] at h; exact h.elim
        | true =>
          rw [hs] at h
          simp only [cond_true] at h
          rw [Bool.and_eq_true] at hs
          have hfit := Nat.le_of_ble_eq_true hs.2
          obtain ⟨b, h1, h2⟩ := hx
          obtain ⟨b', old, e1, ⟨ty, e2⟩, e3⟩ := hr.places p _ hp
          rw [h1] at e1; cases e1
          have hcs := WR_cells hy hs.1
          have hlen : (a.eval y).cells.toList.length = wy.cells.length := hcs.length.symm
          have hol : cs.length = old.size := by simpa using e3.length
          have hrun := run_storeVar (P := P) hi (b := b) (off := off) e2 (v := a.eval y) (by rw [hlen, hl]) (by rw [hlen]; omega) (CRs.ones hcs hs.1)
          obtain ⟨cur, hcur⟩ : ∃ cur : Array Value, cur = (old.toList.take off ++ (a.eval y).cells.toList ++ old.toList.drop (off + (a.eval y).cells.toList.length)).toArray := ⟨_, rfl⟩
          rw [← hcur] at hrun
          have hsz : cur.size = old.size := by
            rw [hcur]; simp only [List.size_toArray, List.length_append, List.length_take, List.length_drop, Array.length_toList, hlen]; omega
          have hk := write_keeps hr p (.box cs) (.box (splice cs off wy.cells)) hp rfl h1 cur
          have hsh := Shapes.setRow w b e2 hsz
          have hall := CRs.append (CRs.append (CRs.take off e3) hcs) (CRs.drop (off + wy.cells.length) e3)
          have hct : cur.toList = old.toList.take off ++ (a.eval y).cells.toList ++ old.toList.drop (off + wy.cells.length) := by rw [hcur, hlen]
          rw [← hct] at hall
          have hrel := hr.write p (.box cs) (.box (splice cs off wy.cells)) hp rfl rfl h1 e2 hsz ⟨b, cur, h1, ⟨ty, setRow_heap w b old cur ty (0, 0) e2⟩, CRs.keep hk hsh _ _ hall⟩
          refine Fine.of_skip (ι' := ι) (w' := w.setRow b cur) (by simp only [execOp, ho, h2, Instr.storeAt, Instr.sureAddr, Sem.run_bind, Sem.run_pure, Result.andThen_ok, hrun]) ?_ h
          rw [hdst]
          exact hrel
      · exact h.elim
    · rename_i p z i' k
      split at h
      · rename_i ds pl1 hds
        split at h
        · rename_i z1 els hp
          cases hz : Nat.beq z z1 with
          | false => rw [hz] at h; exact h.elim
          | true =>
            rw [hz] at h
            have hz := Nat.eq_of_beq_eq_true hz; subst hz
            simp only [cond_true] at h
            obtain ⟨e, he, hfit, h⟩ := h
            have hcs := WR_cells hy (solid_of_toDs hds)
            obtain ⟨hr1, hk1, hd1⟩ := toDs_sound hr hcs hds
            have hlen : (a.eval y).cells.toList.length = wy.cells.length := hcs.length.symm
            have hdl : ds.length = wy.cells.length := by rw [← hlen]; simpa using hd1.length
            obtain ⟨b, h1, h2⟩ := hx
            obtain ⟨hz0, hn, hpl | ⟨b', e1, e2, _, e4⟩⟩ := hr1.places p _ hp
            · rw [hpl.2] at he; simp at he
            · rw [h1] at e1; cases e1
              obtain ⟨old, ⟨ty, hg⟩, hroom⟩ := e4 rfl
              have hiel : i' < els.length := (List.getElem?_eq_some_iff.1 he).1
              have hez : e.length = z := RDs.len e2 e (List.mem_of_getElem? he)
              have hbnd : i' * z + k + ds.length ≤ old.size := by
                have : (i' + 1) * z ≤ els.length * z := Nat.mul_le_mul_right _ hiel
                rw [Nat.add_mul, Nat.one_mul] at this
                omega
              have hrun := run_storeVar (P := P) hi (b := b) (off := i' * z + k) hg (v := a.eval y) (by rw [hlen, hl]) (by rw [hlen, ← hdl]; exact hbnd) (CRs_solid_of_ones hd1)
              have hsz : (old.toList.take (i' * z + k) ++ (a.eval y).cells.toList ++ old.toList.drop (i' * z + k + (a.eval y).cells.toList.length)).toArray.size = old.size := by
                simp only [List.size_toArray, List.length_append, List.length_take, List.length_drop, Array.length_toList, hlen]; omega
              have hk := write_keeps hr1 p (.arr z els false) (.arr z (els.set i' (splice e k ds)) false) hp rfl h1 (old.toList.take (i' * z + k) ++ (a.eval y).cells.toList ++ old.toList.drop (i' * z + k + (a.eval y).cells.toList.length)).toArray
              have hsh := Shapes.setRow w b hg hsz
              obtain ⟨vs, g1, g2, g3⟩ := RDs.vals (ι := ι) e2
              have hspl : (els.set i' (splice e k ds)).flatten = splice els.flatten (i' * z + k) ds := by
                have hall := RDs.len e2
                have : ∀ (els : List (List D)) (i' : Nat), (∀ x ∈ els, x.length = z) → els[i']? = some e → (els.set i' (splice e k ds)).flatten = splice els.flatten (i' * z + k) ds := by
                  intro els
                  induction els with
                  | nil => intro i' _ h; simp at h
                  | cons x r ih =>
                    intro i' hall he
                    have hx : x.length = z := hall x (by simp)
                    cases i' with
                    | zero =>
                      simp at he; subst he
                      simp only [List.set_cons_zero, List.flatten_cons, splice, Nat.zero_mul, Nat.zero_add]
                      rw [List.take_append_of_le_length (by omega), List.drop_append_of_le_length (by omega)]
                      simp [List.append_assoc]
                    | succ i' =>
                      simp at he
                      simp only [List.set_cons_succ, List.flatten_cons]
                      rw [ih i' (fun y hy => hall y (by simp [hy])) he]
                      simp only [splice]
                      rw [show (i' + 1) * z + k = x.length + (i' * z + k) by rw [hx, Nat.add_mul]; omega, List.take_length_add_append, show x.length + (i' * z + k) + ds.length = x.length + (i' * z + k + ds.length) by omega, List.drop_length_add_append]
                      simp [List.append_assoc]
                exact this els i' hall he
              have hvl : vs.length = els.length * z := g2
              have hrel := hr1.write p (.arr z els false) (.arr z (els.set i' (splice e k ds)) false) hp rfl rfl h1 hg hsz ⟨hz0, by simpa using hn, .inr ⟨b, h1, by
                refine RDs_mk (ι := ι) (vs := splice vs (i' * z + k) (a.eval y).cells.toList) ?_ ?_ ?_
                · intro q hq
                  rcases List.mem_or_eq_of_mem_set hq with hq | rfl
                  · exact RDs.len e2 q hq
                  · simp only [splice, List.length_append, List.length_take, List.length_drop]; omega
                · rw [hspl]
                  simp only [splice, List.map_append, List.map_take, List.map_drop]
                  refine CRs.keep hk hsh _ _ ?_
                  rw [hlen, ← hdl]
                  exact CRs.append (CRs.append (CRs.take _ g1) hd1) (CRs.drop _ g1)
                · intro j v hv
                  rw [Nat.zero_add, cell_setRow_same w b _ old _ ty (0, 0) hg]
                  simp only [splice] at hv
                  have hold : ∀ j v, vs[j]? = some v → old.toList[j]? = some v := fun j v hv => by
                    have := g3 j v hv
                    rw [Nat.zero_add, cell_of_row w b j old ty (0, 0) hg] at this
                    rw [Array.getElem?_toList]; exact this
                  have hjl : j < vs.length := by
                    have := (List.getElem?_eq_some_iff.1 hv).1
                    simp only [List.length_append, List.length_take, List.length_drop, hlen] at this
                    have : (i' + 1) * z ≤ els.length * z := Nat.mul_le_mul_right _ hiel
                    rw [Nat.add_mul, Nat.one_mul] at this
                    omega
                  have hle : vs.length ≤ old.toList.length := by simpa [hvl] using hroom
                  simp only [List.getElem?_toArray]
                  rw [List.getElem?_append, List.getElem?_append] at hv ⊢
                  have t1 : (vs.take (i' * z + k)).length = i' * z + k := by
                    rw [List.length_take]
                    have : (i' + 1) * z ≤ els.length * z := Nat.mul_le_mul_right _ hiel
                    rw [Nat.add_mul, Nat.one_mul] at this
                    omega
                  have t2 : (old.toList.take (i' * z + k)).length = i' * z + k := by
                    rw [List.length_take, Array.length_toList]; omega
                  simp only [List.length_append, t1, t2] at hv ⊢
                  split at hv
                  · rename_i c1
                    rw [if_pos c1]
                    split at hv
                    · rename_i c2
                      rw [if_pos c2]
                      rw [List.getElem?_take] at hv ⊢
                      rw [if_pos c2] at hv ⊢
                      exact hold j v hv
                    · rename_i c2
                      rw [if_neg c2]
                      exact hv
                  · rename_i c1
                    rw [if_neg c1]
                    rw [List.getElem?_drop] at hv ⊢
                    exact hold _ v hv, (fun hf => by cases hf), (fun _ => ⟨_, ⟨ty, setRow_heap w b old _ ty (0, 0) hg⟩, by rw [hsz]; simpa using hroom⟩)⟩⟩
              refine Fine.of_skip (ι' := ι) (w' := w.setRow b (old.toList.take (i' * z + k) ++ (a.eval y).cells.toList ++ old.toList.drop (i' * z + k + (a.eval y).cells.toList.length)).toArray) (hr := ?_) (hk := h) (h := ?_)
              · simp only [execOp, ho, h2, Instr.storeAt, Instr.sureAddr, Sem.run_bind, Sem.run_pure, Result.andThen_ok, hrun]
              · rw [hdst]; exact hrel
        · exact h.elim
      · exact h.elim
    · exact h.elim

end

end Go.AM

namespace Go.AM

section
variable {P : Program} {F : Fr} {N : Nat} {ι : Nat → Gh} {s : S} {a : Act} {w : World} {o : Oper} {K : S → Prop}

theorem foldl_set (off : Nat) : ∀ (vals : List Value) (k : Nat) (cur : Array Value), off + k + vals.length ≤ cur.size →
    (vals.zipIdx k).foldl (fun cs (x : Value × Nat) => cs.setIfInBounds (off + x.2) x.1) cur = (splice cur.toList (off + k) vals).toArray
  | [], k, cur, _ => by simp [splice]
  | v :: r, k, cur, h => by
    simp only [List.zipIdx_cons, List.foldl_cons]
    simp only [List.length_cons] at h
    rw [foldl_set off r (k + 1) (cur.setIfInBounds (off + k) v) (by simpa using (by omega : off + (k + 1) + r.length ≤ cur.size))]
    congr 1
    simp only [splice, Array.toList_setIfInBounds, List.length_cons]
    have := list_seg_step cur.toList (off + k) v r (by simpa using h)
    rw [show off + (k + 1) = off + k + 1 by omega]
    rw [show off + k + (r.length + 1) = off + k + 1 + r.length by omega] at *
    exact this

theorem fill_step (place : Nat → Option (Nat × Nat)) (cur : Array Value) (i off sz : Nat) (v : Value) (rest : List (Nat × Value)) (hp : place i = some (off, sz)) (hl : v.cells.toList.length = sz) (hfit : off + sz ≤ cur.size) :
    Instr.fill place cur ((i, v) :: rest) = Instr.fill place (splice cur.toList off v.cells.toList).toArray rest := by
  have h1 : v.cells.size = sz := by simpa using hl
  have h2 := foldl_set off v.cells.toList 0 cur (by rw [hl]; omega)
  simp only [Nat.add_zero] at h2
  have h3 : v.cells.zipIdx.foldl (fun cs (x : Value × Nat) => cs.setIfInBounds (off + x.2) x.1) cur = (splice cur.toList off v.cells.toList).toArray := by
    rw [← h2, ← Array.foldl_toList]
    simp
  rw [Instr.fill]
  simp only [hp]
  rw [if_neg (by rw [h1]; simp; omega)]
  congr 1

theorem infos_places : ∀ (fs : List Field), infos P fs = true → ∃ places, fs.mapM (fun f => (P.info? f.type).map fun i => (f.offset, i.size)) = some places ∧ ∀ (j : Nat) (f : Field), fs[j]? = some f → places[j]? = some (f.offset, tsz P f.type)
  | [], _ => ⟨[], rfl, fun j f h => by simp at h⟩
  | f :: r, h => by
    unfold infos at h
    cases hi : P.info? f.type with
    | none => rw [hi] at h; cases h
    | some i =>
      rw [hi] at h
      obtain ⟨places, h1, h2⟩ := infos_places r h
      refine ⟨(f.offset, i.size) :: places, by simp [List.mapM_cons, hi, h1], fun j g hg => ?_⟩
      cases j with
      | zero => simp at hg; subst hg; simp [tsz, hi]
      | succ j => simp at hg; simpa using h2 j g hg

theorem fill_build (hr : Rel F N ι s a w) {t : TypeId} {fs : Array Field} (hu : P.underlying t = some (.struct fs)) {places : List (Nat × Nat)} (hpl : ∀ (j : Nat) (f : Field), fs.toList[j]? = some f → places[j]? = some (f.offset, tsz P f.type)) :
    ∀ (parts : List (Nat × Operand)) (l : List (Nat × Nat × O)) (cs cs' : List C) (vs : List Value), cParts P t parts = some l → CRs ι w (F.ok ι s.pl w) cs vs → buildParts s cs l = some cs' →
      ∃ vs', Instr.fill (fun x => places[x]?) vs.toArray (parts.map fun x => (x.1, a.eval x.2)) = some vs'.toArray ∧ CRs ι w (F.ok ι s.pl w) cs' vs'
  | [], l, cs, cs', vs, h1, h2, h3 => by cases h1; cases h3; exact ⟨vs, rfl, h2⟩
  | (i, x) :: parts, l, cs, cs', vs, h1, h2, h3 => by
    unfold cParts at h1
    split at h1
    · rename_i off ft l' ht hl
      cases h1
      unfold buildParts at h3
      cases hc : solid (s.ow (cO x)).cells && Nat.beq (s.ow (cO x)).cells.length (tsz P ft) && Nat.ble (off + tsz P ft) cs.length with
      | false => rw [hc] at h3; cases h3
      | true =>
        rw [hc] at h3
        simp only [cond_true] at h3
        rw [Bool.and_eq_true, Bool.and_eq_true] at hc
        obtain ⟨⟨c1, c2⟩, c3⟩ := hc
        have c2 := Nat.eq_of_beq_eq_true c2
        have c3 := Nat.le_of_ble_eq_true c3
        obtain ⟨fs', f, e1, e2, e3, e4⟩ := tfield_spec ht
        rw [hu] at e1; cases e1
        have hp : places[i]? = some (off, tsz P ft) := by rw [hpl i f (by simpa using e2), e3, e4]
        have hx := WR_cells (WR_o hr x) c1
        have hxl : (a.eval x).cells.toList.length = tsz P ft := by rw [← hx.length, c2]
        have hcl : cs.length = vs.length := h2.length
        have hnew : CRs ι w (F.ok ι s.pl w) (splice cs off (s.ow (cO x)).cells) (splice vs off (a.eval x).cells.toList) := by
          simp only [splice]
          rw [hxl, c2]
          exact CRs.append (CRs.append (CRs.take _ h2) hx) (CRs.drop _ h2)
        obtain ⟨vs', g1, g2⟩ := fill_build hr hu hpl parts l' _ cs' _ hl hnew h3
        refine ⟨vs', ?_, g2⟩
        rw [List.map_cons, fill_step _ vs.toArray i off (tsz P ft) (a.eval x) _ hp hxl (by simp; omega)]
        exact g1
    · cases h1

theorem sound_build (hr : Rel F N ι s a w) (hd : ∀ k, o.dst = some k → k < N) {t : TypeId} {parts : Array (Nat × Operand)} (ho : o.op = .build t parts) {fs : Array Field} (hu : P.underlying t = some (.struct fs)) {l : List (Nat × Nat × O)}
    (hl : cParts P t parts.toList = some l) (hi : infos P fs.toList = true) (hz : solid (tzero P t).cells = true) (h : aop P o.dst (.build (tzero P t).cells l) s K) : FineQ P F N o a w (fun _ => True) K := by
  simp only [aop] at h
  split at h
  · rename_i cs hcs
    obtain ⟨places, h1, h2⟩ := infos_places fs.toList hi
    unfold tzero at hz hcs
    cases hit : P.info? t with
    | none => simp only [hit] at hz; cases hz
    | some it =>
      simp only [hit] at hz hcs
      cases hzz : it.zero with
      | none => simp only [hzz] at hz; cases hz
      | some z =>
        simp only [hzz] at hz hcs
        rw [ofValue_cells hz] at hcs
        obtain ⟨vs, g1, g2⟩ := fill_build hr hu h2 parts.toList l _ cs _ hl (CRs_ofCell ι w _ z.cells.toList) hcs
        have hb : P.built t (parts.map fun (i, x) => (i, a.eval x)).toList = some vs.toArray := by
          simp only [Program.built, hit, hu, hzz, h1]
          simpa using g1
        have hrun := fun (w' : World) => run_build (P := P) w' t (parts.map fun (i, x) => (i, a.eval x)) vs.toArray hb
        exact FineQ.put hr hd (fun w' _ => by simp [execOp, ho, hrun]) (show VR ι w _ (.w (.agg cs)) _ from ⟨vs, rfl, g2⟩) h
  · exact h.elim

/-! Slice literals. -/
theorem fill_lits {sz : Nat} : ∀ (vals : List Value) (i : Nat) (cur : Array Value), (∀ v ∈ vals, v.cells.toList.length = sz) → (i + vals.length) * sz = cur.size → ∀ (parts : List (Nat × Value)),
    parts = (vals.zipIdx i).map (fun x => (x.2, x.1)) → Instr.fill (fun i => some (i * sz, sz)) cur parts = some (cur.toList.take (i * sz) ++ (vals.map fun v => v.cells.toList).flatten).toArray
  | [], i, cur, _, hs, parts, hp => by
    subst hp
    simp only [List.zipIdx_nil, List.map_nil, Instr.fill, List.flatten_nil, List.append_nil]
    rw [List.take_of_length_le (by simp at hs ⊢; omega)]
  | v :: r, i, cur, hv, hs, parts, hp => by
    subst hp
    have hvl := hv v (by simp)
    simp only [List.length_cons] at hs
    have hm : (i + (r.length + 1)) * sz = i * sz + sz + r.length * sz := by rw [Nat.add_mul, Nat.add_mul, Nat.one_mul]; omega
    simp only [List.zipIdx_cons, List.map_cons]
    rw [fill_step _ cur i (i * sz) sz v _ rfl hvl (by omega)]
    have hlen : (splice cur.toList (i * sz) v.cells.toList).length = cur.size := by
      simp only [splice, List.length_append, List.length_take, List.length_drop, hvl, Array.length_toList]; omega
    rw [fill_lits r (i + 1) _ (fun u hu => hv u (by simp [hu])) (by simp only [List.size_toArray, hlen]; rw [← hs]; congr 1; omega) _ rfl]
    congr 2
    simp only [List.flatten_cons]
    rw [← List.append_assoc]
    congr 1
    simp only [splice]
    rw [show (i + 1) * sz = i * sz + sz by rw [Nat.add_mul]; omega]
    have t1 : (cur.toList.take (i * sz)).length = i * sz := by rw [List.length_take, Array.length_toList]; omega
    rw [List.take_append_of_le_length (by simp only [List.length_append, t1, hvl]; omega)]
    rw [List.take_of_length_le (by simp only [List.length_append, t1, hvl]; omega)]

theorem inOrder_map : ∀ (parts : List (Nat × Operand)) (i : Nat), inOrder i parts = true → (parts.map fun x => (x.1, a.eval x.2)) = ((parts.map fun x => a.eval x.2).zipIdx i).map fun x => (x.2, x.1)
  | [], _, _ => rfl
  | (j, x) :: r, i, h => by
    simp only [inOrder, Bool.and_eq_true] at h
    have := Nat.eq_of_beq_eq_true h.1
    subst this
    simp only [List.map_cons, List.zipIdx_cons, inOrder_map r (i + 1) h.2]

theorem litEls_sound {sz : Nat} (s0 : S) (a : Act) : ∀ {parts : List Operand} {s : S} (_ : Rel F N ι s a w) (_ : ∀ x ∈ parts, WR ι w (F.ok ι s.pl w) (s0.ow (cO x)) (a.eval x)) {els : List (List D)} {pl1 : List (Nat × Pl)} (_ : litEls s0 sz s.pl (parts.map cO) = some (els, pl1)),
    Rel F N ι (s.withPl pl1) a w ∧ (∀ b, F.ok ι s.pl w b → F.ok ι pl1 w b) ∧ els.length = parts.length ∧ (∀ e ∈ els, e.length = sz) ∧ (∀ x ∈ parts, (a.eval x).cells.toList.length = sz) ∧
      CRs ι w (F.ok ι pl1 w) (els.flatten.map .d) ((parts.map fun x => (a.eval x).cells.toList).flatten)
  | [], s, hr, _, els, pl1, h => by cases h; exact ⟨hr, fun _ h => h, rfl, fun e he => (by cases he), fun x hx => (by cases hx), trivial⟩
  | x :: parts, s, hr, hx, els, pl1, h => by
    simp only [List.map_cons, litEls] at h
    cases hb : Nat.beq (s0.ow (cO x)).cells.length sz with
    | false => rw [hb] at h; cases h
    | true =>
      rw [hb] at h
      have hb := Nat.eq_of_beq_eq_true hb
      simp only [cond_true] at h
      split at h
      · rename_i ds pl2 h1
        split at h
        · rename_i es pl3 h2
          cases h
          have hcs := WR_cells (hx x (by simp)) (solid_of_toDs h1)
          obtain ⟨g1, g2, g3⟩ := toDs_sound hr hcs h1
          have hk : Keeps w w (F.ok ι s.pl w) (F.ok ι pl2 w) := fun b hb => ⟨g2 b hb, rfl⟩
          obtain ⟨k1, k2, k3, k4, k5, k6⟩ := litEls_sound s0 a (s := s.withPl pl2) g1 (fun y hy => WR.keep hk (Shapes.refl w) _ _ (hx y (by simp [hy]))) h2
          have hdl : ds.length = sz := by rw [← hb, hcs.length]; simpa using g3.length
          refine ⟨k1, fun b hb => k2 b (g2 b hb), by simp [k3], fun e he => ?_, fun y hy => ?_, ?_⟩
          · rcases List.mem_cons.1 he with rfl | he
            · exact hdl
            · exact k4 e he
          · rcases List.mem_cons.1 hy with rfl | hy
            · rw [← hcs.length, hb]
            · exact k5 y hy
          · simp only [List.flatten_cons, List.map_append, List.map_cons]
            exact CRs.append (CRs.keep (fun b hb => ⟨k2 b hb, rfl⟩) (Shapes.refl w) _ _ g3) k6
        · cases h
      · cases h

theorem withPl_redo (s : S) (pl : List (Nat × Pl)) (k : List Nat) (n : List (Nat × Pl)) : ({ s with pl := pl } : S).redo k n = (s.withPl pl).redo k n := rfl

theorem NewRow.shape {w w' : World} {cur : Array Value} {t : TypeId} {mk : Nat × Nat} (h : NewRow w w' cur t mk) : w'.shape? w.heap.size = some (t, cur.size) := by
  simp [World.shape?, h.new]

theorem sound_lits (hr : Rel F N ι s a w) (hd : ∀ k, o.dst = some k → k < N) {t e : TypeId} {n : Nat} {parts : Array (Nat × Operand)} (ho : o.op = .buildSlice t n parts) (ht : telem P t = some e) (hpos : Nat.blt 0 (tsz P e) = true) (hn : Nat.beq n parts.toList.length = true)
    (hbig : Nat.ble (n * tsz P e) 16777216 = true) (hin : inOrder 0 parts.toList = true) (hzero : hasZero P e = true) (h : aop P o.dst (.lits (tsz P e) (parts.toList.map fun x => cO x.2)) s K) : FineX P F N o a w K := by
  simp only [aop] at h
  have hu := telem_spec ht
  have hpos : 0 < tsz P e := Nat.le_of_ble_eq_true hpos
  have hn := Nat.eq_of_beq_eq_true hn
  have hbig := Nat.le_of_ble_eq_true hbig
  unfold hasZero at hzero
  cases hi : P.info? e with
  | none => rw [hi] at hzero; cases hzero
  | some i =>
    simp only [hi] at hzero
    cases hz : i.zero with
    | none => rw [hz] at hzero; cases hzero
    | some z =>
      have hsz : tsz P e = i.size := by simp [tsz, hi]
      split at h
      · rename_i d els pl1 hdst hels
        have hmap : (parts.toList.map fun x => cO x.2) = (parts.toList.map (·.2)).map cO := by simp
        rw [hmap] at hels
        obtain ⟨g1, g2, g3, g4, g5, g6⟩ := litEls_sound s a hr (fun x _ => WR_o hr x) hels
        have hfill := fill_lits (sz := tsz P e) (parts.toList.map fun x => a.eval x.2) 0 ((Array.range (n * tsz P e)).map ((if n * tsz P e = 0 then #[] else z.cells)[· % (if n * tsz P e = 0 then #[] else z.cells).size]!)) (fun v hv => by
          obtain ⟨x, hx, rfl⟩ := List.mem_map.1 hv
          exact g5 x.2 (List.mem_map.2 ⟨x, hx, rfl⟩)) (by simp [hn]) _ (inOrder_map parts.toList 0 hin)
        simp only [Nat.zero_mul, List.take_zero, List.nil_append] at hfill
        obtain ⟨cur, hcur⟩ : ∃ cur : Array Value, cur = ((parts.toList.map fun x => a.eval x.2).map fun v => v.cells.toList).flatten.toArray := ⟨_, rfl⟩
        rw [← hcur] at hfill
        have hcl : cur.toList = ((parts.toList.map (·.2)).map fun x => (a.eval x).cells.toList).flatten := by rw [hcur, List.map_map, List.map_map]; rfl
        have hcs : cur.size = n * tsz P e := by
          have h1 : cur.size = cur.toList.length := by simp
          rw [h1, hcl]
          have : ∀ (l : List Operand), (∀ x ∈ l, (a.eval x).cells.toList.length = tsz P e) → ((l.map fun x => (a.eval x).cells.toList).flatten).length = l.length * tsz P e := by
            intro l
            induction l with
            | nil => intro _; simp
            | cons x r ih => intro hl; simp only [List.map_cons, List.flatten_cons, List.length_append, List.length_cons, hl x (by simp), ih (fun y hy => hl y (by simp [hy])), Nat.add_mul]; omega
          rw [this _ g5, hn]; simp
        have hrun : (execOp a.eval o).run P w = .ok (.value (.slice (some ⟨w.heap.size, 0, none⟩) n n)) (w.alloc (.cells cur e)) := by
          have hnb : ¬ n * i.size > 16777216 := by rw [← hsz]; omega
          rw [hsz] at hfill
          have hparts : (parts.map fun (i, x) => (i, a.eval x)).toList = parts.toList.map fun x => (x.1, a.eval x.2) := by simp
          by_cases h0 : n * i.size = 0
          · rw [if_pos h0] at hfill
            simp only [execOp, ho, Instr.buildSlice, Sem.run_bind, run_underlying hu, Result.andThen_ok, sizeOf, typeInfo, run_program, hi, Sem.run_pure, if_neg hnb, if_pos h0, hparts, hfill, newRow, run_newObj]
            rfl
          · rw [if_neg h0] at hfill
            simp only [execOp, ho, Instr.buildSlice, Sem.run_bind, run_underlying hu, Result.andThen_ok, sizeOf, typeInfo, run_program, hi, Sem.run_pure, if_neg hnb, if_neg h0, zeroValue, hz, hparts, hfill, newRow, run_newObj]
            rfl
        have hw := NewRow.alloc w cur e
        have hrel := Rel.newRow g1 hw d (.arr (tsz P e) els false) [d] (by simp [isin]) els.length (g1.h_slot (hd _ (by assumption))) ⟨hpos, by rw [upd_same], .inr ⟨w.heap.size, by rw [upd_same], by
          refine RDs_mk (ι := ι) (vs := cur.toList) g4 ?_ (fun j v hv => by rw [Nat.zero_add, hw.cell]; simpa using hv)
          rw [hcl]
          exact CRs.keep (newRow_keeps g1 hw d _ [d] (by simp [isin]) els.length) hw.shapes _ _ g6, (fun hf => by cases hf), (fun _ => ⟨cur, ⟨e, hw.new⟩, by rw [hcs, g3, hn]; simp⟩)⟩⟩
        refine FineX.of_value hw.ext (ι' := upd ι d ⟨some w.heap.size, els.length⟩) hrun ?_ h
        rw [hdst]
        refine hrel.put (some d) (fun k hk => by cases hk; exact hd d hdst) _ _ ?_
        have hne : els.length = n := by rw [g3, hn]; simp
        refine .inr ⟨w.heap.size, n, e, by rw [upd_same], by rw [upd_same]; exact Nat.le_refl _, by rw [hne], by rw [hne]; exact Nat.le_refl _, ?_, by rw [hw.shape, hcs]⟩
        have : n * 1 ≤ n * tsz P e := Nat.mul_le_mul_left _ hpos
        simp only [maxLen]; omega
      · exact h.elim
end

end Go.AM

namespace Go.AM

section
variable {P : Program} {F : Fr} {N : Nat} {ι : Nat → Gh} {s : S} {a : Act} {w : World} {o : Oper} {K : S → Prop}

/-! make -/
theorem CRs_const_D {ok : Nat → Prop} : ∀ {cs : List C} {z : List D} {pl : List (Nat × Pl)} {vs : List Value}, toDs [] cs = some (z, pl) → CRs ι w ok cs vs → CRs ι w ok (z.map .d) vs
  | [], z, pl, vs, h, hc => by cases h; cases vs with | nil => trivial | cons _ _ => exact hc.elim
  | _ :: _, _, _, [], _, hc => hc.elim
  | c :: cs, z, pl, v :: vs, h, hc => by
    simp only [toDs] at h
    split at h
    · rename_i y pl1 h1
      have hpl : pl1 = [] := by
        cases c with
        | clo f l => cases l with
          | nil => simp only [toD] at h1; cases h1; rfl
          | cons _ _ => simp only [toD] at h1; cases h1
        | _ => simp only [toD, aget] at h1 <;> cases h1 <;> rfl
      subst hpl
      split at h
      · rename_i ys pl2 h2
        cases h
        refine ⟨?_, CRs_const_D h2 hc.2⟩
        cases c with
        | clo f l => cases l with
          | nil =>
            simp only [toD] at h1; cases h1
            obtain ⟨bs, g1, g2⟩ := hc.1
            have hbs : bs = [] := by simpa using g1.symm
            subst hbs
            simp only [CR, RD, RDf]
            exact ⟨[], g2, rfl⟩
          | cons _ _ => simp only [toD] at h1; cases h1
        | d x => simp only [toD] at h1; cases h1; exact hc.1
        | nil =>
          simp only [toD] at h1; cases h1
          have := hc.1
          simp only [CR] at this
          subst this
          simp only [CR, RD]
          exact ⟨none, 0, 0, rfl, rfl, Nat.le_refl _, Nat.zero_le _, .inl trivial⟩
        | _ => simp only [toD, aget] at h1; cases h1
      · cases h
    · cases h

theorem flatten_replicate_get (l : List Value) : ∀ (n j : Nat) (v : Value), (List.replicate n l).flatten[j]? = some v → j < n * l.length ∧ l[j % l.length]? = some v
  | 0, j, v, h => by simp at h
  | n + 1, j, v, h => by
    simp only [List.replicate_succ, List.flatten_cons, List.getElem?_append] at h
    rw [Nat.add_mul, Nat.one_mul]
    split at h
    · rename_i hj
      rw [Nat.mod_eq_of_lt hj]
      exact ⟨by omega, h⟩
    · rename_i hj
      obtain ⟨h1, h2⟩ := flatten_replicate_get l n _ v h
      refine ⟨by omega, ?_⟩
      rw [← Nat.mod_eq_sub_mod (by omega)] at h2
      exact h2

theorem CRs_replicate {ok : Nat → Prop} {z : List D} {vs : List Value} (h : CRs ι w ok (z.map .d) vs) : ∀ (n : Nat), CRs ι w ok ((List.replicate n z).flatten.map .d) (List.replicate n vs).flatten
  | 0 => trivial
  | n + 1 => by
    simp only [List.replicate_succ, List.flatten_cons, List.map_append]
    exact CRs.append h (CRs_replicate h n)

theorem sound_mk (hr : Rel F N ι s a w) (hd : ∀ k, o.dst = some k → k < N) {t e : TypeId} {x y : Operand} (ho : o.op = .makeSlice t x y) (ht : telem P t = some e) {z : List D} {plz : List (Nat × Pl)} (hz : toDs [] (tzero P e).cells = some (z, plz))
    (hpos : Nat.blt 0 (tsz P e) = true) (hlen : Nat.beq z.length (tsz P e) = true) (h : aop P o.dst (.mk (tsz P e) (tbytes P e) z (cO x) (cO y)) s K) : FineX P F N o a w K := by
  simp only [aop] at h
  have hu := telem_spec ht
  have hpos : 0 < tsz P e := Nat.le_of_ble_eq_true hpos
  have hlen := Nat.eq_of_beq_eq_true hlen
  split at h
  · rename_i d n c hdst hn hc
    obtain ⟨k1, hx, _⟩ := litInt_spec hn (VR_o hr x)
    obtain ⟨k2, hy, _⟩ := litInt_spec hc (VR_o hr y)
    obtain ⟨g1, g2, g3, g4, h⟩ := h
    unfold tzero at hz
    cases hi : P.info? e with
    | none => simp [tsz, hi] at hpos
    | some i =>
      simp only [hi] at hz
      cases hiz : i.zero with
      | none => simp only [hiz] at hz; cases hz
      | some v =>
        simp only [hiz] at hz
        have hsol := solid_of_toDs hz
        rw [ofValue_cells hsol] at hz
        have hsz : tsz P e = i.size := by simp [tsz, hi]
        have hby : tbytes P e = i.bytes := by simp [tbytes, hi]
        have hbytes : (i.bytes : Int) * c ≤ 281474976710656 := by
          unfold fits at g3
          rw [hby] at g3
          have : ((i.bytes : Int) * c) = ((c.toNat * i.bytes : Nat) : Int) := by
            rw [Int.natCast_mul, Int.toNat_of_nonneg (by omega), Int.mul_comm]
          rw [this]; omega
        have hrun := run_make (P := P) w t e i v hu hi hiz k1 k2 n c g1 g2 hbytes g4
        obtain ⟨cur, hcur⟩ : ∃ cur, cur = madeCells v.cells (c.toNat * i.size) := ⟨_, rfl⟩
        rw [← hcur] at hrun
        have hcs : cur.size = c.toNat * tsz P e := by rw [hcur, size_madeCells, hsz]
        have hw := NewRow.alloc w cur e
        have hzv := CRs_const_D hz (CRs_ofCell ι w (F.ok ι s.pl w) v.cells.toList)
        have hvl : v.cells.toList.length = tsz P e := by rw [← hlen]; simpa using hzv.length.symm
        have hnc : n.toNat ≤ c.toNat := by omega
        have hrel := hr.newRow hw d (.arr (tsz P e) (List.replicate n.toNat z) false) [d] (by simp [isin]) n.toNat (hr.h_slot (hd _ (by assumption))) ⟨hpos, by rw [upd_same]; simp, .inr ⟨w.heap.size, by rw [upd_same], by
          refine RDs_mk (ι := ι) (vs := (List.replicate n.toNat v.cells.toList).flatten) (fun q hq => by rw [List.eq_of_mem_replicate hq, hlen]) ?_ ?_
          · exact CRs.keep (newRow_keeps hr hw d _ [d] (by simp [isin]) n.toNat) hw.shapes _ _ (CRs_replicate hzv n.toNat)
          · intro j u hj
            obtain ⟨j1, j2⟩ := flatten_replicate_get _ _ _ _ hj
            rw [Nat.zero_add, hw.cell, hcur]
            rw [hvl] at j1 j2
            have hjl : j < c.toNat * i.size := by
              have : n.toNat * tsz P e ≤ c.toNat * tsz P e := Nat.mul_le_mul_right _ hnc
              rw [hsz] at this j1; omega
            have hvs : v.cells.size = tsz P e := by simpa using hvl
            simp only [madeCells, Array.getElem?_map, Array.getElem?_range, hjl, if_true, Option.map_some, Option.some.injEq]
            rw [hvs]
            have hm : j % tsz P e < v.cells.size := by rw [hvs]; exact Nat.mod_lt _ hpos
            rw [Array.getElem?_toList, Array.getElem?_eq_getElem hm] at j2
            rw [getElem!_pos v.cells _ hm]
            exact Option.some.inj j2, (fun hf => by cases hf), (fun _ => ⟨cur, ⟨e, hw.new⟩, by rw [hcs]; simp; exact Nat.mul_le_mul_right _ hnc⟩)⟩⟩
        refine FineX.of_value hw.ext (v := .slice (some ⟨w.heap.size, 0, none⟩) n.toNat c.toNat) (w' := w.alloc (.cells cur e)) (ι' := upd ι d ⟨some w.heap.size, n.toNat⟩) ?_ ?_ h
        · simp only [execOp, ho, hx, hy, Sem.run_bind, hrun, Result.andThen_ok, Sem.run_pure]
        · rw [hdst]
          refine hrel.put (some d) (fun k hk => by cases hk; exact hd d hdst) _ _ ?_
          exact .inr ⟨w.heap.size, c.toNat, e, by rw [upd_same], by rw [upd_same]; exact Nat.le_refl _, rfl, hnc, by simp only [maxLen]; omega, by rw [hw.shape, hcs]⟩
  · exact h.elim

/-! Slice expressions. -/
theorem bnd_spec (hr : Rel F N ι s a w) {x : Option Operand} {l : Option Int} (h : s.bnd (x.map cO) = some l) : (x = none ∧ l = none) ∨ ∃ y k n, x = some y ∧ l = some n ∧ a.eval y = .int k n := by
  cases x with
  | none => cases h; exact .inl ⟨rfl, rfl⟩
  | some y =>
    simp only [Option.map_some, S.bnd] at h
    cases hn : litInt (s.o (cO y)) with
    | none => rw [hn] at h; cases h
    | some n =>
      rw [hn] at h; cases h
      obtain ⟨k, hy, _⟩ := litInt_spec hn (VR_o hr y)
      exact .inr ⟨y, k, n, rfl, rfl, hy⟩

theorem run_sliceBound' (k : IntKind) (i : Int) (y : Nat) (code : BoundsCode) (h0 : 0 ≤ i) (h1 : i ≤ y) : (Instr.sliceBound (.int k i) y code).run P w = .ok i.toNat w := by
  simp [Instr.sliceBound, asIntOf, h0, h1]

theorem run_bounds (b : Bool) (len cap : Nat) (lo hi : Option Value) (l h : Option Int) (hl : (lo = none ∧ l = none) ∨ ∃ k n, lo = some (.int k n) ∧ l = some n) (hh : (hi = none ∧ h = none) ∨ ∃ k n, hi = some (.int k n) ∧ h = some n)
    (h0 : 0 ≤ orI l 0) (h1 : orI l 0 ≤ orI h len) (h2 : orI h len ≤ cap) : (Instr.sliceBounds b len cap lo hi none).run P w = .ok ((orI l 0).toNat, (orI h len).toNat, cap) w := by
  rcases hl with ⟨rfl, rfl⟩ | ⟨k, n, rfl, rfl⟩ <;> rcases hh with ⟨rfl, rfl⟩ | ⟨k', n', rfl, rfl⟩ <;> simp only [orI] at h0 h1 h2 ⊢
  · simp [Instr.sliceBounds]
  · simp [Instr.sliceBounds, run_sliceBound' k' n' cap _ (by omega) h2]
  · simp [Instr.sliceBounds, run_sliceBound' k n len _ h0 (by simpa using h1)]
  · have e : ((n'.toNat : Nat) : Int) = n' := Int.toNat_of_nonneg (by omega)
    simp [Instr.sliceBounds, run_sliceBound' k' n' cap _ (by omega) h2, run_sliceBound' k n n'.toNat _ h0 (by rw [e]; exact h1)]

theorem map_bnd {x : Option Operand} {l : Option Int} (h : (x = none ∧ l = none) ∨ ∃ y k n, x = some y ∧ l = some n ∧ a.eval y = .int k n) : (x.map a.eval = none ∧ l = none) ∨ ∃ k n, x.map a.eval = some (.int k n) ∧ l = some n := by
  rcases h with ⟨rfl, rfl⟩ | ⟨y, k, n, rfl, rfl, hy⟩
  · exact .inl ⟨rfl, rfl⟩
  · exact .inr ⟨k, n, by simp [hy], rfl⟩

theorem run_sli {t e : TypeId} (hu : P.underlying t = some (.slice e)) {i : TypeInfo} (hi : P.info? e = some i) {x : Operand} {lo hi' : Option Operand} (ho : o.op = .slice t x lo hi' none) {ad : Option Addr} {len cap : Nat} (hx : a.eval x = .slice ad len cap)
    {l h : Option Int} (hl : (lo = none ∧ l = none) ∨ ∃ y k n, lo = some y ∧ l = some n ∧ a.eval y = .int k n) (hh : (hi' = none ∧ h = none) ∨ ∃ y k n, hi' = some y ∧ h = some n ∧ a.eval y = .int k n)
    (h0 : 0 ≤ orI l 0) (h1 : orI l 0 ≤ orI h len) (h2 : orI h len ≤ cap) :
    (execOp a.eval o).run P w = .ok (.value (.slice (if cap = (orI l 0).toNat then ad else ad.map (·.add ((orI l 0).toNat * tsz P e))) ((orI h len).toNat - (orI l 0).toNat) (cap - (orI l 0).toNat))) w := by
  have hb := run_bounds (P := P) (w := w) true len cap (lo.map a.eval) (hi'.map a.eval) l h (map_bnd hl) (map_bnd hh) h0 h1 h2
  simp only [execOp, ho, Option.map_none, Instr.sliceAt, Instr.slice, hx, Sem.run_bind, run_underlying hu, Result.andThen_ok, hb, run_sizeOf hi, Sem.run_pure]

theorem sound_sli (hr : Rel F N ι s a w) (hd : ∀ k, o.dst = some k → k < N) {t e : TypeId} {x : Operand} {lo hi : Option Operand} (ho : o.op = .slice t x lo hi none) (hu : P.underlying t = some (.slice e)) {i : TypeInfo} (hi' : P.info? e = some i)
    (h : aop P o.dst (.sli (tsz P e) (cO x) (lo.map cO) (hi.map cO)) s K) : FineQ P F N o a w (fun _ => True) K := by
  simp only [aop] at h
  split at h
  case h_2 => exact h.elim
  rename_i lq hb hl hh
  have hl := bnd_spec hr hl
  have hh := bnd_spec hr hh
  have hx := CR_o hr x
  generalize s.oc (cO x) = cx at *
  unfold aSli at h
  split at h
  · rename_i els
    simp only [CR, RD] at hx
    obtain ⟨ad, m, c, e1, e2, e3, e4, e5⟩ := hx
    cases lq with
    | none =>
      obtain ⟨g1, g2, h⟩ := h
      have hrun := fun (w' : World) (_ : True) => run_sli (o := o) (w := w') hu hi' ho e1 hl hh (by simp [orI]) (by rw [e2]; simpa [orI] using g1) (by rw [e2]; omega)
      simp only [orI, Int.toNat_zero, Nat.zero_mul, Nat.sub_zero] at hrun
      have hadd : (if c = 0 then ad else ad.map (·.add 0)) = ad := by
        split
        · rfl
        · cases ad <;> simp [Addr.add]
      simp only [hadd] at hrun
      refine FineQ.put hr hd hrun ?_ h
      simp only [cV, VR, WR, CR, RD]
      have hlen : (els.take (orI hb els.length).toNat).length = (orI hb els.length).toNat := by rw [List.length_take]; omega
      refine ⟨ad, _, _, rfl, ?_, ?_, e4, ?_⟩
      · rw [hlen, e2]; rfl
      · rw [e2]; simp only [orI] at g2 ⊢; omega
      · rcases e5 with e5 | ⟨b, q, sz, f1, f2, f3⟩
        · rw [e5]; left; simp
        · right; exact ⟨b, q, sz, f1, f2, RDs.take _ f3⟩
    | some l =>
      obtain ⟨g0, g1, g2, g3, h⟩ := h
      have hrun := fun (w' : World) (_ : True) => run_sli (o := o) (w := w') hu hi' ho e1 hl hh (by simpa [orI] using g1) (by rw [e2]; simpa [orI] using g2) (by rw [e2]; omega)
      simp only [orI] at hrun
      refine FineQ.put hr hd hrun ?_ h
      simp only [cV, VR, WR, CR, RD]
      have hlen : ((els.take (orI hb els.length).toNat).drop l.toNat).length = (orI hb els.length).toNat - l.toNat := by rw [List.length_drop, List.length_take]; omega
      refine ⟨_, _, _, rfl, ?_, ?_, by omega, ?_⟩
      · rw [hlen, e2]; rfl
      · rw [e2]; simp only [orI] at g3 ⊢; omega
      · by_cases hemp : (els.take (orI hb els.length).toNat).drop l.toNat = []
        · exact .inl hemp
        · have hlt : l.toNat < (orI hb els.length).toNat := by
            have : 0 < ((els.take (orI hb els.length).toNat).drop l.toNat).length := List.length_pos_iff.2 hemp
            rw [hlen] at this; omega
          rcases e5 with e5 | ⟨b, q, sz, f1, f2, f3⟩
          · rw [e5] at hemp; simp at hemp
          · right
            have hne : els ≠ [] := fun e => by rw [e] at hemp; simp at hemp
            obtain ⟨y, hy⟩ : ∃ y, y ∈ els := List.exists_mem_of_ne_nil els hne
            have hsz : sz = tsz P e := by rw [← RDs.len f3 y hy, g0 y hy]
            refine ⟨b, q + l.toNat * sz, sz, ?_, f2, RDs.drop _ (RDs.take _ f3)⟩
            refine Eq.trans (if_neg (by simp only [orI] at *; omega)) ?_
            rw [f1, hsz]
            simp [addr_add]
  · rename_i p z n
    cases hz : Nat.beq z (tsz P e) with
    | false => rw [hz] at h; exact h.elim
    | true =>
      rw [hz] at h
      have hz := Nat.eq_of_beq_eq_true hz
      simp only [cond_true] at h
      cases lq with
      | none =>
        obtain ⟨g1, g2, h⟩ := h
        rcases hx with ⟨f1, f2, f3⟩ | ⟨b, cap, ty, f1, f2, f3, f4, f5, f6⟩
        · subst f2
          have h0 : orI hb ((0 : Nat) : Int) = 0 := by omega
          have hrun := fun (w' : World) (_ : True) => run_sli (o := o) (w := w') hu hi' ho f3 hl hh (by simp [orI]) (by simpa [orI] using g1) (by omega)
          simp only [h0] at hrun
          rw [h0] at h
          simp only [orI, Int.toNat_zero, Nat.zero_mul, Nat.sub_zero, if_true] at hrun
          exact FineQ.put hr hd hrun (show VR ι w _ (cV (.own p z 0)) _ from .inl ⟨f1, rfl, rfl⟩) h
        · have hrun := fun (w' : World) (_ : True) => run_sli (o := o) (w := w') hu hi' ho f3 hl hh (by simp [orI]) (by simpa [orI] using g1) (by omega)
          simp only [orI, Int.toNat_zero, Nat.zero_mul, Nat.sub_zero] at hrun
          have hadd : (if cap = 0 then some (⟨b, 0, none⟩ : Addr) else (some (⟨b, 0, none⟩ : Addr)).map (·.add 0)) = some ⟨b, 0, none⟩ := by
            split <;> simp [Addr.add]
          simp only [hadd] at hrun
          refine FineQ.put hr hd hrun (show VR ι w _ (cV (.own p z (orI hb n).toNat)) _ from .inr ⟨b, cap, ty, f1, by omega, rfl, by omega, f5, f6⟩) h
      | some l =>
        simp only [] at h
        split at h
        · rename_i z1 els fz hp
          cases hz1 : Nat.beq z z1 with
          | false => rw [hz1] at h; exact h.elim
          | true =>
            rw [hz1] at h
            have hz1 := Nat.eq_of_beq_eq_true hz1
            simp only [cond_true] at h
            obtain ⟨g1, g2, g3, h⟩ := h
            obtain ⟨k1, k2 | ⟨b, cap, ty, f1, f3, f4, f5, f6, f7⟩⟩ := own_data hr hp hz1 hx
            · obtain ⟨k2, k3, k4, k5⟩ := k2
              subst k2
              have h0 : orI hb ((0 : Nat) : Int) = 0 := by omega
              have hl0 : l = 0 := by omega
              subst hl0
              have hrun := fun (w' : World) (_ : True) => run_sli (o := o) (w := w') hu hi' ho k3 hl hh (by simp [orI]) (by simpa [orI] using g2) (by omega)
              simp only [h0] at hrun
              rw [h0] at h
              simp only [orI, Int.toNat_zero, Nat.zero_mul, Nat.sub_zero, if_true] at hrun
              refine ⟨_, ι, _, hrun, (hr.freeze p).put o.dst hd _ _ ?_, h⟩
              simp only [cV, VR, WR, CR, RD, k5]
              exact ⟨none, 0, 0, rfl, by simp, Nat.le_refl _, Nat.zero_le _, .inl (by simp)⟩
            · have hrun := fun (w' : World) (_ : True) => run_sli (o := o) (w := w') hu hi' ho f3 hl hh (by simpa [orI] using g1) (by simpa [orI] using g2) (by omega)
              simp only [orI] at hrun
              have hlen : ((els.take (orI hb n).toNat).drop l.toNat).length = (orI hb n).toNat - l.toNat := by rw [List.length_drop, List.length_take]; omega
              refine ⟨_, ι, _, hrun, (hr.freeze p).put o.dst hd _ _ ?_, h⟩
              have hdata := own_RD hr hp f1 (n := (orI hb n).toNat) (by omega) (cap := cap) (by omega) f5
              simp only [cV, VR, WR, CR]
              simp only [RD] at hdata ⊢
              obtain ⟨ad, m, c, e1, e2, e3, e4, e5⟩ := hdata
              cases e1
              refine ⟨_, _, _, rfl, by rw [hlen]; rfl, by simp only [orI] at *; omega, by omega, ?_⟩
              by_cases hemp : (els.take (orI hb n).toNat).drop l.toNat = []
              · exact .inl hemp
              · have hlt : l.toNat < (orI hb n).toNat := by
                  have : 0 < ((els.take (orI hb n).toNat).drop l.toNat).length := List.length_pos_iff.2 hemp
                  rw [hlen] at this; omega
                rcases e5 with e5 | ⟨b', q, sz, q1, q2, q3⟩
                · rw [e5] at hemp; simp at hemp
                · right
                  cases q1
                  have hne : els.take (orI hb n).toNat ≠ [] := fun e => by rw [e] at hemp; simp at hemp
                  obtain ⟨y, hy⟩ : ∃ y, y ∈ els.take (orI hb n).toNat := List.exists_mem_of_ne_nil _ hne
                  have hsz : sz = tsz P e := by
                    rw [← RDs.len q3 y hy, RDs.len f7 y (List.mem_of_mem_take hy), ← hz1, hz]
                  refine ⟨b, 0 + l.toNat * sz, sz, ?_, q2, RDs.drop _ q3⟩
                  refine Eq.trans (if_neg (by simp only [orI] at *; omega)) ?_
                  rw [hsz]
                  simp [addr_add]
        · exact h.elim
  · have hx : a.eval x = .slice none 0 0 := hx
    obtain ⟨g1, g2, g3, h⟩ := h
    have hrun := fun (w' : World) (_ : True) => run_sli (o := o) (w := w') hu hi' ho hx hl hh g1 g2 g3
    have e1 : (orI lq 0).toNat = 0 := by omega
    have e2 : (orI hb ((0 : Nat) : Int)).toNat = 0 := by
      have : orI hb ((0 : Nat) : Int) ≤ 0 := g3
      omega
    simp only [e1, e2, Nat.zero_mul, if_true, Nat.sub_zero] at hrun
    exact FineQ.put hr hd hrun (show VR ι w _ (cV .nil) _ from rfl) h
  · exact h.elim

theorem sound_sls (hr : Rel F N ι s a w) (hd : ∀ k, o.dst = some k → k < N) {t : TypeId} {x : Operand} {lo hi : Option Operand} (ho : o.op = .slice t x lo hi none) (hu : P.underlying t = some .string)
    (h : aop P o.dst (.sls (cO x) (lo.map cO) (hi.map cO)) s K) : FineQ P F N o a w (fun _ => True) K := by
  simp only [aop] at h
  split at h
  case h_2 => exact h.elim
  rename_i l hb hl hh
  have hl := bnd_spec hr hl
  have hh := bnd_spec hr hh
  have hx := CR_o hr x
  generalize s.oc (cO x) = cx at *
  unfold aSls at h
  split at h
  · rename_i b
    obtain ⟨g1, g2, g3, h⟩ := h
    have hxe := CR_lit hx
    have hbd := fun (w' : World) => run_bounds (P := P) (w := w') false b.size b.size (lo.map a.eval) (hi.map a.eval) l hb (map_bnd hl) (map_bnd hh) g1 g2 g3
    refine FineQ.put hr hd (v := .string (b.extract (orI l 0).toNat (orI hb b.size).toNat)) ?_ (VR_lit rfl) h
    intro w' _
    simp only [execOp, ho, Option.map_none, Instr.sliceAt, Instr.slice, hxe, Sem.run_bind, run_underlying hu, Result.andThen_ok, Sem.run_pure]
    simp
    rw [hbd w']
    rfl
  · exact h.elim

/-! Bytes and strings. -/
theorem isKind_string {t : TypeId} (h : isKind P t true = true) : P.underlying t = some .string := by
  unfold isKind at h
  split at h
  · assumption
  · split at h <;> cases h
  · cases h
theorem isKind_bytes {t : TypeId} (h : isKind P t false = true) : ∃ e, P.underlying t = some (.slice e) ∧ P.underlying e = some (.int .u8) := by
  unfold isKind at h
  split at h
  · cases h
  · rename_i e he
    split at h
    · rename_i h2; exact ⟨e, he, h2⟩
    · cases h
  · cases h

theorem encBytes_flat (b : ByteArray) : (encBytes b).flatten = b.data.toList.map fun x => D.lit (.int .u8 x.toNat) := by
  unfold encBytes
  induction b.data.toList with
  | nil => rfl
  | cons x r ih => simp [ih]

theorem CRs_bytes {ok : Nat → Prop} : ∀ (l : List UInt8) (vs : List Value), CRs ι w ok ((l.map fun x => D.lit (.int .u8 x.toNat)).map .d) vs → vs = l.map fun (x : UInt8) => Value.int .u8 x.toNat
  | [], [], _ => rfl
  | [], _ :: _, h => h.elim
  | _ :: _, [], h => h.elim
  | x :: l, v :: vs, h => by
    have h1 := CR_lit h.1
    simp only [List.map_cons, h1, CRs_bytes l vs h.2]

theorem CRs_bytes_mk {ok : Nat → Prop} : ∀ (l : List UInt8), CRs ι w ok ((l.map fun x => D.lit (.int .u8 x.toNat)).map .d) (l.map fun (x : UInt8) => Value.int .u8 x.toNat)
  | [] => trivial
  | x :: l => ⟨by simp only [CR, RD]; exact ⟨trivial, rfl⟩, CRs_bytes_mk l⟩

/-- What a slice that is read holds, in memory. -/
theorem readEls_spec (hr : Rel F N ι s a w) {c : C} {v : Value} (hc : CR ι w (F.ok ι s.pl w) c v) {l : List (List D)} (h : readEls s.pl c = some l) :
    ∃ ad cap, v = .slice ad l.length cap ∧ (l = [] ∨ ∃ b q sz, ad = some ⟨b, q, none⟩ ∧ RDs w (F.ok ι s.pl w) b sz q l) := by
  cases c with
  | d x =>
    cases x with
    | lit u => cases h
    | fn f l => cases h
    | sl els =>
      cases h
      simp only [CR, RD] at hc
      obtain ⟨ad, m, c, e1, e2, e3, e4, e5⟩ := hc
      refine ⟨ad, c, by rw [e1, e2], ?_⟩
      rcases e5 with e5 | ⟨b, q, sz, f1, f2, f3⟩
      · exact .inl e5
      · exact .inr ⟨b, q, sz, f1, f3⟩
  | nil => cases h; exact ⟨none, 0, hc, .inl rfl⟩
  | own p z n =>
    simp only [readEls] at h
    cases hp : aget s.pl p with
    | none => simp only [hp] at h; cases h
    | some y =>
      cases y with
      | box cs => simp only [hp] at h; cases h
      | fbox cs => simp only [hp] at h; cases h
      | gone => simp only [hp] at h; cases h
      | arr sz els fz =>
        simp only [hp] at h
        cases h
        obtain ⟨hn, h | ⟨b, cap, t, h1, h2, h3, h4, h5, h6⟩⟩ := own_data' hr hp hc
        · obtain ⟨rfl, rfl, _, _⟩ := h; exact ⟨none, 0, by simp, .inl (by simp)⟩
        · exact ⟨some ⟨b, 0, none⟩, cap, by rw [h2, List.length_take, Nat.min_eq_left hn], .inr ⟨b, 0, sz, rfl, RDs.take n h6⟩⟩
  | dead => cases h
  | sub p z o n => cases h
  | ptr p o => cases h
  | eptr p z i k => cases h
  | fp l => cases h
  | clo f l => cases h

theorem sound_b2s (hr : Rel F N ι s a w) (hd : ∀ k, o.dst = some k → k < N) {t u : TypeId} {x : Operand} (ho : o.op = .convert t u x) (ht : isKind P t false = true) (hu : isKind P u true = true)
    (h : aop P o.dst (.b2s (cO x)) s K) : FineQ P F N o a w (Ext w) K := by
  simp only [aop] at h
  obtain ⟨e, h1, h2⟩ := isKind_bytes ht
  have h3 := isKind_string hu
  split at h
  · rename_i l hl
    obtain ⟨b, rfl, h⟩ := h
    obtain ⟨ad, cap, hv, hdata⟩ := readEls_spec hr (CR_o hr x) hl
    refine FineQ.put hr hd (v := .string b) ?_ (VR_lit rfl) h
    intro w' hw'
    have hconv : (Conv.bytesToString (.slice ad (encBytes b).length cap)).run P w' = .ok (.string b) w' := by
      rcases hdata with he | ⟨blk, q, sz, rfl, hdata⟩
      · have hb0 : b.data.toList = [] := by simpa [encBytes] using he
        have hb : b = ByteArray.empty := by
          cases b with | mk d => have : d = #[] := Array.toList_inj.1 (by simpa using hb0); subst this; rfl
        rw [he]
        cases ad with
        | none => simp [Conv.bytesToString, hb]
        | some ad => simp [Conv.bytesToString, loadCells, loadCellsFrom, hb]
      · obtain ⟨vs, g1, g2, g3⟩ := RDs.vals (ι := ι) hdata
        rw [encBytes_flat] at g1
        have hvs := CRs_bytes _ _ g1
        have hlen : vs.length = (encBytes b).length := by rw [hvs]; simp [encBytes]
        have hload := run_loadCells_list (P := P) w' ⟨blk, q, none⟩ vs (fun j v hv => by rw [addr_add]; exact hw'.cell (g3 j v hv))
        rw [hlen] at hload
        have hns : vs = (b.data.toList.map fun (x : UInt8) => (x.toNat : Int)).map (Value.int .u8) := by rw [hvs]; simp
        rw [hns] at hload
        rw [run_bytesToString w' _ _ _ (b.data.toList.map fun (x : UInt8) => (x.toNat : Int)) hload, foldl_push_byteCells]
        congr 2
        cases b with | mk d => simp [ByteArray.empty, ByteArray.emptyWithCapacity]; rfl
    simp only [execOp, ho, hv, Sem.run_bind, run_convert_bytes_string w' t u e ad _ cap h1 h2 h3, hconv, Result.andThen_ok, Sem.run_pure]
  · exact h.elim

theorem sound_s2b (hr : Rel F N ι s a w) (hd : ∀ k, o.dst = some k → k < N) {t u : TypeId} {x : Operand} (ho : o.op = .convert t u x) (ht : isKind P t true = true) (hu : isKind P u false = true)
    (h : aop P o.dst (.s2b (cO x)) s K) : FineX P F N o a w K := by
  simp only [aop] at h
  have h1 := isKind_string ht
  obtain ⟨e, h2, h3⟩ := isKind_bytes hu
  split at h
  · rename_i d b hdst hx
    have hxv := CR_o hr x
    rw [hx] at hxv
    have hxe := CR_lit hxv
    obtain ⟨hsz, h⟩ := h
    have hrun := run_bytes_of_string (P := P) w t u e b h1 h2 h3
    obtain ⟨cur, hcur⟩ : ∃ cur, cur = bytesRow b (grownCap w b.size 0 e) := ⟨_, rfl⟩
    rw [← hcur] at hrun
    have hge := grownCap_ge w b.size 0 e
    have hle := grownCap_le_maxLen w b.size 0 e (by simp only [maxLen]; omega)
    have hcs : cur.size = grownCap w b.size 0 e := by
      rw [hcur]; simp only [bytesRow, Array.size_append, Array.size_map, Array.size_replicate]
      have : b.data.size = b.size := rfl
      omega
    have hw := NewRow.draw w cur e (cur.size, cur.size + 1)
    have hbl : (encBytes b).length = b.size := by simp [encBytes]
    have hrel := hr.newRow hw d (.arr 1 (encBytes b) true) [d] (by simp [isin]) b.size (hr.h_slot (hd _ (by assumption))) ⟨by omega, by rw [upd_same, hbl], .inr ⟨w.heap.size, by rw [upd_same], by
      refine RDs_mk (ι := ι) (vs := b.data.toList.map fun (x : UInt8) => Value.int .u8 x.toNat) (fun q hq => by
        simp only [encBytes, List.mem_map] at hq; obtain ⟨_, _, rfl⟩ := hq; rfl) ?_ ?_
      · rw [encBytes_flat]; exact CRs_bytes_mk _
      · intro j v hv
        rw [Nat.zero_add, hw.cell, hcur, bytesRow]
        have hj : j < b.data.size := by
          have := (List.getElem?_eq_some_iff.1 hv).1; simpa using this
        rw [Array.getElem?_append_left (by simpa using hj)]
        simpa using hv, (fun _ => ⟨.inr (.inr hr.grows.size), by rw [hw.size]; omega, by
          rintro ⟨p, y, q1, q2, q3⟩
          have q1' : aget (s.redo [d] [(d, Pl.arr 1 (encBytes b) true)]).pl p = some y := q1
          rw [S.redo_pl] at q1'
          cases hn : aget [(d, Pl.arr 1 (encBytes b) true)] p with
          | some z => simp only [hn] at q1'; cases q1'; obtain ⟨_, rfl⟩ := aget_one hn; cases q2
          | none =>
            simp only [hn] at q1'
            split at q1'
            · rename_i hk
              cases hp : aget s.pl p with
              | none => rw [hp] at q1'; cases q1'
              | some z =>
                rw [hp] at q1'; simp at q1'; subst q1'
                rw [upd_other ι _ (isin_one hk)] at q3
                rw [Pl.live_kill] at q2
                have := (hr.mine _ ⟨p, z, hp, q2, q3⟩).2
                omega
            · cases q1'⟩), (fun hf => by cases hf)⟩⟩
    refine FineX.of_value hw.ext (v := .slice (some ⟨w.heap.size, 0, none⟩) b.size (grownCap w b.size 0 e)) (w' := w.drew.alloc (.cells cur e (cur.size, cur.size + 1))) (ι' := upd ι d ⟨some w.heap.size, b.size⟩) ?_ ?_ h
    · simp only [execOp, ho, hxe, Sem.run_bind, hrun, Result.andThen_ok, Sem.run_pure]
    · rw [hdst]
      refine hrel.put (some d) (fun k hk => by cases hk; exact hd d hdst) _ _ ?_
      exact .inr ⟨w.heap.size, _, e, by rw [upd_same], by rw [upd_same]; exact Nat.le_refl _, rfl, hge, hle, by rw [hw.shape, hcs]; simp⟩
  · exact h.elim
end

end Go.AM

namespace Go.AM

section
variable {P : Program} {F : Fr} {N : Nat} {ι : Nat → Gh} {s : S} {a : Act} {w : World} {o : Oper} {K : S → Prop}

/-- What is appended: n elements, their cells. -/
structure Src (P : Program) (w : World) (size n : Nat) (y : Value) (news : List Value) : Prop where
  len : ∀ w', (Builtin.lenOf y).run P w' = .ok n w'
  cells : ∀ w', w'.heap = w.heap → (Builtin.firstCells size n y).run P w' = .ok news.toArray w'

def srcType (P : Program) (u : TypeId) : Prop := P.underlying u = some .string ∨ ∃ e, P.underlying u = some (.slice e)

theorem run_append_nil0 {t u ty e : TypeId} {i : TypeInfo} (ht : P.underlying t = some (.slice e)) (hu : srcType P u) (hi : P.info? e = some i) {y : Value} {news : List Value} (hs : Src P w i.size 0 y news) :
    (Builtin.append_ #[t, u] ty #[.slice none 0 0, y]).run P w = .ok (.slice none 0 0) w := by
  have h1 := hs.len w
  have h2 := hs.cells w rfl
  rcases hu with hu | ⟨e', hu⟩ <;> simp [Builtin.append_, run_underlying ht, run_underlying hu, sizeOf, typeInfo, hi, h1, h2]

theorem run_append_fits {t u ty e : TypeId} {i : TypeInfo} (ht : P.underlying t = some (.slice e)) (hu : srcType P u) (hi : P.info? e = some i) {y : Value} {n : Nat} {news : List Value} (hs : Src P w i.size n y news)
    {g sLen sCap : Nat} {cur : Array Value} {te : TypeId} (hg : w.heap[g]? = some (.cells cur te (0, 0))) (h1 : ∀ v ∈ news, v.oneCell' = true) (hroom : sLen + n ≤ sCap) (hfit : sLen * i.size + news.length ≤ cur.size) :
    (Builtin.append_ #[t, u] ty #[.slice (some ⟨g, 0, none⟩) sLen sCap, y]).run P w =
      .ok (.slice (some ⟨g, 0, none⟩) (sLen + n) sCap) (w.setRow g (cur.toList.take (sLen * i.size) ++ news ++ cur.toList.drop (sLen * i.size + news.length)).toArray) := by
  have e1 := hs.len w
  have e2 := hs.cells w rfl
  have hst := run_storeCells_at P g (sLen * i.size) te news 0 cur w hg (by simpa using hfit) h1
  simp only [Nat.add_zero] at hst
  have hadd : (⟨g, 0, none⟩ : Addr).add (sLen * i.size) = ⟨g, sLen * i.size, none⟩ := by rw [addr_add, Nat.zero_add]
  rcases hu with hu | ⟨e', hu⟩ <;> simp [Builtin.append_, run_underlying ht, run_underlying hu, sizeOf, typeInfo, hi, e1, e2, hroom, hadd, hst]

theorem run_append_new {t u ty e : TypeId} {i : TypeInfo} {z : Value} (ht : P.underlying t = some (.slice e)) (hu : srcType P u) (hi : P.info? e = some i) (hz : i.zero = some z) {y : Value} {n : Nat} {news : List Value} (hs : Src P w i.size n y news)
    {ad : Option Addr} {sLen sCap : Nat} {olds : List Value} (ho : ∀ w', w'.heap = w.heap → (Builtin.firstCells i.size sLen (.slice ad sLen sCap)).run P w' = .ok olds.toArray w') (hg : sCap < sLen + n) (h63 : ((sLen + n : Nat) : Int) ≤ 9223372036854775807)
    (hbytes : (sLen + n) * i.bytes ≤ 140737488355328) :
    (Builtin.append_ #[t, u] ty #[.slice ad sLen sCap, y]).run P w =
      .ok (.slice (some ⟨w.heap.size, 0, none⟩) (sLen + n) (grownCap w (sLen + n) sCap e))
        (w.drew.alloc (.cells (olds ++ news ++ (Builtin.zeroCells z.cells (grownCap w (sLen + n) sCap e - (sLen + n))).toList).toArray e)) := by
  have e1 := hs.len w
  have e2 := hs.cells w.drew rfl
  have e3 := ho w.drew rfl
  have hn : ¬ (sLen + n ≤ sCap) := by omega
  have h63' : ¬ (9223372036854775807 < ((sLen : Int) + (n : Int))) := by omega
  have hfit := growslice_fits hg hbytes
  have h48' : ¬ (281474976710656 < Builtin.nextslicecap (sLen + n) sCap * i.bytes) := by omega
  have fin : (olds.toArray ++ (news.toArray ++ Builtin.zeroCells z.cells (grownCap w (sLen + n) sCap e - (sLen + n)))) = (olds ++ (news ++ (Builtin.zeroCells z.cells (grownCap w (sLen + n) sCap e - (sLen + n))).toList)).toArray := by
    apply Array.ext'
    simp
  rcases hu with hu | ⟨e', hu⟩ <;>
  · simp [Builtin.append_, run_underlying ht, run_underlying hu, sizeOf, typeInfo, zeroValue, hi, hz, e1, hn, h63', h48', Question.forced, e2, e3, newRow]
    simp only [grownCap] at fin ⊢
    rw [← fin]
    exact ⟨trivial, rfl⟩

theorem flatten_length {α : Type} {sz : Nat} : ∀ (l : List (List α)), (∀ y ∈ l, y.length = sz) → l.flatten.length = l.length * sz
  | [], _ => by simp
  | x :: r, h => by
    simp only [List.flatten_cons, List.length_append, List.length_cons, h x (by simp), flatten_length r (fun y hy => h y (by simp [hy])), Nat.add_mul]
    omega

/-- The source, out of what is known of it. -/
theorem src_els (hr : Rel F N ι s a w) {c : C} {v : Value} (hc : CR ι w (F.ok ι s.pl w) c v) {l : List (List D)} (h : readEls s.pl c = some l) {size : Nat} (hl : ∀ y ∈ l, y.length = size) :
    ∃ news, Src P w size l.length v news ∧ news.length = l.length * size ∧ CRs ι w (F.ok ι s.pl w) (l.flatten.map .d) news := by
  obtain ⟨ad, cap, rfl, hdata⟩ := readEls_spec hr hc h
  have hlen : ∀ w', (Builtin.lenOf (.slice ad l.length cap)).run P w' = .ok l.length w' := fun w' => by simp [Builtin.lenOf]
  rcases hdata with rfl | ⟨b, q, sz, rfl, hdata⟩
  · refine ⟨[], ⟨hlen, fun w' _ => ?_⟩, by simp, trivial⟩
    cases ad with
    | none => simp [Builtin.firstCells]
    | some ad => simp [Builtin.firstCells, loadCells, loadCellsFrom]
  · obtain ⟨vs, g1, g2, g3⟩ := RDs.vals (ι := ι) hdata
    have hvl : vs.length = l.length * size := by
      have := g1.length
      simp only [List.length_map] at this
      rw [← this, flatten_length l hl]
    refine ⟨vs, ⟨hlen, fun w' hw' => ?_⟩, hvl, g1⟩
    exact run_firstCells_some (P := P) w' size l.length ⟨b, q, none⟩ l.length cap vs hvl (fun j u hu => by
      rw [addr_add]
      have := g3 j u hu
      simpa [World.cell?, hw'] using this)

theorem src_string (w : World) (ι : Nat → Gh) (ok : Nat → Prop) (b : ByteArray) : ∃ news, Src P w 1 (encBytes b).length (.string b) news ∧ news.length = (encBytes b).length * 1 ∧ CRs ι w ok ((encBytes b).flatten.map .d) news := by
  have hl : (encBytes b).length = b.size := by simp [encBytes]
  refine ⟨b.data.toList.map fun (x : UInt8) => Value.int .u8 x.toNat, ⟨fun w' => by simp [Builtin.lenOf, hl], fun w' _ => ?_⟩, by simp [encBytes], by rw [encBytes_flat]; exact CRs_bytes_mk _⟩
  rw [hl]
  have hx : (b.extract 0 b.size).data = b.data := by
    have : b.extract 0 b.size = b := ByteArray.extract_zero_size
    rw [this]
  simp only [Builtin.firstCells, hx, Sem.run_pure]
  congr 1
  apply Array.toList_inj.1
  simp

theorem CRs_news_ones {ok : Nat → Prop} {ds : List D} {vs : List Value} (h : CRs ι w ok (ds.map .d) vs) : ∀ v ∈ vs, v.oneCell' = true := CRs_solid_of_ones h

theorem size_ne_of_pos {e : TypeId} {sz : Nat} (hsz : tsz P e = sz) (hpos : 0 < sz) : ∃ i, P.info? e = some i ∧ i.size = sz := by
  cases hi : P.info? e with
  | none => simp [tsz, hi] at hsz; omega
  | some i => exact ⟨i, rfl, by simpa [tsz, hi] using hsz⟩

theorem zero_size {z : Value} {i : TypeInfo} (_ : i.zero = some z) (n : Nat) : (Builtin.zeroCells z.cells n).toList.length = n * z.cells.size := by simp [Builtin.zeroCells]

/-- The whole of append; 'zc': the zero value fills its size. -/
theorem sound_app_core (hr : Rel F N ι s a w) (hd : ∀ k, o.dst = some k → k < N) {d : Nat} (hdst : o.dst = some d) {t u e : TypeId} {i : TypeInfo} {z : Value} (ht : P.underlying t = some (.slice e)) (hu : srcType P u) (hi : P.info? e = some i) (hz : i.zero = some z)
    (hzc : z.cells.size = i.size) (hpos : 0 < i.size) {x : C} {xv y : Value} (hx : CR ι w (F.ok ι s.pl w) x xv)
    (hrun : ∀ v w', (Builtin.append_ #[t, u] o.type #[xv, y]).run P w = .ok v w' → (execOp a.eval o).run P w = .ok (.value v) w')
    {l : List (List D)} (hl : (∀ q ∈ l, q.length = i.size) → ∃ news, Src P w i.size l.length y news ∧ news.length = l.length * i.size ∧ CRs ι w (F.ok ι s.pl w) (l.flatten.map .d) news)
    (h : aApp d i.size i.bytes x (some l) s K) : Fine P F N o a w K := by
  unfold aApp at h
  simp only [] at h
  -- the new block, out of the old elements and the new ones
  have grow : ∀ (kills : List Nat) (hk : isin d kills = true) (ad : Option Addr) (sLen sCap : Nat) (olds : List Value) (els : List (List D)), els.length = sLen → (∀ q ∈ els, q.length = i.size) → (∀ q ∈ l, q.length = i.size) → xv = .slice ad sLen sCap →
      olds.length = sLen * i.size → CRs ι w (F.ok ι s.pl w) (els.flatten.map .d) olds → (∀ w', w'.heap = w.heap → (Builtin.firstCells i.size sLen (.slice ad sLen sCap)).run P w' = .ok olds.toArray w') →
      sCap < sLen + l.length → sLen + l.length ≤ 9223372036854775807 → (sLen + l.length) * i.bytes ≤ 140737488355328 →
      K ((s.redo kills [(d, .arr i.size (els ++ l) false)]).put (some d) (cV (.own d i.size (sLen + l.length)))) → Fine P F N o a w K := by
    intro kills hk ad sLen sCap olds els hel hes hls hxv hol hoc hof hcap h63 hby hK
    obtain ⟨news, hsrc, hnl, hnc⟩ := hl hls
    subst hxv
    have hap := run_append_new (ty := o.type) ht hu hi hz hsrc hof hcap (by omega) hby
    obtain ⟨cur, hcur⟩ : ∃ cur : Array Value, cur = (olds ++ news ++ (Builtin.zeroCells z.cells (grownCap w (sLen + l.length) sCap e - (sLen + l.length))).toList).toArray := ⟨_, rfl⟩
    rw [← hcur] at hap
    have hw := NewRow.draw w cur e (0, 0)
    have hge := grownCap_ge w (sLen + l.length) sCap e
    have hle := grownCap_le_maxLen w (sLen + l.length) sCap e (by simp only [maxLen]; omega)
    have hcs : cur.size = grownCap w (sLen + l.length) sCap e * i.size := by
      rw [hcur]
      simp only [List.size_toArray, List.length_append, hol, hnl, zero_size hz, hzc, ← Nat.add_mul]
      congr 1; omega
    have hrel := hr.newRow hw d (.arr i.size (els ++ l) false) kills hk (sLen + l.length) (hr.h_slot (hd _ (by assumption))) ⟨hpos, by rw [upd_same]; simp [hel], .inr ⟨w.heap.size, by rw [upd_same], by
      refine RDs_mk (ι := ι) (vs := olds ++ news) (fun q hq => ?_) ?_ ?_
      · rcases List.mem_append.1 hq with hq | hq
        · exact hes q hq
        · exact hls q hq
      · simp only [List.flatten_append, List.map_append]
        exact CRs.keep (newRow_keeps hr hw d _ kills hk _) hw.shapes _ _ (CRs.append hoc hnc)
      · intro j v hv
        rw [Nat.zero_add, hw.cell, hcur]
        have hj := (List.getElem?_eq_some_iff.1 hv).1
        rw [List.getElem?_toArray, List.getElem?_append_left hj]
        exact hv, (fun hf => by cases hf), (fun _ => ⟨cur, ⟨e, hw.new⟩, by
        rw [hcs]; simp only [List.length_append, hel]; exact Nat.mul_le_mul_right _ hge⟩)⟩⟩
    refine Fine.of_value (ι' := upd ι d ⟨some w.heap.size, sLen + l.length⟩) (hrun _ _ hap) ?_ hK
    rw [hdst]
    refine hrel.put (some d) (fun k hk => by cases hk; exact hd d hdst) _ _ ?_
    exact .inr ⟨w.heap.size, _, e, by rw [upd_same], by rw [upd_same]; exact Nat.le_refl _, rfl, hge, hle, by rw [hw.shape, hcs]⟩
  -- nothing is appended to nil
  have none0 : ∀ (kills : List Nat) (hk : isin d kills = true), l = [] → xv = .slice none 0 0 → K ((s.redo kills [(d, .arr i.size [] false)]).put (some d) (cV (.own d i.size 0))) → Fine P F N o a w K := by
    intro kills hk hl0 hxv hK
    subst hl0 hxv
    obtain ⟨news, hsrc, _, _⟩ := hl (fun q hq => by cases hq)
    have hap := run_append_nil0 (ty := o.type) ht hu hi hsrc
    have hrel : Rel F N (upd ι d ⟨none, 0⟩) (s.redo kills [(d, .arr i.size [] false)]) a w := by
      refine hr.redo kills [(d, .arr i.size [] false)] _ w (fun p hp => upd_other ι _ (fun e => by subst e; rw [hk] at hp; cases hp)) (fun _ _ _ => rfl) (Shapes.refl w) rfl rfl (Out.refl w) (Nat.le_refl _) ?_ ?_ ?_ (fun p x hp => by obtain ⟨rfl, _⟩ := aget_one hp; exact hr.h_slot (hd _ (by assumption)))
      · intro p q hp
        obtain ⟨rfl, rfl⟩ := aget_one hp
        exact ⟨hpos, by rw [upd_same]; rfl, .inl ⟨by rw [upd_same], rfl⟩⟩
      · intro p q b hp hb
        obtain ⟨rfl, rfl⟩ := aget_one hp
        rw [upd_same] at hb; cases hb
      · intro p q r y b hp hq hpq
        obtain ⟨rfl, rfl⟩ := aget_one hp
        obtain ⟨rfl, rfl⟩ := aget_one hq
        exact absurd rfl hpq
    refine Fine.of_value (ι' := upd ι d ⟨none, 0⟩) (hrun _ _ hap) ?_ hK
    rw [hdst]
    exact hrel.put (some d) (fun k hk => by cases hk; exact hd d hdst) _ _ (.inl ⟨by rw [upd_same], rfl, rfl⟩)
  split at h
  · obtain ⟨g1, g2, g3, h⟩ := h
    simp only [CR] at hx
    by_cases hl0 : l = []
    · subst hl0; exact none0 [d] (by simp [isin]) rfl hx h
    · have hpl : 0 < l.length := List.length_pos_iff.2 hl0
      refine grow [d] (by simp [isin]) none 0 0 [] [] rfl (fun q hq => by cases hq) g1 hx (by simp) trivial (fun w' _ => by simp [Builtin.firstCells]) (by omega) (by omega) (by simpa [fits] using g2) ?_
      simpa [S.place] using h
  · rename_i p zz n
    split at h
    · rename_i z1 els hp
      cases hzz : Nat.beq zz z1 && Nat.beq zz i.size with
      | false => rw [hzz] at h; exact h.elim
      | true =>
        rw [hzz] at h
        rw [Bool.and_eq_true] at hzz
        have hz1 := Nat.eq_of_beq_eq_true hzz.1
        have hz2 := Nat.eq_of_beq_eq_true hzz.2
        simp only [cond_true] at h
        obtain ⟨g1, g2, g3, h⟩ := h
        obtain ⟨k1, k2 | ⟨b, cap, ty, f1, f3, f4, f5, f6, f7⟩⟩ := own_data hr hp hz1 hx
        · obtain ⟨k2, k3, k4, k5⟩ := k2
          subst k2 k5
          simp only [List.take_nil, List.nil_append, Nat.zero_add] at h
          have hkk : isin d [p, d] = true := by
            unfold isin; cases Nat.beq p d <;> simp [isin]
          by_cases hl0 : l = []
          · subst hl0; exact none0 [p, d] hkk rfl k3 h
          · have hpl : 0 < l.length := List.length_pos_iff.2 hl0
            refine grow [p, d] hkk none 0 0 [] [] rfl (fun q hq => by cases hq) g1 k3 (by simp) trivial (fun w' _ => by simp [Builtin.firstCells]) (by omega) (by omega) (by simpa [fits] using g2) ?_
            simpa using h
        · have hkk : isin d [p, d] = true := by
            unfold isin; cases Nat.beq p d <;> simp [isin]
          have hzi : z1 = i.size := by rw [← hz1, hz2]
          subst hzi
          have hes : ∀ q ∈ els.take n, q.length = i.size := fun q hq => RDs.len f7 q (List.mem_of_mem_take hq)
          have htl : (els.take n).length = n := by rw [List.length_take, Nat.min_eq_left k1]
          obtain ⟨olds, o1, o2, o3⟩ := RDs.vals (ι := ι) (RDs.take n f7)
          rw [htl] at o2
          by_cases hroom : n + l.length ≤ cap
          · -- in place
            obtain ⟨news, hsrc, hnl, hnc⟩ := hl g1
            obtain ⟨_, _, hpl | ⟨b', e1, _, _, e4⟩⟩ := hr.places p _ hp
            · rw [f1] at hpl; cases hpl.1
            · rw [f1] at e1; cases e1
              obtain ⟨cur, ⟨te, hg⟩, _⟩ := e4 rfl
              have hcs : cur.size = cap * i.size := by
                simp only [World.shape?, hg, Option.some.injEq, Prod.mk.injEq] at f6
                exact f6.2
              have hfit : n * i.size + news.length ≤ cur.size := by rw [hnl, hcs, ← Nat.add_mul]; exact Nat.mul_le_mul_right _ hroom
              have hap := run_append_fits (ty := o.type) ht hu hi hsrc hg (CRs_news_ones hnc) hroom hfit
              obtain ⟨cur', hcur'⟩ : ∃ cur' : Array Value, cur' = (cur.toList.take (n * i.size) ++ news ++ cur.toList.drop (n * i.size + news.length)).toArray := ⟨_, rfl⟩
              rw [← hcur'] at hap
              rw [← f3] at hap
              have hcs' : cur'.size = cur.size := by
                rw [hcur']; simp only [List.size_toArray, List.length_append, List.length_take, List.length_drop, Array.length_toList]; omega
              have holds : olds = cur.toList.take (n * i.size) := by
                apply List.ext_getElem?
                intro j
                by_cases hj : j < olds.length
                · have h1 := o3 j olds[j] (List.getElem?_eq_getElem hj)
                  rw [Nat.zero_add, cell_of_row w b j cur te (0, 0) hg] at h1
                  rw [List.getElem?_eq_getElem hj, List.getElem?_take, if_pos (by omega), Array.getElem?_toList, h1]
                · rw [List.getElem?_eq_none (by omega), List.getElem?_eq_none (by rw [List.length_take, Array.length_toList]; omega)]
              have hwlt : b < w.heap.size := (Array.getElem?_eq_some_iff.1 hg).1
              have hι : ∀ q, isin q [p, d] = false → upd ι d ⟨some b, n + l.length⟩ q = ι q := fun q hq => upd_other ι _ (isin_two hq).2
              have hsame : ∀ c, c < w.heap.size → (∀ q y, isin q [p, d] = true → aget s.pl q = some y → y.live = true → (ι q).b ≠ some c) → (w.setRow b cur').heap[c]? = w.heap[c]? := fun c _ hc => by
                have hcb : c ≠ b := fun e => by subst e; exact hc p _ (by unfold isin; simp) hp rfl f1
                exact setRow_other w b c cur' hcb
              have hsz : w.heap.size ≤ (w.setRow b cur').heap.size := by simp
              have hfresh : ∀ q x c, aget [(d, Pl.arr i.size (els.take n ++ l) false)] q = some x → (upd ι d ⟨some b, n + l.length⟩ q).b = some c → c < (w.setRow b cur').heap.size ∧ (w.heap.size ≤ c ∨ ∃ r y, isin r [p, d] = true ∧ aget s.pl r = some y ∧ y.live = true ∧ (ι r).b = some c) := by
                intro q x c hq hc
                obtain ⟨rfl, rfl⟩ := aget_one hq
                rw [upd_same] at hc; cases hc
                exact ⟨by simpa using hwlt, .inr ⟨p, _, by unfold isin; simp, hp, rfl, f1⟩⟩
              have hkeep := redo_keeps hr [p, d] [(d, .arr i.size (els.take n ++ l) false)] (upd ι d ⟨some b, n + l.length⟩) (w.setRow b cur') hι hsame hsz hfresh
              have hsh := Shapes.setRow w b hg hcs'
              have hrel := hr.redo [p, d] [(d, .arr i.size (els.take n ++ l) false)] (upd ι d ⟨some b, n + l.length⟩) (w.setRow b cur') hι hsame hsh rfl rfl ⟨rfl, Nat.le_refl _⟩ hsz (by
                intro q x hq
                obtain ⟨rfl, rfl⟩ := aget_one hq
                refine ⟨hpos, by rw [upd_same]; simp [htl], .inr ⟨b, by rw [upd_same], ?_, (fun hf => by cases hf), (fun _ => ⟨cur', ⟨te, setRow_heap w b cur cur' te (0, 0) hg⟩, by
                  rw [hcs', hcs]; simp only [List.length_append, htl]; exact Nat.mul_le_mul_right _ hroom⟩)⟩⟩
                refine RDs_mk (ι := ι) (vs := olds ++ news) (fun r hr' => ?_) ?_ ?_
                · rcases List.mem_append.1 hr' with hr' | hr'
                  · exact hes r hr'
                  · exact g1 r hr'
                · simp only [List.flatten_append, List.map_append]
                  exact CRs.keep hkeep hsh _ _ (CRs.append o1 hnc)
                · intro j v hv
                  rw [Nat.zero_add, cell_setRow_same w b j cur cur' te (0, 0) hg, hcur']
                  have hj := (List.getElem?_eq_some_iff.1 hv).1
                  rw [List.getElem?_toArray, ← holds, List.getElem?_append_left hj]
                  exact hv) hfresh (by
                intro q r x y c hq hr' hqr
                obtain ⟨rfl, rfl⟩ := aget_one hq
                obtain ⟨rfl, rfl⟩ := aget_one hr'
                exact absurd rfl hqr) (fun q x hq => by obtain ⟨rfl, _⟩ := aget_one hq; exact hr.h_slot (hd _ (by assumption)))
              refine Fine.of_value (ι' := upd ι d ⟨some b, n + l.length⟩) (hrun _ _ hap) ?_ h
              rw [hdst]
              refine hrel.put (some d) (fun k hk => by cases hk; exact hd d hdst) _ _ ?_
              exact .inr ⟨b, cap, te, by rw [upd_same], by rw [upd_same]; exact Nat.le_refl _, rfl, hroom, f5, by simp only [World.shape?, setRow_heap w b cur cur' te (0, 0) hg, hcs', hcs]⟩
          · refine grow [p, d] hkk (some ⟨b, 0, none⟩) n cap olds (els.take n) htl hes g1 f3 o2 o1 (fun w' hw' => ?_) (by omega) (by omega) g2 h
            exact run_firstCells_some (P := P) w' i.size n ⟨b, 0, none⟩ n cap olds o2 (fun j v hv => by
              rw [addr_add]
              have := o3 j v hv
              simpa [World.cell?, hw'] using this)
    · exact h.elim
  · exact h.elim

theorem zeroFits_spec {e : TypeId} (h : zeroFits P e = true) : ∃ i z, P.info? e = some i ∧ i.zero = some z ∧ z.cells.size = i.size := by
  unfold zeroFits at h
  cases hi : P.info? e with
  | none => rw [hi] at h; cases h
  | some i =>
    simp only [hi] at h
    cases hz : i.zero with
    | none => simp only [hz] at h; cases h
    | some z => simp only [hz] at h; exact ⟨i, z, rfl, hz, Nat.eq_of_beq_eq_true h⟩

theorem sound_app (hr : Rel F N ι s a w) (hd : ∀ k, o.dst = some k → k < N) {args : Array Operand} {ts : Array TypeId} {x y : Operand} {t u e e' : TypeId} (ho : o.op = .call { callee := .builtin .append, args := args, argTypes := ts })
    (hargs : args.toList = [x, y]) (hts : ts.toList = [t, u]) (ht : telem P t = some e) (hu : P.underlying u = some (.slice e')) (hpos : Nat.blt 0 (tsz P e) = true) (hzero : zeroFits P e = true)
    (h : aop P o.dst (.app (tsz P e) (tbytes P e) (cO x) (cO y)) s K) : Fine P F N o a w K := by
  simp only [aop] at h
  have ha : args = #[x, y] := Array.toList_inj.1 (by simpa using hargs)
  have hta : ts = #[t, u] := Array.toList_inj.1 (by simpa using hts)
  obtain ⟨i, z, hi, hz, hzc⟩ := zeroFits_spec hzero
  have hsz : tsz P e = i.size := by simp [tsz, hi]
  have hby : tbytes P e = i.bytes := by simp [tbytes, hi]
  have hpos : 0 < i.size := by rw [← hsz]; exact Nat.le_of_ble_eq_true hpos
  split at h
  · rename_i d hdst
    cases hl : readEls s.pl (s.oc (cO y)) with
    | none => rw [hl] at h; unfold aApp at h; exact h.elim
    | some l =>
      rw [hl, hsz, hby] at h
      refine sound_app_core hr hd hdst (telem_spec ht) (.inr ⟨e', hu⟩) hi hz hzc hpos (CR_o hr x) (y := a.eval y) ?_ (fun hall => src_els hr (CR_o hr y) hl hall) h
      intro v w' hv
      simp only [execOp, ho, resolve, Sem.run_bind, Sem.run_pure, Result.andThen_ok, invoke, builtin, ha, hta]
      simp [hv]
  · exact h.elim

theorem sound_apps (hr : Rel F N ι s a w) (hd : ∀ k, o.dst = some k → k < N) {args : Array Operand} {ts : Array TypeId} {x y : Operand} {t u e : TypeId} (ho : o.op = .call { callee := .builtin .append, args := args, argTypes := ts })
    (hargs : args.toList = [x, y]) (hts : ts.toList = [t, u]) (ht : telem P t = some e) (hu : P.underlying u = some .string) (hone : (Nat.beq (tsz P e) 1 && Nat.beq (tbytes P e) 1) = true) (hzero : zeroFits P e = true)
    (h : aop P o.dst (.apps (cO x) (cO y)) s K) : Fine P F N o a w K := by
  simp only [aop] at h
  have ha : args = #[x, y] := Array.toList_inj.1 (by simpa using hargs)
  have hta : ts = #[t, u] := Array.toList_inj.1 (by simpa using hts)
  obtain ⟨i, z, hi, hz, hzc⟩ := zeroFits_spec hzero
  rw [Bool.and_eq_true] at hone
  have hsz : i.size = 1 := by rw [← Nat.eq_of_beq_eq_true hone.1]; simp [tsz, hi]
  have hby : i.bytes = 1 := by rw [← Nat.eq_of_beq_eq_true hone.2]; simp [tbytes, hi]
  split at h
  · rename_i d b hdst hy
    have hyv := CR_o hr y
    rw [hy] at hyv
    have hye := CR_lit hyv
    refine sound_app_core hr hd hdst (telem_spec ht) (.inl hu) hi hz hzc (by omega) (CR_o hr x) (y := a.eval y) ?_ (l := encBytes b) ?_ (by rw [hsz, hby]; exact h)
    · intro v w' hv
      simp only [execOp, ho, resolve, Sem.run_bind, Sem.run_pure, Result.andThen_ok, invoke, builtin, ha, hta]
      simp [hv]
    · intro _
      rw [hye, hsz]
      exact src_string w ι _ b
  · exact h.elim
end

end Go.AM
