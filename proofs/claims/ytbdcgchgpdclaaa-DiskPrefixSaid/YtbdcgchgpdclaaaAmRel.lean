/- What the abstract machine's values say of the model's memory; a function's contract. -/
import Derived.Test.YtbdcgchgpdclaaaAmDefs
import Derived.WalkKit
namespace Go.AM

/-! Data that stays as it is: 'ok' are the blocks in which it may lie. -/
mutual
def RD (w : World) (ok : Nat → Prop) : D → Value → Prop
  | .lit v, x => x = v ∧ v.oneCell' = true
  | .sl l, x => ∃ a n c, x = .slice a n c ∧ n = l.length ∧ n ≤ c ∧ c ≤ maxLen ∧ (l = [] ∨ ∃ b o sz, a = some ⟨b, o, none⟩ ∧ ok b ∧ RDs w ok b sz o l)
  | .fn f caps, x => ∃ vs : List Value, x = .func (.func f) #[] vs.toArray ∧ RDf w ok vs caps
def RDs (w : World) (ok : Nat → Prop) (b sz : Nat) : Nat → List (List D) → Prop
  | _, [] => True
  | o, e :: r => e.length = sz ∧ RDc w ok b o e ∧ RDs w ok b sz (o + sz) r
def RDc (w : World) (ok : Nat → Prop) (b : Nat) : Nat → List D → Prop
  | _, [] => True
  | o, d :: r => (∃ v, w.cell? ⟨b, o, none⟩ = some v ∧ RD w ok d v) ∧ RDc w ok b (o + 1) r
def RDf (w : World) (ok : Nat → Prop) : List Value → List (List D) → Prop
  | vs, [] => vs = []
  | vs, c :: r => ∃ b o vs', vs = .pointer (some ⟨b, o, none⟩) :: vs' ∧ ok b ∧ RDc w ok b o c ∧ RDf w ok vs' r
end

/-- Where a place lies (none: a nil slice stands for an array place without elements), and how many elements it has. -/
structure Gh where
  b : Option Nat
  n : Nat

/-- One cell. ι: where the places lie. -/
def CR (ι : Nat → Gh) (w : World) (ok : Nat → Prop) : C → Value → Prop
  | .dead, _ => True
  | .d x, v => RD w ok x v
  | .nil, v => v = .slice none 0 0
  | .ptr p off, v => ∃ b, (ι p).b = some b ∧ v = .pointer (some ⟨b, off, none⟩)
  | .eptr p sz i k, v => ∃ b, (ι p).b = some b ∧ v = .pointer (some ⟨b, i * sz + k, none⟩)
  | .own p sz n, v => ((ι p).b = none ∧ n = 0 ∧ v = .slice none 0 0) ∨
      ∃ b cap t, (ι p).b = some b ∧ n ≤ (ι p).n ∧ v = .slice (some ⟨b, 0, none⟩) n cap ∧ n ≤ cap ∧ cap ≤ maxLen ∧ w.shape? b = some (t, cap * sz)
  | .fp cells, v => ∃ b o, v = .pointer (some ⟨b, o, none⟩) ∧ ok b ∧ RDc w ok b o cells
  | .clo f caps, v => ∃ bs : List Nat, caps.map (fun p => (ι p).b) = bs.map some ∧ v = .func (.func f) #[] (bs.map fun b => Value.pointer (some ⟨b, 0, none⟩)).toArray

def CRs (ι : Nat → Gh) (w : World) (ok : Nat → Prop) : List C → List Value → Prop
  | [], [] => True
  | c :: cs, v :: vs => CR ι w ok c v ∧ CRs ι w ok cs vs
  | _, _ => False

def WR (ι : Nat → Gh) (w : World) (ok : Nat → Prop) : W → Value → Prop
  | .c x, v => CR ι w ok x v
  | .agg cs, v => ∃ vs : List Value, v = .agg vs.toArray ∧ CRs ι w ok cs vs

def WRs (ι : Nat → Gh) (w : World) (ok : Nat → Prop) : List W → List Value → Prop
  | [], [] => True
  | c :: cs, v :: vs => WR ι w ok c v ∧ WRs ι w ok cs vs
  | _, _ => False

def VR (ι : Nat → Gh) (w : World) (ok : Nat → Prop) : V → Value → Prop
  | .w x, v => WR ι w ok x v
  | .tup xs, v => ∃ vs : List Value, v = .tuple vs.toArray ∧ WRs ι w ok xs vs

/-- A row of cells of the frame's own, written through at will. -/
def RowAt (w : World) (b : Nat) (cur : Array Value) : Prop := ∃ t, w.heap[b]? = some (.cells cur t (0, 0))

def PR (ι : Nat → Gh) (w : World) (ok : Nat → Prop) (p : Nat) : Pl → Prop
  | .box cs => ∃ b cur, (ι p).b = some b ∧ RowAt w b cur ∧ CRs ι w ok cs cur.toList
  | .arr sz els fz => 0 < sz ∧ els.length = (ι p).n ∧ (((ι p).b = none ∧ els = []) ∨
      ∃ b, (ι p).b = some b ∧ RDs w ok b sz 0 els ∧ (fz = true → ok b) ∧ (fz = false → ∃ cur, RowAt w b cur ∧ els.length * sz ≤ cur.size))
  | .fbox ds => ∃ b, (ι p).b = some b ∧ ok b ∧ RDc w ok b 0 ds
  | .gone => False

def Pl.live : Pl → Bool
  | .box _ => true
  | .arr _ _ fz => !fz
  | .fbox _ => false
  | .gone => false

/-- The blocks that may be written. -/
def Owns (ι : Nat → Gh) (pl : List (Nat × Pl)) (b : Nat) : Prop := ∃ p x, aget pl p = some x ∧ x.live = true ∧ (ι p).b = some b

/-- What a frame knows: w0 the world in which it began, A the foreign blocks that hold its arguments' data, M the blocks that were handed to it. -/
structure Fr where
  w0 : World
  A : Nat → Prop
  M : Nat → Prop
  h : Nat → Option Gh

def Fr.ok (F : Fr) (ι : Nat → Gh) (pl : List (Nat × Pl)) (w : World) (b : Nat) : Prop :=
  (F.A b ∨ F.M b ∨ F.w0.heap.size ≤ b) ∧ b < w.heap.size ∧ ¬ Owns ι pl b

structure Grows (M : Nat → Prop) (w w' : World) : Prop where
  os : w'.os = w.os
  tape : w'.tape = w.tape
  output : w'.output = w.output
  size : w.heap.size ≤ w'.heap.size
  block : ∀ b, b < w.heap.size → ¬ M b → w'.heap[b]? = w.heap[b]?
  shapes : ∀ b t m, w.shape? b = some (t, m) → w'.shape? b = some (t, m)

structure Rel (F : Fr) (N : Nat) (ι : Nat → Gh) (s : S) (a : Act) (w : World) : Prop where
  room : N ≤ a.tmps.size
  slots : ∀ k v, aget s.sl k = some v → ∃ x, a.tmps[k]? = some x ∧ VR ι w (F.ok ι s.pl w) v x
  places : ∀ p x, aget s.pl p = some x → PR ι w (F.ok ι s.pl w) p x
  inj : ∀ p q x y b, aget s.pl p = some x → aget s.pl q = some y → p ≠ q → x.live = true → (ι p).b = some b → (ι q).b ≠ some b
  mine : ∀ b, Owns ι s.pl b → (F.M b ∨ F.w0.heap.size ≤ b) ∧ b < w.heap.size
  defers : a.defers = []
  grows : Grows F.M F.w0 w
  foreign : ∀ b, F.A b → b < F.w0.heap.size ∧ ¬ F.M b
  handed : ∀ b, F.M b → b < F.w0.heap.size
  few : N ≤ 5000
  hdom : ∀ p g, F.h p = some g → 100000 ≤ p ∧ p < 600000
  hkeep : ∀ p x g, aget s.pl p = some x → F.h p = some g → ι p = g

/-- What a result says. The first m of its places are those that were handed over (where they lay: ι0), unless they are gone; all others are new, or lie in blocks of those that are gone. -/
def ResH (F : Fr) (ι0 : Nat → Gh) (m : Nat) (w' : World) (r : Res) (v : Value) : Prop :=
  m ≤ r.pl.length ∧ ∃ ι : Nat → Gh,
    let pl := zipPl (upFrom 0 r.pl.length) r.pl
    let ok := F.ok ι pl w'
    VR ι w' ok r.v v ∧ (∀ p x, aget pl p = some x → PR ι w' ok p x) ∧ (∀ p q x y b, aget pl p = some x → aget pl q = some y → p ≠ q → (ι p).b = some b → (ι q).b ≠ some b) ∧
    (∀ p x b, aget pl p = some x → (ι p).b = some b → F.M b ∨ F.w0.heap.size ≤ b) ∧ (∀ p x, aget pl p = some x → x.live = true) ∧ (∀ p x, p < m → aget pl p = some x → ι p = ι0 p)

def ResR (F : Fr) (w' : World) (r : Res) (v : Value) : Prop := ResH F (fun _ => ⟨none, 0⟩) 0 w' r v

/-- The function has a body that a call enters. -/
def callable (P : Program) (k : Nat) : Bool :=
  match P.funcs[k]? with
  | some fn => fn.body.isSome && !(fn.name == "runtime.NumGoroutine")
  | none => false

/-- A function's contract: called with arguments that are data, in whatever world, it returns, and its result meets Q. -/
def Sat (P : Program) (k : Nat) (args : List W) (Q : Res → Prop) : Prop :=
  callable P k = true ∧ ∀ (w : World) (A : Nat → Prop) (vals : List Value), (∀ b, A b → b < w.heap.size) → WRs (fun _ => ⟨none, 0⟩) w A args vals →
    Calls P k vals.toArray w fun e w' => ∃ v r, e = .returned v ∧ Q r ∧ ResR ⟨w, A, fun _ => False, fun _ => none⟩ w' r v ∧ Grows (fun _ => False) w w'

theorem Sat.mono {P : Program} {k : Nat} {args : List W} {Q Q' : Res → Prop} (h : Sat P k args Q) (hq : ∀ r, Q r → Q' r) : Sat P k args Q' :=
  ⟨h.1, fun w A vals h1 h2 => (h.2 w A vals h1 h2).mono fun _ _ ⟨v, r, he, h3, h4⟩ => ⟨v, r, he, hq r h3, h4⟩⟩

/-- The blocks of places that are handed over. -/
def Handed (ι : Nat → Gh) (hs : List Pl) (b : Nat) : Prop := ∃ i x, hs[i]? = some x ∧ (ι i).b = some b

/-- A contract of a function to which places are handed over (numbered from 0 on): it may write them. -/
def SatH (P : Program) (k : Nat) (args : List W) (hs : List Pl) (Q : Res → Prop) : Prop :=
  callable P k = true ∧ ∀ (w : World) (A : Nat → Prop) (ι : Nat → Gh) (vals : List Value), (∀ b, A b → b < w.heap.size ∧ ¬ Handed ι hs b) → (∀ b, Handed ι hs b → b < w.heap.size) →
    (∀ i x, hs[i]? = some x → PR ι w A i x ∧ x.live = true) → (∀ i j x y b, hs[i]? = some x → hs[j]? = some y → i ≠ j → (ι i).b = some b → (ι j).b ≠ some b) → WRs ι w A args vals →
    Calls P k vals.toArray w fun e w' => ∃ v r, e = .returned v ∧ Q r ∧ ResH ⟨w, A, Handed ι hs, fun _ => none⟩ ι hs.length w' r v ∧ Grows (Handed ι hs) w w'

theorem SatH.mono {P : Program} {k : Nat} {args : List W} {hs : List Pl} {Q Q' : Res → Prop} (h : SatH P k args hs Q) (hq : ∀ r, Q r → Q' r) : SatH P k args hs Q' :=
  ⟨h.1, fun w A ι vals h1 h2 h3 h4 h5 => (h.2 w A ι vals h1 h2 h3 h4 h5).mono fun _ _ ⟨v, r, he, h6, h7⟩ => ⟨v, r, he, hq r h6, h7⟩⟩

end Go.AM
