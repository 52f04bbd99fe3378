/- The compact code of the abstract machine, how it is made of the model's code, and its rules: what must hold before an operation, a piece of code, a function. -/
import Derived.Test.YtbdcgchgpdclaaaAmRel
namespace Go.AM

inductive O where
  | t (n : Nat)
  | k (v : V)

inductive AOp where
  | mov (x : O)
  | pick (c a b : O)
  | alloc (cs : List C)
  | bx (x : O)
  | build (zero : List C) (parts : List (Nat × Nat × O))
  | lits (sz : Nat) (parts : List O)
  | ld (agg : Bool) (sz : Nat) (x : O)
  | st (sz : Nat) (a x : O)
  | nc (x : O)
  | b2s (x : O)
  | s2b (x : O)
  | clo (f : Nat) (caps : List O)
  | clof (f : Nat) (caps : List O)
  | slen (x : O)
  | conv (k : IntKind) (x : O)
  | eqa (neg : Bool) (ks : List Nat) (x y : O)
  | callh (f : Nat) (args : List O)
  | mk (sz bytes : Nat) (z : List D) (n c : O)
  | sli (sz : Nat) (x : O) (lo hi : Option O)
  | sls (x : O) (lo hi : Option O)
  | fa (off : Nat) (x : O)
  | fld (agg : Bool) (sz off : Nat) (x : O)
  | ia (sz : Nat) (x i : O)
  | six (x i : O)
  | ext (x : O) (i : Nat)
  | len (x : O)
  | app (sz bytes : Nat) (x y : O)
  | apps (x y : O)
  | bin (o : BinOp) (x y : O)
  | isn (neg : Bool) (x : O)
  | mm (mx : Bool) (x y : O)
  | pure (o : Op) (ty : TypeId)
  | call (f : Nat) (args : List O)
  | calv (x : O) (args : List O)

/-- One operation: where its value goes; the slot that guards it; whether it guards others; what need not be known any more behind it. -/
inductive AI where
  | mk (dst : Option Nat) (g : Option (Nat × Bool)) (isG : Bool) (op : AOp) (drop : List Nat)

inductive ACode where
  | skip
  | reg (ops : List AI)
  | seq (a b : ACode)
  | cond (c : O) (a b : ACode)
  | block (id : Nat) (a : ACode)
  | loop (keep : List Nat) (a : ACode)
  | scope (a : ACode)
  | exit (id : Nat)
  | ret

inductive ARes where
  | tmp (t : Nat)
  | cell (a : Nat) (agg : Bool) (sz : Nat)

structure AFun where
  code : ACode
  res : List ARes

/-! Types. -/
def tsz (P : Program) (t : TypeId) : Nat := match P.info? t with | some i => i.size | none => 0
def tbytes (P : Program) (t : TypeId) : Nat := match P.info? t with | some i => i.bytes | none => 0
def tagg (P : Program) (t : TypeId) : Option Bool := match P.underlying t with | some (.struct _) => some true | some (.array _ _) => some true | some _ => some false | none => none
def tzero (P : Program) (t : TypeId) : W := match P.info? t with | some i => (match i.zero with | some v => ofValue v | none => .c .dead) | none => .c .dead
def telem (P : Program) (t : TypeId) : Option TypeId := match P.underlying t with | some (.slice e) => some e | _ => none
def tfield (P : Program) (t : TypeId) (f : Nat) : Option (Nat × TypeId) :=
  match P.underlying t with
  | some (.struct fs) => match fs[f]? with | some x => some (x.offset, x.type) | none => none
  | _ => none
def isKind (P : Program) (t : TypeId) (s : Bool) : Bool :=
  match P.underlying t with
  | some .string => s
  | some (.slice e) => match P.underlying e with | some (.int .u8) => !s | _ => false
  | _ => false

def infos (P : Program) : List Field → Bool
  | [] => true
  | f :: r => bif isSome (P.info? f.type) then infos P r else false
def hasZero (P : Program) (t : TypeId) : Bool := match P.info? t with | some i => isSome i.zero | none => false
/-- The zero value of an element type fills its size. -/
def zeroFits (P : Program) (t : TypeId) : Bool := match P.info? t with | some i => (match i.zero with | some z => Nat.beq z.cells.size i.size | none => false) | none => false
def isBasic (P : Program) (t : TypeId) : Bool :=
  match P.underlying t with
  | some (.int _) => true
  | some .string => true
  | _ => false
def plainBin : BinOp → Bool
  | .add => true | .sub => true | .mul => true | .eql => true | .neq => true | .lss => true | .leq => true | .gtr => true | .geq => true
  | _ => false

/-- A slice is compared with nil. -/
def nilCmp (P : Program) (b : BinOp) (t : TypeId) (y : Operand) : Option Bool :=
  match y with
  | .const (.slice none _ _) => match P.underlying t with
    | some (.slice _) => match b with
      | .eql => some false
      | .neq => some true
      | _ => none
    | _ => none
  | _ => none

/-! From the model's code to the compact code. -/
def cO : Operand → O
  | .tmp t => .t t
  | .const v => .k (.w (ofValue v))
  | .global _ => .k deadV
  | .func f => .k (.w (.c (.clo f [])))

/-- A struct all of whose cells are integers, strings or bools: it is compared cell by cell. -/
def flatK (P : Program) (t : TypeId) : Option Nat :=
  match P.underlying t with
  | some (.int _) => some 0
  | some .string => some 1
  | some .bool => some 2
  | _ => none
def flatF (P : Program) : Nat → List Field → Option (List Nat)
  | _, [] => some []
  | o, f :: r => bif Nat.beq f.offset o && !(f.name == "_") && P.plainKey f.type then
      match flatK P f.type, flatF P (o + 1) r with
      | some k, some l => some (k :: l)
      | _, _ => none
    else none
def flatT (P : Program) (t : TypeId) : Option (List Nat) :=
  match P.underlying t with
  | some (.struct fs) => bif !P.stoodInHeld t && !P.eqGuardType P.depth t then flatF P 0 fs.toList else none
  | _ => none
def eqaOp (P : Program) (b : BinOp) (t : TypeId) (x y : Operand) : Option AOp :=
  match flatT P t with
  | some n => match b with
    | .eql => some (.eqa false n (cO x) (cO y))
    | .neq => some (.eqa true n (cO x) (cO y))
    | _ => none
  | none => none
def convOp (P : Program) (src dst : TypeId) (x : Operand) : Option AOp :=
  match P.underlying src with
  | some (.int _) => match P.underlying dst with
    | some (.int k) => some (.conv k (cO x))
    | _ => none
  | _ => none
def lenOp (P : Program) (t : TypeId) (x : Operand) : Option AOp :=
  match P.underlying t with
  | some .string => some (.slen (cO x))
  | _ => none

def okv {α : Type} (c : Bool) (x : α) : Option α := bif c then some x else none

def cParts (P : Program) (t : TypeId) : List (Nat × Operand) → Option (List (Nat × Nat × O))
  | [] => some []
  | (i, x) :: r => match tfield P t i, cParts P t r with
    | some (off, ft), some l => some ((off, tsz P ft, cO x) :: l)
    | _, _ => none

def inOrder : Nat → List (Nat × Operand) → Bool
  | _, [] => true
  | i, (j, _) :: r => Nat.beq i j && inOrder (i + 1) r

def mmOp (b : Builtin) (l : List Operand) : Option AOp :=
  match b with
  | .min => match l with | [x, y] => some (.mm false (cO x) (cO y)) | _ => none
  | .max => match l with | [x, y] => some (.mm true (cO x) (cO y)) | _ => none
  | _ => none

def cOp (P : Program) (op : Op) (ty : TypeId) : Option AOp :=
  match op with
  | .move x => some (.mov (cO x))
  | .assign x => some (.mov (cO x))
  | .pick c a b => some (.pick (cO c) (cO a) (cO b))
  | .alloc t => some (.alloc (tzero P t).cells)
  | .box _ x => some (.bx (cO x))
  | .build t parts => match P.underlying t, cParts P t parts.toList with
    | some (.struct fs), some l => okv (infos P fs.toList && solid (tzero P t).cells) (.build (tzero P t).cells l)
    | _, _ => none
  | .buildSlice t n parts => match telem P t with
    | some e => okv (Nat.blt 0 (tsz P e) && Nat.beq n parts.toList.length && Nat.ble (n * tsz P e) 16777216 && inOrder 0 parts.toList && hasZero P e) (.lits (tsz P e) (parts.toList.map fun x => cO x.2))
    | none => none
  | .load t a => match tagg P t with | some g => some (.ld g (tsz P t) (cO a)) | none => none
  | .store t a x => okv (isSome (P.info? t)) (.st (tsz P t) (cO a) (cO x))
  | .nilCheck x => some (.nc (cO x))
  | .convert src dst x => bif isKind P src false && isKind P dst true then some (.b2s (cO x)) else bif isKind P src true && isKind P dst false then some (.s2b (cO x)) else match convOp P src dst x with
    | some z => some z
    | none => some (.pure op ty)
  | .makeFunc (.func f) first caps => okv first.toList.isEmpty (.clo f (caps.toList.map cO))
  | .makeSlice t n c => match telem P t with
    | some e => match toDs [] (tzero P e).cells with
      | some (z, _) => okv (Nat.blt 0 (tsz P e) && Nat.beq z.length (tsz P e)) (.mk (tsz P e) (tbytes P e) z (cO n) (cO c))
      | none => none
    | none => none
  | .slice t x lo hi mx => match mx, P.underlying t with
    | none, some .string => some (.sls (cO x) (lo.map cO) (hi.map cO))
    | none, some (.slice e) => okv (isSome (P.info? e)) (.sli (tsz P e) (cO x) (lo.map cO) (hi.map cO))
    | _, _ => none
  | .fieldAddr t x f => match tfield P t f with
    | some (off, ft) => okv (Nat.blt 0 (tsz P ft)) (.fa off (cO x))
    | none => none
  | .field t x f => match tfield P t f with
    | some (off, ft) => match tagg P ft with | some g => some (.fld g (tsz P ft) off (cO x)) | none => none
    | none => none
  | .indexAddr t x i => match telem P t with
    | some e => okv (Nat.blt 0 (tsz P e)) (.ia (tsz P e) (cO x) (cO i))
    | none => none
  | .index t x i => match P.underlying t with
    | some .string => some (.six (cO x) (cO i))
    | _ => none
  | .extract x i => some (.ext (cO x) i)
  | .call { callee := .builtin .len, args, argTypes } => match args.toList, argTypes.toList with
    | [x], [t] => match telem P t with
      | some _ => some (.len (cO x))
      | none => match lenOp P t x with
        | some z => some z
        | none => some (.pure op ty)
    | _, _ => none
  | .call { callee := .builtin .append, args, argTypes } => match args.toList, argTypes.toList with
    | [x, y], [t, u] => match telem P t, P.underlying u with
      | some e, some (.slice _) => okv (Nat.blt 0 (tsz P e) && zeroFits P e) (.app (tsz P e) (tbytes P e) (cO x) (cO y))
      | some e, some .string => okv (Nat.beq (tsz P e) 1 && Nat.beq (tbytes P e) 1 && zeroFits P e) (.apps (cO x) (cO y))
      | _, _ => none
    | _, _ => none
  | .call { callee := .value (.func f), args, argTypes := _ } => some (.call f (args.toList.map cO))
  | .call { callee := .value x, args, argTypes := _ } => some (.calv (cO x) (args.toList.map cO))
  | .call { callee := .builtin b, args, argTypes := _ } => match mmOp b args.toList with
    | some x => some x
    | none => some (.pure op ty)
  | .binOp b t x y _ => match nilCmp P b t y with
    | some neg => some (.isn neg (cO x))
    | none => match eqaOp P b t x y with
      | some z => some z
      | none => bif plainBin b && isBasic P t then some (.bin b (cO x) (cO y)) else some (.pure op ty)
  | .unOp _ _ _ => some (.pure op ty)
  | _ => none

def guardIx : List Oper → List Nat
  | [] => []
  | o :: r => match o.guard with
    | some (j, _) => bif isin j (guardIx r) then guardIx r else j :: guardIx r
    | none => guardIx r

def dstAt (ops : List Oper) (j : Nat) : Option Tmp := match ops[j]? with | some o => o.dst | none => none

def cGuard (all : List Oper) (g : Option (Nat × Bool)) : Option (Option (Nat × Bool)) :=
  match g with
  | none => some none
  | some (j, w) => match dstAt all j with
    | some d => some (some (d, w))
    | none => none

def dstOk (N : Nat) : Option Tmp → Bool
  | some d => Nat.blt d N
  | none => true

/-- An operation that was marked: what it captures is frozen; what it is given is handed over. -/
def cOpH (P : Program) (op : Op) (ty : TypeId) : Option AOp :=
  match op with
  | .makeFunc (.func f) first caps => okv first.toList.isEmpty (.clof f (caps.toList.map cO))
  | .call { callee := .value (.func f), args, argTypes := _ } => some (.callh f (args.toList.map cO))
  | op => cOp P op ty
def cOpM (P : Program) (b : Bool) (op : Op) (ty : TypeId) : Option AOp := bif b then cOpH P op ty else cOp P op ty

/-- The operations with these numbers, in this order. -/
def cOps (P : Program) (N : Nat) (hs : List Nat) (all : List Oper) (gs : List Nat) : List Nat → Option (List AI)
  | [] => some []
  | i :: r => match all[i]? with
    | some o => bif dstOk N o.dst then
        match cOpM P (isin i hs) o.op o.type, cGuard all o.guard, cOps P N hs all gs r with
        | some x, some g, some l => some (.mk o.dst g (isin i gs) x [] :: l)
        | _, _, _ => none
      else none
    | none => none


/-! Regions that draw their order. -/
def AOp.quiet : AOp → Bool
  | .mov _ => true | .pick _ _ _ => true | .ld _ _ _ => true | .nc _ => true | .b2s _ => true | .sli _ _ _ _ => true | .sls _ _ _ => true | .fa _ _ => true | .fld _ _ _ _ => true
  | .ia _ _ _ => true | .six _ _ => true | .ext _ _ => true | .len _ => true | .bin _ _ _ => true | .pure _ _ => true | .build _ _ => true | .isn _ _ => true | .mm _ _ _ => true
  | .slen _ => true | .conv _ _ => true | .eqa _ _ _ _ => true
  | _ => false
def AOp.reads : AOp → Bool
  | .ld _ _ _ => true | .b2s _ => true
  | _ => false

def isCall : AOp → Bool
  | .call _ _ => true | .calv _ _ => true
  | _ => false

def isAllocOf (o : Oper) : AOp → Bool
  | .alloc cs => solid cs && !isSome o.guard && isSome o.dst
  | _ => false

/-- 1, 2: computes a value (2: from memory too); 3: a call; 4: a new zero variable; 0: all else. -/
def cls (P : Program) (o : Oper) : Nat :=
  match cOp P o.op o.type with
  | some x => bif x.quiet then (bif x.reads then 2 else 1) else bif isCall x then 3 else bif isAllocOf o x then 4 else 0
  | none => 0
/-- What is marked waits in its place. -/
def clsAt (P : Program) (hs : List Nat) (ops : Array Oper) (j : Nat) : Nat := bif isin j hs then 0 else match ops[j]? with | some o => cls P o | none => 0

def anyL {α : Type} (f : α → Bool) : List α → Bool | [] => false | x :: r => bif f x then true else anyL f r
def allL {α : Type} (f : α → Bool) : List α → Bool | [] => true | x :: r => bif f x then allL f r else false

/-- The operation neither looks at the slot nor writes it. -/
def sepB (ops : Array Oper) (d : Option Tmp) (o : Oper) : Bool :=
  match d with
  | some t => !isin t (o.looksAt ops) && (match o.dst with | some e => !Nat.beq e t | none => true)
  | none => true
def apartB (ops : Array Oper) (x y : Oper) : Bool := sepB ops x.dst y && (match y.dst with | some e => !isin e (x.looksAt ops) | none => true)
def waitsFor (ops : Array Oper) (j : Nat) (f : Nat → Bool) : Bool := match ops[j]? with | some o => anyL (fun e => Region.binds .any e && f e.on) o.after.toList | none => true

def dstOf (ops : Array Oper) (j : Nat) : Option Tmp := match ops[j]? with | some o => o.dst | none => none

def apartAt (P : Program) (hs : List Nat) (ops : Array Oper) (o : Oper) (c j : Nat) : Bool := match ops[j]? with | some y => apartB ops o y && (Nat.beq c 1 || Nat.ble 1 (clsAt P hs ops j)) | none => false

/-- Of these operations those that wait, over others or straight, for operation i. -/
def depsL (P : Program) (hs : List Nat) (ops : Array Oper) (i : Nat) : List Nat → List Nat → List Nat
  | [], T => T
  | j :: r, T => depsL P hs ops i r (bif !Nat.beq (clsAt P hs ops j) 4 && waitsFor ops j (fun n => Nat.beq n i || isin n T) then j :: T else T)

def front (P : Program) (hs : List Nat) (ops : Array Oper) (i : Nat) (r : List Nat) : Bool :=
  match ops[i]? with
  | none => false
  | some o =>
    !isin i r && allL (fun e => !Region.binds .any e || (Nat.blt e.on ops.size && !isin e.on (i :: r))) o.after.toList &&
    allL (fun j => !Nat.beq (clsAt P hs ops j) 4 || sepB ops (dstOf ops j) o) r &&
    (bif Nat.beq (clsAt P hs ops i) 1 || Nat.beq (clsAt P hs ops i) 2 then allL (fun j => isin j (depsL P hs ops i r []) || apartAt P hs ops o (clsAt P hs ops i) j) r
     else allL (fun j => Nat.beq (clsAt P hs ops j) 4 || waitsFor ops j (fun n => isin n (i :: r) && (Nat.beq n i || !Nat.beq (clsAt P hs ops n) 4))) r)

def okOrd (P : Program) (hs : List Nat) (ops : Array Oper) : List Nat → Bool
  | [] => true
  | i :: r => bif front P hs ops i r then okOrd P hs ops r else false

def fewAllocs (P : Program) (hs : List Nat) (ops : Array Oper) : List Nat → Bool
  | [] => true
  | i :: r => bif Nat.beq (clsAt P hs ops i) 4 then allL (fun j => !Nat.beq (clsAt P hs ops j) 4) r else fewAllocs P hs ops r

def okDraw (P : Program) (hs : List Nat) (ops : Array Oper) (ord : List Nat) : Bool :=
  P.follows .mixedOrders && allL (fun i => isin i ord) (upFrom 0 ops.size) && Nat.ble ord.length ops.size && fewAllocs P hs ops ord && okOrd P hs ops ord

/-- Which operations of a region are marked. -/
def marked (ords : List (Nat × List Nat)) (id : Nat) : List Nat := match aget ords (1000000 + id) with | some l => l | none => []

def cReg (P : Program) (N : Nat) (ords : List (Nat × List Nat)) (id : Nat) (ops : Array Oper) : Bool → Option ACode
  | false => (cOps P N (marked ords id) ops.toList (guardIx ops.toList) (upFrom 0 ops.toList.length)).map .reg
  | true => match aget ords id with
    | some ord => bif okDraw P (marked ords id) ops ord then (cOps P N (marked ords id) ops.toList (guardIx ops.toList) ord).map .reg else none
    | none => none

def cCode (P : Program) (N : Nat) (ords : List (Nat × List Nat)) : Code → Option ACode
  | .skip => some .skip
  | .region id ops d => cReg P N ords id ops d
  | .seq a b => match cCode P N ords a, cCode P N ords b with
    | some x, some y => some (.seq x y)
    | _, _ => none
  | .cond c a b => match cCode P N ords a, cCode P N ords b with
    | some x, some y => some (.cond (cO c) x y)
    | _, _ => none
  | .block i a => (cCode P N ords a).map (.block i)
  | .loop a => (cCode P N ords a).map (.loop [])
  | .scope a => (cCode P N ords a).map .scope
  | .label _ => some .skip
  | .exit i => some (.exit i)
  | .ret => some .ret
  | _ => none

def cRes (P : Program) : List ResultVar → Option (List ARes)
  | [] => some []
  | .tmp t :: r => (cRes P r).map (.tmp t :: ·)
  | .cell a t :: r => match tagg P t, cRes P r with
    | some g, some l => some (.cell a g (tsz P t) :: l)
    | _, _ => none

def cFun (P : Program) (ords : List (Nat × List Nat)) (k : Nat) : Option AFun :=
  match P.funcs[k]? with
  | some fn => match fn.body with
    | some c => match cCode P fn.ntmps ords c, cRes P fn.results.toList with
      | some x, some r => bif Nat.ble fn.ntmps 5000 then some ⟨x, r⟩ else none
      | _, _ => none
    | none => none
  | none => none

def AI.erase : AI → AI
  | .mk d g i o _ => .mk d g i o []
def ACode.erase : ACode → ACode
  | .skip => .skip
  | .reg ops => .reg (ops.map AI.erase)
  | .seq a b => .seq a.erase b.erase
  | .cond c a b => .cond c a.erase b.erase
  | .block i a => .block i a.erase
  | .loop _ a => .loop [] a.erase
  | .scope a => .scope a.erase
  | .exit i => .exit i
  | .ret => .ret
def AFun.erase (F : AFun) : AFun := ⟨F.code.erase, F.res⟩

/-! The rules. -/
def litInt : V → Option Int
  | .w (.c (.d (.lit (.int _ n)))) => some n
  | _ => none
def litBool : V → Option Bool
  | .w (.c (.d (.lit (.bool b)))) => some b
  | _ => none
def cOf : V → C
  | .w (.c x) => x
  | _ => .dead
def wOf : V → W
  | .w x => x
  | _ => .c .dead
def cV (x : C) : V := .w (.c x)
def intV (n : Int) : V := cV (.d (.lit (.int .i64 n)))
def boolV (b : Bool) : V := cV (.d (.lit (.bool b)))
def encBytes (b : ByteArray) : List (List D) := b.data.toList.map fun x => [D.lit (.int .u8 x.toNat)]

def S.o (s : S) : O → V
  | .t n => s.tmp n
  | .k v => v
def S.oc (s : S) (x : O) : C := cOf (s.o x)
def S.ow (s : S) (x : O) : W := wOf (s.o x)

def mkW (agg : Bool) (sz : Nat) (cells : List C) : Option W :=
  bif agg then (bif Nat.ble sz cells.length then some (.agg (cells.take sz)) else none)
  else match cells with | x :: _ => some (.c x) | [] => none

/-- What an append or a make may take up. -/
def fits (n bytes : Nat) : Prop := n * bytes ≤ 140737488355328

def aLd (dst : Option Nat) (agg : Bool) (sz : Nat) (x : C) (s : S) (K : S → Prop) : Prop :=
  match x with
  | .ptr p off => match aget s.pl p with
    | some (.box cs) => match mkW agg sz (cs.drop off) with
      | some w => K (s.put dst (.w w))
      | none => False
    | some (.fbox ds) => match mkW agg sz ((ds.drop off).map .d) with
      | some w => K (s.put dst (.w w))
      | none => False
    | _ => False
  | .fp cells => match mkW agg sz (cells.map .d) with
    | some w => K (s.put dst (.w w))
    | none => False
  | .eptr p z i k => match aget s.pl p with
    | some (.arr z1 els _) => bif Nat.beq z z1 then
        ∃ e, els[i]? = some e ∧ (match mkW agg sz ((e.drop k).map .d) with
          | some w => K (s.put dst (.w w))
          | none => False)
      else False
    | _ => False
  | _ => False

def aSt (sz : Nat) (x : C) (v : W) (s : S) (K : S → Prop) : Prop :=
  bif Nat.beq v.cells.length sz then
    match x with
    | .ptr p off => match aget s.pl p with
      | some (.box cs) =>
        bif solid v.cells && Nat.ble (off + v.cells.length) cs.length then
          K { s with pl := aput p (.box (splice cs off v.cells)) s.pl }
        else False
      | _ => False
    | .eptr p z i k => match toDs s.pl v.cells with
      | some (ds, pl1) => match aget pl1 p with
        | some (.arr z1 els false) => bif Nat.beq z z1 then
            ∃ e, els[i]? = some e ∧ k + ds.length ≤ e.length ∧ K { s with pl := aput p (.arr z1 (els.set i (splice e k ds)) false) pl1 }
          else False
        | _ => False
      | none => False
    | _ => False
  else False

def buildParts (s : S) : List C → List (Nat × Nat × O) → Option (List C)
  | cs, [] => some cs
  | cs, (off, sz, x) :: r => bif solid (s.ow x).cells && Nat.beq (s.ow x).cells.length sz && Nat.ble (off + sz) cs.length then buildParts s (splice cs off (s.ow x).cells) r else none

/-- The elements of a slice literal. -/
def litEls (s : S) (sz : Nat) (pl : List (Nat × Pl)) : List O → Option (List (List D) × List (Nat × Pl))
  | [] => some ([], pl)
  | x :: r => bif Nat.beq (s.ow x).cells.length sz then
      match toDs pl (s.ow x).cells with
      | some (ds, pl1) => match litEls s sz pl1 r with
        | some (es, pl2) => some (ds :: es, pl2)
        | none => none
      | none => none
    else none

def orI (o : Option Int) (n : Int) : Int := match o with | some m => m | none => n

/-- A bound of a slice expression. -/
def S.bnd (s : S) : Option O → Option (Option Int)
  | none => some none
  | some x => match litInt (s.o x) with | some n => some (some n) | none => none

def aSli (dst : Option Nat) (sz : Nat) (x : C) (lo hi : Option Int) (s : S) (K : S → Prop) : Prop :=
  match x with
  | .d (.sl els) => match lo with
    | none => 0 ≤ orI hi els.length ∧ orI hi els.length ≤ els.length ∧ K (s.put dst (cV (.d (.sl (els.take (orI hi els.length).toNat)))))
    | some l => (∀ y ∈ els, y.length = sz) ∧ 0 ≤ l ∧ l ≤ orI hi els.length ∧ orI hi els.length ≤ els.length ∧
        K (s.put dst (cV (.d (.sl ((els.take (orI hi els.length).toNat).drop l.toNat)))))
  | .own p z n => bif Nat.beq z sz then
      match lo with
      | none => 0 ≤ orI hi n ∧ orI hi n ≤ n ∧ K (s.put dst (cV (.own p z (orI hi n).toNat)))
      | some l => match aget s.pl p with
        | some (.arr z1 els _) => bif Nat.beq z z1 then 0 ≤ l ∧ l ≤ orI hi n ∧ orI hi n ≤ n ∧
            K ({ s with pl := freezeP s.pl p }.put dst (cV (.d (.sl ((els.take (orI hi n).toNat).drop l.toNat)))))
          else False
        | _ => False
    else False
  | .nil => 0 ≤ orI lo 0 ∧ orI lo 0 ≤ orI hi 0 ∧ orI hi 0 ≤ 0 ∧ K (s.put dst (cV .nil))
  | _ => False

def aSls (dst : Option Nat) (x : C) (lo hi : Option Int) (s : S) (K : S → Prop) : Prop :=
  match x with
  | .d (.lit (.string b)) => 0 ≤ orI lo 0 ∧ orI lo 0 ≤ orI hi b.size ∧ orI hi b.size ≤ b.size ∧
      K (s.put dst (cV (.d (.lit (.string (b.extract (orI lo 0).toNat (orI hi b.size).toNat))))))
  | _ => False

/-- What a slice that is read holds. -/
def readEls (pl : List (Nat × Pl)) : C → Option (List (List D))
  | .d (.sl l) => some l
  | .nil => some []
  | .own p _ n => match aget pl p with
    | some (.arr _ els _) => some (els.take n)
    | _ => none
  | _ => none

def aApp (d : Nat) (sz bytes : Nat) (x : C) (new : Option (List (List D))) (s : S) (K : S → Prop) : Prop :=
  match new with
  | some l =>
    match x with
    | .nil => (∀ y ∈ l, y.length = sz) ∧ fits l.length bytes ∧ l.length ≤ 9223372036854775807 ∧
        K ((s.place d (.arr sz l false)).put (some d) (cV (.own d sz l.length)))
    | .own p z n => match aget s.pl p with
      | some (.arr z1 els false) => bif Nat.beq z z1 && Nat.beq z sz then
          (∀ y ∈ l, y.length = sz) ∧ fits (n + l.length) bytes ∧ n + l.length ≤ 9223372036854775807 ∧
            K ((s.redo [p, d] [(d, .arr sz (els.take n ++ l) false)]).put (some d) (cV (.own d sz (n + l.length))))
        else False
      | _ => False
    | _ => False
  | _ => False

/-- What is captured, frozen. -/
def frz (s : S) (pl : List (Nat × Pl)) : List O → Option (List (List D) × List (Nat × Pl))
  | [] => some ([], pl)
  | x :: r => match s.oc x with
    | .fp ds => match frz s pl r with
      | some (l, pl2) => some (ds :: l, pl2)
      | none => none
    | .ptr p 0 => match aget pl p with
      | some (.box cs) => match toDs pl cs with
        | some (ds, pl1) => match frz s (aput p (.fbox ds) pl1) r with
          | some (l, pl2) => some (ds :: l, pl2)
          | none => none
        | none => none
      | some (.fbox ds) => match frz s pl r with
        | some (l, pl2) => some (ds :: l, pl2)
        | none => none
      | _ => none
    | _ => none

def ptrs (s : S) : List O → Option (List Nat)
  | [] => some []
  | x :: r => match s.oc x, ptrs s r with
    | .ptr p 0, some l => some (p :: l)
    | _, _ => none

def aCall (P : Program) (dst : Option Nat) (f : FuncId) (args : List W) (s : S) (K : S → Prop) : Prop :=
  match toDWs s.pl args with
  | some (ds, pl1) => Sat P f ds fun r => K (recv s { s with pl := pl1 } dst r)
  | none => False

/-- Where a call without a result puts new places. -/
def nbase (dst : Option Nat) (U : List Nat) : Nat :=
  match dst with
  | some d => base d
  | none => match U with
    | p :: _ => 10000000 + 16 * p
    | [] => 10000000

def aCallH (P : Program) (dst : Option Nat) (f : FuncId) (args : List W) (s : S) (K : S → Prop) : Prop :=
  SatH P f (args.map (W.pk s.pl (reached s.pl [] (refsWs args)))) (pkPls s.pl (reached s.pl [] (refsWs args)) 0 (reached s.pl [] (refsWs args))) fun r =>
    cond (okNames (reached s.pl [] (refsWs args)) (nbase dst (reached s.pl [] (refsWs args))) r)
      (K (recvN s (reached s.pl [] (refsWs args)) (nbase dst (reached s.pl [] (refsWs args))) dst r)) False

/-- An operation on memory-free operands. -/
def allLit (s : S) : List Operand → Bool
  | [] => true
  | x :: r => match litV (s.o (cO x)) with
    | some _ => allLit s r
    | none => false

def rho (s : S) (x : Operand) : Value := match litV (s.o (cO x)) with | some v => v | none => undef

def pureOp (op : Op) (ty : TypeId) : Oper := { dst := none, op, type := ty, pos := "", after := #[], guard := none }

def aPure (P : Program) (dst : Option Nat) (op : Op) (ty : TypeId) (s : S) (K : S → Prop) : Prop :=
  bif allLit s op.operands.toList then
    match pureRun P (execOp (rho s) (pureOp op ty)) with
    | some (.value v) => K (s.put dst (.w (ofValue v)))
    | _ => False
  else False

def binI (b : BinOp) (k : IntKind) (x y : Int) : Option Value :=
  match b with
  | .add => some (.int k (k.wrap (x + y)))
  | .sub => some (.int k (k.wrap (x - y)))
  | .mul => some (.int k (k.wrap (x * y)))
  | .eql => some (.bool (x == y))
  | .neq => some (.bool (x != y))
  | .lss => some (.bool (decide (x < y)))
  | .leq => some (.bool (decide (x ≤ y)))
  | .gtr => some (.bool (decide (x > y)))
  | .geq => some (.bool (decide (x ≥ y)))
  | _ => none
def binS (b : BinOp) (x y : ByteArray) : Option Value :=
  match b with
  | .eql => some (.bool (x.toList == y.toList))
  | .neq => some (.bool (!(x.toList == y.toList)))
  | .lss => some (.bool (Op.bytesLess x.toList y.toList))
  | .leq => some (.bool (Op.bytesLess x.toList y.toList || x.toList == y.toList))
  | .gtr => some (.bool (!(Op.bytesLess x.toList y.toList || x.toList == y.toList)))
  | .geq => some (.bool (!Op.bytesLess x.toList y.toList))
  | _ => none
def kindEq : IntKind → IntKind → Bool
  | .i8, .i8 => true | .i16, .i16 => true | .i32, .i32 => true | .i64, .i64 => true
  | .u8, .u8 => true | .u16, .u16 => true | .u32, .u32 => true | .u64, .u64 => true
  | _, _ => false
def aBin (dst : Option Nat) (b : BinOp) (x y : C) (s : S) (K : S → Prop) : Prop :=
  match x, y with
  | .d (.lit (.int k m)), .d (.lit (.int k1 n)) => bif kindEq k k1 then
      match binI b k m n with
      | some v => K (s.put dst (cV (.d (.lit v))))
      | none => False
    else False
  | .d (.lit (.string m)), .d (.lit (.string n)) => match binS b m n with
    | some v => K (s.put dst (cV (.d (.lit v))))
    | none => match b with
      | .add => m.size + n.size ≤ 9223372036854775807 ∧ K (s.put dst (cV (.d (.lit (.string (m ++ n))))))
      | _ => False
  | _, _ => False

def mmI (mx : Bool) (m n : Int) : Int := bif mx then (if n > m then n else m) else (if n < m then n else m)
def aMm (dst : Option Nat) (mx : Bool) (x y : C) (s : S) (K : S → Prop) : Prop :=
  match x, y with
  | .d (.lit (.int k m)), .d (.lit (.int k1 n)) => bif kindEq k k1 then K (s.put dst (cV (.d (.lit (.int k (mmI mx m n)))))) else False
  | _, _ => False

/-- Structs of basic cells, compared. -/
def eqCell (k : Nat) (x y : C) : Option Bool :=
  match x, y with
  | .d (.lit (.int k1 m)), .d (.lit (.int k2 n)) => bif Nat.beq k 0 && kindEq k1 k2 then some (m == n) else none
  | .d (.lit (.string m)), .d (.lit (.string n)) => bif Nat.beq k 1 then some (m.toList == n.toList) else none
  | .d (.lit (.bool m)), .d (.lit (.bool n)) => bif Nat.beq k 2 then some (m == n) else none
  | _, _ => none
def eqCells : List Nat → List C → List C → Option Bool
  | [], [], [] => some true
  | k :: ks, x :: xs, y :: ys => match eqCell k x y, eqCells ks xs ys with
    | some a, some b => some (a && b)
    | _, _ => none
  | _, _, _ => none

/-- A slice without elements may be nil or not. -/
def aIsn (dst : Option Nat) (neg : Bool) (x : C) (s : S) (K : S → Prop) : Prop :=
  match x with
  | .nil => K (s.put dst (boolV (!neg)))
  | .d (.sl l) => (l = [] → K (s.put dst (boolV (!neg)))) ∧ K (s.put dst (boolV neg))
  | .own _ _ n => (n = 0 → K (s.put dst (boolV (!neg)))) ∧ K (s.put dst (boolV neg))
  | _ => False

def aop (P : Program) (dst : Option Nat) (op : AOp) (s : S) (K : S → Prop) : Prop :=
  match op with
  | .mov x => K (s.put dst (s.o x))
  | .pick c a b => match litBool (s.o c) with
    | some t => cond t (K (s.put dst (s.o a))) (K (s.put dst (s.o b)))
    | none => False
  | .alloc cs => match dst with
    | some d => bif solid cs then K ((s.place d (.box cs)).put (some d) (cV (.ptr d 0))) else False
    | none => False
  | .bx x => match dst, s.o x with
    | some d, .w w => bif solid w.cells then K ((s.place d (.box (w.cells.map (C.kill [d])))).put (some d) (cV (.ptr d 0))) else False
    | _, _ => False
  | .build zero parts => match buildParts s zero parts with
    | some cs => K (s.put dst (.w (.agg cs)))
    | none => False
  | .lits sz parts => match dst, litEls s sz s.pl parts with
    | some d, some (els, pl1) => K (({ s with pl := pl1 }.place d (.arr sz els false)).put (some d) (cV (.own d sz els.length)))
    | _, _ => False
  | .ld g sz x => aLd dst g sz (s.oc x) s K
  | .st sz a x => match dst with
    | none => aSt sz (s.oc a) (s.ow x) s K
    | some _ => False
  | .nc x => match s.oc x with
    | .ptr p k => K (s.put dst (cV (.ptr p k)))
    | .eptr p z i k => K (s.put dst (cV (.eptr p z i k)))
    | .fp l => K (s.put dst (cV (.fp l)))
    | _ => False
  | .b2s x => match readEls s.pl (s.oc x) with
    | some l => ∃ b : ByteArray, l = encBytes b ∧ K (s.put dst (cV (.d (.lit (.string b)))))
    | none => False
  | .s2b x => match dst, s.oc x with
    | some d, .d (.lit (.string b)) => b.size ≤ 9223372036854775807 ∧ K ((s.place d (.arr 1 (encBytes b) true)).put (some d) (cV (.own d 1 b.size)))
    | _, _ => False
  | .clo f caps => match ptrs s caps with
    | some ps => K (s.put dst (cV (.clo f ps)))
    | none => False
  | .clof f caps => match frz s s.pl caps with
    | some (l, pl1) => K ({ s with pl := pl1 }.put dst (cV (.d (.fn f l))))
    | none => False
  | .slen x => match s.oc x with
    | .d (.lit (.string b)) => K (s.put dst (intV b.size))
    | _ => False
  | .conv k x => match s.oc x with
    | .d (.lit (.int _ n)) => K (s.put dst (cV (.d (.lit (.int k (k.wrap n))))))
    | _ => False
  | .eqa neg ks x y => match s.o x, s.o y with
    | .w (.agg xs), .w (.agg ys) => match eqCells ks xs ys with
      | some b => K (s.put dst (boolV (bif neg then !b else b)))
      | none => False
    | _, _ => False
  | .callh f args => aCallH P dst f (args.map s.ow) s K
  | .mk sz bytes z n c => match dst, litInt (s.o n), litInt (s.o c) with
    | some d, some n, some c => 0 ≤ n ∧ n ≤ c ∧ fits c.toNat bytes ∧ c ≤ 9223372036854775807 ∧
        K ((s.place d (.arr sz (List.replicate n.toNat z) false)).put (some d) (cV (.own d sz n.toNat)))
    | _, _, _ => False
  | .sli sz x lo hi => match s.bnd lo, s.bnd hi with
    | some l, some h => aSli dst sz (s.oc x) l h s K
    | _, _ => False
  | .sls x lo hi => match s.bnd lo, s.bnd hi with
    | some l, some h => aSls dst (s.oc x) l h s K
    | _, _ => False
  | .fa off x => match s.oc x with
    | .ptr p o => K (s.put dst (cV (.ptr p (o + off))))
    | .eptr p z i k => K (s.put dst (cV (.eptr p z i (k + off))))
    | .fp cells => K (s.put dst (cV (.fp (cells.drop off))))
    | _ => False
  | .fld g sz off x => match s.o x with
    | .w (.agg cs) => match mkW g sz (cs.drop off) with
      | some w => K (s.put dst (.w w))
      | none => False
    | _ => False
  | .ia sz x i => match litInt (s.o i) with
    | some n => match s.oc x with
      | .d (.sl l) => 0 ≤ n ∧ ∃ y, l[n.toNat]? = some y ∧ y.length = sz ∧ K (s.put dst (cV (.fp y)))
      | .own p z m => bif Nat.beq z sz then 0 ≤ n ∧ n < m ∧ K (s.put dst (cV (.eptr p z n.toNat 0))) else False
      | _ => False
    | none => False
  | .six x i => match s.oc x, litInt (s.o i) with
    | .d (.lit (.string b)), some n => 0 ≤ n ∧ n < b.size ∧ K (s.put dst (cV (.d (.lit (.int .u8 (b.data.toList.getD n.toNat 0).toNat)))))
    | _, _ => False
  | .ext x i => match s.o x with
    | .tup xs => match xs[i]? with
      | some w => K (s.put dst (.w w))
      | none => False
    | _ => False
  | .len x => match s.oc x with
    | .d (.sl l) => K (s.put dst (intV l.length))
    | .nil => K (s.put dst (intV 0))
    | .own _ _ n => K (s.put dst (intV n))
    | _ => False
  | .app sz bytes x y => match dst with
    | some d => aApp d sz bytes (s.oc x) (readEls s.pl (s.oc y)) s K
    | none => False
  | .apps x y => match dst, s.oc y with
    | some d, .d (.lit (.string b)) => aApp d 1 1 (s.oc x) (some (encBytes b)) s K
    | _, _ => False
  | .bin b x y => aBin dst b (s.oc x) (s.oc y) s K
  | .isn neg x => aIsn dst neg (s.oc x) s K
  | .mm mx x y => aMm dst mx (s.oc x) (s.oc y) s K
  | .pure op ty => aPure P dst op ty s K
  | .call f args => aCall P dst f (args.map s.ow) s K
  | .calv x args => match s.oc x with
    | .clo f [] => aCall P dst f (args.map s.ow) s K
    | .d (.fn f caps) => aCall P dst f (args.map s.ow ++ caps.map fun ds => W.c (.fp ds)) s K
    | _ => False

/-- Behind an operation that guards others its outcome is looked at at once. -/
def split (isG : Bool) (dst : Option Nat) (s : S) (K : S → Prop) : Prop :=
  bif isG then
    match dst with
    | some d => match litBool (s.tmp d) with
      | some b => cond b (K (s.put dst (boolV true))) (K (s.put dst (boolV false)))
      | none => K s
    | none => K s
  else K s

def S.drop (s : S) (l : List Nat) : S := { s with sl := afilter (fun k => !isin k l) s.sl }

def awpOps (P : Program) : List AI → S → (S → Prop) → Prop
  | [], s, K => K s
  | .mk dst g isG op drop :: rest, s, K =>
    match g with
    | none => aop P dst op s fun s1 => split isG dst s1 fun s2 => force (s2.drop drop) fun s2 => awpOps P rest s2 K
    | some (d, want) => match s.tmp d with
      | .w (.c (.d (.lit (.bool b)))) =>
        bif (bif b then want else !want) then aop P dst op s fun s1 => split isG dst s1 fun s2 => force (s2.drop drop) fun s2 => awpOps P rest s2 K
        else force ((s.put dst undefV).drop drop) fun s => awpOps P rest s K
      | .tup [] => force ((s.put dst undefV).drop drop) fun s => awpOps P rest s K
      | _ => False

inductive E where
  | normal
  | exit (id : Nat)
  | ret

def refsSl : List (Nat × V) → List Nat
  | [] => []
  | (_, v) :: r => v.refs ++ refsSl r
def refsPl : List Nat → List (Nat × Pl) → List Nat
  | _, [] => []
  | live, (p, .box cs) :: r => bif isin p live then refsCs cs ++ refsPl live r else refsPl live r
  | live, _ :: r => refsPl live r

def addNew : List Nat → List Nat → List Nat
  | [], l => l
  | x :: r, l => bif isin x l then addNew r l else addNew r (x :: l)
def S.norm (s : S) (keep : List Nat) : S :=
  { sl := afilter (fun k => isin k keep) s.sl,
    pl := afilter (fun k => isin k (addNew (refsPl (addNew (refsPl (addNew (refsSl (afilter (fun k => isin k keep) s.sl)) []) s.pl) (addNew (refsSl (afilter (fun k => isin k keep) s.sl)) [])) s.pl)
      (addNew (refsPl (addNew (refsSl (afilter (fun k => isin k keep) s.sl)) []) s.pl) (addNew (refsSl (afilter (fun k => isin k keep) s.sl)) [])))) s.pl }

/-! The same, each list being written out before it is used. -/
def forceL : List Nat → (List Nat → Prop) → Prop
  | [], K => K []
  | x :: r, K => forceL r fun r => K (x :: r)
theorem forceL_eq : ∀ (l : List Nat) (K : List Nat → Prop), forceL l K = K l
  | [], _ => rfl
  | x :: r, K => by simp only [forceL, forceL_eq r]
def normP (s : S) (keep : List Nat) (K : S → Prop) : Prop :=
  forceL (addNew (refsSl (afilter (fun k => isin k keep) s.sl)) []) fun l0 => forceL (addNew (refsPl l0 s.pl) l0) fun l1 => forceL (addNew (refsPl l1 s.pl) l1) fun l2 =>
    force ⟨afilter (fun k => isin k keep) s.sl, afilter (fun k => isin k l2) s.pl⟩ K
theorem normP_eq (s : S) (keep : List Nat) (K : S → Prop) : normP s keep K = K (s.norm keep) := by
  unfold normP
  rw [forceL_eq, forceL_eq, forceL_eq, force_eq]
  rfl

def awp (P : Program) : ACode → (E → S → Prop) → S → Prop
  | .skip, Q, s => Q .normal s
  | .reg ops, Q, s => awpOps P ops s (Q .normal)
  | .seq a b, Q, s => awp P a (fun e s1 => match e with | .normal => awp P b Q s1 | .exit i => Q (.exit i) s1 | .ret => Q .ret s1) s
  | .cond c a b, Q, s => match litBool (s.o c) with
    | some t => cond t (awp P a Q s) (awp P b Q s)
    | none => False
  | .block id a, Q, s => awp P a (fun e s1 => match e with | .normal => Q .normal s1 | .exit i => bif Nat.beq i id then Q .normal s1 else Q (.exit i) s1 | .ret => Q .ret s1) s
  | .loop keep body, Q, s => ∃ (I : S → Prop) (μ : S → Nat), normP s keep I ∧ ∀ s1, I s1 →
      awp P body (fun e s2 => match e with | .normal => normP s2 keep fun s2 => I s2 ∧ μ s2 < μ s1 | .exit i => Q (.exit i) s2 | .ret => Q .ret s2) s1
  | .scope a, Q, s => awp P a Q s
  | .exit i, Q, s => Q (.exit i) s
  | .ret, Q, s => Q .ret s

/-! Functions. -/
def retW (s : S) : ARes → Option W
  | .tmp t => match s.tmp t with | .w w => some w | _ => none
  | .cell a g sz => match cOf (s.tmp a) with
    | .ptr p off => match aget s.pl p with
      | some (.box cs) => mkW g sz (cs.drop off)
      | some (.fbox ds) => mkW g sz ((ds.drop off).map .d)
      | _ => none
    | _ => none

def retWs (s : S) : List ARes → Option (List W)
  | [] => some []
  | x :: r => match retW s x, retWs s r with
    | some w, some l => some (w :: l)
    | _, _ => none

def retV (s : S) (l : List ARes) : Option V :=
  match retWs s l with
  | some [w] => some (.w w)
  | some ws => some (.tup ws)
  | none => none

def initSl : Nat → List W → List (Nat × V)
  | _, [] => []
  | i, w :: r => (i, .w w) :: initSl (i + 1) r

def retQ (res : List ARes) (U : List Nat) (Q : Res → Prop) (s : S) : Prop :=
  match retV s res with
  | some v => Q (packV s.pl U v)
  | none => False

def awpF (P : Program) (F : AFun) (args : List W) (Q : Res → Prop) : Prop :=
  force ⟨initSl 0 args, []⟩ fun s => awp P F.code (fun e s => match e with | .exit _ => False | .normal => retQ F.res [] Q s | .ret => retQ F.res [] Q s) s

/-- The names of what was handed over. -/
def hnames (n0 : Nat) (hs : List Pl) : List Nat := upFrom n0 hs.length
def awpFHat (n0 : Nat) (P : Program) (F : AFun) (args : List W) (hs : List Pl) (Q : Res → Prop) : Prop :=
  force ⟨initSl 0 (args.map (W.ren ((hnames n0 hs).map some))), numbered n0 (hs.map (Pl.ren ((hnames n0 hs).map some)))⟩ fun s =>
    awp P F.code (fun e s => match e with | .exit _ => False | .normal => retQ F.res (hnames n0 hs) Q s | .ret => retQ F.res (hnames n0 hs) Q s) s
def awpFH (P : Program) (F : AFun) (args : List W) (hs : List Pl) (Q : Res → Prop) : Prop := awpFHat 100000 P F args hs Q

end Go.AM
