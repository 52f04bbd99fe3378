import Derived.Shelf.Strings.Search3
import Derived.Shelf.LaysM
import Derived.Ground.NamesProg
import Derived.Test.YtkdijaiaplkliaaGreatDoorProg
import Derived.Tactics2
import Derived.KernelRfl
import Derived.WalkKit
import Derived.Laws.StructEq
import Derived.ChangeKeysEq
set_option linter.unusedSimpArgs false
set_option linter.unusedVariables false
set_option maxRecDepth 100000
set_option maxHeartbeats 4000000
namespace Go.Proofs
section
open Go.Shelf
def Tryz.laysM144_ren:Go.Shelf.Ren:=⟨fun|144=>230|143=>257|219=>276|217=>188|225=>284|224=>285|267=>286|266=>223|314=>287|n=>n,fun|9=>9|4=>4|3=>3|5=>5|46=>228|146=>351|51=>288|n=>n,fun|1=>0|n=>n⟩
theorem Tryz.laysM144:Go.Proofs.LaysM.n144 Tryz.prog Tryz.laysM144_ren:={
 mixed:=by kernel_rfl
 f143:=Tryz.func257.trans (congrArg some (by kernel_rfl))
 f144:=Tryz.func230.trans (congrArg some (by kernel_rfl))
 f217:=Tryz.func188.trans (congrArg some (by kernel_rfl))
 f219:=Tryz.func276.trans (congrArg some (by kernel_rfl))
 f224:=Tryz.func285.trans (congrArg some (by kernel_rfl))
 f225:=Tryz.func284.trans (congrArg some (by kernel_rfl))
 f266:=Tryz.func223.trans (congrArg some (by kernel_rfl))
 f267:=Tryz.func286.trans (congrArg some (by kernel_rfl))
 f314:=Tryz.func287.trans (congrArg some (by kernel_rfl))
 t3:=Tryz.underlying3
 a3:=Tryz.isAgg3
 z3:=Tryz.sizeOf3
 v3:=Tryz.zeroValue3
 t4:=Tryz.underlying4
 a4:=Tryz.isAgg4
 z4:=Tryz.sizeOf4
 v4:=Tryz.zeroValue4
 t5:=Tryz.underlying5
 a5:=Tryz.isAgg5
 z5:=Tryz.sizeOf5
 v5:=Tryz.zeroValue5
 t9:=Tryz.underlying9
 a9:=Tryz.isAgg9
 z9:=Tryz.sizeOf9
 v9:=Tryz.zeroValue9
 t46:=Tryz.underlying228
 a46:=Tryz.isAgg228
 z46:=Tryz.sizeOf228
 v46:=Tryz.zeroValue228
 t51:=Tryz.underlying288
 a51:=Tryz.isAgg288
 z51:=Tryz.sizeOf288
 v51:=Tryz.zeroValue288
 t146:=Tryz.underlying351
 a146:=Tryz.isAgg351
 z146:=Tryz.sizeOf351
 v146:=Tryz.zeroValue351
 g1:=by kernel_rfl
 i3:=by kernel_rfl
 i4:=by kernel_rfl
 i5:=by kernel_rfl
 i9:=by kernel_rfl
 i46:=by kernel_rfl
 i51:=by kernel_rfl
 i146:=by kernel_rfl
 m1:=by kernel_rfl
 s1_3:=λw h=>Go.Proofs.cell_of_shapedOpen_int (zero:= #[.int .i64 0]) (t:=3) h (of_decide_eq_true (by kernel_rfl)) (by kernel_rfl) rfl (by kernel_rfl) (by kernel_rfl) Tryz.underlying3}
end
end Go.Proofs
namespace Go.AM
inductive D where
 |lit (v:Value)
 |sl (l:List (List D))
 |fn (f:FuncId) (caps:List (List D))
 |ifc (t:TypeId) (l:List D)
inductive C where
 |dead
 |d (x:D)
 |nil
 |ptr (p off:Nat)
 |eptr (p sz i k:Nat)
 |own (p sz len:Nat)
 |sub (p sz off n:Nat)
 |fp (cells:List D)
 |clo (f:FuncId) (caps:List Nat)
inductive W where
 |c (x:C)
 |agg (cs:List C)
inductive V where
 |w (x:W)
 |tup (xs:List W)
inductive Pl where
 |box (cells:List C)
 |arr (sz:Nat) (els:List (List D)) (fz:Bool)
 |fbox (ds:List D)
 |gone
structure S where
 sl:List (Nat×V)
 pl:List (Nat×Pl)
def aget {α:Type}:List (Nat×α) ->Nat ->Option α
 | [],_=>none
 |(k,v)::r,n=>bif Nat.beq k n then some v else aget r n
def yj {α:Type}(n:Nat)(v:α):List (Nat×α) ->List (Nat×α)
 | []=> [(n,v)]
 |(k,u)::r=>bif Nat.beq k n then(n,v)::r else bif Nat.blt n k then(n,v)::(k,u)::r else(k,u)::yj n v r
def isin (n:Nat):List Nat ->Bool
 | []=>false
 |k::r=>bif Nat.beq k n then true else isin n r
def Zp:Value ->C
 | .slice none 0 0=>.nil
 | .bool b=>.d (.lit (.bool b))
 | .int k n=>.d (.lit (.int k n))
 | .string x=>.d (.lit (.string x))
 | .pointer none=>.d (.lit (.pointer none))
 | .map none=>.d (.lit (.map none))
 | .nilFunc=>.d (.lit .nilFunc)
 | .nilIface=>.d (.lit .nilIface)
 |_=>.dead
def ofValue:Value ->W
 | .agg g=>.agg (g.toList.map Zp)
 |v=>.c (Zp v)
def ajr:V:=.w (.c .dead)
def xS:V:=.tup []
def S.tmp (s:S)(t:Nat):V:=match aget s.sl t with|some v=>v|none=>ajr
def S.put (s:S)(dst:Option Tmp)(v:V):S:=
 match dst with
 |some d=>{s with sl:=yj d v s.sl}
 |none=>s
def afP:C ->(C ->Prop) ->Prop
 | .dead,K=>K .dead
 | .d x,K=>K (.d x)
 | .nil,K=>K .nil
 | .ptr p o,K=>K (.ptr p o)
 | .eptr p z i k,K=>K (.eptr p z i k)
 | .own p z n,K=>K (.own p z n)
 | .sub p z o n,K=>K (.sub p z o n)
 | .fp l,K=>K (.fp l)
 | .clo f l,K=>K (.clo f l)
def V6:List C ->(List C ->Prop) ->Prop
 | [],K=>K []
 |x::r,K=>afP x λx=>V6 r λr=>K (x::r)
def aa8:W ->(W ->Prop) ->Prop
 | .c x,K=>afP x λx=>K (.c x)
 | .agg g,K=>V6 g λg=>K (.agg g)
def ky:List W ->(List W ->Prop) ->Prop
 | [],K=>K []
 |x::r,K=>aa8 x λx=>ky r λr=>K (x::r)
def aa7:V ->(V ->Prop) ->Prop
 | .w x,K=>aa8 x λx=>K (.w x)
 | .tup xs,K=>ky xs λxs=>K (.tup xs)
def acu:Pl ->(Pl ->Prop) ->Prop
 | .box i,K=>V6 i λi=>K (.box i)
 | .arr z g true,K=>K (.arr z g true)
 | .arr z g false,K=>K (.arr z g false)
 | .fbox j,K=>K (.fbox j)
 | .gone,K=>K .gone
def kx:List (Nat×V) ->(List (Nat×V) ->Prop) ->Prop
 | [],K=>K []
 |(k,v)::r,K=>aa7 v λv=>kx r λr=>K ((k,v)::r)
def UR:List (Nat×Pl) ->(List (Nat×Pl) ->Prop) ->Prop
 | [],K=>K []
 |(k,v)::r,K=>acu v λv=>UR r λr=>K ((k,v)::r)
def y8:S ->(S ->Prop) ->Prop
 |⟨sl,pl⟩,K=>kx sl λsl=>UR pl λpl=>K ⟨sl,pl⟩
theorem adu (x:C)(K:C ->Prop):afP x K=K x:=by cases x<;>rfl
theorem UQ: ∀(x:List C) (K:List C ->Prop),V6 x K=K x
 | [],_=>rfl
 |x::r,K=>by simp only[V6,adu,UQ r]
theorem adw (x:W)(K:W ->Prop):aa8 x K=K x:=by cases x<;>simp only[aa8,adu,UQ]
theorem aa9: ∀(x:List W) (K:List W ->Prop),ky x K=K x
 | [],_=>rfl
 |x::r,K=>by simp only[ky,adw,aa9 r]
theorem Kp (x:V)(K:V ->Prop):aa7 x K=K x:=by cases x<;>simp only[aa7,adw,aa9]
theorem ajw (x:Pl)(K:Pl ->Prop):acu x K=K x:=by
 cases x with
 |box j=>simp only[acu,UQ]
 |arr z g i=>cases i<;>rfl
 |fbox l=>rfl
 |gone=>rfl
theorem aa6: ∀(x:List (Nat×V)) (K:List (Nat×V) ->Prop),kx x K=K x
 | [],_=>rfl
 |(_,_)::r,K=>by simp only[kx,Kp,aa6 r]
theorem gi: ∀(x:List (Nat×Pl)) (K:List (Nat×Pl) ->Prop),UR x K=K x
 | [],_=>rfl
 |(_,_)::r,K=>by simp only[UR,ajw,gi r]
theorem yU (s:S)(K:S ->Prop):y8 s K=K s:=by cases s;simp only[y8,aa6,gi]
def ajJ:C ->Option Value
 | .d (.lit v)=>some v
 | .nil=>some (.slice none 0 0)
 |_=>none
def ae2:List C ->Option (List Value)
 | []=>some []
 |x::r=>match ajJ x,ae2 r with
  |some v,some l=>some (v::l)
  |_,_=>none
def am7:W ->Option Value
 | .c x=>ajJ x
 | .agg g=>match ae2 g with
   |some l=>some (.agg l.toArray)
   |none=>none
def af5:V ->Option Value
 | .w x=>am7 x
 |_=>none
def Ur {α:Type}(P:Program):Sem α ->Option α
 | .pure a=>some a
 | .program k=>Ur P (k P)
 | .mark _ k=>Ur P k
 |_=>none
def isSome {α:Type}:Option α ->Bool|some _=>true|none=>false
def W.cells:W ->List C
 | .c x=> [x]
 | .agg g=>g
def C.isDead:C ->Bool| .dead=>true|_=>false
def solid:List C ->Bool
 | []=>true
 |x::r=>bif x.isDead then false else solid r
def z6 {α:Type}(l:List α)(off:Nat)(new:List α):List α:=l.take off++new++l.drop (off+new.length)
def C.kill (l:List Nat):C ->C
 | .ptr q o=>bif isin q l then .dead else .ptr q o
 | .eptr q sz i k=>bif isin q l then .dead else .eptr q sz i k
 | .own q sz n=>bif isin q l then .dead else .own q sz n
 | .sub q sz o n=>bif isin q l then .dead else .sub q sz o n
 | .clo f g=>bif g.any (λq=>isin q l)then .dead else .clo f g
 |x=>x
def W.kill (l:List Nat):W ->W
 | .c x=>.c (x.kill l)
 | .agg g=>.agg (g.map (C.kill l))
def V.kill (l:List Nat):V ->V
 | .w x=>.w (x.kill l)
 | .tup xs=>.tup (xs.map (W.kill l))
def Pl.kill (l:List Nat):Pl ->Pl
 | .box g=>.box (g.map (C.kill l))
 |x=>x
def xx {α:Type}(f:Nat ->Bool):List (Nat×α) ->List (Nat×α)
 | []=> []
 |(k,v)::r=>bif f k then(k,v)::xx f r else xx f r
def aaL:List (Nat×Pl) ->List (Nat×Pl) ->List (Nat×Pl)
 | [],pl=>pl
 |(k,x)::r,pl=>yj k x (aaL r pl)
def aca {α β:Type}(f:α ->β):List (Nat×α) ->List (Nat×β)
 | []=> []
 |(k,v)::r=>(k,f v)::aca f r
def S.redo (s:S)(g:List Nat)(new:List (Nat×Pl)):S:=
 {sl:=aca (V.kill g) s.sl,pl:=aaL new (aca (Pl.kill g) (xx (λk=>!isin k g) s.pl))}
def S.place (s:S)(p:Nat)(x:Pl):S:=s.redo [p] [(p,x)]
def qx (pl:List (Nat×Pl))(p:Nat):List (Nat×Pl):=
 match aget pl p with
 |some (.arr sz g _)=>yj p (.arr sz g true) pl
 |_=>pl
def YR (pl:List (Nat×Pl)):C ->Option (D×List (Nat×Pl))
 | .d x=>some (x,pl)
 | .nil=>some (.sl [],pl)
 | .own p _ n=>match aget pl p with
   |some (.arr _ g _)=>some (.sl (g.take n),qx pl p)
   |_=>none
 | .clo f []=>some (.fn f [],pl)
 |_=>none
def w6 (pl:List (Nat×Pl)):List C ->Option (List D×List (Nat×Pl))
 | []=>some ([],pl)
 |x::r=>match YR pl x with
  |some (y,g)=>match w6 g r with
   |some (j,i)=>some (y::j,i)
   |none=>none
  |none=>none
def akv (pl:List (Nat×Pl)):W ->Option (W×List (Nat×Pl))
 | .c (.fp l)=>some (.c (.fp l),pl)
 | .c x=>match YR pl x with
   |some (y,g)=>some (.c (.d y),g)
   |none=>none
 | .agg i=>match w6 pl i with
   |some (j,g)=>some (.agg (j.map .d),g)
   |none=>none
def Js (pl:List (Nat×Pl)):List W ->Option (List W×List (Nat×Pl))
 | []=>some ([],pl)
 |x::r=>match akv pl x with
  |some (y,g)=>match Js g r with
   |some (j,i)=>some (y::j,i)
   |none=>none
  |none=>none
structure Res where
 v:V
 pl:List Pl
def C.scalar:C ->Bool| .d (.lit _)=>true|_=>false
def W.scalar:W ->Bool| .c x=>x.scalar| .agg g=>g.all C.scalar
def V.scalar:V ->Bool| .w x=>x.scalar| .tup xs=>xs.all W.scalar
def qV {α:Type}:List (Option α) ->Nat ->Option α
 | [],_=>none
 |x::_,0=>x
 |_::r,n+1=>qV r n
def C.ren (l:List (Option Nat)):C ->C
 | .ptr q o=>match qV l q with|some p=>.ptr p o|none=>.dead
 | .eptr q sz i k=>match qV l q with|some p=>.eptr p sz i k|none=>.dead
 | .own q sz k=>match qV l q with|some p=>.own p sz k|none=>.dead
 | .sub _ _ _ _=>.dead
 | .clo f []=>.clo f []
 | .clo _ _=>.dead
 | .d x=>.d x
 | .nil=>.nil
 | .fp l=>.fp l
 | .dead=>.dead
def W.ren (l:List (Option Nat)):W ->W| .c x=>.c (x.ren l)| .agg g=>.agg (g.map (C.ren l))
def V.ren (l:List (Option Nat)):V ->V| .w x=>.w (x.ren l)| .tup xs=>.tup (xs.map (W.ren l))
def Pl.ren (l:List (Option Nat)):Pl ->Pl
 | .box i=>.box (i.map (C.ren l))
 | .arr z g o=>.arr z g o
 | .fbox j=>.fbox j
 | .gone=>.gone
def uA:Nat ->List Pl ->List (Nat×Pl)
 |_,[]=> []
 |n,x::r=>(n,x)::uA (n+1) r
def vC:List (Nat×Pl) ->List Nat
 | []=> []
 |(k,_)::r=>k::vC r
def base (d:Nat):Nat:=600000+16*d
def zJ:Nat ->Nat ->List Nat
 |_,0=> []
 |i,n+1=>i::zJ (i+1) n
def ju:List Nat ->List Pl ->List (Option Nat)
 |n::g,.gone::xs=>none::ju g xs
 |n::g,_::xs=>some n::ju g xs
 |_,_=> []
def yD:List Nat ->List Pl ->List (Nat×Pl)
 |_::g,.gone::xs=>yD g xs
 |n::g,x::xs=>(n,x)::yD g xs
 |_,_=> []
def Xm:Nat ->List Nat ->List Pl ->List Nat
 |m+1,n::g,.gone::xs=>n::Xm m g xs
 |m+1,_::g,_::xs=>Xm m g xs
 |0,n::g,_::xs=>n::Xm 0 g xs
 |_,_,_=> []
def wT:List Nat ->Bool
 | []=>true
 |x::r=>!isin x r&&wT r
def kJ (s:S)(U:List Nat)(nb:Nat)(dst:Option Tmp)(r:Res):S:=
 (s.redo (Xm U.length (U++zJ nb (r.pl.length - U.length)) r.pl)
  (yD (U++zJ nb (r.pl.length - U.length)) (r.pl.map (Pl.ren (ju (U++zJ nb (r.pl.length - U.length)) r.pl))))).put dst
  (r.v.ren (ju (U++zJ nb (r.pl.length - U.length)) r.pl))
def QM (U:List Nat)(nb:Nat)(r:Res):Bool:=wT (vC (yD (U++zJ nb (r.pl.length - U.length)) r.pl))
def ajY (s g:S)(dst:Option Tmp)(r:Res):S:=
 match dst with
 |some d=>bif r.v.scalar then s.put (some d) r.v
  else kJ g [] (base d) (some d) r
 |none=>s
def JE (p:Nat):List Nat ->Option Nat
 | []=>none
 |k::r=>bif Nat.beq k p then some 0 else match JE p r with|some i=>some (i+1)|none=>none
def C.pk (pl:List (Nat×Pl))(U:List Nat):C ->C
 | .own p z n=>match aget pl p with
   |some (.arr _ _ false)=>match JE p U with|some k=>.own k z n|none=>.dead
   |some (.arr _ g true)=>.d (.sl (g.take n))
   |_=>.dead
 | .ptr p o=>match aget pl p with
   |some (.box _)=>match JE p U with|some k=>.ptr k o|none=>.dead
   |some (.fbox i)=>.fp (i.drop o)
   |_=>.dead
 | .d x=>.d x
 | .nil=>.nil
 | .clo f []=>.d (.fn f [])
 | .fp l=>.fp l
 |_=>.dead
def W.pk (pl:List (Nat×Pl))(U:List Nat):W ->W| .c x=>.c (x.pk pl U)| .agg g=>.agg (g.map (C.pk pl U))
def V.pk (pl:List (Nat×Pl))(U:List Nat):V ->V| .w x=>.w (x.pk pl U)| .tup xs=>.tup (xs.map (W.pk pl U))
def VH (pl:List (Nat×Pl))(U:List Nat)(k p:Nat):Pl:=
 match JE p U with
 |some i=>bif Nat.beq i k then
  match aget pl p with
  |some (.box j)=>.box (j.map (C.pk pl U))
  |some (.arr z g false)=>.arr z g false
  |_=>.gone
  else .gone
 |none=>.gone
def vZ (pl:List (Nat×Pl))(U:List Nat):Nat ->List Nat ->List Pl
 |_,[]=> []
 |k,p::r=>VH pl U k p::vZ pl U (k+1) r
def C.refs:C ->List Nat
 | .ptr p _=> [p]
 | .eptr p _ _ _=> [p]
 | .own p _ _=> [p]
 | .sub p _ _ _=> [p]
 | .clo _ g=>g
 |_=> []
def Us:List C ->List Nat
 | []=> []
 |x::r=>x.refs++Us r
def W.refs:W ->List Nat
 | .c x=>x.refs
 | .agg g=>Us g
def jC:List W ->List Nat
 | []=> []
 |x::r=>x.refs++jC r
def V.refs:V ->List Nat
 | .w x=>x.refs
 | .tup xs=>jC xs
def xY (pl:List (Nat×Pl)):List Nat ->List Nat ->List Nat
 |U,[]=>U
 |U,p::r=>match aget pl p with
  |some (.box _)=>bif isin p U then xY pl U r else xY pl (U++[p]) r
  |some (.arr _ _ false)=>bif isin p U then xY pl U r else xY pl (U++[p]) r
  |_=>xY pl U r
def at?:List Nat ->Nat ->Option Nat
 | [],_=>none
 |x::_,0=>some x
 |_::r,n+1=>at? r n
def QG (pl:List (Nat×Pl)):Nat ->Nat ->List Nat ->List Nat
 |0,_,U=>U
 |n+1,i,U=>match at? U i with
  |some p=>match aget pl p with
   |some (.box g)=>QG pl n (i+1) (xY pl U (Us g))
   |_=>QG pl n (i+1) U
  |none=>U
def wI (pl:List (Nat×Pl))(U l:List Nat):List Nat:=QG pl 40 0 (xY pl U l)
def aqa (pl:List (Nat×Pl))(U:List Nat)(v:V):Res:=⟨v.pk pl U,vZ pl U 0 U⟩
def aor (pl:List (Nat×Pl))(U:List Nat)(v:V):Res:=aqa pl (wI pl U v.refs) v
mutual
def RD (w:World)(ok:Nat ->Prop):D ->Value ->Prop
 | .lit v,x=>x=v /\v.oneCell'=true
 | .sl l,x=> ∃a n c,x= .slice a n c /\n=l.length /\n<=c /\c<=maxLen /\(l=[]\/ ∃b o sz,a=some ⟨b,o,none⟩/\ok b /\RDs w ok b sz o l)
 | .fn f g,x=> ∃vs:List Value,x= .func (.func f) #[] vs.toArray /\RDf w ok vs g
 | .ifc t l,x=> ∃vs:List Value,x= .iface t (.agg vs.toArray)/\RDv w ok vs l
def RDs (w:World)(ok:Nat ->Prop)(b sz:Nat):Nat ->List (List D) ->Prop
 |_,[]=>True
 |o,e::r=>e.length=sz /\RDc w ok b o e /\RDs w ok b sz (o+sz) r
def RDc (w:World)(ok:Nat ->Prop)(b:Nat):Nat ->List D ->Prop
 |_,[]=>True
 |o,d::r=>(∃v,w.cell? ⟨b,o,none⟩=some v /\RD w ok d v)/\RDc w ok b (o+1) r
def RDf (w:World)(ok:Nat ->Prop):List Value ->List (List D) ->Prop
 |vs,[]=>vs=[]
 |vs,c::r=> ∃b o g,vs= .pointer (some ⟨b,o,none⟩)::g /\ok b /\RDc w ok b o c /\RDf w ok g r
def RDv (w:World)(ok:Nat ->Prop):List Value ->List D ->Prop
 |vs,[]=>vs=[]
 |vs,d::r=> ∃v g,vs=v::g /\RD w ok d v /\RDv w ok g r
end
structure Gh where
 b:Option Nat
 n:Nat
def CR (ι:Nat ->Gh)(w:World)(ok:Nat ->Prop):C ->Value ->Prop
 | .dead,_=>True
 | .d x,v=>RD w ok x v
 | .nil,v=>v= .slice none 0 0
 | .ptr p off,v=> ∃b,(ι p).b=some b /\v= .pointer (some ⟨b,off,none⟩)
 | .eptr p sz i k,v=> ∃b,(ι p).b=some b /\v= .pointer (some ⟨b,i*sz+k,none⟩)
 | .own p sz n,v=>((ι p).b=none /\n=0 /\v= .slice none 0 0)\/
  ∃b cap t,(ι p).b=some b /\n<=(ι p).n /\v= .slice (some ⟨b,0,none⟩) n cap /\n<=cap /\cap<=maxLen /\w.shape? b=some (t,cap*sz)
 | .sub p sz off n,v=> ∃j c,v= .slice j n c /\n<=c /\c<=maxLen /\(n=0\/ ∃b,(ι p).b=some b /\j=some ⟨b,off*sz,none⟩/\off+n<=(ι p).n)
 | .fp cells,v=> ∃b o,v= .pointer (some ⟨b,o,none⟩)/\ok b /\RDc w ok b o cells
 | .clo f g,v=> ∃l:List Nat,g.map (λp=>(ι p).b)=l.map some /\v= .func (.func f) #[] (l.map λb=>Value.pointer (some ⟨b,0,none⟩)).toArray
def CRs (ι:Nat ->Gh)(w:World)(ok:Nat ->Prop):List C ->List Value ->Prop
 | [],[]=>True
 |c::g,v::vs=>CR ι w ok c v /\CRs ι w ok g vs
 |_,_=>False
def WR (ι:Nat ->Gh)(w:World)(ok:Nat ->Prop):W ->Value ->Prop
 | .c x,v=>CR ι w ok x v
 | .agg g,v=> ∃vs:List Value,v= .agg vs.toArray /\CRs ι w ok g vs
def xP (ι:Nat ->Gh)(w:World)(ok:Nat ->Prop):List W ->List Value ->Prop
 | [],[]=>True
 |c::g,v::vs=>WR ι w ok c v /\xP ι w ok g vs
 |_,_=>False
def VR (ι:Nat ->Gh)(w:World)(ok:Nat ->Prop):V ->Value ->Prop
 | .w x,v=>WR ι w ok x v
 | .tup xs,v=> ∃vs:List Value,v= .tuple vs.toArray /\xP ι w ok xs vs
def RowAt (w:World)(b:Nat)(g:Array Value):Prop:= ∃t,w.heap[b]? =some (.cells g t (0,0))
def PR (ι:Nat ->Gh)(w:World)(ok:Nat ->Prop)(p:Nat):Pl ->Prop
 | .box l=> ∃b g,(ι p).b=some b /\RowAt w b g /\CRs ι w ok l g.toList
 | .arr sz i j=>0<sz /\i.length=(ι p).n /\(((ι p).b=none /\i=[])\/
  ∃b,(ι p).b=some b /\RDs w ok b sz 0 i /\(j=true ->ok b)/\(j=false -> ∃g,RowAt w b g /\i.length*sz<=g.size))
 | .fbox o=> ∃b,(ι p).b=some b /\ok b /\RDc w ok b 0 o
 | .gone=>False
def Pl.live:Pl ->Bool
 | .box _=>true
 | .arr _ _ g=>!g
 | .fbox _=>false
 | .gone=>false
def Owns (ι:Nat ->Gh)(pl:List (Nat×Pl))(b:Nat):Prop:= ∃p x,aget pl p=some x /\x.live=true /\(ι p).b=some b
structure Fr where
 w0:World
 A:Nat ->Prop
 M:Nat ->Prop
 h:Nat ->Option Gh
def Fr.ok (F:Fr)(ι:Nat ->Gh)(pl:List (Nat×Pl))(w:World)(b:Nat):Prop:=
 (F.A b\/F.M b\/F.w0.heap.size<=b)/\b<w.heap.size /\ ¬Owns ι pl b
def Out (w w':World):Prop:=w'.output=w.output /\w.drawn<=w'.drawn
theorem Out.refl (w:World):Out w w:=⟨rfl,Nat.le_refl _⟩
theorem Out.trans {a b c:World}(k:Out b c)(h:Out a b):Out a c:=⟨k.1.trans h.1,Nat.le_trans h.2 k.2⟩
structure Grows (M:Nat ->Prop)(w w':World):Prop where
 os:w'.os=w.os
 tape:w'.tape=w.tape
 output:Out w w'
 size:w.heap.size<=w'.heap.size
 block: ∀b,b<w.heap.size -> ¬M b ->w'.heap[b]? =w.heap[b]?
 shapes: ∀b t m,w.shape? b=some (t,m) ->w'.shape? b=some (t,m)
def gl (k:Nat):Bool:=Nat.blt k 1
def Glb (A:Nat ->Prop)(w:World):Prop:= ∀k,gl k=true ->A k /\ ∃m,w.cell? ⟨k,0,none⟩=some (.int .i64 m)
structure Rel (F:Fr)(N:Nat)(ι:Nat ->Gh)(s:S)(a:Act)(w:World):Prop where
 room:N<=a.tmps.size /\ ∀g,F.h 599999=some g ->a.tmps.size=g.n
 slots: ∀k v,aget s.sl k=some v -> ∃x,a.tmps[k]? =some x /\VR ι w (F.ok ι s.pl w) v x
 places: ∀p x,aget s.pl p=some x ->PR ι w (F.ok ι s.pl w) p x
 inj: ∀p q x y b,aget s.pl p=some x ->aget s.pl q=some y ->p≠q ->x.live=true ->(ι p).b=some b ->(ι q).b≠some b
 mine: ∀b,Owns ι s.pl b ->(F.M b\/F.w0.heap.size<=b)/\b<w.heap.size
 defers:a.defers=[]
 grows:Grows F.M F.w0 w
 foreign: ∀b,F.A b ->b<F.w0.heap.size /\ ¬F.M b
 handed:(∀b,F.M b ->b<F.w0.heap.size)/\Glb F.A F.w0
 few:N<=5000
 hdom: ∀p g,F.h p=some g ->100000<=p /\p<600000
 hkeep: ∀p x g,aget s.pl p=some x ->F.h p=some g ->ι p=g
def Y6 (s t:S):Prop:= ∀(F:Fr) (N:Nat) (ι:Nat ->Gh) (a:Act) (w:World),Rel F N ι s a w -> ∃ι',Rel F N ι' t a w
theorem Y6.refl (s:S):Y6 s s:=λ_ _ ι _ _ h=>⟨ι,h⟩
theorem Y6.trans {s t u:S}(h:Y6 s t)(k:Y6 t u):Y6 s u:=λF N ι a w hr=>let⟨ι1,g⟩:=h F N ι a w hr;k F N ι1 a w g
def afe (F:Fr)(ι0:Nat ->Gh)(m:Nat)(w':World)(r:Res)(v:Value):Prop:=
 m<=r.pl.length /\ ∃ι:Nat ->Gh,
  let pl:=yD (zJ 0 r.pl.length) r.pl
  let ok:=F.ok ι pl w'
  VR ι w' ok r.v v /\(∀p x,aget pl p=some x ->PR ι w' ok p x)/\(∀p q x y b,aget pl p=some x ->aget pl q=some y ->p≠q ->(ι p).b=some b ->(ι q).b≠some b)/\
  (∀p x b,aget pl p=some x ->(ι p).b=some b ->F.M b\/F.w0.heap.size<=b)/\(∀p x,aget pl p=some x ->x.live=true)/\(∀p x,p<m ->aget pl p=some x ->ι p=ι0 p)
def gJ (F:Fr)(w':World)(r:Res)(v:Value):Prop:=afe F (λ_=>⟨none,0⟩) 0 w' r v
def xE (P:Program)(k:Nat):Bool:=
 match P.funcs[k]? with
 |some fn=>fn.body.isSome&& !(fn.name== "runtime.NumGoroutine")
 |none=>false
def Sat (P:Program)(k:Nat)(args:List W)(Q:Res ->Prop):Prop:=
 xE P k=true /\ ∀(w:World) (A:Nat ->Prop) (vals:List Value),((∀b,A b ->b<w.heap.size)/\Glb A w) ->xP (λ_=>⟨none,0⟩) w A args vals ->
  Calls P k vals.toArray w λe w'=> ∃v r,e= .returned v /\Q r /\gJ ⟨w,A,λ_=>False,λ_=>none⟩ w' r v /\Grows (λ_=>False) w w'
theorem Sat.mono {P:Program}{k:Nat}{args:List W}{Q g:Res ->Prop}(h:Sat P k args Q)(I: ∀r,Q r ->g r):Sat P k args g:=
 ⟨h.1,λw A vals i j=>(h.2 w A vals i j).mono λ_ _ ⟨v,r,p,l,o⟩=>⟨v,r,p,I r l,o⟩⟩
def Yf (ι:Nat ->Gh)(hs:List Pl)(b:Nat):Prop:= ∃i x,hs[i]? =some x /\(ι i).b=some b
def zD (P:Program)(k:Nat)(args:List W)(hs:List Pl)(Q:Res ->Prop):Prop:=
 xE P k=true /\ ∀(w:World) (A:Nat ->Prop) (ι:Nat ->Gh) (vals:List Value),(∀b,A b ->b<w.heap.size /\ ¬Yf ι hs b) ->((∀b,Yf ι hs b ->b<w.heap.size)/\Glb A w) ->
  (∀i x,hs[i]? =some x ->PR ι w A i x /\x.live=true) ->(∀i j x y b,hs[i]? =some x ->hs[j]? =some y ->i≠j ->(ι i).b=some b ->(ι j).b≠some b) ->xP ι w A args vals ->
  Calls P k vals.toArray w λe w'=> ∃v r,e= .returned v /\Q r /\afe ⟨w,A,Yf ι hs,λ_=>none⟩ ι hs.length w' r v /\Grows (Yf ι hs) w w'
theorem zD.mono {P:Program}{k:Nat}{args:List W}{hs:List Pl}{Q g:Res ->Prop}(h:zD P k args hs Q)(T: ∀r,Q r ->g r):zD P k args hs g:=
 ⟨h.1,λw A ι vals i j l o p=>(h.2 w A ι vals i j l o p).mono λ_ _ ⟨v,r,R,I,J⟩=>⟨v,r,R,T r I,J⟩⟩
inductive O where
 |t (n:Nat)
 |k (v:V)
inductive AOp where
 |mov (x:O)
 |pick (c a b:O)
 |alloc (cs:List C)
 |bx (x:O)
 |build (zero:List C) (parts:List (Nat×Nat×O))
 |lits (sz:Nat) (parts:List O)
 |ld (agg:Bool) (sz:Nat) (x:O)
 |st (sz:Nat) (a x:O)
 |nc (x:O)
 |b2s (x:O)
 |s2b (x:O)
 |clo (f:Nat) (caps:List O)
 |clof (f:Nat) (caps:List O)
 |slen (x:O)
 |cap (x:O)
 |cpy (sz:Nat) (x y:O)
 |clr (sz:Nat) (z:List D) (x:O)
 |slw (sz:Nat) (x:O) (lo hi:Option O)
 |bnot (x:O)
 |ineg (x:O)
 |beq (neg:Bool) (x y:O)
 |shf (left:Bool) (x y:O)
 |stop
 |conv (k:IntKind) (x:O)
 |eqa (neg:Bool) (ks:List Nat) (x y:O)
 |callh (f:Nat) (args:List O)
 |mk (sz bytes:Nat) (z:List D) (n c:O)
 |sli (sz:Nat) (x:O) (lo hi:Option O)
 |sls (x:O) (lo hi:Option O)
 |fa (off:Nat) (x:O)
 |fld (agg:Bool) (sz off:Nat) (x:O)
 |ia (sz:Nat) (x i:O)
 |six (x i:O)
 |ext (x:O) (i:Nat)
 |len (x:O)
 |app (sz bytes:Nat) (x y:O)
 |apps (x y:O)
 |appz (sz bytes:Nat) (z:List D) (x n:O)
 |bin (o:BinOp) (x y:O)
 |isn (neg:Bool) (x:O)
 |mm (mx:Bool) (x y:O)
 |pure (o:Op) (ty:TypeId)
 |call (f:Nat) (args:List O)
 |calv (x:O) (args:List O)
 |mki (t:TypeId) (x:O)
 |ast (t:TypeId) (z:W) (x:O)
 |inv (tb:List (Nat×Nat)) (x:O) (args:List O)
inductive AI where
 |mk (dst:Option Nat) (g:Option (Nat×Bool)) (isG:Bool) (op:AOp) (drop:List Nat)
inductive ATr where
 |fin
 |run (ops:List AI) (t:ATr)
 |br (a b:ATr)
inductive ACode where
 |skip
 |reg (ops:List AI)
 |seq (a b:ACode)
 |cond (c:O) (a b:ACode)
 |block (id:Nat) (a:ACode)
 |loop (keep:List Nat) (a:ACode)
 |scope (a:ACode)
 |exit (id:Nat)
 |ret
 |tree (t:ATr)
inductive ARes where
 |tmp (t:Nat)
 |cell (a:Nat) (agg:Bool) (sz:Nat)
structure AFun where
 code:ACode
 res:List ARes
def zE (P:Program)(t:TypeId):Nat:=match P.info? t with|some i=>i.size|none=>0
def wZ (P:Program)(t:TypeId):Nat:=match P.info? t with|some i=>i.bytes|none=>0
def VO (P:Program)(t:TypeId):Option Bool:=match P.underlying t with|some (.struct _)=>some true|some (.array _ _)=>some true|some _=>some false|none=>none
def qh (P:Program)(t:TypeId):W:=match P.info? t with|some i=>(match i.zero with|some v=>ofValue v|none=>.c .dead)|none=>.c .dead
def wo (P:Program)(t:TypeId):Option TypeId:=match P.underlying t with|some (.slice e)=>some e|_=>none
def Ww (P:Program)(t:TypeId)(f:Nat):Option (Nat×TypeId):=
 match P.underlying t with
 |some (.struct g)=>match g[f]? with|some x=>some (x.offset,x.type)|none=>none
 |_=>none
def xQ (P:Program)(t:TypeId)(s:Bool):Bool:=
 match P.underlying t with
 |some .string=>s
 |some (.slice e)=>match P.underlying e with|some (.int .u8)=>!s|_=>false
 |_=>false
def abc (P:Program):List Field ->Bool
 | []=>true
 |f::r=>bif isSome (P.info? f.type)then abc P r else false
def QL (P:Program)(t:TypeId):Bool:=match P.info? t with|some i=>isSome i.zero|none=>false
def w9 (P:Program)(t:TypeId):Bool:=match P.info? t with|some i=>(match i.zero with|some z=>Nat.beq z.cells.size i.size|none=>false)|none=>false
def kz (P:Program)(t:TypeId):Bool:=
 match P.underlying t with
 |some (.int _)=>true
 |some .string=>true
 |_=>false
def Jb:BinOp ->Bool
 | .quo=>true| .rem=>true| .and=>true| .or=>true| .xor=>true| .andNot=>true
 | .add=>true| .sub=>true| .mul=>true| .eql=>true| .neq=>true| .lss=>true| .leq=>true| .gtr=>true| .geq=>true
 |_=>false
def Up (P:Program)(b:BinOp)(t:TypeId)(y:Operand):Option Bool:=
 match y with
 | .const (.slice none _ _)=>match P.underlying t with
   |some (.slice _)=>match b with
    | .eql=>some false
    | .neq=>some true
    |_=>none
   |_=>none
 |_=>none
def cO:Operand ->O
 | .tmp t=>.t t
 | .const v=>.k (.w (ofValue v))
 | .global _=>.k ajr
 | .func f=>.k (.w (.c (.clo f [])))
def kw (P:Program)(t:TypeId):Option Nat:=
 match P.underlying t with
 |some (.int _)=>some 0
 |some .string=>some 1
 |some .bool=>some 2
 |_=>none
def ku (P:Program):Nat ->List Field ->Option (List Nat)
 |_,[]=>some []
 |o,f::r=>bif Nat.beq f.offset o&& !(f.name== "_")&&P.plainKey f.type then
  match kw P f.type,ku P (o+1) r with
  |some k,some l=>some (k::l)
  |_,_=>none
  else none
def aom (P:Program)(t:TypeId):Option (List Nat):=
 match P.underlying t with
 |some (.struct g)=>bif !P.stoodInHeld t&& !P.eqGuardType P.depth t then ku P 0 g.toList else none
 |_=>none
def WT (P:Program)(b:BinOp)(t:TypeId)(x y:Operand):Option AOp:=
 match aom P t with
 |some n=>match b with
  | .eql=>some (.eqa false n (cO x) (cO y))
  | .neq=>some (.eqa true n (cO x) (cO y))
  |_=>none
 |none=>none
def Vk (P:Program)(b:UnOp)(t:TypeId)(x:Operand):Option AOp:=
 match b with
 | .not=>some (.bnot (cO x))
 | .neg=>match P.underlying t with|some (.int _)=>some (.ineg (cO x))|_=>none
 |_=>none
def Qu (P:Program)(b:BinOp)(t:TypeId)(x y:Operand):Option AOp:=
 match b with
 | .eql=>match P.underlying t with|some .bool=>some (.beq false (cO x) (cO y))|_=>none
 | .neq=>match P.underlying t with|some .bool=>some (.beq true (cO x) (cO y))|_=>none
 | .shl=>match P.underlying t with|some (.int _)=>some (.shf true (cO x) (cO y))|_=>none
 | .shr=>match P.underlying t with|some (.int _)=>some (.shf false (cO x) (cO y))|_=>none
 |_=>none
def XL (P:Program)(g dst:TypeId)(x:Operand):Option AOp:=
 match P.underlying g with
 |some (.int _)=>match P.underlying dst with
  |some (.int k)=>some (.conv k (cO x))
  |_=>none
 |_=>none
def W6 (P:Program)(t:TypeId)(x:Operand):Option AOp:=
 match P.underlying t with
 |some .string=>some (.slen (cO x))
 |_=>none
def Y3 {α:Type}(c:Bool)(x:α):Option α:=bif c then some x else none
def Kb (P:Program)(t:TypeId):List (Nat×Operand) ->Option (List (Nat×Nat×O))
 | []=>some []
 |(i,x)::r=>match Ww P t i,Kb P t r with
  |some (off,g),some l=>some ((off,zE P g,cO x)::l)
  |_,_=>none
def V9:Nat ->List (Nat×Operand) ->Bool
 |_,[]=>true
 |i,(j,_)::r=>Nat.beq i j&&V9 (i+1) r
def KH (b:Builtin)(l:List Operand):Option AOp:=
 match b with
 | .min=>match l with| [x,y]=>some (.mm false (cO x) (cO y))|_=>none
 | .max=>match l with| [x,y]=>some (.mm true (cO x) (cO y))|_=>none
 |_=>none
def Qv (P:Program)(b:Builtin)(l:List Operand)(g:List TypeId):Option AOp:=
 match b with
 | .cap=>match l,g with
   | [x],[t]=>match wo P t with
     |some _=>some (.cap (cO x))
     |none=>none
   |_,_=>none
 | .copy=>match l,g with
   | [x,y],[t,u]=>match wo P t,P.underlying u with
     |some e,some (.slice _)=>Y3 (Nat.blt 0 (zE P e)&&w9 P e) (.cpy (zE P e) (cO x) (cO y))
     |_,_=>none
   |_,_=>none
 | .clear=>match l,g with
   | [x],[t]=>match wo P t with
     |some e=>match w6 [] (qh P e).cells with
      |some (z,_)=>Y3 (Nat.blt 0 (zE P e)&&Nat.beq z.length (zE P e)&&w9 P e) (.clr (zE P e) z (cO x))
      |none=>none
     |none=>none
   |_,_=>none
 |_=>none
def abe (P:Program)(m:String)(t:TypeId):Option FuncId:=
 match P.underlying t,P.info? t with
 |some (.struct _),some i=>match i.methods.find? (λx=>x.name==m)with
  |some x=>match x.func with
   |some (f,false)=>bif x.path.isEmpty then some f else none
   |_=>none
  |none=>none
 |_,_=>none
def Ua (P:Program)(m:String):Nat ->List (Nat×Nat)
 |0=> []
 |n+1=>match abe P m n with
  |some f=>(n,f)::Ua P m n
  |none=>Ua P m n
def cOp (P:Program)(op:Op)(ty:TypeId):Option AOp:=
 match op with
 | .move x=>some (.mov (cO x))
 | .assign x=>some (.mov (cO x))
 | .pick c a b=>some (.pick (cO c) (cO a) (cO b))
 | .alloc t=>some (.alloc (qh P t).cells)
 | .box _ x=>some (.bx (cO x))
 | .build t parts=>match P.underlying t,Kb P t parts.toList with
   |some (.struct r),some l=>Y3 (abc P r.toList&&solid (qh P t).cells) (.build (qh P t).cells l)
   |_,_=>none
 | .buildSlice t n parts=>match wo P t with
   |some e=>Y3 (Nat.blt 0 (zE P e)&&Nat.beq n parts.toList.length&&Nat.ble (n*zE P e) 16777216&&V9 0 parts.toList&&QL P e) (.lits (zE P e) (parts.toList.map λx=>cO x.2))
   |none=>none
 | .load t a=>match VO P t with|some g=>some (.ld g (zE P t) (cO a))|none=>none
 | .store t a x=>Y3 (isSome (P.info? t)) (.st (zE P t) (cO a) (cO x))
 | .nilCheck x=>some (.nc (cO x))
 | .convert j dst x=>bif xQ P j false&&xQ P dst true then some (.b2s (cO x))else bif xQ P j true&&xQ P dst false then some (.s2b (cO x))else match XL P j dst x with
   |some z=>some z
   |none=>some (.pure op ty)
 | .makeFunc (.func f) first o=>Y3 first.toList.isEmpty (.clo f (o.toList.map cO))
 | .makeSlice t n c=>match wo P t with
   |some e=>match w6 [] (qh P e).cells with
    |some (z,_)=>Y3 (Nat.blt 0 (zE P e)&&Nat.beq z.length (zE P e)) (.mk (zE P e) (wZ P e) z (cO n) (cO c))
    |none=>none
   |none=>none
 | .slice t x lo hi I=>match I,P.underlying t with
   |none,some .string=>some (.sls (cO x) (lo.map cO) (hi.map cO))
   |none,some (.slice e)=>Y3 (isSome (P.info? e)) (.sli (zE P e) (cO x) (lo.map cO) (hi.map cO))
   |_,_=>none
 | .fieldAddr t x f=>match Ww P t f with
   |some (off,p)=>Y3 (Nat.blt 0 (zE P p)) (.fa off (cO x))
   |none=>none
 | .field t x f=>match Ww P t f with
   |some (off,p)=>match VO P p with|some g=>some (.fld g (zE P p) off (cO x))|none=>none
   |none=>none
 | .indexAddr t x i=>match wo P t with
   |some e=>Y3 (Nat.blt 0 (zE P e)) (.ia (zE P e) (cO x) (cO i))
   |none=>none
 | .index t x i=>match P.underlying t with
   |some .string=>some (.six (cO x) (cO i))
   |_=>none
 | .extract x i=>some (.ext (cO x) i)
 | .call {callee:=.builtin .len,args,argTypes}=>match args.toList,argTypes.toList with
   | [x],[t]=>match wo P t with
     |some _=>some (.len (cO x))
     |none=>match W6 P t x with
      |some z=>some z
      |none=>some (.pure op ty)
   |_,_=>none
 | .call {callee:=.builtin .append,args,argTypes}=>match args.toList,argTypes.toList with
   | [x,y],[t,u]=>match wo P t,P.underlying u with
     |some e,some (.slice _)=>Y3 (Nat.blt 0 (zE P e)&&w9 P e) (.app (zE P e) (wZ P e) (cO x) (cO y))
     |some e,some (.int _)=>match w6 [] (qh P e).cells with
      |some (z,_)=>Y3 (Nat.blt 0 (zE P e)&&Nat.beq z.length (zE P e)&&w9 P e) (.appz (zE P e) (wZ P e) z (cO x) (cO y))
      |none=>none
     |some e,some .string=>Y3 (Nat.beq (zE P e) 1&&Nat.beq (wZ P e) 1&&w9 P e) (.apps (cO x) (cO y))
     |_,_=>none
   |_,_=>none
 | .call {callee:=.value (.func f),args,argTypes:=_}=>some (.call f (args.toList.map cO))
 | .call {callee:=.value x,args,argTypes:=_}=>some (.calv (cO x) (args.toList.map cO))
 | .call {callee:=.builtin b,args,argTypes}=>match KH b args.toList with
   |some x=>some x
   |none=>match Qv P b args.toList argTypes.toList with
    |some x=>some x
    |none=>some (.pure op ty)
 | .binOp b t x y _=>match Up P b t y with
   |some neg=>some (.isn neg (cO x))
   |none=>match WT P b t x y with
    |some z=>some z
    |none=>match Qu P b t x y with
    |some z=>some z
    |none=>bif Jb b&&kz P t then some (.bin b (cO x) (cO y))else some (.pure op ty)
 | .unOp b t x=>match Vk P b t x with
   |some z=>some z
   |none=>some (.pure op ty)
 | .makeInterface t x=>match P.underlying t with
   |some (.struct _)=>some (.mki t (cO x))
   |_=>some .stop
 | .typeAssert x _ t c=>match P.underlying t with
   |some (.struct _)=>Y3 (c&&QL P t) (.ast t (qh P t) (cO x))
   |_=>some .stop
 | .call {callee:=.invoke x m,args,argTypes:=_}=>some (.inv (Ua P m P.types.size) (cO x) (args.toList.map cO))
 | .select _ _=>none
 |_=>some .stop
def vo:List Oper ->List Nat
 | []=> []
 |o::r=>match o.guard with
  |some (j,_)=>bif isin j (vo r)then vo r else j::vo r
  |none=>vo r
def ae0 (ops:List Oper)(j:Nat):Option Tmp:=match ops[j]? with|some o=>o.dst|none=>none
def jh (all:List Oper)(g:Option (Nat×Bool)):Option (Option (Nat×Bool)):=
 match g with
 |none=>some none
 |some (j,w)=>match ae0 all j with
  |some d=>some (some (d,w))
  |none=>none
def ae1 (N:Nat):Option Tmp ->Bool
 |some d=>Nat.blt d N
 |none=>true
def amM (P:Program)(op:Op)(ty:TypeId):Option AOp:=
 match op with
 | .makeFunc (.func f) first g=>Y3 first.toList.isEmpty (.clof f (g.toList.map cO))
 | .call {callee:=.value (.func f),args,argTypes:=_}=>some (.callh f (args.toList.map cO))
 | .slice t x lo hi none=>match P.underlying t with
   |some (.slice e)=>Y3 (isSome (P.info? e)) (.slw (zE P e) (cO x) (lo.map cO) (hi.map cO))
   |_=>cOp P op ty
 |op=>cOp P op ty
def Yo (P:Program)(b:Bool)(op:Op)(ty:TypeId):Option AOp:=bif b then amM P op ty else cOp P op ty
def j8 (P:Program)(N:Nat)(hs:List Nat)(all:List Oper)(gs:List Nat):List Nat ->Option (List AI)
 | []=>some []
 |i::r=>match all[i]? with
  |some o=>bif ae1 N o.dst then
   match Yo P (isin i hs) o.op o.type,jh all o.guard,j8 P N hs all gs r with
   |some x,some g,some l=>some (.mk o.dst g (isin i gs) x []::l)
   |_,_,_=>none
   else none
  |none=>none
def AOp.quiet:AOp ->Bool
 | .mov _=>true| .pick _ _ _=>true| .ld _ _ _=>true| .nc _=>true| .b2s _=>true| .sli _ _ _ _=>true| .sls _ _ _=>true| .fa _ _=>true| .fld _ _ _ _=>true
 | .ia _ _ _=>true| .six _ _=>true| .ext _ _=>true| .len _=>true| .bin _ _ _=>true| .pure _ _=>true| .build _ _=>true| .isn _ _=>true| .mm _ _ _=>true
 | .slen _=>true| .bnot _=>true| .ineg _=>true| .beq _ _ _=>true| .shf _ _ _=>true| .conv _ _=>true| .eqa _ _ _ _=>true
 |_=>false
def AOp.reads:AOp ->Bool
 | .ld _ _ _=>true| .b2s _=>true
 |_=>false
def jl:AOp ->Bool
 | .call _ _=>true| .calv _ _=>true| .bx _=>true| .lits _ _=>true| .mk _ _ _ _ _=>true| .s2b _=>true
 |_=>false
def Kv (o:Oper):AOp ->Bool
 | .alloc g=>solid g&& !isSome o.guard&&isSome o.dst
 |_=>false
def Q7 (P:Program)(o:Oper):Nat:=
 match cOp P o.op o.type with
 |some x=>bif x.quiet then(bif x.reads then 2 else 1)else bif jl x then 3 else bif Kv o x then 4 else 0
 |none=>0
def clsAt (P:Program)(hs:List Nat)(ops:Array Oper)(j:Nat):Nat:=bif isin j hs then 0 else match ops[j]? with|some o=>bif Nat.beq (Q7 P o) 4&&isin 999999 hs then 3 else Q7 P o|none=>0
def acb {α:Type}(f:α ->Bool):List α ->Bool| []=>false|x::r=>bif f x then true else acb f r
def u0 {α:Type}(f:α ->Bool):List α ->Bool| []=>true|x::r=>bif f x then u0 f r else false
def akg (ops:Array Oper)(d:Option Tmp)(o:Oper):Bool:=
 match d with
 |some t=>!isin t (o.looksAt ops)&&(match o.dst with|some e=>!Nat.beq e t|none=>true)
 |none=>true
def afq (ops:Array Oper)(x y:Oper):Bool:=akg ops x.dst y&&(match y.dst with|some e=>!isin e (x.looksAt ops)|none=>true)
def waitsFor (ops:Array Oper)(j:Nat)(f:Nat ->Bool):Bool:=match ops[j]? with|some o=>acb (λe=>Region.binds .any e&&f e.on) o.after.toList|none=>true
def dstOf (ops:Array Oper)(j:Nat):Option Tmp:=match ops[j]? with|some o=>o.dst|none=>none
def ah7 (P:Program)(hs:List Nat)(ops:Array Oper)(o:Oper)(c j:Nat):Bool:=match ops[j]? with|some y=>afq ops o y&&(Nat.beq c 1||Nat.ble 1 (clsAt P hs ops j))|none=>false
def depsL (P:Program)(hs:List Nat)(ops:Array Oper)(i:Nat):List Nat ->List Nat ->List Nat
 | [],T=>T
 |j::r,T=>depsL P hs ops i r (bif !Nat.beq (clsAt P hs ops j) 4&&waitsFor ops j (λn=>Nat.beq n i||isin n T)then j::T else T)
def WV (P:Program)(hs:List Nat)(ops:Array Oper)(i:Nat)(r:List Nat):Bool:=
 match ops[i]? with
 |none=>false
 |some o=>
  !isin i r&&u0 (λe=>!Region.binds .any e||(Nat.blt e.on ops.size&& !isin e.on (i::r))) o.after.toList&&
  u0 (λj=>!Nat.beq (clsAt P hs ops j) 4||akg ops (dstOf ops j) o) r&&
  (bif Nat.beq (clsAt P hs ops i) 1||Nat.beq (clsAt P hs ops i) 2 then u0 (λj=>isin j (depsL P hs ops i r [])||ah7 P hs ops o (clsAt P hs ops i) j) r
   else u0 (λj=>Nat.beq (clsAt P hs ops j) 4||waitsFor ops j (λn=>isin n (i::r)&&(Nat.beq n i|| !Nat.beq (clsAt P hs ops n) 4))) r)
def U5 (P:Program)(hs:List Nat)(ops:Array Oper):List Nat ->Bool
 | []=>true
 |i::r=>bif WV P hs ops i r then U5 P hs ops r else false
def XN (P:Program)(hs:List Nat)(ops:Array Oper):List Nat ->Bool
 | []=>true
 |i::r=>bif Nat.beq (clsAt P hs ops i) 4 then u0 (λj=>!Nat.beq (clsAt P hs ops j) 4) r else XN P hs ops r
def abt (P:Program)(hs:List Nat)(ops:Array Oper)(g:List Nat):Bool:=
 P.follows .mixedOrders&&u0 (λi=>isin i g) (zJ 0 ops.size)&&Nat.ble g.length ops.size&&XN P hs ops g&&U5 P hs ops g
def qT (ords:List (Nat×List Nat))(id:Nat):List Nat:=match aget ords (1000000+id)with|some l=>l|none=> []
inductive Tr where
 |fin
 |run (l:List Nat) (t:Tr)
 |br (a b:Tr)
def aot:Nat ->List Nat ->List Nat
 |n+1,x::r=>x::aot n r
 |_,_=> []
def aok:Nat ->List Nat ->List Nat
 |n+1,_::r=>aok n r
 |_,l=>l
def afF:Nat ->List Nat ->Option (Tr×List Nat)
 |0,_=>none
 |_+1,[]=>none
 |n+1,c::r=>match c with
  |0=>some (.fin,r)
  |1=>match r with
   |k::g=>match afF n (aok k g)with
    |some (t,i)=>some (.run (aot k g) t,i)
    |none=>none
   | []=>none
  |_=>match afF n r with
   |some (a,g)=>match afF n g with
    |some (b,i)=>some (.br a b,i)
    |none=>none
   |none=>none
def Zq (i:Nat):List Nat ->List Nat
 | []=> []
 |x::r=>bif Nat.beq x i then Zq i r else x::Zq i r
def ap4:List Nat ->Bool| []=>true|_::_=>false
def U6 (P:Program)(hs:List Nat)(ops:Array Oper):List Nat ->List Nat ->(List Nat ->Bool) ->Bool
 | [],rest,f=>f rest
 |i::l,rest,f=>bif isin i rest&&WV P hs ops i (Zq i rest)then U6 P hs ops l (Zq i rest) f else false
def KV (ops:Array Oper)(rest:List Nat)(j:Nat):Bool:=match ops[j]? with|some o=>u0 (λe=>!Region.binds .any e||(Nat.blt e.on ops.size&& !isin e.on rest)) o.after.toList|none=>false
def XB:Tr ->List Nat
 | .run (j::_) _=> [j]
 | .br a b=>XB a++XB b
 |_=> []
def Zb (P:Program)(hs:List Nat)(ops:Array Oper):Bool ->Tr ->List Nat ->Bool
 |false,.fin,rest=>ap4 rest
 |true,.fin,_=>false
 |false,.run l t,rest=>U6 P hs ops l rest (Zb P hs ops false t)
 |true,.run l t,rest=>match l with
  |j::l=>isin j rest&&U6 P hs ops l (Zq j rest) (Zb P hs ops false t)
  | []=>false
 |b,.br x y,rest=>Zb P hs ops true x rest&&Zb P hs ops true y rest&&(b||(acb (KV ops rest) rest&&u0 (λj=>!KV ops rest j||isin j (XB x++XB y)) rest))
def acK (P:Program)(hs:List Nat)(ops:Array Oper)(t:Tr):Bool:=
 P.follows .mixedOrders&&u0 (λj=>!Nat.beq (clsAt P hs ops j) 4) (zJ 0 ops.size)&&Zb P hs ops false t (zJ 0 ops.size)
def Xz (P:Program)(N:Nat)(hs:List Nat)(all:List Oper)(gs:List Nat):Tr ->Option ATr
 | .fin=>some .fin
 | .run l t=>match j8 P N hs all gs l,Xz P N hs all gs t with
   |some x,some y=>some (.run x y)
   |_,_=>none
 | .br a b=>match Xz P N hs all gs a,Xz P N hs all gs b with
   |some x,some y=>some (.br x y)
   |_,_=>none
def Yp (P:Program)(N:Nat)(ords:List (Nat×List Nat))(id:Nat)(ops:Array Oper):Bool ->Option ACode
 |false=>(j8 P N (qT ords id) ops.toList (vo ops.toList) (zJ 0 ops.toList.length)).map .reg
 |true=>match aget ords (2000000+id)with
  |some l=>match afF 300 l with
   |some (t,_)=>bif acK P (qT ords id) ops t then(Xz P N (qT ords id) ops.toList (vo ops.toList) t).map .tree else none
   |none=>none
  |none=>match aget ords id with
   |some g=>bif abt P (qT ords id) ops g then(j8 P N (qT ords id) ops.toList (vo ops.toList) g).map .reg else none
   |none=>none
def x8 (P:Program)(N:Nat)(ords:List (Nat×List Nat)):Code ->Option ACode
 | .skip=>some .skip
 | .region id ops d=>Yp P N ords id ops d
 | .seq a b=>match x8 P N ords a,x8 P N ords b with
   |some x,some y=>some (.seq x y)
   |_,_=>none
 | .cond c a b=>match x8 P N ords a,x8 P N ords b with
   |some x,some y=>some (.cond (cO c) x y)
   |_,_=>none
 | .block i a=>(x8 P N ords a).map (.block i)
 | .loop a=>(x8 P N ords a).map (.loop [])
 | .scope a=>(x8 P N ords a).map .scope
 | .label _=>some .skip
 | .exit i=>some (.exit i)
 | .ret=>some .ret
 |_=>none
def Kc (P:Program):List ResultVar ->Option (List ARes)
 | []=>some []
 | .tmp t::r=>(Kc P r).map (.tmp t:: ·)
 | .cell a t::r=>match VO P t,Kc P r with
   |some g,some l=>some (.cell a g (zE P t)::l)
   |_,_=>none
def cFun (P:Program)(ords:List (Nat×List Nat))(k:Nat):Option AFun:=
 match P.funcs[k]? with
 |some fn=>match fn.body with
  |some c=>match x8 P fn.ntmps ords c,Kc P fn.results.toList with
   |some x,some r=>bif Nat.ble fn.ntmps 5000 then some ⟨x,r⟩else none
   |_,_=>none
  |none=>none
 |none=>none
def AI.erase:AI ->AI
 | .mk d g i o _=>.mk d g i o []
def ATr.erase:ATr ->ATr
 | .fin=>.fin
 | .run ops t=>.run (ops.map AI.erase) t.erase
 | .br a b=>.br a.erase b.erase
def ACode.erase:ACode ->ACode
 | .skip=>.skip
 | .reg ops=>.reg (ops.map AI.erase)
 | .seq a b=>.seq a.erase b.erase
 | .cond c a b=>.cond c a.erase b.erase
 | .block i a=>.block i a.erase
 | .loop _ a=>.loop [] a.erase
 | .scope a=>.scope a.erase
 | .exit i=>.exit i
 | .ret=>.ret
 | .tree t=>.tree t.erase
def AFun.erase (F:AFun):AFun:=⟨F.code.erase,F.res⟩
def Zn:V ->Option Int
 | .w (.c (.d (.lit (.int _ n))))=>some n
 |_=>none
def yi:V ->Option Bool
 | .w (.c (.d (.lit (.bool b))))=>some b
 |_=>none
def cOf:V ->C
 | .w (.c x)=>x
 |_=>.dead
def wOf:V ->W
 | .w x=>x
 |_=>.c .dead
def cV (x:C):V:=.w (.c x)
def zg (n:Int):V:=cV (.d (.lit (.int .i64 n)))
def zZ (b:Bool):V:=cV (.d (.lit (.bool b)))
def y4 (b:ByteArray):List (List D):=b.data.toList.map λx=> [D.lit (.int .u8 x.toNat)]
def S.o (s:S):O ->V
 | .t n=>s.tmp n
 | .k v=>v
def S.oc (s:S)(x:O):C:=cOf (s.o x)
def S.ow (s:S)(x:O):W:=wOf (s.o x)
def W9 (agg:Bool)(sz:Nat)(cells:List C):Option W:=
 bif agg then(bif Nat.ble sz cells.length then some (.agg (cells.take sz))else none)
 else match cells with|x::_=>some (.c x)| []=>none
def yP (n bytes:Nat):Prop:=n*bytes<=140737488355328
def aLd (dst:Option Nat)(agg:Bool)(sz:Nat)(x:C)(s:S)(K:S ->Prop):Prop:=
 match x with
 | .ptr p off=>match aget s.pl p with
   |some (.box j)=>match W9 agg sz (j.drop off)with
    |some w=>K (s.put dst (.w w))
    |none=>False
   |some (.fbox l)=>match W9 agg sz ((l.drop off).map .d)with
    |some w=>K (s.put dst (.w w))
    |none=>False
   |_=>False
 | .fp cells=>match W9 agg sz (cells.map .d)with
   |some w=>K (s.put dst (.w w))
   |none=>False
 | .eptr p z i k=>match aget s.pl p with
   |some (.arr o g _)=>bif Nat.beq z o then
    ∃e,g[i]? =some e /\(match W9 agg sz ((e.drop k).map .d)with
     |some w=>K (s.put dst (.w w))
     |none=>False)
    else False
   |_=>False
 |_=>False
def aSt (sz:Nat)(x:C)(v:W)(s:S)(K:S ->Prop):Prop:=
 bif Nat.beq v.cells.length sz then
  match x with
  | .ptr p off=>match aget s.pl p with
    |some (.box l)=>
     bif solid v.cells&&Nat.ble (off+v.cells.length) l.length then
      K {s with pl:=yj p (.box (z6 l off v.cells)) s.pl}
     else False
    |_=>False
  | .eptr p z i k=>match w6 s.pl v.cells with
    |some (o,j)=>match aget j p with
     |some (.arr r g false)=>bif Nat.beq z r then
      ∃e,g[i]? =some e /\k+o.length<=e.length /\K {s with pl:=yj p (.arr r (g.set i (z6 e k o)) false) j}
      else False
     |_=>False
    |none=>False
  |_=>False
 else False
def Qw (s:S):List C ->List (Nat×Nat×O) ->Option (List C)
 |g,[]=>some g
 |g,(off,sz,x)::r=>bif solid (s.ow x).cells&&Nat.beq (s.ow x).cells.length sz&&Nat.ble (off+sz) g.length then Qw s (z6 g off (s.ow x).cells) r else none
def abq (s:S)(sz:Nat)(pl:List (Nat×Pl)):List O ->Option (List (List D)×List (Nat×Pl))
 | []=>some ([],pl)
 |x::r=>bif Nat.beq (s.ow x).cells.length sz then
   match w6 pl (s.ow x).cells with
   |some (j,g)=>match abq s sz g r with
    |some (l,i)=>some (j::l,i)
    |none=>none
   |none=>none
  else none
def zQ (o:Option Int)(n:Int):Int:=match o with|some m=>m|none=>n
def S.bnd (s:S):Option O ->Option (Option Int)
 |none=>some none
 |some x=>match Zn (s.o x)with|some n=>some (some n)|none=>none
def amy (dst:Option Nat)(sz:Nat)(x:C)(lo hi:Option Int)(s:S)(K:S ->Prop):Prop:=
 match x with
 | .d (.sl g)=>match lo with
   |none=>0<=zQ hi g.length /\zQ hi g.length<=g.length /\K (s.put dst (cV (.d (.sl (g.take (zQ hi g.length).toNat)))))
   |some l=>(∀y∈g,y.length=sz)/\0<=l /\l<=zQ hi g.length /\zQ hi g.length<=g.length /\
    K (s.put dst (cV (.d (.sl ((g.take (zQ hi g.length).toNat).drop l.toNat)))))
 | .own p z n=>bif Nat.beq z sz then
  match lo with
  |none=>0<=zQ hi n /\zQ hi n<=n /\K (s.put dst (cV (.own p z (zQ hi n).toNat)))
  |some l=>match aget s.pl p with
   |some (.arr i g _)=>bif Nat.beq z i then 0<=l /\l<=zQ hi n /\zQ hi n<=n /\
    K ({s with pl:=qx s.pl p}.put dst (cV (.d (.sl ((g.take (zQ hi n).toNat).drop l.toNat)))))
    else False
   |_=>False
   else False
 | .nil=>0<=zQ lo 0 /\zQ lo 0<=zQ hi 0 /\zQ hi 0<=0 /\K (s.put dst (cV .nil))
 |_=>False
def amz (dst:Option Nat)(x:C)(lo hi:Option Int)(s:S)(K:S ->Prop):Prop:=
 match x with
 | .d (.lit (.string b))=>0<=zQ lo 0 /\zQ lo 0<=zQ hi b.size /\zQ hi b.size<=b.size /\
  K (s.put dst (cV (.d (.lit (.string (b.extract (zQ lo 0).toNat (zQ hi b.size).toNat))))))
 |_=>False
def amA (dst:Option Nat)(sz:Nat)(x:C)(lo hi:Option Int)(s:S)(K:S ->Prop):Prop:=
 match x with
 | .own p z n=>bif Nat.beq z sz then 0<=zQ lo 0 /\zQ lo 0<=zQ hi n /\zQ hi n<=n /\K (s.put dst (cV (.sub p z (zQ lo 0).toNat ((zQ hi n).toNat -(zQ lo 0).toNat))))else False
 | .nil=>0<=zQ lo 0 /\zQ lo 0<=zQ hi 0 /\zQ hi 0<=0 /\K (s.put dst (cV .nil))
 |_=>False
def range:C ->Option (Nat×Nat×Nat×Nat)
 | .own p z n=>some (p,z,0,n)
 | .sub p z off n=>some (p,z,off,n)
 |_=>none
def Xp (pl:List (Nat×Pl)):C ->Option (List (List D))
 | .d (.sl l)=>some l
 | .nil=>some []
 | .own p _ n=>match aget pl p with
   |some (.arr _ g _)=>some (g.take n)
   |_=>none
 |_=>none
def Je (pl:List (Nat×Pl)):C ->Option (List (List D))
 | .sub p z off n=>match aget pl p with
   |some (.arr i g _)=>bif Nat.beq z i then some ((g.drop off).take n)else none
   |_=>none
 |x=>Xp pl x
def amw (dst:Option Nat)(sz:Nat)(x:C)(i:Option (List (List D)))(s:S)(K:S ->Prop):Prop:=
 match i with
 |some l=>match x with
  | .nil=>K (s.put dst (zg 0))
  |x=>match range x with
   |some (p,z,off,n)=>match aget s.pl p with
    |some (.arr j g false)=>bif Nat.beq z j&&Nat.beq z sz then(∀y∈l,y.length=sz)/\
     K ({s with pl:=yj p (.arr j (z6 g off (l.take n)) false) s.pl}.put dst (zg (min l.length n:Nat)))
     else False
    |_=>False
   |none=>False
 |none=>False
def amv (dst:Option Nat)(sz:Nat)(j:List D)(x:C)(s:S)(K:S ->Prop):Prop:=
 match x with
 | .nil=>K (s.put dst xS)
 |x=>match range x with
  |some (p,z,off,n)=>match aget s.pl p with
   |some (.arr i g false)=>bif Nat.beq z i&&Nat.beq z sz then K ({s with pl:=yj p (.arr i (z6 g off (List.replicate n j)) false) s.pl}.put dst xS)else False
   |_=>False
  |none=>False
def ab9 (d:Nat)(sz bytes:Nat)(x:C)(new:Option (List (List D)))(s:S)(K:S ->Prop):Prop:=
 match new with
 |some l=>
  match x with
  | .nil=>(∀y∈l,y.length=sz)/\yP l.length bytes /\l.length<=9223372036854775807 /\
   K ((s.place d (.arr sz l false)).put (some d) (cV (.own d sz l.length)))
  | .own p z n=>match aget s.pl p with
    |some (.arr i g false)=>bif Nat.beq z i&&Nat.beq z sz then
     (∀y∈l,y.length=sz)/\yP (n+l.length) bytes /\n+l.length<=9223372036854775807 /\
      K ((s.redo [p,d] [(d,.arr sz (g.take n++l) false)]).put (some d) (cV (.own d sz (n+l.length))))
     else False
    |_=>False
  |_=>False
 |_=>False
def frz (s:S)(pl:List (Nat×Pl)):List O ->Option (List (List D)×List (Nat×Pl))
 | []=>some ([],pl)
 |x::r=>match s.oc x with
  | .fp i=>match frz s pl r with
    |some (l,g)=>some (i::l,g)
    |none=>none
  | .ptr p 0=>match aget pl p with
    |some (.box o)=>match w6 pl o with
     |some (i,j)=>match frz s (yj p (.fbox i) j) r with
      |some (l,g)=>some (i::l,g)
      |none=>none
     |none=>none
    |some (.fbox i)=>match frz s pl r with
     |some (l,g)=>some (i::l,g)
     |none=>none
    |_=>none
  |_=>none
def agk (s:S):List O ->Option (List Nat)
 | []=>some []
 |x::r=>match s.oc x,agk s r with
  | .ptr p 0,some l=>some (p::l)
  |_,_=>none
def WL (P:Program)(dst:Option Nat)(f:FuncId)(args:List W)(s:S)(K:S ->Prop):Prop:=
 match Js s.pl args with
 |some (i,g)=>Sat P f i λr=>K (ajY s {s with pl:=g} dst r)
 |none=>False
def ZA (dst:Option Nat)(U:List Nat):Nat:=
 match dst with
 |some d=>base d
 |none=>match U with
  |p::_=>10000000+16*p
  | []=>10000000
def aaK (P:Program)(dst:Option Nat)(f:FuncId)(args:List W)(s:S)(K:S ->Prop):Prop:=
 zD P f (args.map (W.pk s.pl (wI s.pl [] (jC args)))) (vZ s.pl (wI s.pl [] (jC args)) 0 (wI s.pl [] (jC args))) λr=>
  cond (QM (wI s.pl [] (jC args)) (ZA dst (wI s.pl [] (jC args))) r)
   (K (kJ s (wI s.pl [] (jC args)) (ZA dst (wI s.pl [] (jC args))) dst r)) False
def J7 (s:S):List Operand ->Bool
 | []=>true
 |x::r=>match af5 (s.o (cO x))with
  |some _=>J7 s r
  |none=>false
def rho (s:S)(x:Operand):Value:=match af5 (s.o (cO x))with|some v=>v|none=>undef
def agl (op:Op)(ty:TypeId):Oper:={dst:=none,op,type:=ty,pos:= "",after:= #[],guard:=none}
def ajc (P:Program)(dst:Option Nat)(op:Op)(ty:TypeId)(s:S)(K:S ->Prop):Prop:=
 bif J7 s op.operands.toList then
  match Ur P (execOp (rho s) (agl op ty))with
  |some (.value v)=>K (s.put dst (.w (ofValue v)))
  |_=>False
 else False
def Vr (b:BinOp)(k:IntKind)(x y:Int):Int:=
 match b with
 | .and=>k.wrap (BitVec.ofInt k.bits x&&&BitVec.ofInt k.bits y).toNat
 | .or=>k.wrap (BitVec.ofInt k.bits x|||BitVec.ofInt k.bits y).toNat
 | .xor=>k.wrap (BitVec.ofInt k.bits x^^^BitVec.ofInt k.bits y).toNat
 |_=>k.wrap (BitVec.ofInt k.bits x&&& ~~~(BitVec.ofInt k.bits y)).toNat
def Vi (left:Bool)(k:IntKind)(x y:Int):Int:=bif left then k.wrap (x*2^min y.toNat k.bits)else x.fdiv (2^min y.toNat k.bits)
def zl (x y:ByteArray):Bool:=x.toList==y.toList
def Z7 (x y:ByteArray):Bool:=Op.bytesLess x.toList y.toList
def acg (b:BinOp)(k:IntKind)(x y:Int):Option Value:=
 match b with
 | .and=>some (.int k (Vr .and k x y))
 | .or=>some (.int k (Vr .or k x y))
 | .xor=>some (.int k (Vr .xor k x y))
 | .andNot=>some (.int k (Vr .andNot k x y))
 | .add=>some (.int k (k.wrap (x+y)))
 | .sub=>some (.int k (k.wrap (x - y)))
 | .mul=>some (.int k (k.wrap (x*y)))
 | .eql=>some (.bool (x==y))
 | .neq=>some (.bool (x !=y))
 | .lss=>some (.bool (decide (x<y)))
 | .leq=>some (.bool (decide (x<=y)))
 | .gtr=>some (.bool (decide (x>y)))
 | .geq=>some (.bool (decide (x>=y)))
 |_=>none
def ach (b:BinOp)(x y:ByteArray):Option Value:=
 match b with
 | .eql=>some (.bool (zl x y))
 | .neq=>some (.bool (!zl x y))
 | .lss=>some (.bool (Z7 x y))
 | .leq=>some (.bool (Z7 x y||zl x y))
 | .gtr=>some (.bool (!(Z7 x y||zl x y)))
 | .geq=>some (.bool (!Z7 x y))
 |_=>none
def ul:IntKind ->IntKind ->Bool
 | .i8,.i8=>true| .i16,.i16=>true| .i32,.i32=>true| .i64,.i64=>true
 | .u8,.u8=>true| .u16,.u16=>true| .u32,.u32=>true| .u64,.u64=>true
 |_,_=>false
def ajb (dst:Option Nat)(b:BinOp)(x y:C)(s:S)(K:S ->Prop):Prop:=
 match x,y with
 | .d (.lit (.int k m)),.d (.lit (.int g n))=>bif ul k g then
  match acg b k m n with
  |some v=>K (s.put dst (cV (.d (.lit v))))
  |none=>match b with
   | .quo=>n≠0 /\K (s.put dst (cV (.d (.lit (.int k (k.wrap (m.tdiv n)))))))
   | .rem=>n≠0 /\K (s.put dst (cV (.d (.lit (.int k (m.tmod n))))))
   |_=>False
   else False
 | .d (.lit (.string m)),.d (.lit (.string n))=>match ach b m n with
   |some v=>K (s.put dst (cV (.d (.lit v))))
   |none=>match b with
    | .add=>m.size+n.size<=9223372036854775807 /\K (s.put dst (cV (.d (.lit (.string (m++n))))))
    |_=>False
 |_,_=>False
def xG (g:Bool)(m n:Int):Int:=bif g then(if n>m then n else m)else(if n<m then n else m)
def aMm (dst:Option Nat)(i:Bool)(x y:C)(s:S)(K:S ->Prop):Prop:=
 match x,y with
 | .d (.lit (.int k m)),.d (.lit (.int g n))=>bif ul k g then K (s.put dst (cV (.d (.lit (.int k (xG i m n))))))else False
 |_,_=>False
def afH (k:Nat)(x y:C):Option Bool:=
 match x,y with
 | .d (.lit (.int g m)),.d (.lit (.int i n))=>bif Nat.beq k 0&&ul g i then some (m==n)else none
 | .d (.lit (.string m)),.d (.lit (.string n))=>bif Nat.beq k 1 then some (zl m n)else none
 | .d (.lit (.bool m)),.d (.lit (.bool n))=>bif Nat.beq k 2 then some (m==n)else none
 |_,_=>none
def jO:List Nat ->List C ->List C ->Option Bool
 | [],[],[]=>some true
 |k::ks,x::xs,y::g=>match afH k x y,jO ks xs g with
  |some a,some b=>some (a&&b)
  |_,_=>none
 |_,_,_=>none
def amx (dst:Option Nat)(neg:Bool)(x:C)(s:S)(K:S ->Prop):Prop:=
 match x with
 | .nil=>K (s.put dst (zZ (!neg)))
 | .d (.sl l)=>(l=[] ->K (s.put dst (zZ (!neg))))/\K (s.put dst (zZ neg))
 | .own _ _ n=>(n=0 ->K (s.put dst (zZ (!neg))))/\K (s.put dst (zZ neg))
 |_=>False
def zF (P:Program)(dst:Option Nat)(op:AOp)(s:S)(K:S ->Prop):Prop:=
 match op with
 | .mov x=>K (s.put dst (s.o x))
 | .pick c a b=>match yi (s.o c)with
   |some t=>cond t (K (s.put dst (s.o a))) (K (s.put dst (s.o b)))
   |none=>False
 | .alloc I=>match dst with
   |some d=>bif solid I then K ((s.place d (.box I)).put (some d) (cV (.ptr d 0)))else False
   |none=>False
 | .bx x=>match dst,s.o x with
   |some d,.w w=>bif solid w.cells then K ((s.place d (.box (w.cells.map (C.kill [d])))).put (some d) (cV (.ptr d 0)))else False
   |_,_=>False
 | .build zero parts=>match Qw s zero parts with
   |some I=>K (s.put dst (.w (.agg I)))
   |none=>False
 | .lits sz parts=>match dst,abq s sz s.pl parts with
   |some d,some (J,r)=>K (({s with pl:=r}.place d (.arr sz J false)).put (some d) (cV (.own d sz J.length)))
   |_,_=>False
 | .ld g sz x=>aLd dst g sz (s.oc x) s K
 | .st sz a x=>match dst with
   |none=>aSt sz (s.oc a) (s.ow x) s K
   |some _=>False
 | .nc x=>match s.oc x with
   | .ptr p k=>K (s.put dst (cV (.ptr p k)))
   | .eptr p z i k=>K (s.put dst (cV (.eptr p z i k)))
   | .fp l=>K (s.put dst (cV (.fp l)))
   |_=>False
 | .b2s x=>match Xp s.pl (s.oc x)with
   |some l=> ∃b:ByteArray,l=y4 b /\K (s.put dst (cV (.d (.lit (.string b)))))
   |none=>False
 | .s2b x=>match dst,s.oc x with
   |some d,.d (.lit (.string b))=>b.size<=9223372036854775807 /\K ((s.place d (.arr 1 (y4 b) true)).put (some d) (cV (.own d 1 b.size)))
   |_,_=>False
 | .clo f j=>match agk s j with
   |some U=>K (s.put dst (cV (.clo f U)))
   |none=>False
 | .clof f j=>match frz s s.pl j with
   |some (l,r)=>K ({s with pl:=r}.put dst (cV (.d (.fn f l))))
   |none=>False
 | .slen x=>match s.oc x with
   | .d (.lit (.string b))=>K (s.put dst (zg b.size))
   |_=>False
 | .cap x=>match s.oc x with
   | .d (.sl l)=> ∀c:Nat,l.length<=c ->c<=9223372036854775807 ->K (s.put dst (zg c))
   | .nil=>K (s.put dst (zg 0))
   | .own _ _ n=> ∀c:Nat,n<=c ->c<=9223372036854775807 ->K (s.put dst (zg c))
   |_=>False
 | .cpy sz x y=>amw dst sz (s.oc x) (Je s.pl (s.oc y)) s K
 | .clr sz z x=>amv dst sz z (s.oc x) s K
 | .slw sz x lo hi=>match s.bnd lo,s.bnd hi with
   |some l,some h=>amA dst sz (s.oc x) l h s K
   |_,_=>False
 | .bnot x=>match yi (s.o x)with
   |some b=>K (s.put dst (zZ (!b)))
   |none=>False
 | .ineg x=>match s.oc x with
   | .d (.lit (.int k n))=>K (s.put dst (cV (.d (.lit (.int k (k.wrap (0 - n)))))))
   |_=>False
 | .beq neg x y=>match yi (s.o x),yi (s.o y)with
   |some a,some b=>K (s.put dst (zZ (bif neg then a !=b else a==b)))
   |_,_=>False
 | .shf left x y=>match s.oc x,s.oc y with
   | .d (.lit (.int k m)),.d (.lit (.int _ n))=>0<=n /\K (s.put dst (cV (.d (.lit (.int k (Vi left k m n))))))
   |_,_=>False
 | .stop=>False
 | .conv k x=>match s.oc x with
   | .d (.lit (.int _ n))=>K (s.put dst (cV (.d (.lit (.int k (k.wrap n))))))
   |_=>False
 | .eqa neg ks x y=>match s.o x,s.o y with
   | .w (.agg xs),.w (.agg ys)=>match jO ks xs ys with
     |some b=>K (s.put dst (zZ (bif neg then !b else b)))
     |none=>False
   |_,_=>False
 | .callh f args=>aaK P dst f (args.map s.ow) s K
 | .mk sz bytes z n c=>match dst,Zn (s.o n),Zn (s.o c)with
   |some d,some n,some c=>0<=n /\n<=c /\yP c.toNat bytes /\c<=9223372036854775807 /\
    K ((s.place d (.arr sz (List.replicate n.toNat z) false)).put (some d) (cV (.own d sz n.toNat)))
   |_,_,_=>False
 | .sli sz x lo hi=>match s.bnd lo,s.bnd hi with
   |some l,some h=>amy dst sz (s.oc x) l h s K
   |_,_=>False
 | .sls x lo hi=>match s.bnd lo,s.bnd hi with
   |some l,some h=>amz dst (s.oc x) l h s K
   |_,_=>False
 | .fa off x=>match s.oc x with
   | .ptr p o=>K (s.put dst (cV (.ptr p (o+off))))
   | .eptr p z i k=>K (s.put dst (cV (.eptr p z i (k+off))))
   | .fp cells=>K (s.put dst (cV (.fp (cells.drop off))))
   |_=>False
 | .fld g sz off x=>match s.o x with
   | .w (.agg I)=>match W9 g sz (I.drop off)with
     |some w=>K (s.put dst (.w w))
     |none=>False
   |_=>False
 | .ia sz x i=>match Zn (s.o i)with
   |some n=>match s.oc x with
    | .d (.sl l)=>0<=n /\ ∃y,l[n.toNat]? =some y /\y.length=sz /\K (s.put dst (cV (.fp y)))
    | .own p z m=>bif Nat.beq z sz then 0<=n /\n<m /\K (s.put dst (cV (.eptr p z n.toNat 0)))else False
    |_=>False
   |none=>False
 | .six x i=>match s.oc x,Zn (s.o i)with
   | .d (.lit (.string b)),some n=>0<=n /\n<b.size /\K (s.put dst (cV (.d (.lit (.int .u8 (b.data.toList.getD n.toNat 0).toNat)))))
   |_,_=>False
 | .ext x i=>match s.o x with
   | .tup xs=>match xs[i]? with
     |some w=>K (s.put dst (.w w))
     |none=>False
   |_=>False
 | .len x=>match s.oc x with
   | .d (.sl l)=>K (s.put dst (zg l.length))
   | .nil=>K (s.put dst (zg 0))
   | .own _ _ n=>K (s.put dst (zg n))
   |_=>False
 | .app sz bytes x y=>match dst with
   |some d=>ab9 d sz bytes (s.oc x) (Xp s.pl (s.oc y)) s K
   |none=>False
 | .appz sz bytes z x n=>match dst,s.oc x,Zn (s.o n)with
   |some d,.nil,some m=>0<=m /\yP m.toNat bytes /\m<=9223372036854775807 /\K ((s.place d (.arr sz (List.replicate m.toNat z) false)).put (some d) (cV (.own d sz m.toNat)))
   |_,_,_=>False
 | .apps x y=>match dst,s.oc y with
   |some d,.d (.lit (.string b))=>ab9 d 1 1 (s.oc x) (some (y4 b)) s K
   |_,_=>False
 | .bin b x y=>ajb dst b (s.oc x) (s.oc y) s K
 | .isn neg x=>amx dst neg (s.oc x) s K
 | .mm T x y=>aMm dst T (s.oc x) (s.oc y) s K
 | .pure op ty=>ajc P dst op ty s K
 | .call f args=>WL P dst f (args.map s.ow) s K
 | .mki t x=>match s.ow x with
   | .agg I=>match w6 s.pl I with
     |some (R,r)=>K ({s with pl:=r}.put dst (cV (.d (.ifc t R))))
     |none=>False
   |_=>False
 | .ast t z x=>match s.oc x with
   | .d (.ifc u l)=>bif Nat.beq u t then K (s.put dst (.tup [.agg (l.map .d),.c (.d (.lit (.bool true)))]))else K (s.put dst (.tup [z,.c (.d (.lit (.bool false)))]))
   |_=>False
 | .inv tb x args=>match s.oc x with
   | .d (.ifc u l)=>match aget tb u with
     |some f=>WL P dst f (.agg (l.map .d)::args.map s.ow) s K
     |none=>False
   |_=>False
 | .calv x args=>match s.oc x with
   | .clo f []=>WL P dst f (args.map s.ow) s K
   | .d (.fn f j)=>WL P dst f (args.map s.ow++j.map λR=>W.c (.fp R)) s K
   |_=>False
def split (g:Bool)(dst:Option Nat)(s:S)(K:S ->Prop):Prop:=
 bif g then
  match dst with
  |some d=>match yi (s.tmp d)with
   |some b=>cond b (K (s.put dst (zZ true))) (K (s.put dst (zZ false)))
   |none=>K s
  |none=>K s
 else K s
def S.drop (s:S)(l:List Nat):S:={s with sl:=xx (λk=>!isin k l) s.sl}
def zN (P:Program):List AI ->S ->(S ->Prop) ->Prop
 | [],s,K=>K s
 | .mk dst g l op drop::rest,s,K=>
   match g with
   |none=>zF P dst op s λo=>split l dst o λj=>y8 (j.drop drop) λj=>zN P rest j K
   |some (d,i)=>match s.tmp d with
    | .w (.c (.d (.lit (.bool b))))=>
      bif (bif b then i else !i)then zF P dst op s λo=>split l dst o λj=>y8 (j.drop drop) λj=>zN P rest j K
      else y8 ((s.put dst xS).drop drop) λs=>zN P rest s K
    | .tup []=>y8 ((s.put dst xS).drop drop) λs=>zN P rest s K
    |_=>False
inductive E where
 |normal
 |exit (id:Nat)
 |ret
def Ut:List (Nat×V) ->List Nat
 | []=> []
 |(_,v)::r=>v.refs++Ut r
def XW:List Nat ->List (Nat×Pl) ->List Nat
 |_,[]=> []
 |g,(p,.box i)::r=>bif isin p g then Us i++XW g r else XW g r
 |g,_::r=>XW g r
def uK:List Nat ->List Nat ->List Nat
 | [],l=>l
 |x::r,l=>bif isin x l then uK r l else uK r (x::l)
def S.norm (s:S)(g:List Nat):S:=
 {sl:=xx (λk=>isin k g) s.sl,
  pl:=xx (λk=>isin k (uK (XW (uK (XW (uK (Ut (xx (λk=>isin k g) s.sl)) []) s.pl) (uK (Ut (xx (λk=>isin k g) s.sl)) [])) s.pl)
   (uK (XW (uK (Ut (xx (λk=>isin k g) s.sl)) []) s.pl) (uK (Ut (xx (λk=>isin k g) s.sl)) [])))) s.pl}
def V7:List Nat ->(List Nat ->Prop) ->Prop
 | [],K=>K []
 |x::r,K=>V7 r λr=>K (x::r)
theorem WU: ∀(l:List Nat) (K:List Nat ->Prop),V7 l K=K l
 | [],_=>rfl
 |x::r,K=>by simp only[V7,WU r]
def QD (s:S)(g:List Nat)(K:S ->Prop):Prop:=
 V7 (uK (Ut (xx (λk=>isin k g) s.sl)) []) λi=>V7 (uK (XW i s.pl) i) λj=>V7 (uK (XW j s.pl) j) λl=>
  y8 ⟨xx (λk=>isin k g) s.sl,xx (λk=>isin k l) s.pl⟩ K
theorem Xn (s:S)(g:List Nat)(K:S ->Prop):QD s g K=K (s.norm g):=by
 unfold QD;rw[WU,WU,WU,yU];rfl
def xm (s:S)(g:List Nat)(K:S ->Prop):Prop:= ∃t,Y6 s t /\QD t g K
theorem zf {s:S}{g:List Nat}{K:S ->Prop}(h:QD s g K):xm s g K:=⟨s,Y6.refl s,h⟩
def J9 (P:Program):ATr ->S ->(S ->Prop) ->Prop
 | .fin,s,K=>K s
 | .run ops t,s,K=>zN P ops s λg=>J9 P t g K
 | .br a b,s,K=>J9 P a s K /\J9 P b s K
def YY (P:Program):ACode ->(E ->S ->Prop) ->S ->Prop
 | .skip,Q,s=>Q .normal s
 | .reg ops,Q,s=>zN P ops s (Q .normal)
 | .seq a b,Q,s=>YY P a (λe g=>match e with| .normal=>YY P b Q g| .exit i=>Q (.exit i) g| .ret=>Q .ret g) s
 | .cond c a b,Q,s=>match yi (s.o c)with
   |some t=>cond t (YY P a Q s) (YY P b Q s)
   |none=>False
 | .block id a,Q,s=>YY P a (λe g=>match e with| .normal=>Q .normal g| .exit i=>bif Nat.beq i id then Q .normal g else Q (.exit i) g| .ret=>Q .ret g) s
 | .loop j body,Q,s=> ∃(I:S ->Prop) (μ:S ->Nat),xm s j I /\ ∀g,I g ->
  YY P body (λe l=>match e with| .normal=>xm l j λl=>I l /\μ l<μ g| .exit i=>Q (.exit i) l| .ret=>Q .ret l) g
 | .scope a,Q,s=>YY P a Q s
 | .exit i,Q,s=>Q (.exit i) s
 | .ret,Q,s=>Q .ret s
 | .tree t,Q,s=>J9 P t s (Q .normal)
def anA (s:S):ARes ->Option W
 | .tmp t=>match s.tmp t with| .w w=>some w|_=>none
 | .cell a g sz=>match cOf (s.tmp a)with
   | .ptr p off=>match aget s.pl p with
     |some (.box i)=>W9 g sz (i.drop off)
     |some (.fbox j)=>W9 g sz ((j.drop off).map .d)
     |_=>none
   |_=>none
def kK (s:S):List ARes ->Option (List W)
 | []=>some []
 |x::r=>match anA s x,kK s r with
  |some w,some l=>some (w::l)
  |_,_=>none
def anz (s:S)(l:List ARes):Option V:=
 match kK s l with
 |some [w]=>some (.w w)
 |some ws=>some (.tup ws)
 |none=>none
def jk:Nat ->List W ->List (Nat×V)
 |_,[]=> []
 |i,w::r=>(i,.w w)::jk (i+1) r
def VJ (g:List ARes)(U:List Nat)(Q:Res ->Prop)(s:S):Prop:=
 match anz s g with
 |some v=>Q (aor s.pl U v)
 |none=>False
def amF (P:Program)(F:AFun)(args:List W)(Q:Res ->Prop):Prop:=
 y8 ⟨jk 0 args,[]⟩ λs=>YY P F.code (λe s=>match e with| .exit _=>False| .normal=>VJ F.res [] Q s| .ret=>VJ F.res [] Q s) s
def vz (n0:Nat)(hs:List Pl):List Nat:=zJ n0 hs.length
def ko (n0:Nat)(P:Program)(F:AFun)(args:List W)(hs:List Pl)(Q:Res ->Prop):Prop:=
 y8 ⟨jk 0 (args.map (W.ren ((vz n0 hs).map some))),uA n0 (hs.map (Pl.ren ((vz n0 hs).map some)))⟩ λs=>
  YY P F.code (λe s=>match e with| .exit _=>False| .normal=>VJ F.res (vz n0 hs) Q s| .ret=>VJ F.res (vz n0 hs) Q s) s
def aoj (P:Program)(F:AFun)(args:List W)(hs:List Pl)(Q:Res ->Prop):Prop:=ko 100000 P F args hs Q
section
variable {α β:Type}
theorem y7 {m n:Nat}(h:m≠n):Nat.beq m n=false:=by
 cases e:Nat.beq m n
 ·rfl
 ·exact absurd (Nat.eq_of_beq_eq_true e) h
theorem qC (n:Nat):Nat.beq n n=true:=Nat.beq_refl n
theorem yg (k:Nat)(v:α)(r:List (Nat×α))(n:Nat):aget ((k,v)::r) n=if k=n then some v else aget r n:=by
 by_cases h:k=n
 ·subst h;simp[aget]
 ·simp[aget,y7 h,h]
theorem yf (l:List (Nat×α))(n m:Nat)(v:α):aget (yj n v l) m=if n=m then some v else aget l m:=by
 induction l with
 |nil=>simp[yj,yg]
 |cons x r i=>
  obtain⟨k,u⟩:=x;unfold yj;by_cases h:k=n
  ·subst h;simp only[qC,cond_true,yg];by_cases g:k=m<;>simp[g]
  ·rw[y7 h];cases j:Nat.blt n k
   ·simp only[cond_false,yg,i];by_cases g:k=m
    ·subst g;simp[Ne.symm h]
    ·simp[g]
   ·simp only[cond_false,cond_true,yg]
theorem afm (l:List (Nat×α))(f:α ->β)(m:Nat):aget (aca f l) m=(aget l m).map f:=by
 induction l with
 |nil=>simp[aget,aca]
 |cons x r g=>
  obtain⟨k,u⟩:=x;simp only[aca,yg,g];by_cases h:k=m<;>simp[h]
theorem u6 (l:List (Nat×α))(f:Nat ->Bool)(m:Nat):aget (xx f l) m=if f m=true then aget l m else none:=by
 induction l with
 |nil=>simp[xx,aget]
 |cons x r i=>
  obtain⟨k,u⟩:=x;unfold xx;cases g:f k
  ·simp only[cond_false,i,yg];by_cases hk:k=m
   ·subst hk;simp[g]
   ·simp[hk]
  ·simp only[cond_true,yg,i];by_cases hk:k=m
   ·subst hk;simp[g]
   ·simp[hk]
theorem QU (l:List (Nat×α))(f:Nat ->Bool)(m:Nat)(v:α)(h:aget (xx f l) m=some v):aget l m=some v /\f m=true:=by
 rw[u6]at h;split at h
 ·exact⟨h,by assumption⟩
 ·cases h
end
theorem zV (n:Nat)(l:List Nat):isin n l=true↔n∈l:=by
 induction l with
 |nil=>simp[isin]
 |cons k r g=>
  unfold isin;by_cases h:k=n
  ·subst h;simp
  ·rw[y7 h];simp[g,Ne.symm h]
theorem ahl (new pl:List (Nat×Pl))(m:Nat):aget (aaL new pl) m=match aget new m with|some x=>some x|none=>aget pl m:=by
 induction new with
 |nil=>rfl
 |cons x r g=>
  obtain⟨k,u⟩:=x;simp only[aaL,yf,g,yg];by_cases h:k=m<;>simp[h]
def zW (w w':World)(ok ok':Nat ->Prop):Prop:= ∀b,ok b ->ok' b /\w'.heap[b]? =w.heap[b]?
theorem ue {w w':World}{b:Nat}(h:w'.heap[b]? =w.heap[b]?)(o:Nat):w'.cell? ⟨b,o,none⟩=w.cell? ⟨b,o,none⟩:=by
 simp[World.cell?,h]
mutual
theorem RD.keep {w w':World}{ok ok':Nat ->Prop}(h:zW w w' ok ok'): ∀(d:D) (v:Value),RD w ok d v ->RD w' ok' d v
 | .lit x,v,g=>by simp only[RD]at g⊢;exact g
 | .sl l,v,g=>by
   simp only[RD]at g⊢;obtain⟨a,n,c,j,p,T,U,r⟩:=g;refine⟨a,n,c,j,p,T,U,?_⟩;rcases r with r|⟨b,o,sz,P,J,R⟩
   ·exact .inl r
   ·exact .inr ⟨b,o,sz,P,(h b J).1,RDs.keep h b J sz l o R⟩
 | .fn f i,v,g=>by
   simp only[RD]at g⊢;obtain⟨I,j,p⟩:=g;exact⟨I,j,RDf.keep h i I p⟩
 | .ifc t l,v,g=>by
   simp only[RD]at g⊢;obtain⟨vs,j,p⟩:=g;exact⟨vs,j,RDv.keep h l vs p⟩
theorem RDv.keep {w w':World}{ok ok':Nat ->Prop}(h:zW w w' ok ok'): ∀(l:List D) (vs:List Value),RDv w ok vs l ->RDv w' ok' vs l
 | [],vs,g=>by simp only[RDv]at g⊢;exact g
 |d::r,vs,g=>by
  simp only[RDv]at g⊢;obtain⟨v,i,j,o,p⟩:=g;exact⟨v,i,j,RD.keep h d v o,RDv.keep h r i p⟩
theorem RDs.keep {w w':World}{ok ok':Nat ->Prop}(h:zW w w' ok ok')(b:Nat)(i:ok b)(sz:Nat): ∀(l:List (List D)) (o:Nat),RDs w ok b sz o l ->RDs w' ok' b sz o l
 | [],o,_=>by simp only[RDs]
 |e::r,o,g=>by
  simp only[RDs]at g⊢;exact⟨g.1,RDc.keep h b i e o g.2.1,RDs.keep h b i sz r (o+sz) g.2.2⟩
theorem RDc.keep {w w':World}{ok ok':Nat ->Prop}(h:zW w w' ok ok')(b:Nat)(g:ok b): ∀(l:List D) (o:Nat),RDc w ok b o l ->RDc w' ok' b o l
 | [],o,_=>by simp only[RDc]
 |d::r,o,i=>by
  simp only[RDc]at i⊢;obtain⟨⟨v,j,p⟩,I⟩:=i;exact⟨⟨v,by rw[ue (h b g).2];exact j,RD.keep h d v p⟩,RDc.keep h b g r (o+1) I⟩
theorem RDf.keep {w w':World}{ok ok':Nat ->Prop}(h:zW w w' ok ok'): ∀(l:List (List D)) (j:List Value),RDf w ok j l ->RDf w' ok' j l
 | [],j,i=>by simp only[RDf]at i⊢;exact i
 |c::r,j,i=>by
  simp only[RDf]at i⊢;obtain⟨b,o,g,I,p,J,P⟩:=i;exact⟨b,o,g,I,(h b p).1,RDc.keep h b p c o J,RDf.keep h r g P⟩
end
theorem RDc.keep' {w w':World}{ok ok':Nat ->Prop}(h:zW w w' ok ok')(b:Nat): ∀(l:List D) (o:Nat),(∀j,o<=j ->j<o+l.length ->w'.cell? ⟨b,j,none⟩=w.cell? ⟨b,j,none⟩) ->RDc w ok b o l ->RDc w' ok' b o l
 | [],o,_,_=>by simp only[RDc]
 |d::r,o,p,I=>by
  simp only[RDc]at I⊢;obtain⟨⟨v,i,g⟩,J⟩:=I;refine⟨⟨v,by rw[p o (Nat.le_refl _) (by simp)];exact i,RD.keep h d v g⟩,RDc.keep' h b r (o+1) (λj i g=>p j (by omega) (by simp at g⊢;omega)) J⟩
theorem RDs.keep' {w w':World}{ok ok':Nat ->Prop}(h:zW w w' ok ok')(b sz:Nat): ∀(l:List (List D)) (o:Nat),(∀j,o<=j ->j<o+l.length*sz ->w'.cell? ⟨b,j,none⟩=w.cell? ⟨b,j,none⟩) ->RDs w ok b sz o l ->RDs w' ok' b sz o l
 | [],o,_,_=>by simp only[RDs]
 |e::r,o,I,g=>by
  simp only[RDs]at g⊢;refine⟨g.1,RDc.keep' h b e o (λj i p=>I j i ?_) g.2.1,RDs.keep' h b sz r (o+sz) (λj i p=>I j (by omega) ?_) g.2.2⟩
  ·rw[g.1]at p;simp only[List.length_cons,Nat.add_mul,Nat.one_mul];omega
  ·simp only[List.length_cons,Nat.add_mul,Nat.one_mul];omega
theorem RDs.len {w:World}{ok:Nat ->Prop}{b sz:Nat}: ∀{l:List (List D)}{o:Nat},RDs w ok b sz o l -> ∀e∈l,e.length=sz
 | [],_,_,e,g=>by cases g
 |x::r,o,i,e,g=>by
  simp only[RDs]at i;rcases List.mem_cons.1 g with rfl|g
  ·exact i.1
  ·exact RDs.len i.2.2 e g
theorem RDs.get {w:World}{ok:Nat ->Prop}{b sz:Nat}: ∀{l:List (List D)}{o i:Nat}{e:List D},RDs w ok b sz o l ->l[i]? =some e ->RDc w ok b (o+i*sz) e
 | [],_,i,e,_,g=>by simp at g
 |x::r,o,0,e,j,g=>by
  simp only[RDs]at j;simp at g;subst g;simpa using j.2.1
 |x::r,o,i+1,e,j,g=>by
  simp only[RDs]at j;simp at g;have:=RDs.get j.2.2 g;rwa[show o+(i+1)*sz=o+sz+i*sz by rw[Nat.add_mul];omega]
theorem RDs.take {w:World}{ok:Nat ->Prop}{b sz:Nat}: ∀{l:List (List D)}{o:Nat}(n:Nat),RDs w ok b sz o l ->RDs w ok b sz o (l.take n)
 | [],_,n,_=>by simp[RDs]
 |x::r,o,0,g=>by simp[RDs]
 |x::r,o,n+1,g=>by
  simp only[RDs,List.take_succ_cons]at g⊢;exact⟨g.1,g.2.1,RDs.take n g.2.2⟩
theorem RDs.drop {w:World}{ok:Nat ->Prop}{b sz:Nat}: ∀{l:List (List D)}{o:Nat}(n:Nat),RDs w ok b sz o l ->RDs w ok b sz (o+n*sz) (l.drop n)
 | [],_,n,_=>by simp[RDs]
 |x::r,o,0,g=>by simpa using g
 |x::r,o,n+1,g=>by
  simp only[List.drop_succ_cons];simp only[RDs]at g;have:=RDs.drop n g.2.2;rwa[show o+(n+1)*sz=o+sz+n*sz by rw[Nat.add_mul];omega]
theorem RDc.drop {w:World}{ok:Nat ->Prop}{b:Nat}: ∀{l:List D}{o:Nat}(n:Nat),RDc w ok b o l ->RDc w ok b (o+n) (l.drop n)
 | [],_,n,_=>by simp[RDc]
 |x::r,o,0,g=>by simpa using g
 |x::r,o,n+1,g=>by
  simp only[List.drop_succ_cons];simp only[RDc]at g;have:=RDc.drop n g.2;rwa[show o+(n+1)=o+1+n by omega]
def zU (w w':World):Prop:= ∀b t m,w.shape? b=some (t,m) ->w'.shape? b=some (t,m)
theorem zU.refl (w:World):zU w w:=λ_ _ _ h=>h
section
variable {ι ι':Nat ->Gh}{w w':World}{ok ok':Nat ->Prop}{l:List Nat}
theorem CR.kill (hk:zW w w' ok ok')(hs:zU w w')(I: ∀p,isin p l=false ->ι' p=ι p)(c:C)(v:Value)(h:CR ι w ok c v):CR ι' w' ok' (c.kill l) v:=by
 cases c with
 |dead=>trivial
 |d x=>exact RD.keep hk x v h
 |nil=>exact h
 |ptr p o=>
  simp only[C.kill];cases r:isin p l
  ·obtain⟨b,j,g⟩:=h;exact⟨b,by rw[I p r];exact j,g⟩
  ·trivial
 |eptr p z i k=>
  simp only[C.kill];cases r:isin p l
  ·obtain⟨b,j,g⟩:=h;exact⟨b,by rw[I p r];exact j,g⟩
  ·trivial
 |own p z n=>
  simp only[C.kill];cases r:isin p l
  ·rcases h with⟨j,g,P⟩|⟨b,cap,t,j,g,P,T,U,h6⟩
   ·exact .inl ⟨by rw[I p r];exact j,g,P⟩
   ·exact .inr ⟨b,cap,t,by rw[I p r];exact j,by rw[I p r];exact g,P,T,U,hs _ _ _ h6⟩
  ·trivial
 |sub p z o n=>
  simp only[C.kill];cases r:isin p l
  ·simp only[CR]at h;simp only[CR,cond_false];rw[I p r];exact h
  ·trivial
 |fp cells=>
  obtain⟨b,o,j,g,P⟩:=h;exact⟨b,o,j,(hk b g).1,RDc.keep hk b g _ _ P⟩
 |clo f J=>
  simp only[C.kill];cases r:J.any (λq=>isin q l)
  ·obtain⟨R,j,g⟩:=h;refine⟨R,?_,g⟩;rw[<- j];apply List.map_congr_left;intro q hq;apply congrArg Gh.b;apply I;have:=List.any_eq_false.1 r q hq;simpa using this
  ·trivial
theorem CR.keep (hk:zW w w' ok ok')(hs:zU w w')(c:C)(v:Value)(h:CR ι w ok c v):CR ι w' ok' c v:=by
 cases c with
 |dead=>trivial
 |d x=>exact RD.keep hk x v h
 |nil=>exact h
 |ptr p o=>exact h
 |eptr p z i k=>exact h
 |own p z n=>
  rcases h with h|⟨b,cap,t,j,g,l,I,J,P⟩
  ·exact .inl h
  ·exact .inr ⟨b,cap,t,j,g,l,I,J,hs _ _ _ P⟩
 |sub p z o n=>exact h
 |fp cells=>
  obtain⟨b,o,j,g,l⟩:=h;exact⟨b,o,j,(hk b g).1,RDc.keep hk b g _ _ l⟩
 |clo f r=>exact h
theorem CRs.kill (hk:zW w w' ok ok')(hs:zU w w')(i: ∀p,isin p l=false ->ι' p=ι p): ∀(g:List C) (vs:List Value),CRs ι w ok g vs ->CRs ι' w' ok' (g.map (C.kill l)) vs
 | [],[],_=>trivial
 | [],_::_,h=>h
 |_::_,[],h=>h
 |c::g,v::vs,h=>⟨CR.kill hk hs i c v h.1,CRs.kill hk hs i g vs h.2⟩
theorem CRs.keep (hk:zW w w' ok ok')(hs:zU w w'): ∀(g:List C) (vs:List Value),CRs ι w ok g vs ->CRs ι w' ok' g vs
 | [],[],_=>trivial
 | [],_::_,h=>h
 |_::_,[],h=>h
 |c::g,v::vs,h=>⟨CR.keep hk hs c v h.1,CRs.keep hk hs g vs h.2⟩
theorem WR.kill (hk:zW w w' ok ok')(hs:zU w w')(g: ∀p,isin p l=false ->ι' p=ι p)(x:W)(v:Value)(h:WR ι w ok x v):WR ι' w' ok' (x.kill l) v:=by
 cases x with
 |c x=>exact CR.kill hk hs g x v h
 |agg i=>obtain⟨vs,j,o⟩:=h;exact⟨vs,j,CRs.kill hk hs g i vs o⟩
theorem WR.keep (hk:zW w w' ok ok')(hs:zU w w')(x:W)(v:Value)(h:WR ι w ok x v):WR ι w' ok' x v:=by
 cases x with
 |c x=>exact CR.keep hk hs x v h
 |agg g=>obtain⟨vs,i,j⟩:=h;exact⟨vs,i,CRs.keep hk hs g vs j⟩
theorem xP.kill (hk:zW w w' ok ok')(hs:zU w w')(i: ∀p,isin p l=false ->ι' p=ι p): ∀(g:List W) (vs:List Value),xP ι w ok g vs ->xP ι' w' ok' (g.map (W.kill l)) vs
 | [],[],_=>trivial
 | [],_::_,h=>h
 |_::_,[],h=>h
 |c::g,v::vs,h=>⟨WR.kill hk hs i c v h.1,xP.kill hk hs i g vs h.2⟩
theorem xP.keep (hk:zW w w' ok ok')(hs:zU w w'): ∀(g:List W) (vs:List Value),xP ι w ok g vs ->xP ι w' ok' g vs
 | [],[],_=>trivial
 | [],_::_,h=>h
 |_::_,[],h=>h
 |c::g,v::vs,h=>⟨WR.keep hk hs c v h.1,xP.keep hk hs g vs h.2⟩
theorem VR.kill (hk:zW w w' ok ok')(hs:zU w w')(g: ∀p,isin p l=false ->ι' p=ι p)(x:V)(v:Value)(h:VR ι w ok x v):VR ι' w' ok' (x.kill l) v:=by
 cases x with
 |w x=>exact WR.kill hk hs g x v h
 |tup i=>obtain⟨vs,j,o⟩:=h;exact⟨vs,j,xP.kill hk hs g i vs o⟩
theorem VR.keep (hk:zW w w' ok ok')(hs:zU w w')(x:V)(v:Value)(h:VR ι w ok x v):VR ι w' ok' x v:=by
 cases x with
 |w x=>exact WR.keep hk hs x v h
 |tup g=>obtain⟨vs,i,j⟩:=h;exact⟨vs,i,xP.keep hk hs g vs j⟩
end
theorem CRs.length {ι:Nat ->Gh}{w:World}{ok:Nat ->Prop}: ∀{g:List C}{vs:List Value},CRs ι w ok g vs ->g.length=vs.length
 | [],[],_=>rfl
 | [],_::_,h=>h.elim
 |_::_,[],h=>h.elim
 |_::_,_::_,h=>by simp[CRs.length h.2]
theorem CRs.take {ι:Nat ->Gh}{w:World}{ok:Nat ->Prop}: ∀{g:List C}{vs:List Value}(n:Nat),CRs ι w ok g vs ->CRs ι w ok (g.take n) (vs.take n)
 | [],[],n,_=>by simp[CRs]
 | [],_::_,_,h=>h.elim
 |_::_,[],_,h=>h.elim
 |_::_,_::_,0,_=>by simp[CRs]
 |_::_,_::_,n+1,h=>⟨h.1,CRs.take n h.2⟩
theorem CRs.drop {ι:Nat ->Gh}{w:World}{ok:Nat ->Prop}: ∀{g:List C}{vs:List Value}(n:Nat),CRs ι w ok g vs ->CRs ι w ok (g.drop n) (vs.drop n)
 | [],[],n,_=>by simp[CRs]
 | [],_::_,_,h=>h.elim
 |_::_,[],_,h=>h.elim
 |_::_,_::_,0,h=>h
 |_::_,_::_,n+1,h=>CRs.drop n h.2
theorem CRs.append {ι:Nat ->Gh}{w:World}{ok:Nat ->Prop}: ∀{i j:List C}{vs l:List Value},CRs ι w ok i vs ->CRs ι w ok j l ->CRs ι w ok (i++j) (vs++l)
 | [],_,[],_,_,g=>g
 | [],_,_::_,_,h,_=>h.elim
 |_::_,_,[],_,h,_=>h.elim
 |_::_,_,_::_,_,h,g=>⟨h.1,CRs.append h.2 g⟩
theorem CR.one {ι:Nat ->Gh}{w:World}{ok:Nat ->Prop}{c:C}{v:Value}(h:CR ι w ok c v)(j:c.isDead=false):v.oneCell'=true:=by
 cases c with
 |dead=>cases j
 |d x=>cases x with
  |lit u=>simp only[CR,RD]at h;obtain⟨rfl,h⟩:=h;exact h
  |sl l=>simp only[CR,RD]at h;obtain⟨_,_,_,rfl,_⟩:=h;rfl
  |fn f l=>simp only[CR,RD]at h;obtain⟨_,rfl,_⟩:=h;rfl
  |ifc f l=>simp only[CR,RD]at h;obtain⟨_,rfl,_⟩:=h;rfl
 |nil=>simp only[CR]at h;subst h;rfl
 |ptr p o=>obtain⟨_,_,rfl⟩:=h;rfl
 |eptr p z i k=>obtain⟨_,_,rfl⟩:=h;rfl
 |own p z n=>rcases h with⟨_,_,rfl⟩|⟨_,_,_,_,_,rfl,_⟩<;>rfl
 |sub p z o n=>obtain⟨_,_,rfl,_⟩:=h;rfl
 |fp cells=>obtain⟨_,_,rfl,_⟩:=h;rfl
 |clo f g=>obtain⟨_,_,rfl⟩:=h;rfl
theorem CRs.ones {ι:Nat ->Gh}{w:World}{ok:Nat ->Prop}: ∀{g:List C}{vs:List Value},CRs ι w ok g vs ->solid g=true -> ∀v∈vs,v.oneCell'=true
 | [],[],_,_,_,l=>by cases l
 | [],_::_,h,_,_,_=>h.elim
 |_::_,[],h,_,_,_=>h.elim
 |c::g,v::vs,h,hs,u,j=>by
  unfold solid at hs;cases i:c.isDead
  ·rw[i]at hs;rcases List.mem_cons.1 j with rfl|j
   ·exact CR.one h.1 i
   ·exact CRs.ones h.2 hs u j
  ·rw[i]at hs;cases hs
theorem Pl.live_kill (x:Pl)(l:List Nat):(x.kill l).live=x.live:=by cases x<;>rfl
theorem RowAt.cell {w:World}{b:Nat}{g:Array Value}(h:RowAt w b g)(j:Nat):w.cell? ⟨b,j,none⟩=g[j]? :=by
 obtain⟨t,h⟩:=h;exact cell_of_row w b j g t (0,0) h
theorem RowAt.lt {w:World}{b:Nat}{g:Array Value}(h:RowAt w b g):b<w.heap.size:=by
 obtain⟨t,h⟩:=h;exact(Array.getElem?_eq_some_iff.1 h).1
theorem PR.kill {ι ι':Nat ->Gh}{w w':World}{ok ok':Nat ->Prop}{l:List Nat}(hk:zW w w' ok ok')(hs:zU w w')(J: ∀p,isin p l=false ->ι' p=ι p)(p:Nat)(P:isin p l=false)(x:Pl)
 (U:x.live=true -> ∀b,(ι p).b=some b ->w'.heap[b]? =w.heap[b]?) (h:PR ι w ok p x):PR ι' w' ok' p (x.kill l):=by
 cases x with
 |box cs=>
  obtain⟨b,o,g,⟨t,i⟩,I⟩:=h;exact⟨b,o,by rw[J p P];exact g,⟨t,by rw[U rfl b g];exact i⟩,CRs.kill hk hs J cs _ I⟩
 |arr sz T fz=>
  obtain⟨h0,hn,h⟩:=h;refine⟨h0,by rw[J p P];exact hn,?_⟩;rcases h with⟨g,i⟩|⟨b,g,i,I,h4⟩
  ·exact .inl ⟨by rw[J p P];exact g,i⟩
  ·refine .inr ⟨b,by rw[J p P];exact g,?_,λR=>(hk b (I R)).1,λR=>?_⟩
   ·have r:w'.heap[b]? =w.heap[b]? :=by
     cases fz
     ·exact U rfl b g
     ·exact(hk b (I rfl)).2
    exact RDs.keep' hk b sz T 0 (λj _ _=>ue r j) i
   ·obtain⟨o,⟨t,h5⟩,h6⟩:=h4 R;subst R;exact⟨o,⟨t,by rw[U rfl b g];exact h5⟩,h6⟩
 |fbox ds=>
  obtain⟨b,g,i,I⟩:=h;exact⟨b,by rw[J p P];exact g,(hk b i).1,RDc.keep hk b i _ _ I⟩
 |gone=>exact h.elim
theorem Grows.refl (M:Nat ->Prop)(w:World):Grows M w w:=⟨rfl,rfl,Out.refl w,Nat.le_refl _,λ_ _ _=>rfl,λ_ _ _ h=>h⟩
section
variable {F:Fr}{N:Nat}{ι:Nat ->Gh}{s:S}{a:Act}{w:World}
theorem S.redo_sl (s:S)(g:List Nat)(new:List (Nat×Pl))(k:Nat):aget (s.redo g new).sl k=(aget s.sl k).map (V.kill g):=by
 simp only[S.redo];exact afm s.sl (V.kill g) k
theorem S.redo_pl (s:S)(g:List Nat)(new:List (Nat×Pl))(p:Nat):
 aget (s.redo g new).pl p=match aget new p with|some x=>some x|none=>if isin p g=false then(aget s.pl p).map (Pl.kill g)else none:=by
 simp only[S.redo,ahl];cases aget new p with
 |some x=>rfl
 |none=>
  simp only[];rw[afm (xx (λk=>!isin k g) s.pl) (Pl.kill g) p,u6];cases isin p g<;>simp
theorem Rel.redoG (hr:Rel F N ι s a w)(j:List Nat)(new:List (Nat×Pl))(ι':Nat ->Gh)(w':World)
 (hι: ∀p,isin p j=false ->ι' p=ι p)
 (ab: ∀b,b<w.heap.size ->(∀q y,(isin q j=true\/aget new q≠none) ->aget s.pl q=some y ->y.live=true ->(ι q).b≠some b) ->w'.heap[b]? =w.heap[b]?)
 (hs:zU w w') (ak:w'.os=w.os) (af:w'.tape=w.tape) (ah:Out w w') (ac:w.heap.size<=w'.heap.size)
 (al: ∀p x,aget new p=some x ->PR ι' w' (F.ok ι' (s.redo j new).pl w') p x)
 (I: ∀p x b,aget new p=some x ->(ι' p).b=some b ->b<w'.heap.size /\(w.heap.size<=b\/ ∃q y,(isin q j=true\/aget new q≠none)/\aget s.pl q=some y /\y.live=true /\(ι q).b=some b))
 (ag: ∀p q x y b,aget new p=some x ->aget new q=some y ->p≠q ->(ι' p).b=some b ->(ι' q).b≠some b)
 (hh: ∀p x g,aget new p=some x ->F.h p=some g ->ι' p=g):
 Rel F N ι' (s.redo j new) a w':=by
 have R: ∀b,Owns ι' (s.redo j new).pl b ->(w.heap.size<=b\/Owns ι s.pl b)/\b<w'.heap.size:=by
  rintro b ⟨p,x,i,hl,o⟩;rw[S.redo_pl]at i;cases P:aget new p with
  |some y=>
   simp only[P]at i;obtain⟨h1,U⟩:=I p y b P o;refine⟨?_,h1⟩;rcases U with U|⟨q,z,_,h4,h5,h6⟩
   ·exact .inl U
   ·exact .inr ⟨q,z,h4,h5,h6⟩
  |none=>
   simp only[P]at i;split at i
   ·rename_i hk;cases J:aget s.pl p with
    |none=>rw[J]at i;cases i
    |some y=>
     rw[J]at i;simp at i;subst i;have ho:Owns ι s.pl b:=⟨p,y,J,by rw[<- Pl.live_kill y j];exact hl,by rw[<- hι p hk];exact o⟩;exact⟨.inr ho,Nat.lt_of_lt_of_le (hr.mine b ho).2 ac⟩
   ·cases i
 have ad:zW w w' (F.ok ι s.pl w) (F.ok ι' (s.redo j new).pl w'):=by
  intro b o;obtain⟨h1,U,h3⟩:=o;refine⟨⟨h1,Nat.lt_of_lt_of_le U ac,λho=>?_⟩,ab b U (λq y _ T hl l=>h3 ⟨q,y,T,hl,l⟩)⟩;rcases(R b ho).1 with h|h
  ·omega
  ·exact h3 h
 refine⟨hr.room,?_,?_,?_,?_,hr.defers,?_,hr.foreign,hr.handed,hr.few,hr.hdom,?_⟩
 rotate_left 5
 ·intro p x g i hg;rw[S.redo_pl]at i;cases P:aget new p with
  |some y=>exact hh p y g P hg
  |none=>
   simp only[P]at i;split at i
   ·rename_i hk;cases J:aget s.pl p with
    |none=>rw[J]at i;cases i
    |some y=>rw[hι p hk];exact hr.hkeep p y g J hg
   ·cases i
 ·intro k v hv;rw[S.redo_sl]at hv;cases hk:aget s.sl k with
  |none=>rw[hk]at hv;cases hv
  |some u=>
   rw[hk]at hv;simp at hv;subst hv;obtain⟨x,h1,U⟩:=hr.slots k u hk;exact⟨x,h1,VR.kill ad hs hι u x U⟩
 ·intro p x i;rw[S.redo_pl]at i;cases P:aget new p with
  |some y=>simp only[P]at i;cases i;exact al p _ P
  |none=>
   simp only[P]at i;split at i
   ·rename_i hk;cases J:aget s.pl p with
    |none=>rw[J]at i;cases i
    |some y=>
     rw[J]at i;simp at i;subst i;refine PR.kill ad hs hι p hk y (λhl b o=>?_) (hr.places p y J);refine ab b (hr.mine b ⟨p,y,J,hl,o⟩).2 (λq z l hz av ao=>?_)
     have ae:p≠q:=λe=>by subst e;rcases l with l|l; ·rw[hk]at l;cases l
                         ·exact l P
     exact hr.inj p q y z b J hz ae hl o ao
   ·cases i
 ·intro p q x y b i T ae hl o l;rw[S.redo_pl]at i T;cases P:aget new p with
  |some x'=>
   simp only[P]at i;cases i;cases hm:aget new q with
   |some y'=>exact ag p q _ _ b P hm ae o l
   |none=>
    simp only[hm]at T;split at T
    ·rename_i hk;cases aa:aget s.pl q with
     |none=>rw[aa]at T;cases T
     |some z=>
      rw[aa]at T;simp at T;rw[hι q hk]at l;obtain⟨_,U⟩:=I p _ b P o;have au:b<w.heap.size:=by
       have hz:=hr.places q z aa;cases z with
       |box cs=>obtain⟨b',ai,e1,e2,_⟩:=hz;rw[l]at e1;cases e1;exact e2.lt
       |arr sz ar fz=>
        obtain⟨_,_,hz|⟨b',e1,e2,e3,e4⟩⟩:=hz
        ·rw[l]at hz;cases hz.1
        ·rw[l]at e1;cases e1;cases fz
         ·obtain⟨ai,e5,_⟩:=e4 rfl;exact e5.lt
         ·exact(e3 rfl).2.1
       |fbox ds=>obtain⟨b',e1,e2,_⟩:=hz;rw[l]at e1;cases e1;exact e2.2.1
       |gone=>exact hz.elim
      rcases U with U|⟨r,u,h3,h4,h5,h6⟩
      ·omega
      ·have aq:r≠q:=λe=>by subst e;rcases h3 with h3|h3; ·rw[hk]at h3;cases h3
                           ·exact h3 hm
       exact hr.inj r q u z b h4 aa aq h5 h6 l
    ·cases T
  |none=>
   simp only[P]at i;split at i
   ·rename_i hk;cases J:aget s.pl p with
    |none=>rw[J]at i;cases i
    |some x'=>
     rw[J]at i;simp at i;subst i;rw[Pl.live_kill]at hl;rw[hι p hk]at o;cases hm:aget new q with
     |some y'=>
      obtain⟨_,U⟩:=I q y' b hm l;rcases U with U|⟨r,u,h3,h4,h5,h6⟩
      ·have:=(hr.mine b ⟨p,x',J,hl,o⟩).2;omega
      ·have an:p≠r:=λe=>by subst e;rcases h3 with h3|h3; ·rw[hk]at h3;cases h3
                           ·exact h3 P
       exact hr.inj p r x' u b J h4 an hl o h6
     |none=>
      simp only[hm]at T;split at T
      ·rename_i aj;cases aa:aget s.pl q with
       |none=>rw[aa]at T;cases T
       |some z=>
        rw[hι q aj]at l;exact hr.inj p q x' z b J aa ae hl o l
      ·cases T
   ·cases i
 ·intro b o;obtain⟨h1,U⟩:=R b o;refine⟨?_,U⟩;rcases h1 with h1|h1
  ·exact .inr (Nat.le_trans hr.grows.size h1)
  ·exact(hr.mine b h1).1
 ·refine⟨ak.trans hr.grows.os,af.trans hr.grows.tape,ah.trans hr.grows.output,Nat.le_trans hr.grows.size ac,λb o hm=>?_,λb t m h=>hs b t m (hr.grows.shapes b t m h)⟩;rw[ab b (Nat.lt_of_lt_of_le o hr.grows.size) ?_]
  ·exact hr.grows.block b o hm
  ·intro q y _ T hl l;rcases(hr.mine b ⟨q,y,T,hl,l⟩).1 with h|h
   ·exact hm h
   ·omega
theorem Rel.redo (hr:Rel F N ι s a w)(i:List Nat)(new:List (Nat×Pl))(ι':Nat ->Gh)(w':World)
 (hι: ∀p,isin p i=false ->ι' p=ι p)
 (l: ∀b,b<w.heap.size ->(∀q y,isin q i=true ->aget s.pl q=some y ->y.live=true ->(ι q).b≠some b) ->w'.heap[b]? =w.heap[b]?)
 (hs:zU w w') (U:w'.os=w.os) (I:w'.tape=w.tape) (P:Out w w') (o:w.heap.size<=w'.heap.size)
 (aa: ∀p x,aget new p=some x ->PR ι' w' (F.ok ι' (s.redo i new).pl w') p x)
 (j: ∀p x b,aget new p=some x ->(ι' p).b=some b ->b<w'.heap.size /\(w.heap.size<=b\/ ∃q y,isin q i=true /\aget s.pl q=some y /\y.live=true /\(ι q).b=some b))
 (J: ∀p q x y b,aget new p=some x ->aget new q=some y ->p≠q ->(ι' p).b=some b ->(ι' q).b≠some b)
 (hh: ∀p x,aget new p=some x ->F.h p=none):
 Rel F N ι' (s.redo i new) a w':=
 hr.redoG i new ι' w' hι (λb R h=>l b R λq y hq=>h q y (.inl hq)) hs U I P o aa
  (λp x b T R=>⟨(j p x b T R).1,(j p x b T R).2.imp id λ⟨q,y,h,r⟩=>⟨q,y,.inl h,r⟩⟩) J (λp x g T hg=>by rw[hh p x T]at hg;cases hg)
theorem Rel.h_slot (hr:Rel F N ι s a w){d:Nat}(i:d<N):F.h d=none:=by
 cases h:F.h d with
 |none=>rfl
 |some g=>have:=hr.hdom d g h;have:=hr.few;omega
theorem Rel.h_big (hr:Rel F N ι s a w){i:Nat}(hi:600000<=i):F.h i=none:=by
 cases h:F.h i with
 |none=>rfl
 |some g=>have:=hr.hdom i g h;omega
theorem PR.keep {ι:Nat ->Gh}{w:World}{ok ok':Nat ->Prop}(hk:zW w w ok ok'){p:Nat}{x:Pl}(h:PR ι w ok p x):PR ι w ok' p x:=by
 cases x with
 |box P=>obtain⟨b,l,i,g,j⟩:=h;exact⟨b,l,i,g,CRs.keep hk (zU.refl w) _ _ j⟩
 |arr sz o T=>
  obtain⟨h0,r,h|⟨b,i,g,j,I⟩⟩:=h
  ·exact⟨h0,r,.inl h⟩
  ·exact⟨h0,r,.inr ⟨b,i,RDs.keep' hk b sz o 0 (λ_ _ _=>rfl) g,λJ=>(hk b (j J)).1,I⟩⟩
 |fbox R=>obtain⟨b,i,g,j⟩:=h;exact⟨b,i,(hk b g).1,RDc.keep hk b g _ _ j⟩
 |gone=>exact h.elim
theorem Rel.sub (hr:Rel F N ι s a w)(t:S)(h1: ∀k v,aget t.sl k=some v ->aget s.sl k=some v)(I: ∀p x,aget t.pl p=some x ->aget s.pl p=some x):Rel F N ι t a w:=by
 have o: ∀b,Owns ι t.pl b ->Owns ι s.pl b:=λb ⟨p,x,l,j,r⟩=>⟨p,x,I p x l,j,r⟩
 have i:zW w w (F.ok ι s.pl w) (F.ok ι t.pl w):=λb J=>⟨⟨J.1,J.2.1,λh=>J.2.2 (o b h)⟩,rfl⟩
 refine⟨hr.room,λk v hv=>?_,λp x P=>?_,λp q x y b P hy=>hr.inj p q x y b (I p x P) (I q y hy),λb J=>hr.mine b (o b J),hr.defers,hr.grows,hr.foreign,hr.handed,hr.few,hr.hdom,λp x g P hg=>hr.hkeep p x g (I p x P) hg⟩
 ·obtain⟨x,l,j⟩:=hr.slots k v (h1 k v hv);exact⟨x,l,VR.keep i (zU.refl w) v x j⟩
 ·have h:=hr.places p x (I p x P);cases x with
  |box cs=>obtain⟨b,R,l,j,r⟩:=h;exact⟨b,R,l,j,CRs.keep i (zU.refl w) _ _ r⟩
  |arr sz T fz=>
   obtain⟨h0,U,h|⟨b,l,j,r,e4⟩⟩:=h
   ·exact⟨h0,U,.inl h⟩
   ·exact⟨h0,U,.inr ⟨b,l,RDs.keep' i b sz T 0 (λ_ _ _=>rfl) j,λhf=>(i b (r hf)).1,e4⟩⟩
  |fbox ds=>obtain⟨b,l,j,r⟩:=h;exact⟨b,l,(i b j).1,RDc.keep i b j _ _ r⟩
  |gone=>exact h.elim
theorem Act.put_size (a:Act)(d:Option Tmp)(v:Value):(a.put d v).tmps.size=a.tmps.size:=by
 cases d<;>simp[Act.put]
theorem Act.put_defers (a:Act)(d:Option Tmp)(v:Value):(a.put d v).defers=a.defers:=by
 cases d<;>simp[Act.put]
theorem Rel.put (hr:Rel F N ι s a w)(d:Option Tmp)(o: ∀k,d=some k ->k<N)(v:V)(x:Value)(p:VR ι w (F.ok ι s.pl w) v x):Rel F N ι (s.put d v) (a.put d x) w:=by
 cases d with
 |none=>exact hr
 |some d=>
  have i:d<a.tmps.size:=Nat.lt_of_lt_of_le (o d rfl) hr.room.1;refine⟨by rw[Act.put_size];exact hr.room,λk u g=>?_,hr.places,hr.inj,hr.mine,by rw[Act.put_defers];exact hr.defers,hr.grows,hr.foreign,hr.handed,hr.few,hr.hdom,hr.hkeep⟩;simp only[S.put,yf]at g;simp only[Act.put];by_cases hk:d=k
  ·subst hk;simp only[if_true]at g;cases g;exact⟨x,by simp[i],p⟩
  ·rw[if_neg hk]at g;obtain⟨y,j,l⟩:=hr.slots k u g;exact⟨y,by rw[Array.getElem?_setIfInBounds,if_neg hk];exact j,l⟩
end
section
variable {F:Fr}{N:Nat}{ι:Nat ->Gh}{s:S}{a:Act}{w:World}
def S.withPl (s:S)(pl:List (Nat×Pl)):S:={s with pl:=pl}
theorem qM (pl:List (Nat×Pl))(p q:Nat):aget (qx pl p) q=if p=q then(match aget pl p with|some (.arr z g _)=>some (.arr z g true)|x=>x)else aget pl q:=by
 grind[qx,yf]
theorem Rel.freeze (hr:Rel F N ι s a w)(p:Nat):Rel F N ι (s.withPl (qx s.pl p)) a w:=by
 have aa: ∀b,Owns ι (qx s.pl p) b ->Owns ι s.pl b:=by
  rintro b ⟨q,x,J,U,h3⟩;rw[qM]at J;split at J
  ·rename_i e;subst e;cases P:aget s.pl p with
   |none=>grind
   |some y=>
    rw[P]at J;cases y with
    |arr z T fz=>cases J;cases U
    |_=>cases J;exact⟨p,_,P,U,h3⟩
  ·exact⟨q,x,J,U,h3⟩
 have i:zW w w (F.ok ι s.pl w) (F.ok ι (qx s.pl p) w):=λb hb=>⟨⟨hb.1,hb.2.1,λh=>hb.2.2 (aa b h)⟩,rfl⟩
 refine⟨hr.room,λk v hv=>?_,λq x hx=>?_,λq r x y b hx hy ad hl hb ae=>?_,λb hb=>hr.mine b (aa b hb),hr.defers,hr.grows,hr.foreign,hr.handed,hr.few,hr.hdom,λq x g hx hg=>?_⟩
 rotate_left 3
 ·have j:aget (qx s.pl p) q=some x:=hx;rw[qM]at j;split at j
  ·rename_i e;subst e;cases P:aget s.pl p with
   |none=>grind
   |some y=>exact hr.hkeep p y g P hg
  ·exact hr.hkeep q x g j hg
 ·obtain⟨x,l,o⟩:=hr.slots k v hv;exact⟨x,l,VR.keep i (zU.refl w) v x o⟩
 ·have j:aget (qx s.pl p) q=some x:=hx;rw[qM]at j;split at j
  ·rename_i e;subst e;cases P:aget s.pl p with
   |none=>grind
   |some y=>
    have h:=hr.places p y P;rw[P]at j;cases y with
    |box cs=>cases j;obtain⟨b,ab,l,o,R⟩:=h;exact⟨b,ab,l,o,CRs.keep i (zU.refl w) _ _ R⟩
    |fbox ds=>cases j;obtain⟨b,l,o,R⟩:=h;exact⟨b,l,(i b o).1,RDc.keep i b o _ _ R⟩
    |gone=>exact h.elim
    |arr z T fz=>
     cases j;obtain⟨h0,hn,h|⟨b,l,o,R,e4⟩⟩:=h
     ·exact⟨h0,hn,.inl h⟩
     ·refine⟨h0,hn,.inr ⟨b,l,RDs.keep' i b z T 0 (λ_ _ _=>rfl) o,λ_=>?_,λhf=>by cases hf⟩⟩;cases fz
      ·have ho:Owns ι s.pl b:=⟨p,_,P,rfl,l⟩;refine⟨?_,(hr.mine b ho).2,?_⟩
       ·rcases(hr.mine b ho).1 with h|h<;>grind
       ·rintro⟨q,x,J,U,h3⟩;have I:aget (qx s.pl p) q=some x:=J;rw[qM]at I;split at I
        ·rename_i e;subst e;rw[P]at I;cases I;cases U
        ·rename_i ac;exact hr.inj p q _ x b P I ac rfl l h3
      ·exact(i b (R rfl)).1
  ·have h:=hr.places q x j;cases x with
   |box cs=>obtain⟨b,ab,l,o,R⟩:=h;exact⟨b,ab,l,o,CRs.keep i (zU.refl w) _ _ R⟩
   |fbox ds=>obtain⟨b,l,o,R⟩:=h;exact⟨b,l,(i b o).1,RDc.keep i b o _ _ R⟩
   |gone=>exact h.elim
   |arr sz T fz=>
    obtain⟨h0,hn,h|⟨b,l,o,R,e4⟩⟩:=h
    ·exact⟨h0,hn,.inl h⟩
    ·exact⟨h0,hn,.inr ⟨b,l,RDs.keep' i b sz T 0 (λ_ _ _=>rfl) o,λhf=>(i b (R hf)).1,e4⟩⟩
 ·have j:aget (qx s.pl p) q=some x:=hx;have af:aget (qx s.pl p) r=some y:=hy;rw[qM]at j af;have J: ∃x',aget s.pl q=some x' /\x'.live=true:=by
   split at j
   ·rename_i e;subst e;cases P:aget s.pl p with
    |none=>grind
    |some z=>
     rw[P]at j;cases z with
     |arr z T fz=>cases j;cases hl
     |_=>cases j;exact⟨_,rfl,hl⟩
   grind
  have U: ∃y',aget s.pl r=some y':=by
   grind
  obtain⟨x',J,I⟩:=J;obtain⟨y',U⟩:=U;exact hr.inj q r x' y' b J U ad I hb ae
theorem alz (p b:Nat)(h:F.ok ι s.pl w b):F.ok ι (qx s.pl p) w b:=by
 refine⟨h.1,h.2.1,λr=>h.2.2 ?_⟩;obtain⟨q,x,g,i,j⟩:=r;rw[qM]at g;split at g
 ·rename_i e;subst e;cases l:aget s.pl p with
  |none=>grind
  |some y=>
   rw[l]at g;cases y with
   |arr z o I=>cases g;cases i
   |_=>cases g;exact⟨p,_,l,i,j⟩
 ·exact⟨q,x,g,i,j⟩
theorem Rel.still (hr:Rel F N ι s a w){p:Nat}{x y:Pl}(hp:aget s.pl p=some x)(hx:x.live=true)(hy:y.live=false)
 (ab:(∀b,F.ok ι s.pl w b ->F.ok ι (yj p y s.pl) w b) ->(∀b,(ι p).b=some b ->F.ok ι (yj p y s.pl) w b) ->PR ι w (F.ok ι (yj p y s.pl) w) p y):
 Rel F N ι (s.withPl (yj p y s.pl)) a w /\(∀b,F.ok ι s.pl w b ->F.ok ι (yj p y s.pl) w b)/\(∀b,(ι p).b=some b ->F.ok ι (yj p y s.pl) w b):=by
 have I: ∀b,Owns ι (yj p y s.pl) b ->Owns ι s.pl b /\(ι p).b≠some b:=by
  rintro b ⟨q,z,h1,h2,h3⟩;rw[yf]at h1;split at h1
  ·grind
  ·rename_i aa;exact⟨⟨q,z,h1,h2,h3⟩,λe=>hr.inj p q x z b hp h1 aa hx e h3⟩
 have j: ∀b,F.ok ι s.pl w b ->F.ok ι (yj p y s.pl) w b:=λb l=>⟨l.1,l.2.1,λh=>l.2.2 (I b h).1⟩
 have o:zW w w (F.ok ι s.pl w) (F.ok ι (yj p y s.pl) w):=λb l=>⟨j b l,rfl⟩
 have J: ∀b,(ι p).b=some b ->F.ok ι (yj p y s.pl) w b:=λb l=>by
  have ho:Owns ι s.pl b:=⟨p,x,hp,hx,l⟩;refine⟨?_,(hr.mine b ho).2,λh=>(I b h).2 l⟩;rcases(hr.mine b ho).1 with h|h<;>grind
 refine⟨⟨hr.room,λk v hv=>?_,λq z U=>?_,λq r z u b U hu R hl l T=>?_,λb l=>hr.mine b (I b l).1,hr.defers,hr.grows,hr.foreign,hr.handed,hr.few,hr.hdom,λq z g U hg=>?_⟩,j,J⟩
 ·obtain⟨u,e1,e2⟩:=hr.slots k v hv;exact⟨u,e1,VR.keep o (zU.refl w) v u e2⟩
 ·have i:aget (yj p y s.pl) q=some z:=U;rw[yf]at i;split at i
  ·rename_i e;subst e;cases i;exact ab j J
  ·exact PR.keep o (hr.places q z i)
 ·have i:aget (yj p y s.pl) q=some z:=U;have P:aget (yj p y s.pl) r=some u:=hu;rw[yf]at i P;split at i
  ·grind
  ·split at P
   ·rename_i e;subst e;exact hr.inj q p z x b i hp R hl l T
   ·exact hr.inj q r z u b i P R hl l T
 ·have i:aget (yj p y s.pl) q=some z:=U;rw[yf]at i;split at i
  ·rename_i e;subst e;exact hr.hkeep p x g hp hg
  ·exact hr.hkeep q z g i hg
theorem agf (hr:Rel F N ι s a w){p z n:Nat}{v:Value}{sz:Nat}{g:List (List D)}{i:Bool}(r:aget s.pl p=some (.arr sz g i))(J:z=sz)
 (h:CR ι w (F.ok ι s.pl w) (.own p z n) v):n<=g.length /\((n=0 /\v= .slice none 0 0 /\(ι p).b=none /\g=[])\/
  ∃b cap t,(ι p).b=some b /\v= .slice (some ⟨b,0,none⟩) n cap /\n<=cap /\cap<=maxLen /\w.shape? b=some (t,cap*sz)/\RDs w (F.ok ι s.pl w) b sz 0 g):=by
 subst J;obtain⟨h0,U,I⟩:=hr.places p _ r;rcases h with⟨j,l,o⟩|⟨b,cap,t,j,l,o,P,R,T⟩
 ·simp_all
 grind
theorem KO (hr:Rel F N ι s a w){p z n:Nat}{v:Value}{sz:Nat}{g:List (List D)}{i:Bool}(r:aget s.pl p=some (.arr sz g i))
 (h:CR ι w (F.ok ι s.pl w) (.own p z n) v):n<=g.length /\((n=0 /\v= .slice none 0 0 /\(ι p).b=none /\g=[])\/
  ∃b cap t,(ι p).b=some b /\v= .slice (some ⟨b,0,none⟩) n cap /\n<=cap /\cap<=maxLen /\w.shape? b=some (t,cap*z)/\RDs w (F.ok ι s.pl w) b sz 0 g):=by
 obtain⟨h0,T,I⟩:=hr.places p _ r;rcases h with⟨j,l,o⟩|⟨b,cap,t,j,l,o,J,P,R⟩
 ·simp_all
 grind
theorem alB (hr:Rel F N ι s a w){p sz n:Nat}{g:List (List D)}{J:Bool}(hp:aget s.pl p=some (.arr sz g J)){b cap:Nat}(P:(ι p).b=some b)(U:n<=g.length)
 (j:n<=cap) (i:cap<=maxLen):
 RD w (F.ok ι (qx s.pl p) w) (.sl (g.take n)) (.slice (some ⟨b,0,none⟩) n cap):=by
 simp only[RD];refine⟨_,_,_,rfl,by simp;omega,j,i,?_⟩;have o:=(hr.freeze p).places p (.arr sz g true) (by show aget (qx s.pl p) p=_;simp_all[qM]);obtain⟨_,_,o|⟨R,l,r,I,T⟩⟩:=o
 ·grind
 ·rw[P]at l;cases l;exact .inr ⟨b,0,sz,rfl,I rfl,RDs.take n r⟩
theorem kf (hr:Rel F N ι s a w){c:C}{v:Value}(j:CR ι w (F.ok ι s.pl w) c v){x:D}{g:List (Nat×Pl)}(h:YR s.pl c=some (x,g)):
 Rel F N ι (s.withPl g) a w /\(∀b,F.ok ι s.pl w b ->F.ok ι g w b)/\RD w (F.ok ι g w) x v:=by
 cases c with
 |d y=>cases h;exact⟨hr,λ_ h=>h,j⟩
 |nil=>cases h;exact⟨hr,λ_ h=>h,by simp only[CR]at j;subst j;simp only[RD];exact⟨none,0,0,rfl,rfl,Nat.le_refl _,Nat.zero_le _,.inl trivial⟩⟩
 |own p z n=>
  simp only[YR]at h;cases r:aget s.pl p with
  |none=>grind
  |some y=>
   cases y with
   |box T=>grind
   |fbox U=>grind
   |gone=>grind
   |arr sz I fz=>
    simp only[r]at h;cases h;refine⟨hr.freeze p,λb=>alz p b,?_⟩;obtain⟨hn,h|⟨b,cap,t,J,P,h3,h4,h5,h6⟩⟩:=KO hr r j
    ·obtain⟨rfl,rfl,_,_⟩:=h;simp only[RD,List.take_zero];exact⟨none,0,0,rfl,rfl,Nat.le_refl _,Nat.zero_le _,.inl trivial⟩
    grind[alB]
 |dead=>cases h
 |sub p z o n=>cases h
 |ptr p o=>cases h
 |eptr p z i k=>cases h
 |fp l=>cases h
 |clo f l=>
  cases l with
  |cons _ _=>cases h
  |nil=>
   cases h;refine⟨hr,λ_ h=>h,?_⟩;obtain⟨R,J,P⟩:=j<;>simp_all[RD,RDf]
theorem jY: ∀{o:List C}{vs:List Value}{s:S}(_:Rel F N ι s a w) (_:CRs ι w (F.ok ι s.pl w) o vs) {p:List D}{g:List (Nat×Pl)}(_:w6 s.pl o=some (p,g)),
 Rel F N ι (s.withPl g) a w /\(∀b,F.ok ι s.pl w b ->F.ok ι g w b)/\CRs ι w (F.ok ι g w) (p.map .d) vs
 | [],[],s,hr,_,p,g,h=>by cases h;exact⟨hr,λ_ h=>h,trivial⟩
 | [],_::_,_,_,j,_,_,_=>j.elim
 |_::_,[],_,_,j,_,_,_=>j.elim
 |c::o,v::vs,s,hr,j,p,g,h=>by
  unfold w6 at h;cases r:YR s.pl c with
  |none=>rw[r]at h;cases h
  |some y=>
   obtain⟨y,i⟩:=y;rw[r]at h;simp only[]at h;obtain⟨g1,g2,g3⟩:=kf hr j.1 r;cases I:w6 i o with
   |none=>rw[I]at h;cases h
   |some z=>
    obtain⟨z,T⟩:=z;rw[I]at h;cases h;have hk:zW w w (F.ok ι s.pl w) (F.ok ι i w):=λb l=>⟨g2 b l,rfl⟩
    obtain⟨P,J,R⟩:=jY (s:=s.withPl i) g1 (CRs.keep hk (zU.refl w) _ _ j.2) I;exact⟨P,λb l=>J b (g2 b l),RD.keep (λb l=>⟨J b l,rfl⟩) _ _ g3,R⟩
theorem akw (hr:Rel F N ι s a w){c:W}{v:Value}(j:WR ι w (F.ok ι s.pl w) c v){x:W}{g:List (Nat×Pl)}(h:akv s.pl c=some (x,g)):
 Rel F N ι (s.withPl g) a w /\(∀b,F.ok ι s.pl w b ->F.ok ι g w b)/\(∀ι',WR ι' w (F.ok ι g w) x v):=by
 cases c with
 |c c=>
  by_cases o: ∃l,c= .fp l
  ·obtain⟨l,rfl⟩:=o;cases h;exact⟨hr,λ_ h=>h,λ_=>j⟩
  ·have r:(match YR s.pl c with|some (y,g)=>some (W.c (.d y),g)|none=>none)=some (x,g):=by
    rw[<- h];cases c with
    |fp l=>grind
    |_=>rfl
   cases i:YR s.pl c with
   |none=>grind
   |some y=>
    simp only[i]at r;cases r;obtain⟨g1,g2,g3⟩:=kf hr j i;exact⟨g1,g2,λ_=>g3⟩
 |agg I=>
  simp only[akv]at h;cases i:w6 s.pl I with
  |none=>grind
  |some y=>
   simp only[i]at h;cases h;obtain⟨vs,rfl,j⟩:=j;obtain⟨g1,g2,g3⟩:=jY hr j i;refine⟨g1,g2,λι'=>⟨vs,rfl,?_⟩⟩;clear i j;generalize y.1=p at*;induction p generalizing vs with
   |nil=>cases vs<;>exact g3
   |cons d p J=>cases vs with
    |nil=>exact g3
    |cons v vs=>exact⟨g3.1,J vs g3.2⟩
theorem gG: ∀{o:List W}{vs:List Value}{s:S}(_:Rel F N ι s a w) (_:xP ι w (F.ok ι s.pl w) o vs) {p:List W}{g:List (Nat×Pl)}(_:Js s.pl o=some (p,g)),
 Rel F N ι (s.withPl g) a w /\(∀b,F.ok ι s.pl w b ->F.ok ι g w b)/\(∀ι',xP ι' w (F.ok ι g w) p vs)
 | [],[],s,hr,_,p,g,h=>by cases h;exact⟨hr,λ_ h=>h,λ_=>trivial⟩
 | [],_::_,_,_,j,_,_,_=>j.elim
 |_::_,[],_,_,j,_,_,_=>j.elim
 |c::o,v::vs,s,hr,j,p,g,h=>by
  unfold Js at h;cases r:akv s.pl c with
  |none=>rw[r]at h;cases h
  |some y=>
   obtain⟨y,i⟩:=y;rw[r]at h;simp only[]at h;obtain⟨g1,g2,g3⟩:=akw hr j.1 r;cases I:Js i o with
   |none=>rw[I]at h;cases h
   |some z=>
    obtain⟨z,T⟩:=z;rw[I]at h;cases h;have hk:zW w w (F.ok ι s.pl w) (F.ok ι i w):=λb l=>⟨g2 b l,rfl⟩
    obtain⟨P,J,R⟩:=gG (s:=s.withPl i) g1 (xP.keep hk (zU.refl w) _ _ j.2) I;exact⟨P,λb l=>J b (g2 b l),λι'=>⟨WR.keep (λb l=>⟨J b l,rfl⟩) (zU.refl w) _ _ (g3 ι'),R ι'⟩⟩
end
theorem adg (ι:Nat ->Gh)(w:World)(ok:Nat ->Prop)(v:Value):CR ι w ok (Zp v) v:=by
 unfold Zp
 split<;>first
  |trivial
  |rfl
  |(simp only[CR,RD];exact⟨rfl,rfl⟩)
theorem jJ (ι:Nat ->Gh)(w:World)(ok:Nat ->Prop): ∀(vs:List Value),CRs ι w ok (vs.map Zp) vs
 | []=>trivial
 |v::vs=>⟨adg ι w ok v,jJ ι w ok vs⟩
theorem Yi (ι:Nat ->Gh)(w:World)(ok:Nat ->Prop)(v:Value):WR ι w ok (ofValue v) v:=by
 unfold ofValue;split
 ·exact⟨_,by simp,jJ ι w ok _⟩
 ·exact adg ι w ok _
section
variable {F:Fr}{N:Nat}{ι:Nat ->Gh}{s:S}{a:Act}{w:World}
theorem akQ (hr:Rel F N ι s a w)(t:Nat):VR ι w (F.ok ι s.pl w) (s.tmp t) (a.tmps.getD t undef):=by
 unfold S.tmp;cases h:aget s.sl t with
 |none=>trivial
 |some v=>
  obtain⟨x,g,i⟩:=hr.slots t v h<;>simp_all
theorem vj (hr:Rel F N ι s a w)(x:Operand):VR ι w (F.ok ι s.pl w) (s.o (cO x)) (a.eval x):=by
 cases x with
 |tmp t=>exact akQ hr t
 |const v=>exact Yi ι w _ v
 |global g=>trivial
 |func f=>exact⟨[],rfl,rfl⟩
theorem xu (hr:Rel F N ι s a w)(x:Operand):CR ι w (F.ok ι s.pl w) (s.oc (cO x)) (a.eval x):=by
 have h:=vj hr x;unfold S.oc cOf;cases e:s.o (cO x)with
 |w y=>rw[e]at h;cases y with
  |c z=>exact h
  |agg g=>trivial
 |tup xs=>trivial
theorem afh (hr:Rel F N ι s a w)(x:Operand):WR ι w (F.ok ι s.pl w) (s.ow (cO x)) (a.eval x):=by
 have h:=vj hr x;unfold S.ow wOf;cases e:s.o (cO x)with
 |w y=>rw[e]at h;exact h
 |tup xs=>trivial
theorem kk (hr:Rel F N ι s a w): ∀(l:List Operand),xP ι w (F.ok ι s.pl w) ((l.map cO).map s.ow) (l.map a.eval)
 | []=>trivial
 |x::r=>⟨afh hr x,kk hr r⟩
end
def yW (P:Program)(F:Fr)(N:Nat)(o:Oper)(a:Act)(w:World)(K:S ->Prop):Prop:=
 ∀(next:Act ->World ->Prop) (Q:Exit ->Act ->World ->Prop),(∀ι s g w',Rel F N ι s g w' ->K s ->next g w') ->o.wp P a w next Q
section
variable {P:Program}{F:Fr}{N:Nat}{ι:Nat ->Gh}{s:S}{a:Act}{w:World}{o:Oper}{K:S ->Prop}
theorem yW.of_value {v:Value}{w':World}{ι':Nat ->Gh}{g:S}(h:(execOp a.eval o).run P w= .ok (.value v) w')(hr:Rel F N ι' g (a.put o.dst v) w')(hk:K g):yW P F N o a w K:=by
 intro next Q i;unfold Oper.wp;rw[h];exact i ι' g _ _ hr hk
theorem yW.of_skip {w':World}{ι':Nat ->Gh}{g:S}(h:(execOp a.eval o).run P w= .ok .skip w')(hr:Rel F N ι' g (a.put o.dst undef) w')(hk:K g):yW P F N o a w K:=by
 intro next Q i;unfold Oper.wp;rw[h];exact i ι' g _ _ hr hk
theorem yW.put (hr:Rel F N ι s a w)(g: ∀k,o.dst=some k ->k<N){v:Value}{x:V}(h:(execOp a.eval o).run P w= .ok (.value v) w)(i:VR ι w (F.ok ι s.pl w) x v)(hk:K (s.put o.dst x)):yW P F N o a w K:=
 yW.of_value h (hr.put o.dst g x v i) hk
def zx (P:Program)(F:Fr)(N:Nat)(o:Oper)(a:Act)(w:World)(C:World ->Prop)(K:S ->Prop):Prop:=
 ∃v ι' g,(∀w',C w' ->(execOp a.eval o).run P w'= .ok (.value v) w')/\Rel F N ι' g (a.put o.dst v) w /\K g
theorem zx.fine {C:World ->Prop}(hC:C w)(h:zx P F N o a w C K):yW P F N o a w K:=
 let⟨_,_,_,g,i,j⟩:=h
 yW.of_value (g w hC) i j
theorem zx.put {C:World ->Prop}(hr:Rel F N ι s a w)(g: ∀k,o.dst=some k ->k<N){v:Value}{x:V}(h: ∀w',C w' ->(execOp a.eval o).run P w'= .ok (.value v) w')(i:VR ι w (F.ok ι s.pl w) x v)(hk:K (s.put o.dst x)):zx P F N o a w C K:=
 ⟨v,ι,_,h,hr.put o.dst g x v i,hk⟩
def wL (w w':World):Prop:=w.heap.size<=w'.heap.size /\ ∀b,b<w.heap.size ->w'.heap[b]? =w.heap[b]?
theorem wL.refl (w:World):wL w w:=⟨Nat.le_refl _,λ_ _=>rfl⟩
theorem wL.trans {w w' g:World}(h:wL w w')(k:wL w' g):wL w g:=
 ⟨Nat.le_trans h.1 k.1,λb i=>(k.2 b (Nat.lt_of_lt_of_le i h.1)).trans (h.2 b i)⟩
theorem wL.cell {w w':World}(h:wL w w'){b q:Nat}{v:Value}(i:w.cell? ⟨b,q,none⟩=some v):w'.cell? ⟨b,q,none⟩=some v:=by
 have j:b<w.heap.size:=by
  rcases Nat.lt_or_ge b w.heap.size with g|g
  ·exact g
  ·simp[World.cell?,Array.getElem?_eq_none g]at i
 simp only[World.cell?,h.2 b j]at i⊢;exact i
def q7 (P:Program)(F:Fr)(N:Nat)(o:Oper)(a:Act)(w:World)(K:S ->Prop):Prop:=
 ∀(next:Act ->World ->Prop) (Q:Exit ->Act ->World ->Prop),(∀ι s g w',Rel F N ι s g w' ->K s ->wL w w' ->next g w') ->o.wp P a w next Q
theorem q7.fine (h:q7 P F N o a w K):yW P F N o a w K:=λnext Q i=>h next Q λι s g w' hr hk _=>i ι s g w' hr hk
theorem q7.of_value {v:Value}{w':World}{ι':Nat ->Gh}{g:S}(i:wL w w')(h:(execOp a.eval o).run P w= .ok (.value v) w')(hr:Rel F N ι' g (a.put o.dst v) w')(hk:K g):q7 P F N o a w K:=by
 intro next Q j;unfold Oper.wp;rw[h];exact j ι' g _ _ hr hk i
theorem qB (b o j:Nat):(⟨b,o,none⟩:Addr).add j=⟨b,o+j,none⟩:=by
 grind[Addr.add]
theorem Ks {t:TypeId}{d:TypeDesc}(h:P.underlying t=some d): ∃i,P.info? t=some i:=by
 grind[Program.underlying]
theorem qI {t:TypeId}{i:TypeInfo}(h:P.info? t=some i)(w:World):(sizeOf t).run P w= .ok (zE P t) w:=by
 simp_all[sizeOf,typeInfo,zE]
theorem ke {t:TypeId}{g:Bool}(h:VO P t=some g): ∃i,P.info? t=some i /\ ∀w,(isAgg t).run P w= .ok g w:=by
 unfold VO at h;cases j:P.underlying t with
 |none=>grind
 |some d=>
  obtain⟨i,hi⟩:=Ks j;refine⟨i,hi,λw=>?_⟩;rw[j]at h;cases d<;>simp_all[isAgg,run_underlying]
theorem qK {t e:TypeId}(h:wo P t=some e):P.underlying t=some (.slice e):=by
 grind[wo]
theorem VP {t:TypeId}{f off:Nat}{i:TypeId}(h:Ww P t f=some (off,i)): ∃g x,P.underlying t=some (.struct g)/\g[f]? =some x /\x.offset=off /\x.type=i:=by
 grind[Ww]
theorem uW {v:V}{n:Int}{x:Value}{ok:Nat ->Prop}(h:Zn v=some n)(g:VR ι w ok v x): ∃k,x= .int k n /\v= .w (.c (.d (.lit (.int k n)))):=by
 unfold Zn at h<;>grind[VR,WR,CR,RD]
theorem YI {v:V}{b:Bool}{x:Value}{ok:Nat ->Prop}(h:yi v=some b)(g:VR ι w ok v x):x= .bool b:=by
 unfold yi at h<;>grind[VR,WR,CR,RD]
theorem yV {ok:Nat ->Prop}{v x:Value}:CR ι w ok (.d (.lit v)) x ->x=v:=by
 grind[CR,RD]
theorem yL {ok:Nat ->Prop}{v:Value}(h:v.oneCell'=true):VR ι w ok (cV (.d (.lit v))) v:=by
 grind[cV,VR,WR,CR,RD]
theorem Vj (hr:Rel F N ι s a w)(i: ∀k,o.dst=some k ->k<N){x:Operand}(g:o.op= .move x\/o.op= .assign x)(h:K (s.put o.dst (s.o (cO x)))):zx P F N o a w (λ_=>True) K:=by
 refine zx.put hr i ?_ (vj hr x) h;intro w' _;rcases g with g|g<;>simp_all[execOp]
theorem abU (hr:Rel F N ι s a w)(i: ∀k,o.dst=some k ->k<N){c x y:Operand}(l:o.op= .pick c x y)
 (h:match yi (s.o (cO c))with|some t=>cond t (K (s.put o.dst (s.o (cO x)))) (K (s.put o.dst (s.o (cO y))))|none=>False):zx P F N o a w (λ_=>True) K:=by
 cases g:yi (s.o (cO c))with
 |none=>grind
 |some t=>
  simp only[g]at h;have j:=YI g (vj hr c);cases t
  ·exact zx.put hr i (λw' _=>by simp_all[execOp,asBool]) (vj hr y) h
  ·exact zx.put hr i (λw' _=>by simp_all[execOp,asBool]) (vj hr x) h
theorem ad3 (hr:Rel F N ι s a w)(J: ∀k,o.dst=some k ->k<N){x:Operand}{i:Nat}(U:o.op= .extract x i)
 (h:zF P o.dst (.ext (cO x) i) s K):zx P F N o a w (λ_=>True) K:=by
 simp only[zF]at h;have r:=vj hr x;cases e:s.o (cO x)with
 |w y=>grind
 |tup xs=>
  simp only[e]at h;rw[e]at r;obtain⟨vs,hv,l⟩:=r;cases p:xs[i]? with
  |none=>grind
  |some y=>
   simp only[p]at h;have: ∀(xs:List W) (vs:List Value) (i:Nat) (y:W),xP ι w (F.ok ι s.pl w) xs vs ->xs[i]? =some y -> ∃v,vs[i]? =some v /\WR ι w (F.ok ι s.pl w) y v:=by
    intro xs;induction xs with
    |nil=>grind
    |cons z zs R=>
     intro vs i y j g;cases vs with
     |nil=>exact j.elim
     |cons v vs=>cases i with
      |zero=>simp at g;subst g;exact⟨v,rfl,j.1⟩
      |succ i=>simp at g;simpa using R vs i y j.2 g
   obtain⟨v,T,I⟩:=this xs vs i y l p;refine zx.put hr J ?_ (show VR ι w _ (.w y) v from I) h;simp_all[execOp,Instr.extract]
theorem ag4 (hr:Rel F N ι s a w)(I: ∀k,o.dst=some k ->k<N){x:Operand}(J:o.op= .nilCheck x)
 (h:zF P o.dst (.nc (cO x)) s K):zx P F N o a w (λ_=>True) K:=by
 simp only[zF]at h;have r:=xu hr x;cases e:s.oc (cO x)<;>simp only[e]at h<;>rw[e]at r
 case ptr p k=>
  obtain⟨b,g,j⟩:=r;exact zx.put hr I (v:=a.eval x) (λw' _=>by simp_all[execOp]) (show VR ι w _ (cV (.ptr p k)) _ from⟨b,g,j⟩) h
 case eptr p z i k=>
  obtain⟨b,g,j⟩:=r;exact zx.put hr I (v:=a.eval x) (λw' _=>by simp_all[execOp]) (show VR ι w _ (cV (.eptr p z i k)) _ from⟨b,g,j⟩) h
 case fp l=>
  obtain⟨b,q,g,j⟩:=r;exact zx.put hr I (v:=a.eval x) (λw' _=>by simp_all[execOp]) (show VR ι w _ (cV (.fp l)) _ from⟨b,q,g,j⟩) h
theorem adJ (hr:Rel F N ι s a w): ∀(g:List Operand) (j:List Nat),agk s (g.map cO)=some j -> ∃i:List Nat,j.map (λp=>(ι p).b)=i.map some /\g.map a.eval=i.map λb=>Value.pointer (some ⟨b,0,none⟩)
 | [],j,h=>by cases h;simp_all
 |x::r,j,h=>by
  simp only[List.map_cons,agk]at h;have o:=xu hr x;split at h
  ·rename_i p l T U;cases h;rw[T]at o;obtain⟨b,I,J⟩:=o;obtain⟨i,P,R⟩:=adJ hr r l U;exact⟨b::i,by simp[I,P],by simp[J,R]⟩
  ·cases h
theorem amd (hr:Rel F N ι s a w)(r: ∀k,o.dst=some k ->k<N){f:FuncId}{first g:Array Operand}(T:o.op= .makeFunc (.func f) first g)(R:first.toList.isEmpty=true)
 (h:zF P o.dst (.clo f (g.toList.map cO)) s K):yW P F N o a w K:=by
 simp only[zF]at h;cases e:agk s (g.toList.map cO)with
 |none=>grind
 |some l=>
  simp only[e]at h;obtain⟨j,p,I⟩:=adJ hr g.toList l e;have i:first= #[]:=by
   grind
  refine yW.put hr r (v:=.func (.func f) #[] (j.map λb=>Value.pointer (some ⟨b,0,none⟩)).toArray) ?_ (show VR ι w _ (cV (.clo f l)) _ from⟨j,p,rfl⟩) h;have J:g.map a.eval=(j.map λb=>Value.pointer (some ⟨b,0,none⟩)).toArray:=by
   grind
  simp_all[execOp,Instr.makeFunc]
theorem agm {α:Type}: ∀(e:Sem α) (v:α),Ur P e=some v -> ∀w,e.run P w= .ok v w:=by
 intro e;induction e with
 |pure x=>simp_all[Ur]
 |program k g=>intro v h w;exact g P v h w
 |mark m k g=>intro v h w;exact g v h w
 |_=>intro v h w;cases h
theorem abp {ok:Nat ->Prop}: ∀(i:List C) (l vs:List Value),ae2 i=some l ->CRs ι w ok i vs ->vs=l
 | [],_,[],h,_=>by cases h;rfl
 | [],_,_::_,_,h=>h.elim
 |_::_,_,[],_,h=>h.elim
 |c::i,l,v::vs,h,o=>by
  simp only[ae2]at h;split at h
  ·rename_i u m g p;cases h;have:=abp i m vs p o.2;subst this;have j:=o.1;unfold ajJ at g;split at g
   ·cases g;rw[yV j]
   ·cases g;simp only[CR]at j;rw[j]
   ·cases g
  ·cases h
theorem alu {ok:Nat ->Prop}{v:V}{u x:Value}(h:af5 v=some u)(g:VR ι w ok v x):x=u:=by
 cases v with
 |tup xs=>cases h
 |w y=>
  cases y with
  |c c=>
   simp only[af5,am7]at h;unfold ajJ at h;split at h
   ·cases h;exact yV (ι:=ι) (w:=w) (ok:=ok) g
   ·cases h;exact g
   ·cases h
  |agg i=>
   simp only[af5,am7]at h;obtain⟨vs,j,l⟩:=g<;>grind[abp]
theorem agp (hr:Rel F N ι s a w): ∀(l:List Operand),J7 s l=true -> ∀x∈l,rho s x=a.eval x
 | [],_,_,g=>by cases g
 |y::r,h,x,g=>by
  simp only[J7]at h;split at h
  ·rename_i u i;rcases List.mem_cons.1 g with rfl|g
   ·unfold rho;rw[i];exact(alu i (vj hr x)).symm
   ·exact agp hr r h x g
  ·cases h
def aiD:Op ->Bool
 | .convert _ _ _| .binOp _ _ _ _ _| .unOp _ _ _=>true
 | .call {callee:=.builtin _,args:=_,argTypes:=_}=>true
 |_=>false
theorem ajt {ρ ρ':Operand ->Value}{o j:Oper}(i:aiD o.op=true)(l:j.op=o.op)(p:j.type=o.type)(h: ∀x∈o.op.operands.toList,ρ x=ρ' x):execOp ρ' j=execOp ρ o:=by
 unfold execOp;rw[l,p];cases r:o.op<;>rw[r]at i h<;>try (cases i;done)
 case convert src dst x=>simp[Op.operands]at h;simp[h]
 case binOp b t x y u=>simp[Op.operands]at h;simp[h.1,h.2]
 case unOp u t x=>simp[Op.operands]at h;simp[h]
 case call c=>
  obtain⟨callee,args,I⟩:=c;cases callee<;>try (cases i;done)
  case builtin b=>
   have g:args.map ρ'=args.map ρ:=by
    grind[Op.operands,Call.operands]
   simp[resolve,g]
theorem qJ (hr:Rel F N ι s a w)(i: ∀k,o.dst=some k ->k<N)(j:aiD o.op=true)(h:zF P o.dst (.pure o.op o.type) s K):zx P F N o a w (λ_=>True) K:=by
 simp only[zF,ajc]at h;cases g:J7 s o.op.operands.toList with
 |false=>grind
 |true=>
  rw[g]at h;simp only[cond_true]at h;split at h
  ·rename_i v p;have l:execOp a.eval o=execOp (rho s) (agl o.op o.type):=ajt (o:=agl o.op o.type) j rfl rfl (agp hr _ g);exact zx.put hr i (v:=v) (x:=.w (ofValue v)) (λw' _=>by grind[agm]) (Yi ι w (F.ok ι s.pl w) v) h
  grind
theorem go {k k':IntKind}(h:ul k k'=true):k=k':=by
 cases k<;>cases k'<;>first|rfl|cases h
theorem amH {b:BinOp}{k:IntKind}{m n:Int}{v:Value}(h:acg b k m n=some v):v.oneCell'=true:=by
 unfold acg at h;split at h<;>cases h<;>rfl
theorem amI {b:BinOp}{m n:ByteArray}{v:Value}(h:ach b m n=some v):v.oneCell'=true:=by
 unfold ach at h;split at h<;>cases h<;>rfl
theorem anC {b:BinOp}{k:IntKind}{m n:Int}{v:Value}(h:acg b k m n=some v)(t:TypeId)(w:World):(binOp b t (.int k m) (.int k n)).run P w= .ok v w:=by
 unfold acg at h;split at h<;>simp_all[binOp,Op.intArith,Op.intCmp,Op.intBits,Vr]
theorem anD {b:BinOp}{m n:ByteArray}{v:Value}(h:ach b m n=some v)(t:TypeId)(w:World):(binOp b t (.string m) (.string n)).run P w= .ok v w:=by
 unfold ach at h;split at h<;>simp_all[binOp,Op.stringOp,zl,Z7]
theorem vG (b:BinOp)(t:TypeId)(x y:Operand){u v:Value}(g:(∃k n,u= .int k n)\/ ∃m,u= .string m)(w:World):(eqGuard b t x y u v).run P w= .ok () w:=by
 rcases g with⟨k,n,rfl⟩|⟨m,rfl⟩<;>simp_all[eqGuard]
theorem ad0 (hr:Rel F N ι s a w)(g: ∀k,o.dst=some k ->k<N){b:BinOp}{t u:TypeId}{x y:Operand}(i:o.op= .binOp b t x y u)
 (h:zF P o.dst (.bin b (cO x) (cO y)) s K):zx P F N o a w (λ_=>True) K:=by
 simp only[zF]at h;have l:=xu hr x;have p:=xu hr y;generalize s.oc (cO x)=J at*;generalize s.oc (cO y)=R at*;unfold ajb at h;split at h
 ·rename_i k m I n;cases hk:ul k I with
  |false=>grind
  |true=>
   rw[hk]at h;have:=go hk;subst this;simp only[cond_true]at h;split at h
   ·rename_i v j;refine zx.put hr g (v:=v) ?_ (yL (amH j)) h;intro w' _;simp[execOp,i,yV l,yV p,vG b t x y (.inl ⟨k,m,rfl⟩),anC j]
   ·cases b<;>simp only[]at h
    case quo=>
     refine zx.put hr g (v:=.int k (k.wrap (m.tdiv n))) ?_ (yL rfl) h.2;intro w' _;simp[execOp,i,yV l,yV p,vG .quo t x y (.inl ⟨k,m,rfl⟩),binOp,Op.intDiv,h.1]
    case rem=>
     refine zx.put hr g (v:=.int k (m.tmod n)) ?_ (yL rfl) h.2;intro w' _;simp[execOp,i,yV l,yV p,vG .rem t x y (.inl ⟨k,m,rfl⟩),binOp,Op.intDiv,h.1]
 ·rename_i m n;split at h
  ·rename_i v j;refine zx.put hr g (v:=v) ?_ (yL (amI j)) h;intro w' _;simp[execOp,i,yV l,yV p,vG b t x y (.inr ⟨m,rfl⟩),anD j]
  ·cases b<;>simp only[]at h
   case add=>
    refine zx.put hr g (v:=.string (m++n)) ?_ (yL rfl) h.2;intro w' _;have r: ¬((m.size+n.size:Nat):Int)>IntKind.i64.max:=by
     have:=h.1;have e:IntKind.i64.max=9223372036854775807:=by decide
     grind
    simp[execOp,i,yV l,yV p,vG .add t x y (.inr ⟨m,rfl⟩),binOp,Op.stringOp]
    grind
 grind
theorem abC {t:TypeId}(h:VO P t=some true){b off:Nat}{vs:List Value}(p:vs.length=zE P t)(o: ∀j v,vs[j]? =some v ->w.cell? ⟨b,off+j,none⟩=some v):
 (loadVar t ⟨b,off,none⟩).run P w= .ok (.agg vs.toArray) w:=by
 obtain⟨i,hi,g⟩:=ke h;have l:=run_loadCells_list (P:=P) w ⟨b,off,none⟩ vs (λj v r=>by grind[qB]);simp_all[loadVar,qI]
theorem abD {t:TypeId}(h:VO P t=some false){b off:Nat}{v:Value}(j:w.cell? ⟨b,off,none⟩=some v):
 (loadVar t ⟨b,off,none⟩).run P w= .ok v w:=by
 obtain⟨i,hi,g⟩:=ke h<;>simp_all[loadVar]
theorem jR {ok:Nat ->Prop}{t:TypeId}{g:Bool}(I:VO P t=some g){r:List C}{vs:List Value}(i:CRs ι w ok r vs){b off:Nat}(J: ∀j v,vs[j]? =some v ->w.cell? ⟨b,off+j,none⟩=some v)
 {x:W}(o:W9 g (zE P t) r=some x): ∃v,(∀w',wL w w' ->(loadVar t ⟨b,off,none⟩).run P w'= .ok v w')/\WR ι w ok x v:=by
 unfold W9 at o;cases g
 ·simp only[cond_false]at o;cases r with
  |nil=>cases o
  |cons c r=>
   cases o;cases vs with
   |nil=>exact i.elim
   |cons v vs=>exact⟨v,λw' p=>abD I (p.cell (by simpa using J 0 v rfl)),i.1⟩
 ·simp only[cond_true]at o;cases l:Nat.ble (zE P t) r.length with
  |false=>grind
  |true=>
   rw[l]at o;cases o;have l:=Nat.le_of_ble_eq_true l;refine⟨.agg (vs.take (zE P t)).toArray,λw' p=>abC I ?_ (λj v R=>p.cell ?_),_,rfl,CRs.take _ i⟩
   ·rw[List.length_take,<- i.length];omega
   grind
theorem RDc.vals {ok:Nat ->Prop}{b:Nat}: ∀{l:List D}{off:Nat},RDc w ok b off l -> ∃vs,CRs ι w ok (l.map .d) vs /\ ∀j v,vs[j]? =some v ->w.cell? ⟨b,off+j,none⟩=some v
 | [],off,_=>⟨[],trivial,λj v h=>by simp at h⟩
 |d::r,off,h=>by
  simp only[RDc]at h;obtain⟨⟨v,p,g⟩,i⟩:=h;obtain⟨vs,o,I⟩:=RDc.vals i;refine⟨v::vs,⟨g,o⟩,λj u J=>?_⟩
  grind
theorem ag1 (hr:Rel F N ι s a w)(hd: ∀k,o.dst=some k ->k<N){t:TypeId}{x:Operand}(ho:o.op= .load t x){g:Bool}(ht:VO P t=some g)
 (h:zF P o.dst (.ld g (zE P t) (cO x)) s K):zx P F N o a w (wL w) K:=by
 simp only[zF]at h;have hx:=xu hr x;generalize s.oc (cO x)=cx at*;unfold aLd at h;split at h
 ·rename_i p off;obtain⟨b,T,h2⟩:=hx;split at h
  ·rename_i cs hp;split at h
   ·rename_i y J;obtain⟨b',aa,l,e2,R⟩:=hr.places p _ hp;rw[T]at l;cases l;obtain⟨v,hv,r⟩:=jR (b:=b) (off:=off) ht (CRs.drop off R) (λj v hv=>by
     rw[e2.cell];grind) J
    exact zx.put hr hd (λw' I=>by simp_all[execOp,Instr.loadAt,Instr.sureAddr]) (show VR ι w _ (.w y) v from r) h
   grind
  ·rename_i ds hp;split at h
   ·rename_i y J;obtain⟨b',l,e2,R⟩:=hr.places p _ hp;rw[T]at l;cases l;have R:=RDc.drop off R;rw[Nat.zero_add]at R;obtain⟨vs,U,h5⟩:=RDc.vals (ι:=ι) R;obtain⟨v,hv,r⟩:=jR (b:=b) (off:=off) ht U h5 J;exact zx.put hr hd (λw' I=>by simp_all[execOp,Instr.loadAt,Instr.sureAddr]) (show VR ι w _ (.w y) v from r) h
   grind
  grind
 ·rename_i cells;obtain⟨b,off,T,h2,h3⟩:=hx;split at h
  ·rename_i y J;obtain⟨vs,U,h5⟩:=RDc.vals (ι:=ι) h3;obtain⟨v,hv,r⟩:=jR (b:=b) (off:=off) ht U h5 J;exact zx.put hr hd (λw' I=>by simp_all[execOp,Instr.loadAt,Instr.sureAddr]) (show VR ι w _ (.w y) v from r) h
  grind
 ·rename_i p z i k;obtain⟨b,T,h2⟩:=hx;split at h
  ·rename_i z1 ab fz hp;cases hz:Nat.beq z z1 with
   |false=>grind
   |true=>
    rw[hz]at h;have hz:=Nat.eq_of_beq_eq_true hz;subst hz;simp only[cond_true]at h;obtain⟨e,he,h⟩:=h;split at h
    ·rename_i y J;obtain⟨_,_,ac|⟨b',l,e2,_⟩⟩:=hr.places p _ hp
     ·grind
     ·rw[T]at l;cases l;have h3:=RDc.drop k (RDs.get e2 he);rw[Nat.zero_add]at h3;obtain⟨vs,U,h5⟩:=RDc.vals (ι:=ι) h3;obtain⟨v,hv,r⟩:=jR (b:=b) (off:=i*z+k) ht U h5 J;exact zx.put hr hd (λw' I=>by simp_all[execOp,Instr.loadAt,Instr.sureAddr]) (show VR ι w _ (.w y) v from r) h
    grind
  grind
 grind
theorem agZ (hr:Rel F N ι s a w)(T: ∀k,o.dst=some k ->k<N){t:TypeId}{x:Operand}{f off:Nat}{J:TypeId}(ho:o.op= .fieldAddr t x f)(ht:Ww P t f=some (off,J))(hz:Nat.blt 0 (zE P J)=true)
 (h:zF P o.dst (.fa off (cO x)) s K):zx P F N o a w (λ_=>True) K:=by
 simp only[zF]at h;obtain⟨fs,y,hu,hy,aa,U⟩:=VP ht;have ab:zE P J≠0:=by have:=Nat.le_of_ble_eq_true hz;omega
 have j: ∃i,P.info? J=some i:=by
  grind[zE]
 obtain⟨i,hi⟩:=j;have g: ∀b q,a.eval x= .pointer (some ⟨b,q,none⟩) -> ∀w':World,True ->(execOp a.eval o).run P w'= .ok (.value (.pointer (some ⟨b,q+off,none⟩))) w':=by
  simp_all[execOp,Instr.fieldAt,run_underlying,Instr.sureAddr,fieldPlace,qI,qB]
 have R:=xu hr x;cases e:s.oc (cO x)<;>simp only[e]at h<;>rw[e]at R
 case ptr p k=>
  obtain⟨b,r,I⟩:=R;exact zx.put hr T (g b k I) (show VR ι w _ (cV (.ptr p (k+off))) _ from⟨b,r,rfl⟩) h
 case eptr p z i k=>
  obtain⟨b,r,I⟩:=R;exact zx.put hr T (g b _ I) (show VR ι w _ (cV (.eptr p z i (k+off))) _ from⟨b,r,by grind⟩) h
 case fp l=>
  obtain⟨b,q,r,I,h3⟩:=R;exact zx.put hr T (g b _ r) (show VR ι w _ (cV (.fp (l.drop off))) _ from⟨b,q+off,rfl,I,RDc.drop off h3⟩) h
theorem ad4 (hr:Rel F N ι s a w)(hd: ∀k,o.dst=some k ->k<N){t:TypeId}{x:Operand}{f off:Nat}{j:TypeId}{g:Bool}(ho:o.op= .field t x f)(ht:Ww P t f=some (off,j))(hg:VO P j=some g)
 (h:zF P o.dst (.fld g (zE P j) off (cO x)) s K):zx P F N o a w (λ_=>True) K:=by
 simp only[zF]at h;obtain⟨fs,y,hu,hy,aa,T⟩:=VP ht;obtain⟨i,hi,ab⟩:=ke hg;have hx:=vj hr x;cases e:s.o (cO x)with
 |tup xs=>grind
 |w z=>
  cases z with
  |c c=>grind
  |agg J=>
   simp only[e]at h;rw[e]at hx;obtain⟨vs,h1,h2⟩:=hx;split at h
   ·rename_i q l;unfold W9 at l;cases g
    ·simp only[cond_false]at l;split at l
     ·rename_i c r p;cases l;have:=CRs.drop off h2;rw[p]at this;cases I:vs.drop off with
      |nil=>rw[I]at this;exact this.elim
      |cons v vr=>
       rw[I]at this;have hv:vs[off]? =some v:=by
        have:(vs.drop off)[0]? =some v:=by grind
        grind
       exact zx.put hr hd (v:=v) (λw' _=>by simp_all[execOp,Instr.field,run_underlying,asAgg,part]) (show VR ι w _ (.w (.c c)) v from this.1) h
     ·cases l
    ·simp only[cond_true]at l;cases R:Nat.ble (zE P j) (J.drop off).length with
     |false=>grind
     |true=>
      rw[R]at l;cases l;have U:WR ι w (F.ok ι s.pl w) (.agg ((J.drop off).take (zE P j))) (.agg ((vs.drop off).take (zE P j)).toArray):=⟨_,rfl,CRs.take _ (CRs.drop off h2)⟩;refine zx.put hr hd (v:=.agg ((vs.drop off).take (zE P j)).toArray) ?_ (show VR ι w _ (.w (.agg ((J.drop off).take (zE P j)))) _ from U) h;simp_all[execOp,Instr.field,run_underlying,asAgg,part,qI]
   grind
theorem ag0 (hr:Rel F N ι s a w)(hd: ∀k,o.dst=some k ->k<N){t e:TypeId}{x y:Operand}(ho:o.op= .indexAddr t x y)(ht:wo P t=some e)(hz:Nat.blt 0 (zE P e)=true)
 (h:zF P o.dst (.ia (zE P e) (cO x) (cO y)) s K):zx P F N o a w (λ_=>True) K:=by
 simp only[zF]at h;have hu:=qK ht;have aa:zE P e≠0:=by have:=Nat.le_of_ble_eq_true hz;omega
 have j: ∃i,P.info? e=some i:=by
  grind[zE]
 obtain⟨i,hi⟩:=j;split at h
 ·rename_i n hn;obtain⟨k,hy,_⟩:=uW hn (vj hr y);have g: ∀b q m c,a.eval x= .slice (some ⟨b,q,none⟩) m c ->0<=n ->n<m -> ∀w':World,True ->(execOp a.eval o).run P w'= .ok (.value (.pointer (some ⟨b,q+n.toNat*zE P e,none⟩))) w':=by
   intro b q m c J R T w' _;simp[execOp,ho,J,hy,Instr.indexAt,run_underlying hu,asIntOf,R,T,qI hi,qB]
  have I:=xu hr x;split at h
  ·rename_i l hl;rw[hl]at I;simp only[CR,RD]at I;obtain⟨ad,m,c,U,h2,h3,h4,h5⟩:=I;obtain⟨g1,y',g2,g3,g4⟩:=h;rcases h5 with h5|⟨b,q,sz,J,R,T⟩
   ·grind
   ·subst J;have ab:n.toNat<l.length:=(List.getElem?_eq_some_iff.1 g2).1;have ac:y'.length=sz:=RDs.len T y' (List.mem_of_getElem? g2);refine zx.put hr hd (g b q m c U g1 (by grind)) (show VR ι w _ (cV (.fp y')) _ from⟨b,_,rfl,R,?_⟩) g4
    grind[RDs.get]
  ·rename_i p z m hl;rw[hl]at I;cases r:Nat.beq z (zE P e)with
   |false=>grind
   |true=>
    rw[r]at h;have r:=Nat.eq_of_beq_eq_true r;simp only[cond_true]at h;obtain⟨g1,g2,g3⟩:=h;rcases I with⟨_,h2,_⟩|⟨b,cap,ty,U,h2,h3,h4,h5,h6⟩
    ·grind
    ·refine zx.put hr hd (g b 0 m cap h3 g1 g2) (show VR ι w _ (cV (.eptr p z n.toNat 0)) _ from⟨b,U,?_⟩) g3
     grind
  grind
 grind
theorem ad8 (hr:Rel F N ι s a w)(r: ∀k,o.dst=some k ->k<N){t:TypeId}{x y:Operand}(R:o.op= .index t x y)(T:P.underlying t=some .string)
 (h:zF P o.dst (.six (cO x) (cO y)) s K):zx P F N o a w (λ_=>True) K:=by
 simp only[zF]at h;split at h
 ·rename_i b n J I;obtain⟨k,U,_⟩:=uW I (vj hr y);have g:=xu hr x;rw[J]at g;have g:=yV g;obtain⟨g1,g2,g3⟩:=h;have i:n.toNat<b.size:=by omega
  have j:b[n.toNat]? =some (b.data.toList.getD n.toNat 0):=by
   have l:b[n.toNat]? =some b[n.toNat]:=getElem?_pos b n.toNat i;rw[l];have p:n.toNat<b.data.toList.length:=by simp_all
   simp only[List.getD,List.getElem?_eq_getElem p,Option.getD_some];rfl
  refine zx.put hr r (v:=.int .u8 (b.data.toList.getD n.toNat 0).toNat) ?_ (yL rfl) g3;simp_all[execOp,Instr.index,run_underlying,asIntOf]
 grind
theorem ad6 (hr:Rel F N ι s a w)(I: ∀k,o.dst=some k ->k<N){args:Array Operand}{U:Array TypeId}{x:Operand}{t e:TypeId}(ho:o.op= .call {callee:=.builtin .len,args:=args,argTypes:=U})
 (R:args.toList=[x]) (aa:U.toList=[t]) (ht:wo P t=some e) (h:zF P o.dst (.len (cO x)) s K):zx P F N o a w (λ_=>True) K:=by
 simp only[zF]at h;have hu:=qK ht;have ha:args= #[x]:=Array.toList_inj.1 (by grind);have T:U= #[t]:=Array.toList_inj.1 (by grind);have g: ∀b m c,a.eval x= .slice b m c -> ∀w':World,True ->(execOp a.eval o).run P w'= .ok (.value (.int .i64 m)) w':=by
  intro b m c e1 w' _;simp[execOp,ho,resolve,invoke,builtin,Builtin.len_,ha,T,e1,run_underlying hu,goInt]
 have i:=xu hr x;split at h
 ·rename_i l j;rw[j]at i;simp only[CR,RD]at i;obtain⟨ad,m,c,h1,r,_⟩:=i;subst r;exact zx.put hr I (g _ _ _ h1) (yL rfl) h
 ·rename_i j;rw[j]at i;exact zx.put hr I (g _ _ _ i) (yL rfl) h
 ·rename_i p z m j;rw[j]at i;rcases i with⟨_,r,J⟩|⟨b,cap,ty,h1,r,J,_⟩
  ·subst r;exact zx.put hr I (g _ _ _ J) (yL rfl) h
  ·exact zx.put hr I (g _ _ _ J) (yL rfl) h
 grind
theorem ad5 (hr:Rel F N ι s a w)(R: ∀k,o.dst=some k ->k<N){b:BinOp}{t u:TypeId}{x y:Operand}(ho:o.op= .binOp b t x y u){neg:Bool}(hn:Up P b t y=some neg)
 (h:zF P o.dst (.isn neg (cO x)) s K):zx P F N o a w (λ_=>True) K:=by
 have hy: ∃n c e,y= .const (.slice none n c)/\P.underlying t=some (.slice e)/\((b= .eql /\neg=false)\/(b= .neq /\neg=true)):=by
  unfold Up at hn<;>grind
 obtain⟨J,r,e,rfl,hu,hb⟩:=hy;have g: ∀i m c,a.eval x= .slice i m c -> ∀w':World,True ->(execOp a.eval o).run P w'= .ok (.value (.bool (if i.isNone then !neg else neg))) w':=by
  intro i m c I w' _;have T:a.eval (.const (.slice none J r))= .slice none J r:=rfl;have heq:(Op.equal t (.slice i m c) (.slice none J r)).run P w'= .ok i.isNone w':=by
   obtain⟨d,R⟩: ∃d,Op.maxDepth=d+1:=⟨_,rfl⟩;rw[Op.equal,R,Op.equalIn];simp only[Sem.run_bind,run_underlying hu,Result.andThen_ok];cases i<;>rfl
  have hg: ∀b,(eqGuard b t x (.const (.slice none J r)) (.slice i m c) (.slice none J r)).run P w'= .ok () w':=by
   simp_all[eqGuard]
  rcases hb with⟨rfl,rfl⟩|⟨rfl,rfl⟩
  ·have j:binOp .eql t (.slice i m c) (.slice none J r)=(do pure (.bool (<- Op.equal t (.slice i m c) (.slice none J r)))):=rfl;simp only[execOp,ho,I,T,j,Sem.run_bind,hg,heq,Result.andThen_ok,Sem.run_pure]
   grind
  ·have j:binOp .neq t (.slice i m c) (.slice none J r)=(do pure (.bool (!(<- Op.equal t (.slice i m c) (.slice none J r))))):=rfl;simp only[execOp,ho,I,T,j,Sem.run_bind,hg,heq,Result.andThen_ok,Sem.run_pure]
   grind
 have I:=xu hr x;simp only[zF]at h;generalize s.oc (cO x)=cx at*;unfold amx at h;split at h
 ·have I:a.eval x= .slice none 0 0:=I;exact zx.put hr R (g _ _ _ I) (yL rfl) h
 ·rename_i l;simp only[CR,RD]at I;obtain⟨i,m,c,h1,h2,U,h4,h5⟩:=I;cases i with
  |none=>
   rcases h5 with h5|⟨b',q,sz,e1,_⟩
   ·exact zx.put hr R (g _ _ _ h1) (yL rfl) (h.1 h5)
   ·cases e1
  |some i=>exact zx.put hr R (g _ _ _ h1) (yL rfl) h.2
 ·rename_i p z m;rcases I with⟨_,h2,U⟩|⟨b',cap,ty,h1,h2,U,_⟩
  ·exact zx.put hr R (g _ _ _ U) (yL rfl) (h.1 h2)
  ·exact zx.put hr R (g _ _ _ U) (yL rfl) h.2
 grind
theorem KI {b:Builtin}{l:List Operand}{z:AOp}(h:KH b l=some z): ∃x y,l=[x,y]/\((b= .min /\z= .mm false (cO x) (cO y))\/(b= .max /\z= .mm true (cO x) (cO y))):=by
 unfold KH at h<;>grind
theorem ag3 (hr:Rel F N ι s a w)(I: ∀k,o.dst=some k ->k<N){b:Builtin}{args:Array Operand}{T:Array TypeId}(ho:o.op= .call {callee:=.builtin b,args:=args,argTypes:=T})
 {z:AOp}(J:KH b args.toList=some z) (h:zF P o.dst z s K):zx P F N o a w (λ_=>True) K:=by
 obtain⟨x,y,i,r⟩:=KI J;have ha:args= #[x,y]:=Array.toList_inj.1 (by grind);have key: ∀(g:Bool),(b= .min /\g=false\/b= .max /\g=true) ->aMm o.dst g (s.oc (cO x)) (s.oc (cO y)) s K ->zx P F N o a w (λ_=>True) K:=by
  intro g j h;have l:=xu hr x;have p:=xu hr y;generalize s.oc (cO x)=U at*;generalize s.oc (cO y)=cy at*;unfold aMm at h;split at h
  ·rename_i k m R n;cases hk:ul k R with
   |false=>grind
   |true=>
    rw[hk]at h;simp only[cond_true]at h;have l:=yV l;have p:=yV p;refine zx.put hr I (v:=.int k (xG g m n)) ?_ (yL rfl) h;intro w' _;rcases j with⟨rfl,rfl⟩|⟨rfl,rfl⟩
    ·simp_all[execOp,resolve,invoke,builtin,Builtin.min_,Builtin.min2,xG]
    simp_all[execOp,resolve,invoke,builtin,Builtin.max_,Builtin.max2,xG]
  grind
 rcases r with⟨rfl,rfl⟩|⟨rfl,rfl⟩
 ·exact key false (.inl ⟨rfl,rfl⟩) h
 ·exact key true (.inr ⟨rfl,rfl⟩) h
end
def w8 (ι:Nat ->Gh)(p:Nat)(g:Gh):Nat ->Gh:=λq=>if q=p then g else ι q
theorem zK (ι:Nat ->Gh)(p:Nat)(g:Gh):w8 ι p g p=g:=by simp[w8]
theorem vJ (ι:Nat ->Gh){p q:Nat}(g:Gh)(h:q≠p):w8 ι p g q=ι q:=by grind[w8]
theorem aaa {p q:Nat}(h:isin q [p]=false):q≠p:=by
 intro e;simp_all[isin]
theorem afV {p d q:Nat}(h:isin q [p,d]=false):q≠p /\q≠d:=by
 refine⟨λe=>?_,λe=>?_⟩
 ·simp_all[isin]
 simp_all[isin]
theorem yN {α:Type}{d p:Nat}{x y:α}(h:aget [(d,x)] p=some y):p=d /\y=x:=by
 rw[yg]at h;split at h
 ·grind
 ·cases h
section
variable {P:Program}{F:Fr}{N:Nat}{ι:Nat ->Gh}{s:S}{a:Act}{w:World}{o:Oper}{K:S ->Prop}
theorem Jf (U:Rel F N ι s a w)(g:List Nat)(new:List (Nat×Pl))(ι':Nat ->Gh)(w':World)
 (hι: ∀p,isin p g=false ->ι' p=ι p)
 (j: ∀b,b<w.heap.size ->(∀q y,isin q g=true ->aget s.pl q=some y ->y.live=true ->(ι q).b≠some b) ->w'.heap[b]? =w.heap[b]?)
 (l:w.heap.size<=w'.heap.size)
 (i: ∀p x b,aget new p=some x ->(ι' p).b=some b ->b<w'.heap.size /\(w.heap.size<=b\/ ∃q y,isin q g=true /\aget s.pl q=some y /\y.live=true /\(ι q).b=some b)):
 zW w w' (F.ok ι s.pl w) (F.ok ι' (s.redo g new).pl w'):=by
 intro b hb;obtain⟨h1,J,r⟩:=hb;refine⟨⟨h1,Nat.lt_of_lt_of_le J l,?_⟩,j b J (λq y _ hy P hq=>r ⟨q,y,hy,P,hq⟩)⟩;rintro⟨p,x,o,P,I⟩;rw[S.redo_pl]at o;cases R:aget new p with
 |some y=>
  rcases(i p y b R I).2 with h|⟨q,z,_,h4,h5,h6⟩
  ·omega
  ·exact r ⟨q,z,h4,h5,h6⟩
 |none=>
  simp only[R]at o;split at o
  ·rename_i hk;cases T:aget s.pl p with
   |none=>grind
   |some y=>
    rw[T]at o;simp at o;subst o;exact r ⟨p,y,T,by grind[Pl.live_kill],by grind⟩
  ·cases o
structure NewRow (w w':World)(cur:Array Value)(t:TypeId)(mk:Nat×Nat):Prop where
 heap:w'.heap=w.heap.push (.cells cur t mk)
 os:w'.os=w.os
 tape:w'.tape=w.tape
 output:Out w w'
theorem NewRow.old {w w':World}{g:Array Value}{t:TypeId}{mk:Nat×Nat}(h:NewRow w w' g t mk){b:Nat}(i:b<w.heap.size):w'.heap[b]? =w.heap[b]? :=by
 rw[h.heap,Array.getElem?_push,if_neg (by omega)]
theorem NewRow.ext {w w':World}{g:Array Value}{t:TypeId}{mk:Nat×Nat}(h:NewRow w w' g t mk):wL w w':=⟨by rw[h.heap];simp,λ_ i=>h.old i⟩
theorem NewRow.new {w w':World}{g:Array Value}{t:TypeId}{mk:Nat×Nat}(h:NewRow w w' g t mk):w'.heap[w.heap.size]? =some (.cells g t mk):=by
 rw[h.heap];simp
theorem NewRow.size {w w':World}{g:Array Value}{t:TypeId}{mk:Nat×Nat}(h:NewRow w w' g t mk):w'.heap.size=w.heap.size+1:=by
 rw[h.heap];simp
theorem NewRow.shapes {w w':World}{g:Array Value}{t:TypeId}{mk:Nat×Nat}(h:NewRow w w' g t mk):zU w w':=by
 intro b ty m j;have l:b<w.heap.size:=by
  rcases Nat.lt_or_ge b w.heap.size with i|i
  ·exact i
  ·simp[World.shape?,Array.getElem?_eq_none i]at j
 simp only[World.shape?,h.old l]at j⊢;exact j
theorem NewRow.cell {w w':World}{g:Array Value}{t:TypeId}{mk:Nat×Nat}(h:NewRow w w' g t mk)(j:Nat):w'.cell? ⟨w.heap.size,j,none⟩=g[j]? :=cell_of_row w' _ j g t mk h.new
theorem NewRow.alloc (w:World)(g:Array Value)(t:TypeId):NewRow w (w.alloc (.cells g t)) g t (0,0):=⟨rfl,rfl,rfl,Out.refl w⟩
theorem NewRow.draw (w:World)(g:Array Value)(t:TypeId)(mk:Nat×Nat):NewRow w (w.drew.alloc (.cells g t mk)) g t mk:=⟨rfl,rfl,rfl,⟨rfl,Nat.le_succ _⟩⟩
theorem jy (hr:Rel F N ι s a w){w':World}{j:Array Value}{t:TypeId}{mk:Nat×Nat}(l:NewRow w w' j t mk)(d:Nat)(x:Pl)(g:List Nat)(hk:isin d g=true)(n:Nat):
 zW w w' (F.ok ι s.pl w) (F.ok (w8 ι d ⟨some w.heap.size,n⟩) (s.redo g [(d,x)]).pl w'):=by
 refine Jf hr g [(d,x)] _ w' (λp o=>vJ ι _ ?_) (λb i _=>l.old i) (by rw[l.size];omega) ?_
 ·grind
 ·intro p y b o i;obtain⟨rfl,rfl⟩:=yN o;rw[zK]at i;cases i;exact⟨by rw[l.size];omega,.inl (Nat.le_refl _)⟩
theorem Rel.newRow (hr:Rel F N ι s a w){w':World}{l:Array Value}{t:TypeId}{mk:Nat×Nat}(i:NewRow w w' l t mk)(d:Nat)(x:Pl)(g:List Nat)(hk:isin d g=true)(n:Nat)(r:F.h d=none)
 (I:PR (w8 ι d ⟨some w.heap.size,n⟩) w' (F.ok (w8 ι d ⟨some w.heap.size,n⟩) (s.redo g [(d,x)]).pl w') d x):Rel F N (w8 ι d ⟨some w.heap.size,n⟩) (s.redo g [(d,x)]) a w':=by
 refine hr.redo g [(d,x)] _ w' (λp o=>vJ ι _ ?_) (λb j _=>i.old j) i.shapes i.os i.tape i.output (by rw[i.size];omega) ?_ ?_ ?_ (λp y o=>by grind[yN])
 ·grind
 ·grind[yN]
 ·intro p y b o j;obtain⟨rfl,rfl⟩:=yN o;rw[zK]at j;cases j;exact⟨by rw[i.size];omega,.inl (Nat.le_refl _)⟩
 grind[yN]
theorem ZH {ok:Nat ->Prop}{x:W}{v:Value}(h:WR ι w ok x v)(hs:solid x.cells=true):CRs ι w ok x.cells v.cells.toList:=by
 cases x with
 |c c=>
  have i:c.isDead=false:=by
   grind[W.cells,solid]
  have g:=CR.one h i;have j:v.cells.toList=[v]:=by cases v<;>first|rfl|cases g
  rw[j];exact⟨h,trivial⟩
 |agg l=>
  obtain⟨vs,rfl,h⟩:=h<;>grind[W.cells,Value.cells]
theorem afa (hr:Rel F N ι s a w){w':World}{i:Array Value}{t:TypeId}{mk:Nat×Nat}(j:NewRow w w' i t mk)(d:Nat)(x:Pl)(n:Nat){g:List C}{vs:List Value}(h:CRs ι w (F.ok ι s.pl w) g vs):
 CRs (w8 ι d ⟨some w.heap.size,n⟩) w' (F.ok (w8 ι d ⟨some w.heap.size,n⟩) (s.redo [d] [(d,x)]).pl w') (g.map (C.kill [d])) vs:=
 CRs.kill (jy hr j d x [d] (by simp[isin]) n) j.shapes (λ_ l=>vJ ι _ (aaa l)) g vs h
theorem ad1 (hr:Rel F N ι s a w){d:Nat}(g:o.dst=some d)(r:d<N){l:List C}{v:Value}{t:TypeId}(p:CRs ι w (F.ok ι s.pl w) l v.cells.toList)
 (i:(execOp a.eval o).run P w= .ok (.value (.pointer (some ⟨w.heap.size,0,none⟩))) (w.alloc (.cells v.cells t)))
 (h:K ((s.place d (.box (l.map (C.kill [d])))).put (some d) (cV (.ptr d 0)))):q7 P F N o a w K:=by
 have j:=NewRow.alloc w v.cells t;have hrel:=hr.newRow j d (.box (l.map (C.kill [d]))) [d] (by simp[isin]) 0 (hr.h_slot r) ⟨w.heap.size,v.cells,by rw[zK],⟨t,j.new⟩,afa hr j d _ 0 p⟩;refine q7.of_value j.ext (ι':=w8 ι d ⟨some w.heap.size,0⟩) i ?_ h;rw[g];exact hrel.put (some d) (λk hk=>by grind) _ _ ⟨w.heap.size,by rw[zK],rfl⟩
theorem abo: ∀(vs:List Value) (l:List Nat),(vs.map Zp).map (C.kill l)=vs.map Zp
 | [],_=>rfl
 |v::vs,l=>by
  simp only[List.map_cons,abo vs l];congr 1
  unfold Zp;split<;>rfl
theorem ZB {v:Value}(h:solid (ofValue v).cells=true):(ofValue v).cells=v.cells.toList.map Zp:=by
 unfold ofValue at h⊢;split
 ·rfl
 ·rename_i g;simp only[W.cells]at h⊢;cases v<;>first|rfl|grind|(simp[Zp,solid,C.isDead]at h)
theorem gC (hr:Rel F N ι s a w)(l: ∀k,o.dst=some k ->k<N){t:TypeId}(p:o.op= .alloc t)(h:zF P o.dst (.alloc (qh P t).cells) s K):q7 P F N o a w K:=by
 simp only[zF]at h;split at h
 ·rename_i d g;cases hs:solid (qh P t).cells with
  |false=>grind
  |true=>
   rw[hs]at h;simp only[cond_true]at h;unfold qh at hs h;cases hi:P.info? t with
   |none=>simp only[hi]at hs;cases hs
   |some i=>
    simp only[hi]at hs h;cases j:i.zero with
    |none=>simp only[j]at hs;cases hs
    |some v=>
     simp only[j]at hs h;rw[ZB hs]at h;rw[<- abo v.cells.toList [d]]at h;refine ad1 hr g (l d g) (t:=t) (jJ ι w _ v.cells.toList) ?_ h;simp_all[execOp,Instr.alloc,zeroValue,typeInfo,newVar,newRow]
 grind
theorem agY (hr:Rel F N ι s a w)(j: ∀k,o.dst=some k ->k<N){t:TypeId}{x:Operand}(p:o.op= .box t x)(h:zF P o.dst (.bx (cO x)) s K):q7 P F N o a w K:=by
 simp only[zF]at h;split at h
 ·rename_i d y g l;cases hs:solid y.cells with
  |false=>grind
  |true=>
   rw[hs]at h;simp only[cond_true]at h;have i:=vj hr x;rw[l]at i;refine ad1 hr g (j d g) (v:=a.eval x) (t:=t) (ZH i hs) ?_ h;simp_all[execOp,Instr.box,newVar,newRow]
 grind
theorem zU.setRow (w:World)(g:Nat){old j:Array Value}{t:TypeId}{l:Nat×Nat}(p:w.heap[g]? =some (.cells old t l))(hs:j.size=old.size):zU w (w.setRow g j):=by
 intro b ty m o;by_cases i:b=g
 ·subst i;simp only[World.shape?,p]at o;simp only[World.shape?,setRow_heap w b old j t l p]
  grind
 ·simp only[World.shape?,setRow_other w g b j i];exact o
theorem Rel.write (hr:Rel F N ι s a w)(p:Nat)(x y:Pl)(hp:aget s.pl p=some x)(hx:x.live=true)(hy:y.live=true){b:Nat}(hb:(ι p).b=some b){old o:Array Value}{t:TypeId}(hg:w.heap[b]? =some (.cells old t (0,0)))(hs:o.size=old.size)
 (ag:PR ι (w.setRow b o) (F.ok ι (yj p y s.pl) (w.setRow b o)) p y):Rel F N ι (s.withPl (yj p y s.pl)) a (w.setRow b o):=by
 have I: ∀c,Owns ι (yj p y s.pl) c↔Owns ι s.pl c:=by
  intro c;constructor
  ·rintro⟨q,z,T,h2,h3⟩;rw[yf]at T;split at T
   ·rename_i e;subst e;exact⟨p,x,hp,hx,h3⟩
   ·exact⟨q,z,T,h2,h3⟩
  ·rintro⟨q,z,T,h2,h3⟩;by_cases e:p=q
   ·subst e;exact⟨p,y,by simp_all[yf],hy,h3⟩
   ·exact⟨q,z,by simp_all[yf],h2,h3⟩
 have U:Owns ι s.pl b:=⟨p,x,hp,hx,hb⟩;have i:zW w (w.setRow b o) (F.ok ι s.pl w) (F.ok ι (yj p y s.pl) (w.setRow b o)):=by
  intro c P;have aa:c≠b:=λe=>by subst e;exact P.2.2 U
  exact⟨⟨P.1,by simpa using P.2.1,λho=>P.2.2 ((I c).1 ho)⟩,setRow_other w b c o aa⟩
 have ab:=zU.setRow w b hg hs;refine⟨hr.room,λk v hv=>?_,λq z hz=>?_,λq r z u c hz hu ai hl ah=>?_,λc P=>?_,hr.defers,?_,hr.foreign,hr.handed,hr.few,hr.hdom,λq z g hz hg=>?_⟩
 rotate_left 5
 ·have l:aget (yj p y s.pl) q=some z:=hz;rw[yf]at l;split at l
  ·rename_i e;subst e;exact hr.hkeep p x g hp hg
  ·exact hr.hkeep q z g l hg
 ·obtain⟨v',R,e2⟩:=hr.slots k v hv;exact⟨v',R,VR.keep i ab v v' e2⟩
 ·have l:aget (yj p y s.pl) q=some z:=hz;rw[yf]at l;split at l
  ·rename_i e;subst e;cases l;exact ag
  ·rename_i af;have h:=hr.places q z l;have ae: ∀c,(ι q).b=some c ->c≠b:=λc P e=>by subst e;exact hr.inj p q x z c hp l af hx hb P
   cases z with
   |box cs=>obtain⟨c,J,R,⟨t',e2⟩,e3⟩:=h;exact⟨c,J,R,⟨t',by grind[setRow_other]⟩,CRs.keep i ab _ _ e3⟩
   |arr sz ac fz=>
    obtain⟨h0,hn,h|⟨c,R,e2,e3,e4⟩⟩:=h
    ·exact⟨h0,hn,.inl h⟩
    ·refine⟨h0,hn,.inr ⟨c,R,RDs.keep' i c sz ac 0 (λj _ _=>ue (setRow_other w b c o (ae c R)) j) e2,λhf=>(i c (e3 hf)).1,λhf=>?_⟩⟩;obtain⟨J,⟨t',e5⟩,e6⟩:=e4 hf;exact⟨J,⟨t',by grind[setRow_other]⟩,e6⟩
   |fbox ds=>obtain⟨c,R,e2,e3⟩:=h;exact⟨c,R,(i c e2).1,RDc.keep i c e2 _ _ e3⟩
   |gone=>exact h.elim
 ·have l:aget (yj p y s.pl) q=some z:=hz;have aj:aget (yj p y s.pl) r=some u:=hu;rw[yf]at l aj;have T: ∃z',aget s.pl q=some z' /\z'.live=true:=by
   grind
  have h2: ∃u',aget s.pl r=some u':=by
   grind
  obtain⟨z',T,ad⟩:=T;obtain⟨u',h2⟩:=h2;exact hr.inj q r z' u' c T h2 ai ad ah
 ·have:=hr.mine c ((I c).1 P)<;>simp_all
 ·refine⟨hr.grows.os,hr.grows.tape,hr.grows.output,by simpa using hr.grows.size,λc P hm=>?_,λc t m h=>ab c t m (hr.grows.shapes c t m h)⟩;have aa:c≠b:=by
   intro e;subst e;rcases(hr.mine c U).1 with h|h<;>grind
  rw[setRow_other w b c o aa];exact hr.grows.block c P hm
theorem VV (o:Rel F N ι s a w)(p:Nat)(x y:Pl)(P:aget s.pl p=some x)(R:x.live=true){b:Nat}(J:(ι p).b=some b)(g:Array Value):
 zW w (w.setRow b g) (F.ok ι s.pl w) (F.ok ι (yj p y s.pl) (w.setRow b g)):=by
 intro c i;have l:c≠b:=λe=>by subst e;exact i.2.2 ⟨p,x,P,R,J⟩
 refine⟨⟨i.1,by simpa using i.2.1,?_⟩,setRow_other w b c g l⟩;rintro⟨q,z,j,r,I⟩;rw[yf]at j;split at j
 ·grind
 ·exact i.2.2 ⟨q,z,j,r,I⟩
theorem KW {t:TypeId}{i:TypeInfo}(hi:P.info? t=some i){b off:Nat}{old:Array Value}{ty:TypeId}(l:w.heap[b]? =some (.cells old ty (0,0))){v:Value}(o:v.cells.toList.length=zE P t)(g:off+v.cells.toList.length<=old.size)
 (j: ∀u∈v.cells.toList,u.oneCell'=true):(storeVar t ⟨b,off,none⟩ v).run P w= .ok () (w.setRow b (old.toList.take off++v.cells.toList++old.toList.drop (off+v.cells.toList.length)).toArray):=by
 have h:=run_storeCells_at P b off ty v.cells.toList 0 old w l (by grind) j;simp_all[storeVar,qI]
theorem vY {ok:Nat ->Prop}: ∀{i:List D}{vs:List Value},CRs ι w ok (i.map .d) vs -> ∀v∈vs,v.oneCell'=true
 | [],[],_,_,j=>by cases j
 | [],_::_,h,_,_=>h.elim
 |_::_,[],h,_,_=>h.elim
 |d::i,v::vs,h,u,g=>by
  rcases List.mem_cons.1 g with rfl|g
  ·exact CR.one h.1 rfl
  ·exact vY h.2 u g
theorem uR {i:List (Nat×Pl)}: ∀{g:List C}{pl:List (Nat×Pl)}{l:List D},w6 pl g=some (l,i) ->solid g=true:=by
 intro g;induction g with
 |nil=>intros;rfl
 |cons c g J=>
  intro pl l h;simp only[w6]at h;split at h
  ·rename_i y p o;split at h
   ·rename_i P j r;have e:j=i:=by grind
    subst e;unfold solid;have I:c.isDead=false:=by cases c<;>first|rfl|cases o
    grind
   ·cases h
  ·cases h
theorem Yh {ok:Nat ->Prop}{b sz:Nat}: ∀{i:List (List D)}{off:Nat}{vs:List Value},(∀e∈i,e.length=sz) ->CRs ι w ok (i.flatten.map .d) vs ->(∀j v,vs[j]? =some v ->w.cell? ⟨b,off+j,none⟩=some v) ->RDs w ok b sz off i
 | [],_,_,_,_,_=>by grind[RDs]
 |e::r,off,vs,R,J,g=>by
  simp only[RDs];simp only[List.flatten_cons,List.map_append]at J;have P:e.length=sz:=R e (by simp);have o: ∀(e:List D) (rest:List C) (vs:List Value) (off:Nat),CRs ι w ok (e.map .d++rest) vs ->(∀j v,vs[j]? =some v ->w.cell? ⟨b,off+j,none⟩=some v) ->RDc w ok b off e /\CRs ι w ok rest (vs.drop e.length):=by
   intro e;induction e with
   |nil=>grind[RDc]
   |cons d e ih=>
    intro rest vs off h l;cases vs with
    |nil=>exact h.elim
    |cons v vs=>
     obtain⟨p,I⟩:=ih rest vs (off+1) h.2 (λj u hu=>by have:=l (j+1) u (by grind);grind);refine⟨?_,by grind⟩;simp only[RDc];exact⟨⟨v,by simpa using l 0 v rfl,h.1⟩,p⟩
  obtain⟨p,I⟩:=o e _ vs off J g;refine⟨P,p,Yh (λx U=>R x (by simp[U])) I (λj v T=>?_)⟩;rw[List.getElem?_drop]at T;have:=g _ v T;rw[P]at this;rwa[show off+sz+j=off+(sz+j)by omega]
theorem RDs.vals {ok:Nat ->Prop}{b sz:Nat}: ∀{g:List (List D)}{off:Nat},RDs w ok b sz off g -> ∃vs,CRs ι w ok (g.flatten.map .d) vs /\vs.length=g.length*sz /\ ∀j v,vs[j]? =some v ->w.cell? ⟨b,off+j,none⟩=some v
 | [],off,_=>⟨[],trivial,by simp,λj v h=>by simp at h⟩
 |e::r,off,h=>by
  simp only[RDs]at h;obtain⟨R,I,J⟩:=h;obtain⟨i,p,P⟩:=RDc.vals (ι:=ι) I;obtain⟨l,g1,g2,g3⟩:=RDs.vals J;have o:i.length=sz:=by rw[<- p.length];grind
  refine⟨i++l,by grind[CRs.append],by grind,λj v T=>?_⟩
  grind
theorem an3 (hr:Rel F N ι s a w){t:TypeId}{x y:Operand}(ho:o.op= .store t x y){i:TypeInfo}(hi:P.info? t=some i)
 (h:zF P o.dst (.st (zE P t) (cO x) (cO y)) s K):yW P F N o a w K:=by
 simp only[zF]at h;split at h
 case h_2=>grind
 rename_i ac;have hx:=xu hr x;have hy:=afh hr y;generalize s.oc (cO x)=cx at*;generalize s.ow (cO y)=wy at*;unfold aSt at h;cases hl:Nat.beq wy.cells.length (zE P t)with
 |false=>grind
 |true=>
  rw[hl]at h;simp only[cond_true]at h;have hl:=Nat.eq_of_beq_eq_true hl;split at h
  ·rename_i p off;split at h
   ·rename_i cs hp;cases hs:solid wy.cells&&Nat.ble (off+wy.cells.length) cs.length with
    |false=>grind
    |true=>
     rw[hs]at h;simp only[cond_true]at h;rw[Bool.and_eq_true]at hs;have aj:=Nat.le_of_ble_eq_true hs.2;obtain⟨b,h1,h2⟩:=hx;obtain⟨b',old,e1,⟨ty,e2⟩,e3⟩:=hr.places p _ hp;rw[h1]at e1;cases e1;have T:=ZH hy hs.1;have R:(a.eval y).cells.toList.length=wy.cells.length:=T.length.symm;have az:cs.length=old.size:=by simpa using e3.length
     have ad:=KW (P:=P) hi (b:=b) (off:=off) e2 (v:=a.eval y) (by grind) (by grind) (CRs.ones T hs.1);obtain⟨J,ah⟩: ∃J:Array Value,J=(old.toList.take off++(a.eval y).cells.toList++old.toList.drop (off+(a.eval y).cells.toList.length)).toArray:=⟨_,rfl⟩;rw[<- ah]at ad;have ab:J.size=old.size:=by
      grind
     have hk:=VV hr p (.box cs) (.box (z6 cs off wy.cells)) hp rfl h1 J;have ag:=zU.setRow w b e2 ab;have I:=CRs.append (CRs.append (CRs.take off e3) T) (CRs.drop (off+wy.cells.length) e3);have an:J.toList=old.toList.take off++(a.eval y).cells.toList++old.toList.drop (off+wy.cells.length):=by grind
     rw[<- an]at I;have hrel:=hr.write p (.box cs) (.box (z6 cs off wy.cells)) hp rfl rfl h1 e2 ab ⟨b,J,h1,⟨ty,setRow_heap w b old J ty (0,0) e2⟩,CRs.keep hk ag _ _ I⟩;refine yW.of_skip (ι':=ι) (w':=w.setRow b J) (by grind[execOp,Instr.storeAt,Instr.sureAddr,Sem.run_bind,Sem.run_pure,Result.andThen_ok]) ?_ h;rw[ac];exact hrel
   grind
  ·rename_i p z l k;split at h
   ·rename_i ds a2 ai;split at h
    ·rename_i z1 g hp;cases hz:Nat.beq z z1 with
     |false=>grind
     |true=>
      rw[hz]at h;have hz:=Nat.eq_of_beq_eq_true hz;subst hz;simp only[cond_true]at h;obtain⟨e,he,aj,h⟩:=h;have T:=ZH hy (uR ai);obtain⟨af,ax,ae⟩:=jY hr T ai;have R:(a.eval y).cells.toList.length=wy.cells.length:=T.length.symm;have ao:ds.length=wy.cells.length:=by rw[<- R];simpa using ae.length
      obtain⟨b,h1,h2⟩:=hx;obtain⟨ar,hn,a0|⟨b',e1,e2,_,e4⟩⟩:=af.places p _ hp
      ·grind
      ·rw[h1]at e1;cases e1;obtain⟨old,⟨ty,hg⟩,aq⟩:=e4 rfl;have aa:l<g.length:=(List.getElem?_eq_some_iff.1 he).1;have av:e.length=z:=RDs.len e2 e (List.mem_of_getElem? he);have au:l*z+k+ds.length<=old.size:=by
        have:(l+1)*z<=g.length*z:=Nat.mul_le_mul_right _ aa;rw[Nat.add_mul,Nat.one_mul]at this;omega
       have ad:=KW (P:=P) hi (b:=b) (off:=l*z+k) hg (v:=a.eval y) (by grind) (by grind) (vY ae);have ab:(old.toList.take (l*z+k)++(a.eval y).cells.toList++old.toList.drop (l*z+k+(a.eval y).cells.toList.length)).toArray.size=old.size:=by
        grind
       have hk:=VV af p (.arr z g false) (.arr z (g.set l (z6 e k ds)) false) hp rfl h1 (old.toList.take (l*z+k)++(a.eval y).cells.toList++old.toList.drop (l*z+k+(a.eval y).cells.toList.length)).toArray;have ag:=zU.setRow w b hg ab;obtain⟨vs,g1,g2,g3⟩:=RDs.vals (ι:=ι) e2;have al:(g.set l (z6 e k ds)).flatten=z6 g.flatten (l*z+k) ds:=by
        have I:=RDs.len e2;have: ∀(g:List (List D)) (l:Nat),(∀x∈g,x.length=z) ->g[l]? =some e ->(g.set l (z6 e k ds)).flatten=z6 g.flatten (l*z+k) ds:=by
         intro g;induction g with
         |nil=>grind
         |cons x r ih=>
          intro l I he;have hx:x.length=z:=I x (by simp);cases l with
          |zero=>
           simp at he;subst he;simp only[List.set_cons_zero,List.flatten_cons,z6,Nat.zero_mul,Nat.zero_add]
           grind
          |succ l=>
           simp at he;simp only[List.set_cons_succ,List.flatten_cons];rw[ih l (λy hy=>I y (by simp[hy])) he];simp only[z6];rw[show(l+1)*z+k=x.length+(l*z+k)by grind,List.take_length_add_append,show x.length+(l*z+k)+ds.length=x.length+(l*z+k+ds.length)by omega,List.drop_length_add_append]
           grind
        grind
       have a1:vs.length=g.length*z:=g2;have hrel:=af.write p (.arr z g false) (.arr z (g.set l (z6 e k ds)) false) hp rfl rfl h1 hg ab ⟨ar,by grind,.inr ⟨b,h1,by
        refine Yh (ι:=ι) (vs:=z6 vs (l*z+k) (a.eval y).cells.toList) ?_ ?_ ?_
        ·intro q hq;rcases List.mem_or_eq_of_mem_set hq with hq|rfl
         ·grind[RDs.len]
         grind[z6]
        ·rw[al];simp only[z6,List.map_append,List.map_take,List.map_drop];refine CRs.keep hk ag _ _ ?_;rw[R,<- ao];exact CRs.append (CRs.append (CRs.take _ g1) ae) (CRs.drop _ g1)
        ·intro j v U;rw[Nat.zero_add,cell_setRow_same w b _ old _ ty (0,0) hg];simp only[z6]at U;have ak: ∀j v,vs[j]? =some v ->old.toList[j]? =some v:=λj v U=>by
          have:=g3 j v U;rw[Nat.zero_add,cell_of_row w b j old ty (0,0) hg]at this;rw[Array.getElem?_toList];exact this
         have aw:j<vs.length:=by
          have:=(List.getElem?_eq_some_iff.1 U).1;simp only[List.length_append,List.length_take,List.length_drop,R]at this;have:(l+1)*z<=g.length*z:=Nat.mul_le_mul_right _ aa;rw[Nat.add_mul,Nat.one_mul]at this;omega
         have ay:vs.length<=old.toList.length:=by grind
         simp only[List.getElem?_toArray];rw[List.getElem?_append,List.getElem?_append]at U⊢;have t1:(vs.take (l*z+k)).length=l*z+k:=by
          rw[List.length_take];have:(l+1)*z<=g.length*z:=Nat.mul_le_mul_right _ aa;rw[Nat.add_mul,Nat.one_mul]at this;omega
         have t2:(old.toList.take (l*z+k)).length=l*z+k:=by
          rw[List.length_take,Array.length_toList];omega
         simp only[List.length_append,t1,t2]at U⊢;split at U
         ·rename_i c1;rw[if_pos c1];split at U
          ·rename_i c2;rw[if_pos c2];rw[List.getElem?_take]at U⊢;rw[if_pos c2]at U⊢
           grind
          ·rename_i c2;rw[if_neg c2];exact U
         ·rename_i c1;rw[if_neg c1];rw[List.getElem?_drop]at U⊢;exact ak _ v U,(λhf=>by cases hf),(λ_=>⟨_,⟨ty,setRow_heap w b old _ ty (0,0) hg⟩,by grind⟩)⟩⟩
       refine yW.of_skip (ι':=ι) (w':=w.setRow b (old.toList.take (l*z+k)++(a.eval y).cells.toList++old.toList.drop (l*z+k+(a.eval y).cells.toList.length)).toArray) (hr:=?_) (hk:=h) (h:=?_)
       ·grind[execOp,Instr.storeAt,Instr.sureAddr,Sem.run_bind,Sem.run_pure,Result.andThen_ok]
       ·rw[ac];exact hrel
    grind
   grind
  grind
end
section
variable {P:Program}{F:Fr}{N:Nat}{ι:Nat ->Gh}{s:S}{a:Act}{w:World}{o:Oper}{K:S ->Prop}
theorem adt (off:Nat): ∀(vals:List Value) (k:Nat) (g:Array Value),off+k+vals.length<=g.size ->
 (vals.zipIdx k).foldl (λi (x:Value×Nat)=>i.setIfInBounds (off+x.2) x.1) g=(z6 g.toList (off+k) vals).toArray
 | [],k,g,_=>by simp[z6]
 |v::r,k,g,h=>by
  simp only[List.zipIdx_cons,List.foldl_cons];simp only[List.length_cons]at h;rw[adt off r (k+1) (g.setIfInBounds (off+k) v) (by grind)];congr 1
  simp only[z6,Array.toList_setIfInBounds,List.length_cons]
  grind[list_seg_step]
theorem adr (place:Nat ->Option (Nat×Nat))(g:Array Value)(i off sz:Nat)(v:Value)(rest:List (Nat×Value))(p:place i=some (off,sz))(J:v.cells.toList.length=sz)(l:off+sz<=g.size):
 Instr.fill place g ((i,v)::rest)=Instr.fill place (z6 g.toList off v.cells.toList).toArray rest:=by
 have r:v.cells.size=sz:=by grind
 have j:=adt off v.cells.toList 0 g (by grind);simp only[Nat.add_zero]at j;have I:v.cells.zipIdx.foldl (λo (x:Value×Nat)=>o.setIfInBounds (off+x.2) x.1) g=(z6 g.toList off v.cells.toList).toArray:=by
  rw[<- j,<- Array.foldl_toList];simp
 rw[Instr.fill];simp only[p];rw[if_neg (by grind)];congr 1
theorem Kt: ∀(p:List Field),abc P p=true -> ∃l,p.mapM (λf=>(P.info? f.type).map λi=>(f.offset,i.size))=some l /\ ∀(j:Nat) (f:Field),p[j]? =some f ->l[j]? =some (f.offset,zE P f.type)
 | [],_=>⟨[],rfl,λj f h=>by simp at h⟩
 |f::r,h=>by
  unfold abc at h;cases hi:P.info? f.type with
  |none=>rw[hi]at h;cases h
  |some i=>
   rw[hi]at h;obtain⟨l,I,J⟩:=Kt r h;refine⟨(f.offset,i.size)::l,by simp[List.mapM_cons,hi,I],λj g o=>?_⟩;cases j with
   |zero=>simp at o;subst o;simp[zE,hi]
   |succ j=>simp at o;simpa using J j g o
theorem aa5 (hr:Rel F N ι s a w){t:TypeId}{fs:Array Field}(hu:P.underlying t=some (.struct fs)){g:List (Nat×Nat)}(aa: ∀(j:Nat) (f:Field),fs.toList[j]? =some f ->g[j]? =some (f.offset,zE P f.type)):
 ∀(parts:List (Nat×Operand)) (l:List (Nat×Nat×O)) (r o:List C) (vs:List Value),Kb P t parts=some l ->CRs ι w (F.ok ι s.pl w) r vs ->Qw s r l=some o ->
  ∃p,Instr.fill (λx=>g[x]?) vs.toArray (parts.map λx=>(x.1,a.eval x.2))=some p.toArray /\CRs ι w (F.ok ι s.pl w) o p
 | [],l,r,o,vs,I,h2,J=>by cases I;cases J;exact⟨vs,rfl,h2⟩
 |(i,x)::parts,l,r,o,vs,I,h2,J=>by
  unfold Kb at I;split at I
  ·rename_i off R l' ht hl;cases I;unfold Qw at J;cases hc:solid (s.ow (cO x)).cells&&Nat.beq (s.ow (cO x)).cells.length (zE P R)&&Nat.ble (off+zE P R) r.length with
   |false=>grind
   |true=>
    rw[hc]at J;simp only[cond_true]at J;rw[Bool.and_eq_true,Bool.and_eq_true]at hc;obtain⟨⟨c1,U⟩,c3⟩:=hc;have U:=Nat.eq_of_beq_eq_true U;have c3:=Nat.le_of_ble_eq_true c3;obtain⟨ac,f,e1,e2,e3,e4⟩:=VP ht;rw[hu]at e1;cases e1;have hp:g[i]? =some (off,zE P R):=by grind
    have hx:=ZH (afh hr x) c1;have ab:(a.eval x).cells.toList.length=zE P R:=by rw[<- hx.length,U]
    have ad:r.length=vs.length:=h2.length;have T:CRs ι w (F.ok ι s.pl w) (z6 r off (s.ow (cO x)).cells) (z6 vs off (a.eval x).cells.toList):=by
     grind[z6,CRs.append,CRs.take,CRs.drop]
    obtain⟨p,g1,g2⟩:=aa5 hr hu aa parts l' _ o _ hl T J;refine⟨p,?_,g2⟩;rw[List.map_cons,adr _ vs.toArray i off (zE P R) (a.eval x) _ hp ab (by simp;omega)];exact g1
  ·cases I
theorem gD (hr:Rel F N ι s a w)(hd: ∀k,o.dst=some k ->k<N){t:TypeId}{parts:Array (Nat×Operand)}(ho:o.op= .build t parts){I:Array Field}(hu:P.underlying t=some (.struct I)){l:List (Nat×Nat×O)}
 (hl:Kb P t parts.toList=some l) (hi:abc P I.toList=true) (j:solid (qh P t).cells=true) (h:zF P o.dst (.build (qh P t).cells l) s K):zx P F N o a w (λ_=>True) K:=by
 simp only[zF]at h;split at h
 ·rename_i J g;obtain⟨r,h1,T⟩:=Kt I.toList hi;unfold qh at j g;cases hit:P.info? t with
  |none=>simp only[hit]at j;cases j
  |some it=>
   simp only[hit]at j g;cases p:it.zero with
   |none=>simp only[p]at j;cases j
   |some z=>
    simp only[p]at j g;rw[ZB j]at g;obtain⟨vs,g1,g2⟩:=aa5 hr hu T parts.toList l _ J _ hl (jJ ι w _ z.cells.toList) g;have U:P.built t (parts.map λ(i,x)=>(i,a.eval x)).toList=some vs.toArray:=by
     simp_all[Program.built]
    have R:=λ(w':World)=>run_build (P:=P) w' t (parts.map λ(i,x)=>(i,a.eval x)) vs.toArray U
    exact zx.put hr hd (λw' _=>by simp_all[execOp]) (show VR ι w _ (.w (.agg J)) _ from⟨vs,rfl,g2⟩) h
 grind
theorem adq {sz:Nat}: ∀(vals:List Value) (i:Nat) (g:Array Value),(∀v∈vals,v.cells.toList.length=sz) ->(i+vals.length)*sz=g.size -> ∀(parts:List (Nat×Value)),
 parts=(vals.zipIdx i).map (λx=>(x.2,x.1)) ->Instr.fill (λi=>some (i*sz,sz)) g parts=some (g.toList.take (i*sz)++(vals.map λv=>v.cells.toList).flatten).toArray
 | [],i,g,_,hs,parts,o=>by
   simp_all[Instr.fill,List.take_of_length_le]
 |v::r,i,g,p,hs,parts,o=>by
  subst o;have l:=p v (by simp);simp only[List.length_cons]at hs;have J:(i+(r.length+1))*sz=i*sz+sz+r.length*sz:=by rw[Nat.add_mul,Nat.add_mul,Nat.one_mul];omega
  simp only[List.zipIdx_cons,List.map_cons];rw[adr _ g i (i*sz) sz v _ rfl l (by omega)];have j:(z6 g.toList (i*sz) v.cells.toList).length=g.size:=by
   grind[z6]
  rw[adq r (i+1) _ (λu I=>p u (by simp[I])) (by simp only[List.size_toArray,j];rw[<- hs];congr 1;omega) _ rfl];congr 2
  simp only[List.flatten_cons];rw[<- List.append_assoc];congr 1
  simp only[z6];rw[show(i+1)*sz=i*sz+sz by grind];have P:(g.toList.take (i*sz)).length=i*sz:=by grind
  grind
theorem gj: ∀(parts:List (Nat×Operand)) (i:Nat),V9 i parts=true ->(parts.map λx=>(x.1,a.eval x.2))=((parts.map λx=>a.eval x.2).zipIdx i).map λx=>(x.2,x.1)
 | [],_,_=>rfl
 |(j,x)::r,i,h=>by
  simp only[V9,Bool.and_eq_true]at h;have:=Nat.eq_of_beq_eq_true h.1;subst this;simp only[List.map_cons,List.zipIdx_cons,gj r (i+1) h.2]
theorem KG {sz:Nat}(I:S)(a:Act): ∀{parts:List Operand}{s:S}(_:Rel F N ι s a w) (_: ∀x∈parts,WR ι w (F.ok ι s.pl w) (I.ow (cO x)) (a.eval x)) {g:List (List D)}{i:List (Nat×Pl)}(_:abq I sz s.pl (parts.map cO)=some (g,i)),
 Rel F N ι (s.withPl i) a w /\(∀b,F.ok ι s.pl w b ->F.ok ι i w b)/\g.length=parts.length /\(∀e∈g,e.length=sz)/\(∀x∈parts,(a.eval x).cells.toList.length=sz)/\
  CRs ι w (F.ok ι i w) (g.flatten.map .d) ((parts.map λx=>(a.eval x).cells.toList).flatten)
 | [],s,hr,_,g,i,h=>by cases h;exact⟨hr,λ_ h=>h,rfl,λe P=>(by cases P),λx p=>(by cases p),trivial⟩
 |x::parts,s,hr,p,g,i,h=>by
  simp only[List.map_cons,abq]at h;cases j:Nat.beq (I.ow (cO x)).cells.length sz with
  |false=>grind
  |true=>
   rw[j]at h;have j:=Nat.eq_of_beq_eq_true j;simp only[cond_true]at h;split at h
   ·rename_i T o J;split at h
    ·rename_i es ab U;cases h;have l:=ZH (p x (by simp)) (uR J);obtain⟨g1,g2,g3⟩:=jY hr l J;have hk:zW w w (F.ok ι s.pl w) (F.ok ι o w):=λb j=>⟨g2 b j,rfl⟩
     obtain⟨k1,R,k3,k4,k5,k6⟩:=KG I a (s:=s.withPl o) g1 (λy r=>WR.keep hk (zU.refl w) _ _ (p y (by simp[r]))) U;have aa:T.length=sz:=by rw[<- j,l.length];simpa using g3.length
     refine⟨k1,λb j=>R b (g2 b j),by simp[k3],λe P=>?_,λy r=>?_,?_⟩
     ·grind
     ·rcases List.mem_cons.1 r with rfl|r
      ·rw[<- l.length,j]
      grind
     ·simp only[List.flatten_cons,List.map_append,List.map_cons];exact CRs.append (CRs.keep (λb j=>⟨R b j,rfl⟩) (zU.refl w) _ _ g3) k6
    ·cases h
   ·cases h
theorem NewRow.shape {w w':World}{g:Array Value}{t:TypeId}{mk:Nat×Nat}(h:NewRow w w' g t mk):w'.shape? w.heap.size=some (t,g.size):=by
 simp[World.shape?,h.new]
theorem abT (hr:Rel F N ι s a w)(hd: ∀k,o.dst=some k ->k<N){t e:TypeId}{n:Nat}{parts:Array (Nat×Operand)}(ho:o.op= .buildSlice t n parts)(ht:wo P t=some e)(J:Nat.blt 0 (zE P e)=true)(hn:Nat.beq n parts.toList.length=true)
 (T:Nat.ble (n*zE P e) 16777216=true) (ah:V9 0 parts.toList=true) (r:QL P e=true) (h:zF P o.dst (.lits (zE P e) (parts.toList.map λx=>cO x.2)) s K):q7 P F N o a w K:=by
 simp only[zF]at h;have hu:=qK ht;have J:0<zE P e:=Nat.le_of_ble_eq_true J;have hn:=Nat.eq_of_beq_eq_true hn;have T:=Nat.le_of_ble_eq_true T;unfold QL at r;cases hi:P.info? e with
 |none=>grind
 |some i=>
  simp only[hi]at r;cases hz:i.zero with
  |none=>rw[hz]at r;cases r
  |some z=>
   have aj:zE P e=i.size:=by grind[zE]
   split at h
   ·rename_i d R ak ac aa;have ad:(parts.toList.map λx=>cO x.2)=(parts.toList.map (·.2)).map cO:=by simp
    rw[ad]at aa;obtain⟨g1,g2,g3,g4,g5,g6⟩:=KG s a hr (λx _=>afh hr x) aa;have g:=adq (sz:=zE P e) (parts.toList.map λx=>a.eval x.2) 0 ((Array.range (n*zE P e)).map ((if n*zE P e=0 then #[]else z.cells)[· %(if n*zE P e=0 then #[]else z.cells).size]!)) (λv hv=>by
     grind) (by simp[hn]) _ (gj parts.toList 0 ah)
    simp only[Nat.zero_mul,List.take_zero,List.nil_append]at g;obtain⟨p,U⟩: ∃p:Array Value,p=((parts.toList.map λx=>a.eval x.2).map λv=>v.cells.toList).flatten.toArray:=⟨_,rfl⟩;rw[<- U]at g;have ab:p.toList=((parts.toList.map (·.2)).map λx=>(a.eval x).cells.toList).flatten:=by rw[U,List.map_map,List.map_map];rfl
    have ag:p.size=n*zE P e:=by
     have h1:p.size=p.toList.length:=by simp
     rw[h1,ab];have: ∀(l:List Operand),(∀x∈l,(a.eval x).cells.toList.length=zE P e) ->((l.map λx=>(a.eval x).cells.toList).flatten).length=l.length*zE P e:=by
      intro l;induction l<;>grind
     grind
    have af:(execOp a.eval o).run P w= .ok (.value (.slice (some ⟨w.heap.size,0,none⟩) n n)) (w.alloc (.cells p e)):=by
     have ae: ¬n*i.size>16777216:=by grind
     rw[aj]at g;have I:(parts.map λ(i,x)=>(i,a.eval x)).toList=parts.toList.map λx=>(x.1,a.eval x.2):=by simp
     by_cases h0:n*i.size=0
     ·rw[if_pos h0]at g;simp only[execOp,ho,Instr.buildSlice,Sem.run_bind,run_underlying hu,Result.andThen_ok,sizeOf,typeInfo,run_program,hi,Sem.run_pure,if_neg ae,if_pos h0,I,g,newRow,run_newObj];rfl
     ·rw[if_neg h0]at g;simp only[execOp,ho,Instr.buildSlice,Sem.run_bind,run_underlying hu,Result.andThen_ok,sizeOf,typeInfo,run_program,hi,Sem.run_pure,if_neg ae,if_neg h0,zeroValue,hz,I,g,newRow,run_newObj];rfl
    have hw:=NewRow.alloc w p e;have hrel:=Rel.newRow g1 hw d (.arr (zE P e) R false) [d] (by simp[isin]) R.length (g1.h_slot (hd _ (by assumption))) ⟨J,by rw[zK],.inr ⟨w.heap.size,by rw[zK],by
     refine Yh (ι:=ι) (vs:=p.toList) g4 ?_ (λj v hv=>by simp_all);rw[ab];exact CRs.keep (jy g1 hw d _ [d] (by simp[isin]) R.length) hw.shapes _ _ g6,(λhf=>by cases hf),(λ_=>⟨p,⟨e,hw.new⟩,by grind⟩)⟩⟩
    refine q7.of_value hw.ext (ι':=w8 ι d ⟨some w.heap.size,R.length⟩) af ?_ h;rw[ac];refine hrel.put (some d) (λk hk=>by grind) _ _ ?_;have ai:R.length=n:=by grind
    refine .inr ⟨w.heap.size,n,e,by rw[zK],by simp_all[zK],by rw[ai],by simp_all,?_,by rw[hw.shape,ag]⟩;have:n*1<=n*zE P e:=Nat.mul_le_mul_left _ J
    grind[maxLen]
   grind
end
section
variable {P:Program}{F:Fr}{N:Nat}{ι:Nat ->Gh}{s:S}{a:Act}{w:World}{o:Oper}{K:S ->Prop}
theorem Xx {ok:Nat ->Prop}: ∀{j:List C}{z:List D}{pl:List (Nat×Pl)}{vs:List Value},w6 [] j=some (z,pl) ->CRs ι w ok j vs ->CRs ι w ok (z.map .d) vs
 | [],z,pl,vs,h,i=>by cases h;cases vs with|nil=>trivial|cons _ _=>exact i.elim
 |_::_,_,_,[],_,i=>i.elim
 |c::j,z,pl,v::vs,h,i=>by
  simp only[w6]at h;split at h
  ·rename_i y r g;have p:r=[]:=by
    cases c with
    |clo f l=>cases l with
     |nil=>simp only[YR]at g;cases g;rfl
     |cons _ _=>simp only[YR]at g;cases g
    |_=>simp only[YR,aget]at g<;>cases g<;>rfl
   subst p;split at h
   ·rename_i R P J;cases h;refine⟨?_,Xx J i.2⟩;cases c with
    |clo f l=>cases l with
     |nil=>
      simp only[YR]at g;cases g;obtain⟨I,g1,g2⟩:=i.1;have o:I=[]:=by simpa using g1.symm
      subst o;simp only[CR,RD,RDf];exact⟨[],g2,rfl⟩
     |cons _ _=>simp only[YR]at g;cases g
    |d x=>simp only[YR]at g;cases g;exact i.1
    |nil=>
     simp only[YR]at g;cases g;have:=i.1;simp only[CR]at this;subst this;simp only[CR,RD];exact⟨none,0,0,rfl,rfl,Nat.le_refl _,Nat.zero_le _,.inl trivial⟩
    |_=>simp only[YR,aget]at g;cases g
   ·cases h
  ·cases h
theorem q9 (l:List Value): ∀(n j:Nat) (v:Value),(List.replicate n l).flatten[j]? =some v ->j<n*l.length /\l[j%l.length]? =some v
 |0,j,v,h=>by simp at h
 |n+1,j,v,h=>by
  simp only[List.replicate_succ,List.flatten_cons,List.getElem?_append]at h;rw[Nat.add_mul,Nat.one_mul];split at h
  ·rename_i i;rw[Nat.mod_eq_of_lt i];exact⟨by omega,h⟩
  ·rename_i i;obtain⟨o,g⟩:=q9 l n _ v h;refine⟨by omega,?_⟩;rw[<- Nat.mod_eq_sub_mod (by omega)]at g;exact g
theorem Zs {ok:Nat ->Prop}{z:List D}{vs:List Value}(h:CRs ι w ok (z.map .d) vs): ∀(n:Nat),CRs ι w ok ((List.replicate n z).flatten.map .d) (List.replicate n vs).flatten
 |0=>trivial
 |n+1=>by
  simp only[List.replicate_succ,List.flatten_cons,List.map_append];exact CRs.append h (Zs h n)
theorem ag2 (hr:Rel F N ι s a w)(hd: ∀k,o.dst=some k ->k<N){t e:TypeId}{x y:Operand}(ho:o.op= .makeSlice t x y)(ht:wo P t=some e){z:List D}{aj:List (Nat×Pl)}(T:w6 [] (qh P e).cells=some (z,aj))
 (g:Nat.blt 0 (zE P e)=true) (l:Nat.beq z.length (zE P e)=true) (h:zF P o.dst (.mk (zE P e) (wZ P e) z (cO x) (cO y)) s K):q7 P F N o a w K:=by
 simp only[zF]at h;have hu:=qK ht;have g:0<zE P e:=Nat.le_of_ble_eq_true g;have l:=Nat.eq_of_beq_eq_true l;split at h
 ·rename_i d n c J hn hc;obtain⟨k1,hx,_⟩:=uW hn (vj hr x);obtain⟨k2,hy,_⟩:=uW hc (vj hr y);obtain⟨g1,g2,g3,g4,h⟩:=h;unfold qh at T;cases hi:P.info? e with
  |none=>simp[zE,hi]at g
  |some i=>
   simp only[hi]at T;cases U:i.zero with
   |none=>simp only[U]at T;cases T
   |some v=>
    simp only[U]at T;have ac:=uR T;rw[ZB ac]at T;have ad:zE P e=i.size:=by simp[zE,hi]
    have ah:wZ P e=i.bytes:=by simp[wZ,hi]
    have I:(i.bytes:Int)*c<=281474976710656:=by
     unfold yP at g3;rw[ah]at g3;have:((i.bytes:Int)*c)=((c.toNat*i.bytes:Nat):Int):=by
      rw[Int.natCast_mul,Int.toNat_of_nonneg (by omega),Int.mul_comm]
     rw[this];omega
    have R:=run_make (P:=P) w t e i v hu hi U k1 k2 n c g1 g2 I g4;obtain⟨p,r⟩: ∃p,p=madeCells v.cells (c.toNat*i.size):=⟨_,rfl⟩;rw[<- r]at R;have ab:p.size=c.toNat*zE P e:=by rw[r,size_madeCells,ad]
    have hw:=NewRow.alloc w p e;have ag:=Xx T (jJ ι w (F.ok ι s.pl w) v.cells.toList);have ae:v.cells.toList.length=zE P e:=by rw[<- l];simpa using ag.length.symm
    have aa:n.toNat<=c.toNat:=by omega
    have hrel:=hr.newRow hw d (.arr (zE P e) (List.replicate n.toNat z) false) [d] (by simp[isin]) n.toNat (hr.h_slot (hd _ (by assumption))) ⟨g,by rw[zK];simp,.inr ⟨w.heap.size,by rw[zK],by
     refine Yh (ι:=ι) (vs:=(List.replicate n.toNat v.cells.toList).flatten) (λq hq=>by rw[List.eq_of_mem_replicate hq,l]) ?_ ?_
     ·exact CRs.keep (jy hr hw d _ [d] (by simp[isin]) n.toNat) hw.shapes _ _ (Zs ag n.toNat)
     ·intro j u hj;obtain⟨j1,j2⟩:=q9 _ _ _ _ hj;rw[Nat.zero_add,hw.cell,r];rw[ae]at j1 j2;have ai:j<c.toNat*i.size:=by
       have:n.toNat*zE P e<=c.toNat*zE P e:=Nat.mul_le_mul_right _ aa;rw[ad]at this j1;omega
      have af:v.cells.size=zE P e:=by simpa using ae
      simp only[madeCells,Array.getElem?_map,Array.getElem?_range,ai,if_true,Option.map_some,Option.some.injEq];rw[af];have hm:j%zE P e<v.cells.size:=by rw[af];exact Nat.mod_lt _ g
      rw[Array.getElem?_toList,Array.getElem?_eq_getElem hm]at j2;rw[getElem!_pos v.cells _ hm];exact Option.some.inj j2,(λhf=>by cases hf),(λ_=>⟨p,⟨e,hw.new⟩,by rw[ab];simp;exact Nat.mul_le_mul_right _ aa⟩)⟩⟩
    refine q7.of_value hw.ext (v:=.slice (some ⟨w.heap.size,0,none⟩) n.toNat c.toNat) (w':=w.alloc (.cells p e)) (ι':=w8 ι d ⟨some w.heap.size,n.toNat⟩) ?_ ?_ h
    ·simp only[execOp,ho,hx,hy,Sem.run_bind,R,Result.andThen_ok,Sem.run_pure]
    ·rw[J];refine hrel.put (some d) (λk hk=>by cases hk;exact hd d J) _ _ ?_;exact .inr ⟨w.heap.size,c.toNat,e,by rw[zK],by rw[zK];exact Nat.le_refl _,rfl,aa,by simp only[maxLen];omega,by rw[hw.shape,ab]⟩
 ·exact h.elim
theorem Y7 (hr:Rel F N ι s a w){x:Option Operand}{l:Option Int}(h:s.bnd (x.map cO)=some l):(x=none /\l=none)\/ ∃y k n,x=some y /\l=some n /\a.eval y= .int k n:=by
 cases x with
 |none=>cases h;exact .inl ⟨rfl,rfl⟩
 |some y=>
  simp only[Option.map_some,S.bnd]at h;cases g:Zn (s.o (cO y))with
  |none=>rw[g]at h;cases h
  |some n=>
   rw[g]at h;cases h;obtain⟨k,i,_⟩:=uW g (vj hr y);exact .inr ⟨y,k,n,rfl,rfl,i⟩
theorem jf (k:IntKind)(i:Int)(y:Nat)(code:BoundsCode)(h0:0<=i)(g:i<=y):(Instr.sliceBound (.int k i) y code).run P w= .ok i.toNat w:=by
 simp[Instr.sliceBound,asIntOf,h0,g]
theorem abB (b:Bool)(len cap:Nat)(lo hi:Option Value)(l h:Option Int)(p:(lo=none /\l=none)\/ ∃k n,lo=some (.int k n)/\l=some n)(o:(hi=none /\h=none)\/ ∃k n,hi=some (.int k n)/\h=some n)
 (h0:0<=zQ l 0) (i:zQ l 0<=zQ h len) (j:zQ h len<=cap):(Instr.sliceBounds b len cap lo hi none).run P w= .ok ((zQ l 0).toNat,(zQ h len).toNat,cap) w:=by
 rcases p with⟨rfl,rfl⟩|⟨k,n,rfl,rfl⟩<;>rcases o with⟨rfl,rfl⟩|⟨k',g,rfl,rfl⟩<;>simp only[zQ]at h0 i j⊢
 ·simp[Instr.sliceBounds]
 ·simp[Instr.sliceBounds,jf k' g cap _ (by omega) j]
 ·simp[Instr.sliceBounds,jf k n len _ h0 (by simpa using i)]
 ·have e:((g.toNat:Nat):Int)=g:=Int.toNat_of_nonneg (by omega);simp[Instr.sliceBounds,jf k' g cap _ (by omega) j,jf k n g.toNat _ h0 (by rw[e];exact i)]
theorem kC {x:Option Operand}{l:Option Int}(h:(x=none /\l=none)\/ ∃y k n,x=some y /\l=some n /\a.eval y= .int k n):(x.map a.eval=none /\l=none)\/ ∃k n,x.map a.eval=some (.int k n)/\l=some n:=by
 rcases h with⟨rfl,rfl⟩|⟨y,k,n,rfl,rfl,g⟩
 ·exact .inl ⟨rfl,rfl⟩
 ·exact .inr ⟨k,n,by simp[g],rfl⟩
theorem uY {t e:TypeId}(U:P.underlying t=some (.slice e)){i:TypeInfo}(hi:P.info? e=some i){x:Operand}{lo g:Option Operand}(T:o.op= .slice t x lo g none){j:Option Addr}{len cap:Nat}(hx:a.eval x= .slice j len cap)
 {l h:Option Int}(R:(lo=none /\l=none)\/ ∃y k n,lo=some y /\l=some n /\a.eval y= .int k n) (J:(g=none /\h=none)\/ ∃y k n,g=some y /\h=some n /\a.eval y= .int k n)
 (h0:0<=zQ l 0) (p:zQ l 0<=zQ h len) (r:zQ h len<=cap):
 (execOp a.eval o).run P w= .ok (.value (.slice (if cap=(zQ l 0).toNat then j else j.map (·.add ((zQ l 0).toNat*zE P e))) ((zQ h len).toNat -(zQ l 0).toNat) (cap -(zQ l 0).toNat))) w:=by
 have I:=abB (P:=P) (w:=w) true len cap (lo.map a.eval) (g.map a.eval) l h (kC R) (kC J) h0 p r;simp only[execOp,T,Option.map_none,Instr.sliceAt,Instr.slice,hx,Sem.run_bind,run_underlying U,Result.andThen_ok,I,qI hi,Sem.run_pure]
theorem ad9 (hr:Rel F N ι s a w)(hd: ∀k,o.dst=some k ->k<N){t e:TypeId}{x:Operand}{lo hi:Option Operand}(ho:o.op= .slice t x lo hi none)(hu:P.underlying t=some (.slice e)){i:TypeInfo}(R:P.info? e=some i)
 (h:zF P o.dst (.sli (zE P e) (cO x) (lo.map cO) (hi.map cO)) s K):zx P F N o a w (λ_=>True) K:=by
 simp only[zF]at h;split at h
 case h_2=>exact h.elim
 rename_i lq J hl hh;have hl:=Y7 hr hl;have hh:=Y7 hr hh;have hx:=xu hr x;generalize s.oc (cO x)=cx at*;unfold amy at h;split at h
 ·rename_i j;simp only[CR,RD]at hx;obtain⟨ad,m,c,e1,U,e3,e4,e5⟩:=hx;cases lq with
  |none=>
   obtain⟨g1,g2,h⟩:=h;have g:=λ(w':World) (_:True)=>uY (o:=o) (w:=w') hu R ho e1 hl hh (by simp[zQ]) (by rw[U];simpa[zQ]using g1) (by rw[U];omega)
   simp only[zQ,Int.toNat_zero,Nat.zero_mul,Nat.sub_zero]at g;have aa:(if c=0 then ad else ad.map (·.add 0))=ad:=by
    split
    ·rfl
    ·cases ad<;>simp[Addr.add]
   simp only[aa]at g;refine zx.put hr hd g ?_ h;simp only[cV,VR,WR,CR,RD];have I:(j.take (zQ J j.length).toNat).length=(zQ J j.length).toNat:=by rw[List.length_take];omega
   refine⟨ad,_,_,rfl,?_,?_,e4,?_⟩
   ·rw[I,U];rfl
   ·rw[U];simp only[zQ]at g2⊢;omega
   ·rcases e5 with e5|⟨b,q,sz,f1,f2,f3⟩
    ·rw[e5];left;simp
    ·right;exact⟨b,q,sz,f1,f2,RDs.take _ f3⟩
  |some l=>
   obtain⟨g0,g1,g2,g3,h⟩:=h;have g:=λ(w':World) (_:True)=>uY (o:=o) (w:=w') hu R ho e1 hl hh (by simpa[zQ]using g1) (by rw[U];simpa[zQ]using g2) (by rw[U];omega)
   simp only[zQ]at g;refine zx.put hr hd g ?_ h;simp only[cV,VR,WR,CR,RD];have I:((j.take (zQ J j.length).toNat).drop l.toNat).length=(zQ J j.length).toNat - l.toNat:=by rw[List.length_drop,List.length_take];omega
   refine⟨_,_,_,rfl,?_,?_,by omega,?_⟩
   ·rw[I,U];rfl
   ·rw[U];simp only[zQ]at g3⊢;omega
   ·by_cases r:(j.take (zQ J j.length).toNat).drop l.toNat=[]
    ·exact .inl r
    ·have ag:l.toNat<(zQ J j.length).toNat:=by
      have:0<((j.take (zQ J j.length).toNat).drop l.toNat).length:=List.length_pos_iff.2 r;rw[I]at this;omega
     rcases e5 with e5|⟨b,q,sz,f1,f2,f3⟩
     ·rw[e5]at r;simp at r
     ·right
      have ac:j≠ []:=λe=>by rw[e]at r;simp at r
      obtain⟨y,hy⟩: ∃y,y∈j:=List.exists_mem_of_ne_nil j ac;have ae:sz=zE P e:=by rw[<- RDs.len f3 y hy,g0 y hy]
      refine⟨b,q+l.toNat*sz,sz,?_,f2,RDs.drop _ (RDs.take _ f3)⟩;refine Eq.trans (if_neg (by simp only[zQ]at*;omega)) ?_;rw[f1,ae];simp[qB]
 ·rename_i p z n;cases hz:Nat.beq z (zE P e)with
  |false=>rw[hz]at h;exact h.elim
  |true=>
   rw[hz]at h;have hz:=Nat.eq_of_beq_eq_true hz;simp only[cond_true]at h;cases lq with
   |none=>
    obtain⟨g1,g2,h⟩:=h;rcases hx with⟨f1,f2,f3⟩|⟨b,cap,ty,f1,f2,f3,f4,f5,f6⟩
    ·subst f2;have h0:zQ J ((0:Nat):Int)=0:=by omega
     have g:=λ(w':World) (_:True)=>uY (o:=o) (w:=w') hu R ho f3 hl hh (by simp[zQ]) (by simpa[zQ]using g1) (by omega)
     simp only[h0]at g;rw[h0]at h;simp only[zQ,Int.toNat_zero,Nat.zero_mul,Nat.sub_zero,if_true]at g;exact zx.put hr hd g (show VR ι w _ (cV (.own p z 0)) _ from .inl ⟨f1,rfl,rfl⟩) h
    ·have g:=λ(w':World) (_:True)=>uY (o:=o) (w:=w') hu R ho f3 hl hh (by simp[zQ]) (by simpa[zQ]using g1) (by omega)
     simp only[zQ,Int.toNat_zero,Nat.zero_mul,Nat.sub_zero]at g;have aa:(if cap=0 then some (⟨b,0,none⟩:Addr)else(some (⟨b,0,none⟩:Addr)).map (·.add 0))=some ⟨b,0,none⟩:=by
      split<;>simp[Addr.add]
     simp only[aa]at g;refine zx.put hr hd g (show VR ι w _ (cV (.own p z (zQ J n).toNat)) _ from .inr ⟨b,cap,ty,f1,by omega,rfl,by omega,f5,f6⟩) h
   |some l=>
    simp only[]at h;split at h
    ·rename_i z1 j fz hp;cases T:Nat.beq z z1 with
     |false=>rw[T]at h;exact h.elim
     |true=>
      rw[T]at h;have T:=Nat.eq_of_beq_eq_true T;simp only[cond_true]at h;obtain⟨g1,g2,g3,h⟩:=h;obtain⟨k1,k2|⟨b,cap,ty,f1,f3,f4,f5,f6,f7⟩⟩:=agf hr hp T hx
      ·obtain⟨k2,k3,k4,k5⟩:=k2;subst k2;have h0:zQ J ((0:Nat):Int)=0:=by omega
       have af:l=0:=by omega
       subst af;have g:=λ(w':World) (_:True)=>uY (o:=o) (w:=w') hu R ho k3 hl hh (by simp[zQ]) (by simpa[zQ]using g2) (by omega)
       simp only[h0]at g;rw[h0]at h;simp only[zQ,Int.toNat_zero,Nat.zero_mul,Nat.sub_zero,if_true]at g;refine⟨_,ι,_,g,(hr.freeze p).put o.dst hd _ _ ?_,h⟩;simp only[cV,VR,WR,CR,RD,k5];exact⟨none,0,0,rfl,by simp,Nat.le_refl _,Nat.zero_le _,.inl (by simp)⟩
      ·have g:=λ(w':World) (_:True)=>uY (o:=o) (w:=w') hu R ho f3 hl hh (by simpa[zQ]using g1) (by simpa[zQ]using g2) (by omega)
       simp only[zQ]at g;have I:((j.take (zQ J n).toNat).drop l.toNat).length=(zQ J n).toNat - l.toNat:=by rw[List.length_drop,List.length_take];omega
       refine⟨_,ι,_,g,(hr.freeze p).put o.dst hd _ _ ?_,h⟩;have ab:=alB hr hp f1 (n:=(zQ J n).toNat) (by omega) (cap:=cap) (by omega) f5;simp only[cV,VR,WR,CR];simp only[RD]at ab⊢;obtain⟨ad,m,c,e1,U,e3,e4,e5⟩:=ab;cases e1;refine⟨_,_,_,rfl,by rw[I];rfl,by simp only[zQ]at*;omega,by omega,?_⟩;by_cases r:(j.take (zQ J n).toNat).drop l.toNat=[]
       ·exact .inl r
       ·have ag:l.toNat<(zQ J n).toNat:=by
         have:0<((j.take (zQ J n).toNat).drop l.toNat).length:=List.length_pos_iff.2 r;rw[I]at this;omega
        rcases e5 with e5|⟨b',q,sz,q1,q2,q3⟩
        ·rw[e5]at r;simp at r
        ·right
         cases q1;have ac:j.take (zQ J n).toNat≠ []:=λe=>by rw[e]at r;simp at r
         obtain⟨y,hy⟩: ∃y,y∈j.take (zQ J n).toNat:=List.exists_mem_of_ne_nil _ ac;have ae:sz=zE P e:=by
          rw[<- RDs.len q3 y hy,RDs.len f7 y (List.mem_of_mem_take hy),<- T,hz]
         refine⟨b,0+l.toNat*sz,sz,?_,q2,RDs.drop _ q3⟩;refine Eq.trans (if_neg (by simp only[zQ]at*;omega)) ?_;rw[ae];simp[qB]
    ·exact h.elim
 ·have hx:a.eval x= .slice none 0 0:=hx;obtain⟨g1,g2,g3,h⟩:=h;have g:=λ(w':World) (_:True)=>uY (o:=o) (w:=w') hu R ho hx hl hh g1 g2 g3
  have e1:(zQ lq 0).toNat=0:=by omega
  have U:(zQ J ((0:Nat):Int)).toNat=0:=by
   have:zQ J ((0:Nat):Int)<=0:=g3;omega
  simp only[e1,U,Nat.zero_mul,if_true,Nat.sub_zero]at g;exact zx.put hr hd g (show VR ι w _ (cV .nil) _ from rfl) h
 ·exact h.elim
theorem aea (hr:Rel F N ι s a w)(I: ∀k,o.dst=some k ->k<N){t:TypeId}{x:Operand}{lo hi:Option Operand}(J:o.op= .slice t x lo hi none)(R:P.underlying t=some .string)
 (h:zF P o.dst (.sls (cO x) (lo.map cO) (hi.map cO)) s K):zx P F N o a w (λ_=>True) K:=by
 simp only[zF]at h;split at h
 case h_2=>exact h.elim
 rename_i l r j i;have j:=Y7 hr j;have i:=Y7 hr i;have T:=xu hr x;generalize s.oc (cO x)=U at*;unfold amz at h;split at h
 ·rename_i b;obtain⟨g1,g2,g3,h⟩:=h;have p:=yV T;have g:=λ(w':World)=>abB (P:=P) (w:=w') false b.size b.size (lo.map a.eval) (hi.map a.eval) l r (kC j) (kC i) g1 g2 g3
  refine zx.put hr I (v:=.string (b.extract (zQ l 0).toNat (zQ r b.size).toNat)) ?_ (yL rfl) h;intro w' _;simp only[execOp,J,Option.map_none,Instr.sliceAt,Instr.slice,p,Sem.run_bind,run_underlying R,Result.andThen_ok,Sem.run_pure];simp;rw[g w'];rfl
 ·exact h.elim
theorem JF {t:TypeId}(h:xQ P t true=true):P.underlying t=some .string:=by
 unfold xQ at h;split at h
 ·assumption
 ·split at h<;>cases h
 ·cases h
theorem Kw {t:TypeId}(h:xQ P t false=true): ∃e,P.underlying t=some (.slice e)/\P.underlying e=some (.int .u8):=by
 unfold xQ at h;split at h
 ·cases h
 ·rename_i e i;split at h
  ·rename_i g;exact⟨e,i,g⟩
  ·cases h
 ·cases h
theorem X8 (b:ByteArray):(y4 b).flatten=b.data.toList.map λx=>D.lit (.int .u8 x.toNat):=by
 unfold y4;induction b.data.toList with
 |nil=>rfl
 |cons x r g=>simp[g]
theorem adi {ok:Nat ->Prop}: ∀(l:List UInt8) (vs:List Value),CRs ι w ok ((l.map λx=>D.lit (.int .u8 x.toNat)).map .d) vs ->vs=l.map λ(x:UInt8)=>Value.int .u8 x.toNat
 | [],[],_=>rfl
 | [],_::_,h=>h.elim
 |_::_,[],h=>h.elim
 |x::l,v::vs,h=>by
  have g:=yV h.1;simp only[List.map_cons,g,adi l vs h.2]
theorem QS {ok:Nat ->Prop}: ∀(l:List UInt8),CRs ι w ok ((l.map λx=>D.lit (.int .u8 x.toNat)).map .d) (l.map λ(x:UInt8)=>Value.int .u8 x.toNat)
 | []=>trivial
 |x::l=>⟨by simp only[CR,RD];exact⟨trivial,rfl⟩,QS l⟩
theorem Wq (hr:Rel F N ι s a w){c:C}{v:Value}(r:CR ι w (F.ok ι s.pl w) c v){l:List (List D)}(h:Xp s.pl c=some l):
 ∃j cap,v= .slice j l.length cap /\(l=[]\/ ∃b q sz,j=some ⟨b,q,none⟩/\RDs w (F.ok ι s.pl w) b sz q l):=by
 cases c with
 |d x=>
  cases x with
  |lit u=>cases h
  |fn f l=>cases h
  |ifc f l=>cases h
  |sl J=>
   cases h;simp only[CR,RD]at r;obtain⟨j,m,c,R,T,e3,e4,I⟩:=r;refine⟨j,c,by rw[R,T],?_⟩;rcases I with I|⟨b,q,sz,U,f2,f3⟩
   ·exact .inl I
   ·exact .inr ⟨b,q,sz,U,f3⟩
 |nil=>cases h;exact⟨none,0,r,.inl rfl⟩
 |own p z n=>
  simp only[Xp]at h;cases g:aget s.pl p with
  |none=>simp only[g]at h;cases h
  |some y=>
   cases y with
   |box P=>simp only[g]at h;cases h
   |fbox P=>simp only[g]at h;cases h
   |gone=>simp only[g]at h;cases h
   |arr sz J fz=>
    simp only[g]at h;cases h;obtain⟨hn,h|⟨b,cap,t,h1,h2,h3,h4,h5,h6⟩⟩:=KO hr g r
    ·obtain⟨rfl,rfl,_,_⟩:=h;exact⟨none,0,by simp,.inl (by simp)⟩
    ·exact⟨some ⟨b,0,none⟩,cap,by rw[h2,List.length_take,Nat.min_eq_left hn],.inr ⟨b,0,sz,rfl,RDs.take n h6⟩⟩
 |dead=>cases h
 |sub p z o n=>cases h
 |ptr p o=>cases h
 |eptr p z i k=>cases h
 |fp l=>cases h
 |clo f l=>cases h
theorem adY (hr:Rel F N ι s a w)(hd: ∀k,o.dst=some k ->k<N){t u:TypeId}{x:Operand}(ho:o.op= .convert t u x)(ht:xQ P t false=true)(hu:xQ P u true=true)
 (h:zF P o.dst (.b2s (cO x)) s K):zx P F N o a w (wL w) K:=by
 simp only[zF]at h;obtain⟨e,h1,h2⟩:=Kw ht;have h3:=JF hu;split at h
 ·rename_i l hl;obtain⟨b,rfl,h⟩:=h;obtain⟨J,cap,hv,g⟩:=Wq hr (xu hr x) hl;refine zx.put hr hd (v:=.string b) ?_ (yL rfl) h;intro w' aa;have p:(Conv.bytesToString (.slice J (y4 b).length cap)).run P w'= .ok (.string b) w':=by
   rcases g with he|⟨R,q,sz,rfl,g⟩
   ·have T:b.data.toList=[]:=by simpa[y4]using he
    have hb:b=ByteArray.empty:=by
     cases b with|mk d=>have:d= #[]:=Array.toList_inj.1 (by simpa using T);subst this;rfl
    rw[he];cases J with
    |none=>simp[Conv.bytesToString,hb]
    |some J=>simp[Conv.bytesToString,loadCells,loadCellsFrom,hb]
   ·obtain⟨vs,g1,g2,g3⟩:=RDs.vals (ι:=ι) g;rw[X8]at g1;have I:=adi _ _ g1;have r:vs.length=(y4 b).length:=by rw[I];simp[y4]
    have i:=run_loadCells_list (P:=P) w' ⟨R,q,none⟩ vs (λj v hv=>by rw[qB];exact aa.cell (g3 j v hv));rw[r]at i;have U:vs=(b.data.toList.map λ(x:UInt8)=>(x.toNat:Int)).map (Value.int .u8):=by rw[I];simp
    rw[U]at i;rw[run_bytesToString w' _ _ _ (b.data.toList.map λ(x:UInt8)=>(x.toNat:Int)) i,foldl_push_byteCells];congr 2
    cases b with|mk d=>simp[ByteArray.empty,ByteArray.emptyWithCapacity];rfl
  simp only[execOp,ho,hv,Sem.run_bind,run_convert_bytes_string w' t u e J _ cap h1 h2 h3,p,Result.andThen_ok,Sem.run_pure]
 ·exact h.elim
theorem ad7 (hr:Rel F N ι s a w)(hd: ∀k,o.dst=some k ->k<N){t u:TypeId}{x:Operand}(ho:o.op= .convert t u x)(ht:xQ P t true=true)(hu:xQ P u false=true)
 (h:zF P o.dst (.s2b (cO x)) s K):q7 P F N o a w K:=by
 simp only[zF]at h;have h1:=JF ht;obtain⟨e,h2,h3⟩:=Kw hu;split at h
 ·rename_i d b r hx;have R:=xu hr x;rw[hx]at R;have ac:=yV R;obtain⟨ad,h⟩:=h;have I:=run_bytes_of_string (P:=P) w t u e b h1 h2 h3;obtain⟨i,l⟩: ∃i,i=bytesRow b (grownCap w b.size 0 e):=⟨_,rfl⟩;rw[<- l]at I;have aa:=grownCap_ge w b.size 0 e;have ab:=grownCap_le_maxLen w b.size 0 e (by simp only[maxLen];omega);have U:i.size=grownCap w b.size 0 e:=by
   rw[l];simp only[bytesRow,Array.size_append,Array.size_map,Array.size_replicate];have:b.data.size=b.size:=rfl;omega
  have J:=NewRow.draw w i e (i.size,i.size+1);have T:(y4 b).length=b.size:=by simp[y4]
  have hrel:=hr.newRow J d (.arr 1 (y4 b) true) [d] (by simp[isin]) b.size (hr.h_slot (hd _ (by assumption))) ⟨by omega,by rw[zK,T],.inr ⟨w.heap.size,by rw[zK],by
   refine Yh (ι:=ι) (vs:=b.data.toList.map λ(x:UInt8)=>Value.int .u8 x.toNat) (λq hq=>by
    simp only[y4,List.mem_map]at hq;obtain⟨_,_,rfl⟩:=hq;rfl) ?_ ?_
   ·rw[X8];exact QS _
   ·intro j v hv;rw[Nat.zero_add,J.cell,l,bytesRow];have hj:j<b.data.size:=by
     have:=(List.getElem?_eq_some_iff.1 hv).1;simpa using this
    rw[Array.getElem?_append_left (by simpa using hj)];simpa using hv,(λ_=>⟨.inr (.inr hr.grows.size),by rw[J.size];omega,by
     rintro⟨p,y,q1,q2,q3⟩;have g:aget (s.redo [d] [(d,Pl.arr 1 (y4 b) true)]).pl p=some y:=q1;rw[S.redo_pl]at g;cases hn:aget [(d,Pl.arr 1 (y4 b) true)] p with
     |some z=>simp only[hn]at g;cases g;obtain⟨_,rfl⟩:=yN hn;cases q2
     |none=>
      simp only[hn]at g;split at g
      ·rename_i hk;cases hp:aget s.pl p with
       |none=>rw[hp]at g;cases g
       |some z=>
        rw[hp]at g;simp at g;subst g;rw[vJ ι _ (aaa hk)]at q3;rw[Pl.live_kill]at q2;have:=(hr.mine _ ⟨p,z,hp,q2,q3⟩).2;omega
      ·cases g⟩),(λhf=>by cases hf)⟩⟩
  refine q7.of_value J.ext (v:=.slice (some ⟨w.heap.size,0,none⟩) b.size (grownCap w b.size 0 e)) (w':=w.drew.alloc (.cells i e (i.size,i.size+1))) (ι':=w8 ι d ⟨some w.heap.size,b.size⟩) ?_ ?_ h
  ·simp only[execOp,ho,ac,Sem.run_bind,I,Result.andThen_ok,Sem.run_pure]
  ·rw[r];refine hrel.put (some d) (λk hk=>by cases hk;exact hd d r) _ _ ?_;exact .inr ⟨w.heap.size,_,e,by rw[zK],by rw[zK];exact Nat.le_refl _,rfl,aa,ab,by rw[J.shape,U];simp⟩
 ·exact h.elim
end
section
variable {P:Program}{F:Fr}{N:Nat}{ι:Nat ->Gh}{s:S}{a:Act}{w:World}{o:Oper}{K:S ->Prop}
structure Src (P:Program)(w:World)(size n:Nat)(y:Value)(news:List Value):Prop where
 len: ∀w',(Builtin.lenOf y).run P w'= .ok n w'
 cells: ∀w',w'.heap=w.heap ->(Builtin.firstCells size n y).run P w'= .ok news.toArray w'
def kM (P:Program)(u:TypeId):Prop:=P.underlying u=some .string\/ ∃e,P.underlying u=some (.slice e)
theorem abA {t u ty e:TypeId}{i:TypeInfo}(p:P.underlying t=some (.slice e))(j:kM P u)(hi:P.info? e=some i){y:Value}{g:List Value}(hs:Src P w i.size 0 y g):
 (Builtin.append_ #[t,u] ty #[.slice none 0 0,y]).run P w= .ok (.slice none 0 0) w:=by
 have l:=hs.len w;have o:=hs.cells w rfl;rcases j with j|⟨e',j⟩<;>simp[Builtin.append_,run_underlying p,run_underlying j,sizeOf,typeInfo,hi,l,o]
theorem abz {t u ty e:TypeId}{i:TypeInfo}(ht:P.underlying t=some (.slice e))(R:kM P u)(hi:P.info? e=some i){y:Value}{n:Nat}{l:List Value}(hs:Src P w i.size n y l)
 {g j p:Nat}{o:Array Value}{U:TypeId}(hg:w.heap[g]? =some (.cells o U (0,0))) (h1: ∀v∈l,v.oneCell'=true) (r:j+n<=p) (T:j*i.size+l.length<=o.size):
 (Builtin.append_ #[t,u] ty #[.slice (some ⟨g,0,none⟩) j p,y]).run P w=
  .ok (.slice (some ⟨g,0,none⟩) (j+n) p) (w.setRow g (o.toList.take (j*i.size)++l++o.toList.drop (j*i.size+l.length)).toArray):=by
 have e1:=hs.len w;have e2:=hs.cells w rfl;have J:=run_storeCells_at P g (j*i.size) U l 0 o w hg (by grind) h1;simp only[Nat.add_zero]at J;have I:(⟨g,0,none⟩:Addr).add (j*i.size)=⟨g,j*i.size,none⟩:=by simp_all[qB]
 rcases R with R|⟨e',R⟩<;>simp[Builtin.append_,run_underlying ht,run_underlying R,sizeOf,typeInfo,hi,e1,e2,r,I,J]
theorem acW {t u ty e:TypeId}{i:TypeInfo}{z:Value}(ht:P.underlying t=some (.slice e))(J:kM P u)(hi:P.info? e=some i)(hz:i.zero=some z){y:Value}{n:Nat}{l:List Value}(hs:Src P w i.size n y l)
 {R:Option Addr}{g j:Nat}{o:List Value}(ho: ∀w',w'.heap=w.heap ->(Builtin.firstCells i.size g (.slice R g j)).run P w'= .ok o.toArray w') (hg:j<g+n) (aa:((g+n:Nat):Int)<=9223372036854775807)
 (p:(g+n)*i.bytes<=140737488355328):
 (Builtin.append_ #[t,u] ty #[.slice R g j,y]).run P w=
  .ok (.slice (some ⟨w.heap.size,0,none⟩) (g+n) (grownCap w (g+n) j e))
   (w.drew.alloc (.cells (o++l++(Builtin.zeroCells z.cells (grownCap w (g+n) j e -(g+n))).toList).toArray e)):=by
 have U:=hs.len w;have e2:=hs.cells w.drew rfl;have e3:=ho w.drew rfl;have hn: ¬(g+n<=j):=by omega
 have I: ¬(9223372036854775807<((g:Int)+(n:Int))):=by omega
 have T:=growslice_fits hg p;have r: ¬(281474976710656<Builtin.nextslicecap (g+n) j*i.bytes):=by omega
 have fin:(o.toArray++(l.toArray++Builtin.zeroCells z.cells (grownCap w (g+n) j e -(g+n))))=(o++(l++(Builtin.zeroCells z.cells (grownCap w (g+n) j e -(g+n))).toList)).toArray:=by
  grind
 rcases J with J|⟨e',J⟩<;>
 ·simp[Builtin.append_,run_underlying ht,run_underlying J,sizeOf,typeInfo,zeroValue,hi,hz,U,hn,I,r,Question.forced,e2,e3,newRow];simp only[grownCap]at fin⊢;rw[<- fin];exact⟨trivial,rfl⟩
theorem wG {α:Type}{sz:Nat}: ∀(l:List (List α)),(∀y∈l,y.length=sz) ->l.flatten.length=l.length*sz
 | [],_=>by simp
 |x::r,h=>by
  simp only[List.flatten_cons,List.length_append,List.length_cons,h x (by simp),wG r (λy g=>h y (by simp[g])),Nat.add_mul];omega
theorem api (hr:Rel F N ι s a w){c:C}{v:Value}(J:CR ι w (F.ok ι s.pl w) c v){l:List (List D)}(h:Xp s.pl c=some l){size:Nat}(T: ∀y∈l,y.length=size):
 ∃i,Src P w size l.length v i /\i.length=l.length*size /\CRs ι w (F.ok ι s.pl w) (l.flatten.map .d) i:=by
 obtain⟨I,cap,rfl,g⟩:=Wq hr J h;have o: ∀w',(Builtin.lenOf (.slice I l.length cap)).run P w'= .ok l.length w':=λw'=>by simp[Builtin.lenOf]
 rcases g with rfl|⟨b,q,sz,rfl,g⟩
 ·refine⟨[],⟨o,λw' _=>?_⟩,by simp,trivial⟩;cases I<;>simp_all[Builtin.firstCells,loadCells,loadCellsFrom]
 ·obtain⟨vs,g1,g2,g3⟩:=RDs.vals (ι:=ι) g;have p:vs.length=l.length*size:=by
   have:=g1.length<;>grind[wG]
  refine⟨vs,⟨o,λw' r=>?_⟩,p,g1⟩;exact run_firstCells_some (P:=P) w' size l.length ⟨b,q,none⟩ l.length cap vs p (λj u R=>by
   rw[qB];have:=g3 j u R;simpa[World.cell?,r]using this)
theorem akp (w:World)(ι:Nat ->Gh)(ok:Nat ->Prop)(b:ByteArray): ∃g,Src P w 1 (y4 b).length (.string b) g /\g.length=(y4 b).length*1 /\CRs ι w ok ((y4 b).flatten.map .d) g:=by
 have i:(y4 b).length=b.size:=by simp[y4]
 refine⟨b.data.toList.map λ(x:UInt8)=>Value.int .u8 x.toNat,⟨λw'=>by simp_all[Builtin.lenOf],λw' _=>?_⟩,by simp_all,by grind[X8,QS]⟩;rw[i];have j:(b.extract 0 b.size).data=b.data:=by
  grind[ByteArray.extract_zero_size]
 simp only[Builtin.firstCells,j,Sem.run_pure];congr 1
 grind
theorem aef {ok:Nat ->Prop}{g:List D}{vs:List Value}(h:CRs ι w ok (g.map .d) vs): ∀v∈vs,v.oneCell'=true:=vY h
theorem aee {z:Value}{i:TypeInfo}(_:i.zero=some z)(n:Nat):(Builtin.zeroCells z.cells n).toList.length=n*z.cells.size:=by simp[Builtin.zeroCells]
theorem Uw (hr:Rel F N ι s a w)(hd: ∀k,o.dst=some k ->k<N){d:Nat}(aj:o.dst=some d){t u e:TypeId}{i:TypeInfo}{z:Value}(ht:P.underlying t=some (.slice e))(hu:kM P u)(hi:P.info? e=some i)(hz:i.zero=some z)
 (bo:z.cells.size=i.size) (ar:0<i.size) {x:C}{xv y:Value}(hx:CR ι w (F.ok ι s.pl w) x xv)
 (au: ∀v w',(Builtin.append_ #[t,u] o.type #[xv,y]).run P w= .ok v w' ->(execOp a.eval o).run P w= .ok (.value v) w')
 {l:List (List D)}(hl:(∀q∈l,q.length=i.size) -> ∃T,Src P w i.size l.length y T /\T.length=l.length*i.size /\CRs ι w (F.ok ι s.pl w) (l.flatten.map .d) T)
 (h:ab9 d i.size i.bytes x (some l) s K):yW P F N o a w K:=by
 unfold ab9 at h;simp only[]at h
 have al: ∀(I:List Nat) (hk:isin d I=true) (ad:Option Addr) (g ab:Nat) (R:List Value) (aa:List (List D)),aa.length=g ->(∀q∈aa,q.length=i.size) ->(∀q∈l,q.length=i.size) ->xv= .slice ad g ab ->
  R.length=g*i.size ->CRs ι w (F.ok ι s.pl w) (aa.flatten.map .d) R ->(∀w',w'.heap=w.heap ->(Builtin.firstCells i.size g (.slice ad g ab)).run P w'= .ok R.toArray w') ->
  ab<g+l.length ->g+l.length<=9223372036854775807 ->(g+l.length)*i.bytes<=140737488355328 ->
  K ((s.redo I [(d,.arr i.size (aa++l) false)]).put (some d) (cV (.own d i.size (g+l.length)))) ->yW P F N o a w K:=by
  intro I hk ad g ab R aa bs a2 bh a6 bk bi bj a7 bq bd hK;obtain⟨T,af,a4,ay⟩:=hl bh;subst a6;have ae:=acW (ty:=o.type) ht hu hi hz af bj a7 (by omega) bd;obtain⟨U,aq⟩: ∃U:Array Value,U=(R++T++(Builtin.zeroCells z.cells (grownCap w (g+l.length) ab e -(g+l.length))).toList).toArray:=⟨_,rfl⟩;rw[<- aq]at ae;have hw:=NewRow.draw w U e (0,0);have bf:=grownCap_ge w (g+l.length) ab e;have bg:=grownCap_le_maxLen w (g+l.length) ab e (by grind[maxLen]);have an:U.size=grownCap w (g+l.length) ab e*i.size:=by
   rw[aq];simp only[List.size_toArray,List.length_append,bk,a4,aee hz,bo,<- Nat.add_mul];congr 1;omega
  have hrel:=hr.newRow hw d (.arr i.size (aa++l) false) I hk (g+l.length) (hr.h_slot (hd _ (by assumption))) ⟨ar,by grind[zK],.inr ⟨w.heap.size,by rw[zK],by
   refine Yh (ι:=ι) (vs:=R++T) (λq hq=>?_) ?_ ?_
   ·grind
   ·simp only[List.flatten_append,List.map_append];exact CRs.keep (jy hr hw d _ I hk _) hw.shapes _ _ (CRs.append bi ay)
   ·intro j v hv;rw[Nat.zero_add,hw.cell,aq]
    grind,(λhf=>by cases hf),(λ_=>⟨U,⟨e,hw.new⟩,by
    simp_all[Nat.mul_le_mul_right]⟩)⟩⟩
  refine yW.of_value (ι':=w8 ι d ⟨some w.heap.size,g+l.length⟩) (au _ _ ae) ?_ hK;rw[aj];refine hrel.put (some d) (λk hk=>by grind) _ _ ?_;exact .inr ⟨w.heap.size,_,e,by rw[zK],by simp_all[zK],rfl,bf,bg,by rw[hw.shape,an]⟩
 have aw: ∀(I:List Nat) (hk:isin d I=true),l=[] ->xv= .slice none 0 0 ->K ((s.redo I [(d,.arr i.size [] false)]).put (some d) (cV (.own d i.size 0))) ->yW P F N o a w K:=by
  intro I hk ah a6 hK;subst ah a6;obtain⟨T,af,_,_⟩:=hl (λq hq=>by cases hq);have ae:=abA (ty:=o.type) ht hu hi af;have hrel:Rel F N (w8 ι d ⟨none,0⟩) (s.redo I [(d,.arr i.size [] false)]) a w:=by
   refine hr.redo I [(d,.arr i.size [] false)] _ w (λp hp=>vJ ι _ (λe=>by grind)) (λ_ _ _=>rfl) (zU.refl w) rfl rfl (Out.refl w) (Nat.le_refl _) ?_ ?_ ?_ (λp x hp=>by obtain⟨rfl,_⟩:=yN hp;exact hr.h_slot (hd _ (by assumption)))
   ·intro p q hp;obtain⟨rfl,rfl⟩:=yN hp;exact⟨ar,by grind[zK],.inl ⟨by rw[zK],rfl⟩⟩
   ·grind[yN,zK]
   grind[yN]
  refine yW.of_value (ι':=w8 ι d ⟨none,0⟩) (au _ _ ae) ?_ hK;rw[aj];exact hrel.put (some d) (λk hk=>by grind) _ _ (.inl ⟨by rw[zK],rfl,rfl⟩)
 split at h
 ·obtain⟨g1,g2,g3,h⟩:=h;simp only[CR]at hx;by_cases ah:l=[]
  ·subst ah;exact aw [d] (by simp[isin]) rfl hx h
  ·have az:0<l.length:=List.length_pos_iff.2 ah;refine al [d] (by simp[isin]) none 0 0 [] [] rfl (λq hq=>by cases hq) g1 hx (by simp) trivial (λw' _=>by simp[Builtin.firstCells]) (by omega) (by omega) (by grind[yP]) ?_
   grind[S.place]
 ·rename_i p zz n;split at h
  ·rename_i z1 aa hp;cases a1:Nat.beq zz z1&&Nat.beq zz i.size with
   |false=>grind
   |true=>
    rw[a1]at h;rw[Bool.and_eq_true]at a1;have bc:=Nat.eq_of_beq_eq_true a1.1;have bn:=Nat.eq_of_beq_eq_true a1.2;simp only[cond_true]at h;obtain⟨g1,g2,g3,h⟩:=h;obtain⟨k1,k2|⟨b,cap,ty,f1,f3,f4,f5,f6,f7⟩⟩:=agf hr hp bc hx
    ·obtain⟨k2,k3,k4,k5⟩:=k2;subst k2 k5;simp only[List.take_nil,List.nil_append,Nat.zero_add]at h;have ax:isin d [p,d]=true:=by
      unfold isin;cases Nat.beq p d<;>simp[isin]
     by_cases ah:l=[]
     ·subst ah;exact aw [p,d] ax rfl k3 h
     ·have az:0<l.length:=List.length_pos_iff.2 ah;refine al [p,d] ax none 0 0 [] [] rfl (λq hq=>by cases hq) g1 k3 (by simp) trivial (λw' _=>by simp[Builtin.firstCells]) (by omega) (by omega) (by simpa[yP]using g2) ?_;simpa using h
    ·have ax:isin d [p,d]=true:=by
      unfold isin;cases Nat.beq p d<;>simp[isin]
     have bp:z1=i.size:=by rw[<- bc,bn]
     subst bp;have a2: ∀q∈aa.take n,q.length=i.size:=λq hq=>RDs.len f7 q (List.mem_of_mem_take hq)
     have a0:(aa.take n).length=n:=by rw[List.length_take,Nat.min_eq_left k1]
     obtain⟨R,o1,o2,o3⟩:=RDs.vals (ι:=ι) (RDs.take n f7);rw[a0]at o2;by_cases ac:n+l.length<=cap
     ·
      obtain⟨T,af,a4,ay⟩:=hl g1;obtain⟨_,_,az|⟨b',e1,_,_,e4⟩⟩:=hr.places p _ hp
      ·rw[f1]at az;cases az.1
      ·rw[f1]at e1;cases e1;obtain⟨U,⟨te,hg⟩,_⟩:=e4 rfl;have an:U.size=cap*i.size:=by
        simp only[World.shape?,hg,Option.some.injEq,Prod.mk.injEq]at f6;exact f6.2
       have a8:n*i.size+T.length<=U.size:=by rw[a4,an,<- Nat.add_mul];exact Nat.mul_le_mul_right _ ac
       have ae:=abz (ty:=o.type) ht hu hi af hg (aef ay) ac a8;obtain⟨J,ag⟩: ∃J:Array Value,J=(U.toList.take (n*i.size)++T++U.toList.drop (n*i.size+T.length)).toArray:=⟨_,rfl⟩;rw[<- ag]at ae;rw[<- f3]at ae;have ao:J.size=U.size:=by
        rw[ag];simp only[List.size_toArray,List.length_append,List.length_take,List.length_drop,Array.length_toList];omega
       have a5:R=U.toList.take (n*i.size):=by
        apply List.ext_getElem?;intro j;by_cases hj:j<R.length
        ·have h1:=o3 j R[j] (List.getElem?_eq_getElem hj);rw[Nat.zero_add,cell_of_row w b j U te (0,0) hg]at h1;rw[List.getElem?_eq_getElem hj,List.getElem?_take,if_pos (by omega),Array.getElem?_toList,h1]
        ·rw[List.getElem?_eq_none (by omega),List.getElem?_eq_none (by rw[List.length_take,Array.length_toList];omega)]
       have bb:b<w.heap.size:=(Array.getElem?_eq_some_iff.1 hg).1;have hι: ∀q,isin q [p,d]=false ->w8 ι d ⟨some b,n+l.length⟩ q=ι q:=λq hq=>vJ ι _ (afV hq).2
       have av: ∀c,c<w.heap.size ->(∀q y,isin q [p,d]=true ->aget s.pl q=some y ->y.live=true ->(ι q).b≠some c) ->(w.setRow b J).heap[c]? =w.heap[c]? :=λc _ hc=>by
        have be:c≠b:=λe=>by subst e;exact hc p _ (by unfold isin;simp) hp rfl f1
        exact setRow_other w b c J be
       have ba:w.heap.size<=(w.setRow b J).heap.size:=by simp
       have ak: ∀q x c,aget [(d,Pl.arr i.size (aa.take n++l) false)] q=some x ->(w8 ι d ⟨some b,n+l.length⟩ q).b=some c ->c<(w.setRow b J).heap.size /\(w.heap.size<=c\/ ∃r y,isin r [p,d]=true /\aget s.pl r=some y /\y.live=true /\(ι r).b=some c):=by
        intro q x c hq hc;obtain⟨rfl,rfl⟩:=yN hq;rw[zK]at hc;cases hc;exact⟨by simpa using bb,.inr ⟨p,_,by unfold isin;simp,hp,rfl,f1⟩⟩
       have a3:=Jf hr [p,d] [(d,.arr i.size (aa.take n++l) false)] (w8 ι d ⟨some b,n+l.length⟩) (w.setRow b J) hι av ba ak;have a9:=zU.setRow w b hg ao;have hrel:=hr.redo [p,d] [(d,.arr i.size (aa.take n++l) false)] (w8 ι d ⟨some b,n+l.length⟩) (w.setRow b J) hι av a9 rfl rfl ⟨rfl,Nat.le_refl _⟩ ba (by
        intro q x hq;obtain⟨rfl,rfl⟩:=yN hq;refine⟨ar,by rw[zK];simp[a0],.inr ⟨b,by rw[zK],?_,(λhf=>by cases hf),(λ_=>⟨J,⟨te,setRow_heap w b U J te (0,0) hg⟩,by
         rw[ao,an];simp only[List.length_append,a0];exact Nat.mul_le_mul_right _ ac⟩)⟩⟩
        refine Yh (ι:=ι) (vs:=R++T) (λr ai=>?_) ?_ ?_
        ·rcases List.mem_append.1 ai with ai|ai
         ·exact a2 r ai
         ·exact g1 r ai
        ·simp only[List.flatten_append,List.map_append];exact CRs.keep a3 a9 _ _ (CRs.append o1 ay)
        ·intro j v hv;rw[Nat.zero_add,cell_setRow_same w b j U J te (0,0) hg,ag];have hj:=(List.getElem?_eq_some_iff.1 hv).1;rw[List.getElem?_toArray,<- a5,List.getElem?_append_left hj];exact hv) ak (by
        intro q r x y c hq ai bl;obtain⟨rfl,rfl⟩:=yN hq;obtain⟨rfl,rfl⟩:=yN ai;exact absurd rfl bl) (λq x hq=>by obtain⟨rfl,_⟩:=yN hq;exact hr.h_slot (hd _ (by assumption)))
       refine yW.of_value (ι':=w8 ι d ⟨some b,n+l.length⟩) (au _ _ ae) ?_ h;rw[aj];refine hrel.put (some d) (λk hk=>by cases hk;exact hd d aj) _ _ ?_;exact .inr ⟨b,cap,te,by rw[zK],by rw[zK];exact Nat.le_refl _,rfl,ac,f5,by simp only[World.shape?,setRow_heap w b U J te (0,0) hg,ao,an]⟩
     ·refine al [p,d] ax (some ⟨b,0,none⟩) n cap R (aa.take n) a0 a2 g1 f3 o2 o1 (λw' bm=>?_) (by omega) (by omega) g2 h;exact run_firstCells_some (P:=P) w' i.size n ⟨b,0,none⟩ n cap R o2 (λj v hv=>by
       rw[qB];have:=o3 j v hv;simpa[World.cell?,bm]using this)
  grind
 grind
theorem ZF {e:TypeId}(h:w9 P e=true): ∃i z,P.info? e=some i /\i.zero=some z /\z.cells.size=i.size:=by
 grind[w9,Nat.eq_of_beq_eq_true]
theorem al9 (hr:Rel F N ι s a w)(hd: ∀k,o.dst=some k ->k<N){args:Array Operand}{U:Array TypeId}{x y:Operand}{t u e e':TypeId}(ho:o.op= .call {callee:=.builtin .append,args:=args,argTypes:=U})
 (I:args.toList=[x,y]) (ab:U.toList=[t,u]) (ht:wo P t=some e) (hu:P.underlying u=some (.slice e')) (g:Nat.blt 0 (zE P e)=true) (j:w9 P e=true)
 (h:zF P o.dst (.app (zE P e) (wZ P e) (cO x) (cO y)) s K):yW P F N o a w K:=by
 simp only[zF]at h;have ha:args= #[x,y]:=Array.toList_inj.1 (by grind);have aa:U= #[t,u]:=Array.toList_inj.1 (by grind);obtain⟨i,z,hi,hz,T⟩:=ZF j;have R:zE P e=i.size:=by grind[zE]
 have J:wZ P e=i.bytes:=by grind[wZ]
 have g:0<i.size:=by simp_all
 split at h
 ·rename_i d r;cases hl:Xp s.pl (s.oc (cO y))with
  |none=>grind[ab9]
  |some l=>
   rw[hl,R,J]at h;refine Uw hr hd r (qK ht) (.inr ⟨e',hu⟩) hi hz T g (xu hr x) (y:=a.eval y) ?_ (λp=>api hr (xu hr y) hl p) h;simp_all[execOp,resolve,invoke,builtin]
 grind
theorem akm (hr:Rel F N ι s a w)(hd: ∀k,o.dst=some k ->k<N){args:Array Operand}{U:Array TypeId}{x y:Operand}{t u e:TypeId}(ho:o.op= .call {callee:=.builtin .append,args:=args,argTypes:=U})
 (I:args.toList=[x,y]) (ac:U.toList=[t,u]) (ht:wo P t=some e) (hu:P.underlying u=some .string) (p:(Nat.beq (zE P e) 1&&Nat.beq (wZ P e) 1)=true) (g:w9 P e=true)
 (h:zF P o.dst (.apps (cO x) (cO y)) s K):yW P F N o a w K:=by
 simp only[zF]at h;have ha:args= #[x,y]:=Array.toList_inj.1 (by grind);have ab:U= #[t,u]:=Array.toList_inj.1 (by grind);obtain⟨i,z,hi,hz,T⟩:=ZF g;rw[Bool.and_eq_true]at p;have J:i.size=1:=by grind[Nat.eq_of_beq_eq_true,zE]
 have aa:i.bytes=1:=by grind[Nat.eq_of_beq_eq_true,wZ]
 split at h
 ·rename_i d b j hy;have r:=xu hr y;rw[hy]at r;have R:=yV r;refine Uw hr hd j (qK ht) (.inl hu) hi hz T (by omega) (xu hr x) (y:=a.eval y) ?_ (l:=y4 b) ?_ (by grind)
  ·simp_all[execOp,resolve,invoke,builtin]
  ·intro _;rw[R,J];exact akp w ι _ b
 grind
end
section
variable {P:Program}{F:Fr}{N:Nat}{ι:Nat ->Gh}{s:S}{a:Act}{w:World}{o:Oper}{K:S ->Prop}
theorem abV (hr:Rel F N ι s a w)(J: ∀k,o.dst=some k ->k<N){args:Array Operand}{p:Array TypeId}{x:Operand}{t:TypeId}(R:o.op= .call {callee:=.builtin .len,args:=args,argTypes:=p})
 (j:args.toList=[x]) (T:p.toList=[t]) {z:AOp}(i:W6 P t x=some z) (h:zF P o.dst z s K):z= .slen (cO x)/\zx P F N o a w (λ_=>True) K:=by
 unfold W6 at i;split at i
 ·rename_i U;cases i;refine⟨rfl,?_⟩;have r:args= #[x]:=Array.toList_inj.1 (by grind);have l:p= #[t]:=Array.toList_inj.1 (by grind);simp only[zF]at h;have g:=xu hr x;split at h
  ·rename_i b I;rw[I]at g;have g:=yV g;refine zx.put hr J (v:=.int .i64 b.size) ?_ (yL rfl) h;intro w' _;simp[execOp,R,resolve,invoke,builtin,Builtin.len_,r,l,g,run_underlying U,goInt]
  grind
 ·cases i
theorem abS (hr:Rel F N ι s a w)(p: ∀k,o.dst=some k ->k<N){i dst:TypeId}{x:Operand}(r:o.op= .convert i dst x){z:AOp}(g:XL P i dst x=some z)(h:zF P o.dst z s K):
 (∃k,z= .conv k (cO x))/\zx P F N o a w (λ_=>True) K:=by
 unfold XL at g;split at g
 ·rename_i J hs;split at g
  ·rename_i k I;cases g;refine⟨⟨k,rfl⟩,?_⟩;simp only[zF]at h;have j:=xu hr x;split at h
   ·rename_i k' n l;rw[l]at j;have j:=yV j;refine zx.put hr p (v:=.int k (k.wrap n)) ?_ (yL rfl) h;intro w' _;simp[execOp,r,j,convert,run_underlying hs,run_underlying I,Conv.intToInt]
   grind
  ·cases g
 ·cases g
theorem ag5 (hr:Rel F N ι s a w)(l: ∀k,o.dst=some k ->k<N){b:UnOp}{t:TypeId}{x:Operand}(p:o.op= .unOp b t x){z:AOp}(g:Vk P b t x=some z)(h:zF P o.dst z s K):
 (z= .bnot (cO x)\/z= .ineg (cO x))/\zx P F N o a w (λ_=>True) K:=by
 unfold Vk at g;split at g
 ·cases g;refine⟨.inl rfl,?_⟩;simp only[zF]at h;split at h
  ·rename_i b j;have i:=YI j (vj hr x);refine zx.put hr l (v:=.bool (!b)) ?_ (yL rfl) h;simp_all[execOp,Op.unary]
  grind
 ·split at g
  ·cases g;refine⟨.inr rfl,?_⟩;simp only[zF]at h;have i:=xu hr x;split at h
   ·rename_i k n j;rw[j]at i;have i:=yV i;refine zx.put hr l (v:=.int k (k.wrap (0 - n))) ?_ (yL rfl) h;simp_all[execOp,Op.unary,Op.intArith]
   grind
  ·cases g
 ·cases g
theorem adZ (hr:Rel F N ι s a w)(R: ∀k,o.dst=some k ->k<N){b:BinOp}{t u:TypeId}{x y:Operand}(T:o.op= .binOp b t x y u){z:AOp}(r:Qu P b t x y=some z)(h:zF P o.dst z s K):
 ((∃neg,z= .beq neg (cO x) (cO y))\/ ∃l,z= .shf l (cO x) (cO y))/\zx P F N o a w (λ_=>True) K:=by
 have J: ∀neg,z= .beq neg (cO x) (cO y) ->P.underlying t=some .bool ->(b= .eql /\neg=false\/b= .neq /\neg=true) ->zx P F N o a w (λ_=>True) K:=by
  intro neg r ht I;subst r;simp only[zF]at h;split at h
  ·rename_i p q hp hq;have g:=YI hp (vj hr x);have i:=YI hq (vj hr y);refine zx.put hr R (v:=.bool (bif neg then p !=q else p==q)) ?_ (yL rfl) h;intro w' _;have he:(Op.equal t (.bool p) (.bool q)).run P w'= .ok (p==q) w':=run_equalIn_bool' w' 9999 t p q ht;rcases I with⟨rfl,rfl⟩|⟨rfl,rfl⟩<;>simp_all[execOp,eqGuard,binOp,bne]
  grind
 have aa: ∀l,z= .shf l (cO x) (cO y) ->(b= .shl /\l=true\/b= .shr /\l=false) ->zx P F N o a w (λ_=>True) K:=by
  intro l r I;subst r;simp only[zF]at h;have g:=xu hr x;have i:=xu hr y;split at h
  ·rename_i k m k1 n U hn;rw[U]at g;rw[hn]at i;have g:=yV g;have i:=yV i;have j: ¬n<0:=by grind
   refine zx.put hr R (v:=.int k (Vi l k m n)) ?_ (yL rfl) h.2;intro w' _;rcases I with⟨rfl,rfl⟩|⟨rfl,rfl⟩
   ·simp[execOp,T,g,i,eqGuard,binOp,Op.shift,j,Vi]
   ·simp[execOp,T,g,i,eqGuard,binOp,Op.shift,j,Vi]
  grind
 unfold Qu at r<;>grind
theorem UP {t:TypeId}{k:Nat}(h:kw P t=some k):(k=0 /\ ∃k',P.underlying t=some (.int k'))\/(k=1 /\P.underlying t=some .string)\/(k=2 /\P.underlying t=some .bool):=by
 grind[kw]
theorem ajv {f:Field}{r:List Field}{i:Nat}{l:List Nat}(h:ku P i (f::r)=some l): ∃k ks,l=k::ks /\f.offset=i /\f.name≠ "_" /\kw P f.type=some k /\P.plainKey f.type=true /\ku P (i+1) r=some ks:=by
 simp only[ku]at h;cases g:(Nat.beq f.offset i&& !(f.name== "_")&&P.plainKey f.type)
 ·grind
 ·rw[g]at h;simp only[cond_true]at h;simp only[Bool.and_eq_true,Bool.not_eq_true',beq_eq_false_iff_ne]at g
  grind[Nat.eq_of_beq_eq_true]
theorem aj1 {ok:Nat ->Prop}{k:Nat}{x y:C}{b:Bool}(h:afH k x y=some b){t:TypeId}(l:kw P t=some k){u v:Value}(o:CR ι w ok x u)(p:CR ι w ok y v)(d:Nat)(w':World):
 (Op.equalIn (d+1) t u v).run P w'= .ok b w':=by
 unfold afH at h;split at h
 ·rename_i r m I n;have i:=yV o;have j:=yV p;subst i;subst j;cases g:(Nat.beq k 0&&ul r I)
  ·grind
  ·rw[g]at h;cases h;rw[Bool.and_eq_true]at g;have hk:=Nat.eq_of_beq_eq_true g.1;have:=go g.2;subst this;subst hk;rcases UP l with⟨_,k',i⟩|⟨h,_⟩|⟨h,_⟩
   ·grind[run_equalIn_int]
   ·cases h
   ·cases h
 ·rename_i m n;have i:=yV o;have j:=yV p;subst i;subst j;cases g:Nat.beq k 1
  ·grind
  ·rw[g]at h;cases h;have hk:=Nat.eq_of_beq_eq_true g;subst hk;rcases UP l with⟨h,_⟩|⟨_,i⟩|⟨h,_⟩
   ·cases h
   ·exact run_equalIn_string w' d t m n i
   ·cases h
 ·grind[yV,Nat.eq_of_beq_eq_true,UP,run_equalIn_bool']
 ·cases h
theorem Qp {ok:Nat ->Prop}(d:Nat)(X Y:Array Value)(w':World): ∀(p:List Field) (i:Nat) (ks:List Nat),ku P i p=some ks -> ∀(xs g:List C) (b:Bool),CRs ι w ok xs (X.toList.drop i) ->CRs ι w ok g (Y.toList.drop i) ->
 jO ks xs g=some b ->(Op.eqFields (d+1) X Y p).run P w'= .ok b w'
 | [],i,ks,hf,xs,g,b,_,_,j=>by
   cases hf;cases xs with
   |nil=>cases g<;>simp_all[Op.eqFields,jO]
   |cons x xs=>grind[jO]
 |f::p,i,ks,hf,xs,g,b,l,o,j=>by
  obtain⟨k,ks,rfl,h1,h2,h3,h4,h5⟩:=ajv hf;cases xs with
  |nil=>grind[jO]
  |cons x xs=>
   cases g with
   |nil=>grind[jO]
   |cons y g=>
    simp only[jO]at j;split at j
    case h_2=>cases j
    rename_i b1 b2 aa ab;cases j;cases r:X.toList.drop i with
    |nil=>rw[r]at l;exact l.elim
    |cons u us=>
     cases R:Y.toList.drop i with
     |nil=>rw[R]at o;exact o.elim
     |cons v vs=>
      rw[r]at l;rw[R]at o;have J:X[i]? =some u:=by
       have:(X.toList.drop i)[0]? =some u:=by grind
       grind
      have U:Y[i]? =some v:=by
       have:(Y.toList.drop i)[0]? =some v:=by grind
       grind
      have I:X.toList.drop (i+1)=us:=by rw[<- List.drop_drop,r];rfl
      have T:Y.toList.drop (i+1)=vs:=by rw[<- List.drop_drop,R];rfl
      have ih:=Qp d X Y w' p (i+1) ks h5 xs g b2 (by rw[I];exact l.2) (by rw[T];exact o.2) ab;have ac:=run_part_plain (w:=w') h4 J;have ad:=run_part_plain (w:=w') h4 U;have heq:=aj1 aa h3 l.1 o.1 d w';simp only[Op.eqFields,h1,h2,ne_eq,not_false_eq_true,if_true,Sem.run_bind,ac,ad,heq,Result.andThen_ok];cases b1<;>simp_all
theorem ad2 (hr:Rel F N ι s a w)(hd: ∀k,o.dst=some k ->k<N){b:BinOp}{t u:TypeId}{x y:Operand}(ho:o.op= .binOp b t x y u){z:AOp}(j:WT P b t x y=some z)(h:zF P o.dst z s K):
 (∃neg ks,z= .eqa neg ks (cO x) (cO y))/\zx P F N o a w (λ_=>True) K:=by
 unfold WT at j;split at j
 case h_2=>cases j
 rename_i ks g;have ab: ∀neg,z= .eqa neg ks (cO x) (cO y) ->(b= .eql /\neg=false\/b= .neq /\neg=true) ->zx P F N o a w (λ_=>True) K:=by
  intro neg j hb;subst j;unfold aom at g;split at g
  case h_2=>cases g
  rename_i fs hu;cases l:(!P.stoodInHeld t&& !P.eqGuardType P.depth t)
  ·grind
  ·rw[l]at g;simp only[cond_true]at g;simp only[Bool.and_eq_true,Bool.not_eq_true']at l;simp only[zF]at h;split at h
   case h_2=>grind
   rename_i xs ys T aa;split at h
   case h_2=>grind
   rename_i r i;have I:=vj hr x;have U:=vj hr y;rw[T]at I;rw[aa]at U;obtain⟨X,hX,I⟩:=I;obtain⟨Y,hY,U⟩:=U;have J:P.fieldsOf t=fs:=by grind[Program.fieldsOf]
   have R:P.underlying t=some (.struct (P.fieldsOf t)):=by grind
   refine zx.put hr hd (v:=.bool (bif neg then !r else r)) ?_ (yL rfl) h;intro w' _;have ac:(Op.equalIn 10000 t (.agg X.toArray) (.agg Y.toArray)).run P w'= .ok r w':=by
    rw[run_equalIn_agg w' 9999 t X.toArray Y.toArray R l.1,J];exact Qp 9998 X.toArray Y.toArray w' fs.toList 0 ks g xs ys r (by simpa using I) (by grind) i
   have p:(eqGuard b t x y (.agg X.toArray) (.agg Y.toArray)).run P w'= .ok () w':=run_eqGuard_agg w' b t x y _ _ l.2;rcases hb with⟨rfl,rfl⟩|⟨rfl,rfl⟩<;>simp_all[execOp,run_eql_struct,run_neq_struct]
 grind
theorem aps {pl g:List (Nat×Pl)}{c:C}{x:D}(h:YR pl c=some (x,g)){p:Nat}{j:List C}(i:aget pl p=some (.box j)):aget g p=some (.box j):=by
 cases c with
 |own q z n=>
  grind[YR,qM]
 |d _=>cases h;exact i
 |nil=>cases h;exact i
 |clo f l=>cases l with
  |nil=>cases h;exact i
  |cons _ _=>cases h
 |dead=>cases h
 |sub _ _ _ _=>cases h
 |ptr _ _=>cases h
 |eptr _ _ _ _=>cases h
 |fp _=>cases h
theorem ag9: ∀{g:List C}{pl i:List (Nat×Pl)}{J:List D}(_:w6 pl g=some (J,i)) {p:Nat}{j:List C}(_:aget pl p=some (.box j)),aget i p=some (.box j)
 | [],_,_,_,h,_,_,r=>by cases h;exact r
 |c::g,pl,i,J,h,p,j,r=>by
  unfold w6 at h;cases l:YR pl c with
  |none=>rw[l]at h;cases h
  |some y=>
   obtain⟨x,I⟩:=y;rw[l]at h;simp only at h;cases o:w6 I g with
   |none=>rw[o]at h;cases h
   |some z=>
    obtain⟨xs,P⟩:=z;rw[o]at h;cases h;exact ag9 o (aps l r)
theorem ab4 {ok:Nat ->Prop}{b:Nat}: ∀{g:List D}{vs:List Value}{off:Nat},CRs ι w ok (g.map .d) vs ->(∀j v,vs[j]? =some v ->w.cell? ⟨b,off+j,none⟩=some v) ->RDc w ok b off g
 | [],_,_,_,_=>by grind[RDc]
 |d::g,[],_,h,_=>h.elim
 |d::g,v::vs,off,h,i=>by
  simp only[RDc];refine⟨⟨v,i 0 v rfl,h.1⟩,ab4 h.2 λj u l=>?_⟩;rw[show off+1+j=off+(j+1)by omega];exact i (j+1) u (by simpa using l)
theorem US (U:S): ∀(R:List Operand) {s:S}(_:s.sl=U.sl) (_:Rel F N ι s a w) {l:List (List D)}{g:List (Nat×Pl)}(_:frz U s.pl (R.map cO)=some (l,g)),
 Rel F N ι (s.withPl g) a w /\(∀b,F.ok ι s.pl w b ->F.ok ι g w b)/\RDf w (F.ok ι g w) (R.map a.eval) l
 | [],s,hs,hr,l,g,h=>by cases h;exact⟨hr,λ_ h=>h,by simp[RDf]⟩
 |x::r,s,hs,hr,l,g,h=>by
  have hx:CR ι w (F.ok ι s.pl w) (U.oc (cO x)) (a.eval x):=by
   have:=xu hr x;have e:s.oc (cO x)=U.oc (cO x):=by
    unfold S.oc S.o S.tmp;rw[hs]
   rwa[e]at this
  simp only[List.map_cons,frz]at h;split at h
  ·rename_i ds J;rw[J]at hx;obtain⟨b,o',T,h2,h3⟩:=hx;split at h
   ·rename_i l' P hl;cases h;obtain⟨g1,g2,g3⟩:=US U r hs hr hl;refine⟨g1,g2,?_⟩;simp only[List.map_cons,RDf];exact⟨b,o',_,by rw[T],g2 b h2,RDc.keep (λb i=>⟨g2 b i,rfl⟩) b h2 _ _ h3,g3⟩
   ·cases h
  ·rename_i p hp;rw[hp]at hx;obtain⟨b,T,h2⟩:=hx;split at h
   ·rename_i cs I;split at h
    case h_2=>cases h
    rename_i ds P J;split at h
    case h_2=>cases h
    rename_i l' ac hl;cases h;obtain⟨b',ab,e1,e2,e3⟩:=hr.places p _ I;rw[T]at e1;cases e1;obtain⟨g1,g2,g3⟩:=jY hr e3 J;have aa:aget P p=some (.box cs):=ag9 J I;obtain⟨k1,k2,k3⟩:=Rel.still (y:=.fbox ds) g1 aa rfl rfl (λm n=>⟨b,T,n b T,ab4 (CRs.keep (λb i=>⟨m b i,rfl⟩) (zU.refl w) _ _ g3) λj v hv=>by
     rw[e2.cell];simpa using hv⟩)
    obtain⟨q1,q2,q3⟩:=US U r (s:=s.withPl (yj p (.fbox ds) P)) hs k1 hl;refine⟨q1,λb i=>q2 b (k2 b (g2 b i)),?_⟩;simp only[List.map_cons,RDf];refine⟨b,0,_,by rw[h2],q2 b (k3 b T),?_,q3⟩;exact ab4 (CRs.keep (λb i=>⟨q2 b (k2 b i),rfl⟩) (zU.refl w) _ _ g3) λj v hv=>by rw[e2.cell];simpa using hv
   ·rename_i ds I;split at h
    case h_2=>cases h
    rename_i l' P hl;cases h;obtain⟨b',e1,e2,e3⟩:=hr.places p _ I;rw[T]at e1;cases e1;obtain⟨g1,g2,g3⟩:=US U r hs hr hl;refine⟨g1,g2,?_⟩;simp only[List.map_cons,RDf];exact⟨b,0,_,by rw[h2],g2 b e2,RDc.keep (λb i=>⟨g2 b i,rfl⟩) b e2 _ _ e3,g3⟩
   ·cases h
  ·cases h
theorem ako (hr:Rel F N ι s a w)(j: ∀k,o.dst=some k ->k<N){f:FuncId}{first g:Array Operand}(R:o.op= .makeFunc (.func f) first g)(J:first.toList.isEmpty=true)
 (h:zF P o.dst (.clof f (g.toList.map cO)) s K):yW P F N o a w K:=by
 simp only[zF]at h;split at h
 ·rename_i l r p;have i:first= #[]:=by
   grind
  obtain⟨g1,g2,g3⟩:=US s g.toList rfl hr p;refine yW.put g1 j (v:=.func (.func f) #[] (g.toList.map a.eval).toArray) ?_ (show VR ι w _ (cV (.d (.fn f l))) _ from ?_) h
  ·have I:g.map a.eval=(g.toList.map a.eval).toArray:=by
    grind
   simp_all[execOp,Instr.makeFunc]
  ·simp only[cV,VR,WR,CR,RD];exact⟨_,rfl,g3⟩
 grind
end
theorem V5 {α:Type}{z:Nat}: ∀(g:List (List α)) (off:Nat) (new:List (List α)),(∀x∈g,x.length=z) ->(∀x∈new,x.length=z) ->off+new.length<=g.length ->
 (z6 g off new).flatten=z6 g.flatten (off*z) new.flatten:=by
 intro g off new j J P;have p: ∀(l:List (List α)) (n:Nat),(∀x∈l,x.length=z) ->n<=l.length ->(l.take n).flatten=l.flatten.take (n*z):=by
  intro l;induction l with
  |nil=>grind
  |cons x r o=>
   intro n i R;cases n with
   |zero=>simp
   |succ n=>
    grind[Nat.add_mul]
 have I: ∀(l:List (List α)) (n:Nat),(∀x∈l,x.length=z) ->n<=l.length ->(l.drop n).flatten=l.flatten.drop (n*z):=by
  intro l;induction l with
  |nil=>grind
  |cons x r o=>
   intro n i R;cases n with
   |zero=>simp
   |succ n=>
    have U:x.length=z:=i x (by simp);simp only[List.drop_succ_cons,List.flatten_cons];rw[o n (λy T=>i y (by simp[T])) (by grind),show(n+1)*z=x.length+n*z by grind,List.drop_length_add_append]
 simp only[z6,List.flatten_append];rw[p g off j (by omega),I g _ j P,wG new J,Nat.add_mul]
theorem JS {α:Type}(l:List α)(off:Nat)(new:List α)(h:off+new.length<=l.length):(z6 l off new).length=l.length:=by
 grind[z6]
section
variable {P:Program}{F:Fr}{N:Nat}{ι:Nat ->Gh}{s:S}{a:Act}{w:World}{o:Oper}{K:S ->Prop}
theorem Rel.storeEls (hr:Rel F N ι s a w){p z:Nat}{i g:List (List D)}(U:aget s.pl p=some (.arr z i false)){b:Nat}(T:(ι p).b=some b)(hl:g.length=i.length)(ab: ∀e∈g,e.length=z)
 {q:Nat}{R:List D}{vs:List Value}(ae:g.flatten=z6 i.flatten q R) (I:CRs ι w (F.ok ι s.pl w) (R.map .d) vs) (hq:q+R.length<=i.length*z):
 ∃w',(storeCells (⟨b,q,none⟩:Addr) vs 0).run P w= .ok () w' /\Rel F N ι (s.withPl (yj p (.arr z g false) s.pl)) a w':=by
 obtain⟨ac,hn,af|⟨b',e1,e2,_,e4⟩⟩:=hr.places p _ U
 ·grind
 rw[T]at e1;cases e1;obtain⟨old,⟨ty,r⟩,aa⟩:=e4 rfl;have ah:vs.length=R.length:=by have:=I.length;grind
 have l:=run_storeCells_at P b q ty vs 0 old w r (by omega) (vY I);simp only[Nat.add_zero]at l;refine⟨_,l,?_⟩;have J:(old.toList.take q++vs++old.toList.drop (q+vs.length)).toArray.size=old.size:=by
  grind
 have hk:=VV hr p (.arr z i false) (.arr z g false) U rfl T (old.toList.take q++vs++old.toList.drop (q+vs.length)).toArray;have ag:=zU.setRow w b r J;obtain⟨us,g1,g2,g3⟩:=RDs.vals (ι:=ι) e2;refine hr.write p (.arr z i false) (.arr z g false) U rfl rfl T r J ⟨ac,by grind,.inr ⟨b,T,?_,(λhf=>by cases hf),(λ_=>⟨_,⟨ty,setRow_heap w b old _ ty (0,0) r⟩,by grind⟩)⟩⟩;refine Yh (ι:=ι) (vs:=z6 us q vs) ab ?_ ?_
 ·grind[z6,List.map_take,List.map_drop,CRs.keep,CRs.append,CRs.take,CRs.drop]
 ·intro j v o;rw[Nat.zero_add,cell_setRow_same w b _ old _ ty (0,0) r];simp only[z6]at o;have ad: ∀j v,us[j]? =some v ->old.toList[j]? =some v:=λj v o=>by
   have:=g3 j v o;rw[Nat.zero_add,cell_of_row w b j old ty (0,0) r]at this;rw[Array.getElem?_toList];exact this
  simp only[List.getElem?_toArray];rw[List.getElem?_append,List.getElem?_append]at o⊢;have t1:(us.take q).length=q:=by grind
  have t2:(old.toList.take q).length=q:=by grind
  simp only[List.length_append,t1,t2]at o⊢;split at o
  ·rename_i c1;rw[if_pos c1];split at o
   ·rename_i c2;rw[if_pos c2];rw[List.getElem?_take]at o⊢;simp_all
   simp_all
  simp_all[if_neg]
theorem abw (hr:Rel F N ι s a w){c:C}{v:Value}(l:CR ι w (F.ok ι s.pl w) c v){p z off n:Nat}(h:range c=some (p,z,off,n)){U:Nat}{g:List (List D)}{r:Bool}(R:aget s.pl p=some (.arr U g r)):
 ∃i cap,v= .slice i n cap /\off+n<=g.length+(if n=0 then off else 0)/\(n=0\/ ∃b,(ι p).b=some b /\i=some ⟨b,off*z,none⟩):=by
 have hn:=(hr.places p _ R).2.1;cases c with
 |own q T m=>
  cases h;rcases l with⟨j,I,J⟩|⟨b,cap,t,j,I,J,P,h5,h6⟩
  ·grind
  grind
 |sub q T o m=>
  cases h;obtain⟨i,cp,j,_,_,P⟩:=l<;>grind
 |_=>cases h
theorem aeE (hr:Rel F N ι s a w){c:C}{v:Value}(I:CR ι w (F.ok ι s.pl w) c v){l:List (List D)}(h:Je s.pl c=some l):
 ∃i cap,v= .slice i l.length cap /\ ∃ok:Nat ->Prop,(l=[]\/ ∃b q sz,i=some ⟨b,q,none⟩/\RDs w (F.ok ι s.pl w) b sz q l):=by
 cases c with
 |sub p z off n=>
  simp only[Je]at h;split at h
  ·rename_i z1 R fz hp;cases g:Nat.beq z z1<;>rw[g]at h
   ·cases h
   have g:=Nat.eq_of_beq_eq_true g;subst g;cases h;obtain⟨i,cp,o,_,_,r⟩:=I;rcases r with r|⟨b,J,P,e3⟩
   ·grind
   ·obtain⟨ab,hn,aa|⟨b',j,T,_⟩⟩:=hr.places p _ hp
    ·grind
    ·rw[J]at j;cases j;refine⟨i,cp,by grind,λ_=>True,.inr ⟨b,off*z,z,P,?_⟩⟩;have:=RDs.take n (RDs.drop off T)<;>grind
  ·cases h
 |_=>obtain⟨i,cap,o,U⟩:=Wq hr I h;exact⟨i,cap,o,λ_=>True,U⟩
theorem akr {t e:TypeId}(h:Nat.blt 0 (zE P e)=true): ∃i,P.info? e=some i /\i.size=zE P e /\0<zE P e:=by
 have g:zE P e≠0:=by have:=Nat.le_of_ble_eq_true h;omega
 grind[zE]
theorem amc (hr:Rel F N ι s a w)(I: ∀k,o.dst=some k ->k<N){args:Array Operand}{U:Array TypeId}{x:Operand}{t e:TypeId}(ho:o.op= .call {callee:=.builtin .cap,args:=args,argTypes:=U})
 (R:args.toList=[x]) (aa:U.toList=[t]) (ht:wo P t=some e) (h:zF P o.dst (.cap (cO x)) s K):zx P F N o a w (λ_=>True) K:=by
 simp only[zF]at h;have hu:=qK ht;have ha:args= #[x]:=Array.toList_inj.1 (by grind);have T:U= #[t]:=Array.toList_inj.1 (by grind);have g: ∀b m c,a.eval x= .slice b m c -> ∀w':World,True ->(execOp a.eval o).run P w'= .ok (.value (.int .i64 c)) w':=by
  intro b m c e1 w' _;simp[execOp,ho,resolve,invoke,builtin,Builtin.cap_,ha,T,e1,run_underlying hu,goInt]
 have i:=xu hr x;split at h
 ·rename_i l j;rw[j]at i;simp only[CR,RD]at i;obtain⟨ad,m,c,h1,J,r,h4,_⟩:=i;exact zx.put hr I (g _ _ _ h1) (yL rfl) (h c (by omega) (by grind[maxLen]))
 ·rename_i j;rw[j]at i;exact zx.put hr I (g _ _ _ i) (yL rfl) h
 ·rename_i p z m j;rw[j]at i;rcases i with⟨_,J,r⟩|⟨b,cap,ty,h1,J,r,h4,h5,_⟩
  ·subst J;exact zx.put hr I (g _ _ _ r) (yL rfl) (h 0 (Nat.le_refl _) (by omega))
  ·exact zx.put hr I (g _ _ _ r) (yL rfl) (h cap h4 (by grind[maxLen]))
 grind
theorem amf (hr:Rel F N ι s a w)(hd: ∀k,o.dst=some k ->k<N){args:Array Operand}{ts:Array TypeId}{x y:Operand}{t u e e':TypeId}(ho:o.op= .call {callee:=.builtin .copy,args:=args,argTypes:=ts})
 (ar:args.toList=[x,y]) (a7:ts.toList=[t,u]) (ht:wo P t=some e) (ac:Nat.blt 0 (zE P e)=true) (h:zF P o.dst (.cpy (zE P e) (cO x) (cO y)) s K):yW P F N o a w K:=by
 simp only[zF]at h;have hu:=qK ht;obtain⟨i,hi,a5,ac⟩:=akr (t:=t) ac;have ha:args= #[x,y]:=Array.toList_inj.1 (by grind);have R:ts= #[t,u]:=Array.toList_inj.1 (by grind);have hx:=xu hr x;have hy:=xu hr y;generalize s.oc (cO x)=cx at*;cases I:Je s.pl (s.oc (cO y))with
 |none=>rw[I]at h;exact h.elim
 |some l=>
 rw[I]at h;obtain⟨ad,cap,T,_,r⟩:=aeE hr hy I;unfold amw at h;simp only at h;split at h
 ·
  have hx:a.eval x= .slice none 0 0:=hx;refine(zx.put (C:=λ_=>True) hr hd (v:=.int .i64 0) ?_ (yL rfl) h).fine trivial;intro w' _;have av:(Builtin.firstCells (zE P e) 0 (.slice ad l.length cap)).run P w'= .ok #[] w':=by
   cases ad<;>simp_all[Builtin.firstCells,loadCells,loadCellsFrom]
  simp[execOp,ho,resolve,invoke,builtin,Builtin.copy_,ha,R,hx,T,run_underlying hu,goInt,Builtin.lenOf,qI hi,av]
 ·split at h
  case h_2=>grind
  rename_i p z off n ay;split at h
  case h_2=>grind
  rename_i z1 g hp;cases U:(Nat.beq z z1&&Nat.beq z (zE P e))<;>rw[U]at h
  ·grind
  simp only[cond_true]at h;rw[Bool.and_eq_true]at U;have e1:=Nat.eq_of_beq_eq_true U.1;have e2:=Nat.eq_of_beq_eq_true U.2;subst e1;obtain⟨hl,h⟩:=h;obtain⟨ai,a0,ag,au,ab⟩:=abw hr hx ay hp;have an:Nat.min l.length n=min l.length n:=rfl;have af: ∃j:List Value,j.length=(l.take n).length*zE P e /\CRs ι w (F.ok ι s.pl w) ((l.take n).flatten.map .d) j /\(Builtin.firstCells (zE P e) (min l.length n) (.slice ad l.length cap)).run P w= .ok j.toArray w:=by
   have a6:(l.take n).length=min l.length n:=by grind
   rcases r with rfl|⟨b,q,sz,rfl,r⟩
   ·refine⟨[],by simp,by simp[CRs],?_⟩;cases ad<;>simp_all[Builtin.firstCells,loadCells,loadCellsFrom]
   ·obtain⟨vs,g1,g2,g3⟩:=RDs.vals (ι:=ι) (RDs.take n r);have a8:vs.length=(l.take n).length*zE P e:=by
     have:=g1.length<;>grind[wG]
    grind[run_firstCells_some,qB]
  obtain⟨j,n1,n2,n3⟩:=af;have aj: ∀x∈g,x.length=z:=by
   obtain⟨_,_,a2|⟨b',_,f2,_⟩⟩:=hr.places p _ hp
   ·grind
   grind[RDs.len]
  by_cases ao:n=0
  ·subst ao;have ae:j=[]:=by
    simp_all
   subst ae;have ak:z6 g off (l.take 0)=g:=by simp[z6]
   rw[ak]at h;have a4:{s with pl:=yj p (.arr z g false) s.pl}={s with pl:=yj p (.arr z g false) s.pl}:=rfl;have hrel:Rel F N ι (s.withPl (yj p (.arr z g false) s.pl)) a w:=by
    refine hr.sub _ (λk v h=>h) (λq y hq=>?_);have ax:aget (yj p (.arr z g false) s.pl) q=some y:=hq;rw[yf]at ax;by_cases a3:p=q<;>simp_all
   refine yW.of_value (v:=.int .i64 (min l.length 0:Nat)) (w':=w) ?_ (Rel.put hrel o.dst hd _ _ (yL rfl)) h;have J: ∀ah,(storeCells ah ([]:List Value) 0).run P w= .ok () w:=λah=>by simp[storeCells]
   have aq:(Builtin.firstCells (zE P e) 0 (.slice ad l.length cap)).run P w= .ok #[] w:=by grind
   cases ai with
   |none=>simp[execOp,ho,resolve,invoke,builtin,Builtin.copy_,ha,R,ag,T,run_underlying hu,goInt,Builtin.lenOf,qI hi,aq]
   |some ai=>simp[execOp,ho,resolve,invoke,builtin,Builtin.copy_,ha,R,ag,T,run_underlying hu,goInt,Builtin.lenOf,qI hi,aq,J]
  ·rcases ab with ab|⟨b,hb,rfl⟩
   ·grind
   rw[if_neg ao]at au;have a1:(l.take n).length<=n:=List.length_take_le n l;have al: ∀x∈l.take n,x.length=z:=λx hx=>by grind
   have aa:off+(l.take n).length<=g.length:=by omega
   have aw:=V5 g off (l.take n) aj al aa;obtain⟨w',az,hrel⟩:=hr.storeEls (P:=P) hp hb (JS g off (l.take n) aa) (λx hx=>by
    grind[z6]) aw n2 (by
     rw[wG (l.take n) al,<- Nat.add_mul];simp_all[Nat.mul_le_mul_right])
   refine yW.of_value (v:=.int .i64 (min l.length n:Nat)) (w':=w') ?_ (Rel.put hrel o.dst hd _ _ (yL rfl)) h;simp[execOp,ho,resolve,invoke,builtin,Builtin.copy_,ha,R,ag,T,run_underlying hu,goInt,Builtin.lenOf,qI hi,an,n3,az]
theorem ame (hr:Rel F N ι s a w)(hd: ∀k,o.dst=some k ->k<N){args:Array Operand}{ts:Array TypeId}{x:Operand}{t e:TypeId}(ho:o.op= .call {callee:=.builtin .clear,args:=args,argTypes:=ts})
 (ai:args.toList=[x]) (a3:ts.toList=[t]) (ht:wo P t=some e) (az:Nat.blt 0 (zE P e)=true) {z:List D}{aw:List (Nat×Pl)}(hz:w6 [] (qh P e).cells=some (z,aw)) (ag:Nat.beq z.length (zE P e)=true) (av:w9 P e=true)
 (h:zF P o.dst (.clr (zE P e) z (cO x)) s K):yW P F N o a w K:=by
 simp only[zF]at h;have hu:=qK ht;obtain⟨i,l,hi,a6,a5⟩:=ZF av;have a2:i.size=zE P e:=by grind[zE]
 have ag:=Nat.eq_of_beq_eq_true ag;have ha:args= #[x]:=Array.toList_inj.1 (by grind);have R:ts= #[t]:=Array.toList_inj.1 (by grind);have U:=xu hr x;generalize s.oc (cO x)=cx at*;have T:(zeroValue e).run P w= .ok l w:=by simp_all[zeroValue,typeInfo]
 have a4:qh P e=ofValue l:=by grind[qh]
 have af:CRs ι w (F.ok ι s.pl w) (z.map .d) l.cells.toList:=by
  grind[Xx,Yi,ZH,uR]
 have j: ∀{a':Act}{s':S}{w':World},Rel F N ι s' a' w' ->Rel F N ι (s'.put o.dst xS) (a'.put o.dst (.tuple #[])) w':=λao=>Rel.put ao o.dst hd _ _ ⟨[],rfl,trivial⟩
 unfold amv at h;split at h
 ·have U:a.eval x= .slice none 0 0:=U;refine yW.of_value (v:=.tuple #[]) (w':=w) ?_ (j hr) h;simp[execOp,ho,resolve,invoke,builtin,Builtin.clear_,ha,R,U,run_underlying hu]
 ·split at h
  case h_2=>grind
  rename_i p z1 off n aq;split at h
  case h_2=>grind
  rename_i z2 g hp;cases r:(Nat.beq z1 z2&&Nat.beq z1 (zE P e))<;>rw[r]at h
  ·grind
  simp only[cond_true]at h;rw[Bool.and_eq_true]at r;have e1:=Nat.eq_of_beq_eq_true r.1;have e2:=Nat.eq_of_beq_eq_true r.2;subst e1;obtain⟨ah,ax,ae,aj,J⟩:=abw hr U aq hp;have aa: ∀x∈g,x.length=z1:=by
   obtain⟨_,_,a0|⟨b',_,f2,_⟩⟩:=hr.places p _ hp
   ·grind
   grind[RDs.len]
  by_cases ad:n=0
  ·subst ad;have ab:z6 g off (List.replicate 0 z)=g:=by simp[z6]
   rw[ab]at h;have hrel:Rel F N ι (s.withPl (yj p (.arr z1 g false) s.pl)) a w:=by
    refine hr.sub _ (λk v h=>h) (λq y hq=>?_);have an:aget (yj p (.arr z1 g false) s.pl) q=some y:=hq;rw[yf]at an;by_cases a1:p=q<;>simp_all
   refine yW.of_value (v:=.tuple #[]) (w':=w) ?_ (j hrel) h;cases ah<;>simp[execOp,ho,resolve,invoke,builtin,Builtin.clear_,ha,R,ae,run_underlying hu]
  ·rcases J with J|⟨b,hb,rfl⟩
   ·grind
   rw[if_neg ad]at aj;have ac: ∀x∈List.replicate n z,x.length=z1:=λx U=>by grind
   have I:off+(List.replicate n z).length<=g.length:=by grind
   have al:=V5 g off (List.replicate n z) aa ac I;have ak:=Zs af n;obtain⟨w',ar,hrel⟩:=hr.storeEls (P:=P) hp hb (JS g off (List.replicate n z) I) (λx U=>by
    grind[z6]) al ak (by
     rw[wG (List.replicate n z) ac,<- Nat.add_mul];simp_all[Nat.mul_le_mul_right])
   refine yW.of_value (v:=.tuple #[]) (w':=w') ?_ (j hrel) h;have au:(Builtin.zeroCells l.cells n).toList=(List.replicate n l.cells.toList).flatten:=by
    have ay:(List.replicate n l.cells.toList).flatten.length=n*l.cells.size:=by
     simp_all
    have hA:(Builtin.zeroCells l.cells n).toList=(List.range (n*l.cells.size)).map (λi=>l.cells[i%l.cells.size]!):=by simp[Builtin.zeroCells]
    rw[hA];apply List.ext_getElem?
    grind[q9,Array.length_toList]
   obtain⟨m,rfl⟩: ∃m,n=m+1:=⟨n - 1,by omega⟩;simp[execOp,ho,resolve,invoke,builtin,Builtin.clear_,ha,R,ae,run_underlying hu,T,au,ar]
theorem ami (hr:Rel F N ι s a w)(T: ∀k,o.dst=some k ->k<N){t e:TypeId}{x:Operand}{lo hi:Option Operand}(U:o.op= .slice t x lo hi none)(hu:P.underlying t=some (.slice e)){i:TypeInfo}(j:P.info? e=some i)
 (h:zF P o.dst (.slw (zE P e) (cO x) (lo.map cO) (hi.map cO)) s K):zx P F N o a w (λ_=>True) K:=by
 simp only[zF]at h;split at h
 case h_2=>grind
 rename_i lq hb r l;have r:=Y7 hr r;have l:=Y7 hr l;have J:=xu hr x;generalize s.oc (cO x)=cx at*;unfold amA at h;split at h
 ·rename_i p z n;cases hz:Nat.beq z (zE P e)with
  |false=>grind
  |true=>
   rw[hz]at h;have hz:=Nat.eq_of_beq_eq_true hz;simp only[cond_true]at h;obtain⟨I,g1,g2,h⟩:=h;have g3:zQ lq 0<=(n:Int):=by omega
   rcases J with⟨f1,f2,R⟩|⟨b,cap,ty,f1,f2,R,f4,f5,f6⟩
   ·subst f2;have g:=λ(w':World) (_:True)=>uY (o:=o) (w:=w') hu j U R r l I (by grind) (by omega)
    refine zx.put hr T g ?_ h;refine⟨_,_,rfl,by omega,by grind,.inl (by omega)⟩
   ·have g:=λ(w':World) (_:True)=>uY (o:=o) (w:=w') hu j U R r l I g1 (by omega)
    refine zx.put hr T g ?_ h;refine⟨_,_,rfl,by omega,by omega,?_⟩;by_cases hn:(zQ hb n).toNat -(zQ lq 0).toNat=0
    ·grind
    ·refine .inr ⟨b,f1,?_,by omega⟩;refine Eq.trans (if_neg (by omega)) ?_
     grind[qB]
 ·have J:a.eval x= .slice none 0 0:=J;obtain⟨I,g1,g2,h⟩:=h;have g:=λ(w':World) (_:True)=>uY (o:=o) (w:=w') hu j U J r l I (by grind) (by grind)
  have e1:(zQ lq 0).toNat=0:=by omega
  have e2:(zQ hb ((0:Nat):Int)).toNat=0:=by grind
  rw[e1,e2]at g;exact zx.put hr T g (show VR ι w _ (cV .nil) _ from by grind[cV,VR,WR]) h
 grind
theorem KM {α:Type}{c:Bool}{x y:α}(h:Y3 c x=some y):c=true /\x=y:=by
 cases c
 ·cases h
 ·cases h;grind
theorem amb (hr:Rel F N ι s a w)(r: ∀k,o.dst=some k ->k<N){b:Builtin}{args:Array Operand}{J:Array TypeId}(I:o.op= .call {callee:=.builtin b,args:=args,argTypes:=J}){z:AOp}(g:Qv P b args.toList J.toList=some z)
 (h:zF P o.dst z s K):yW P F N o a w K:=by
 unfold Qv at g;split at g
 ·split at g
  ·rename_i x t i j;split at g
   ·rename_i e p;cases g;exact(amc hr r I i j p h).fine trivial
   ·cases g
  ·cases g
 ·split at g
  ·rename_i x y t u i j;split at g
   ·rename_i e e' p U;obtain⟨l,rfl⟩:=KM g;rw[Bool.and_eq_true]at l;exact amf (e':=e') hr r I i j p l.1 h
   ·cases g
  ·cases g
 ·split at g
  ·rename_i x t i j;split at g
   ·rename_i e p;split at g
    ·rename_i zz T R;obtain⟨l,rfl⟩:=KM g;simp only[Bool.and_eq_true]at l
     grind[ame]
    ·cases g
   ·cases g
  ·cases g
 ·cases g
theorem gO {b:Builtin}{l:List Operand}{j:List TypeId}{z:AOp}(g:Qv P b l j=some z):z.quiet=false /\jl z=false /\ ∀i,z≠ .alloc i:=by
 unfold Qv at g;repeat' split at g
 all_goals first
  |(cases g;done)
  |(obtain⟨_,rfl⟩:=KM g;exact⟨rfl,rfl,λ_ h=>by cases h⟩)
  |(cases g;exact⟨rfl,rfl,λ_ h=>by cases h⟩)
end
section
variable {P:Program}{F:Fr}{N:Nat}{ι:Nat ->Gh}{s:S}{a:Act}{w:World}{o:Oper}{K:S ->Prop}
theorem Rel.noRow (hr:Rel F N ι s a w){d sz:Nat}(g:List Nat)(hk:isin d g=true)(i:0<sz)(l:F.h d=none):Rel F N (w8 ι d ⟨none,0⟩) (s.redo g [(d,.arr sz [] false)]) a w:=by
 refine hr.redo g [(d,.arr sz [] false)] _ w (λp j=>vJ ι _ (λe=>by grind)) (λ_ _ _=>rfl) (zU.refl w) rfl rfl (Out.refl w) (Nat.le_refl _) ?_ ?_ ?_ (λp x j=>by grind[yN])
 ·intro p q j;obtain⟨rfl,rfl⟩:=yN j;exact⟨i,by grind[zK],.inl ⟨by rw[zK],rfl⟩⟩
 ·grind[yN,zK]
 grind[yN]
def S.ownNil (s:S)(d p sz:Nat):S:=(s.redo [p] [(p,.arr sz [] false)]).put (some d) (cV (.own p sz 0))
theorem z7 {s:S}(d p sz:Nat)(l:0<sz)(I:p<100000)(h:aget s.sl d=some (cV .nil)):Y6 s (s.ownNil d p sz):=by
 intro F N ι a w hr;have r:F.h p=none:=by
  cases e:F.h p with
  |none=>rfl
  |some g=>have:=hr.hdom p g e;omega
 have hrel:=hr.noRow (d:=p) [p] (by simp[isin]) l r;obtain⟨x,o,j⟩:=hr.slots d _ h;have j:x= .slice none 0 0:=j;refine⟨_,{hrel with slots:=λk v i=>?_}⟩;have i:aget (yj d (cV (.own p sz 0)) (s.redo [p] [(p,.arr sz [] false)]).sl) k=some v:=i;rw[yf]at i;by_cases e:d=k
 ·rw[if_pos e]at i;cases i;subst e;exact⟨x,o,.inl ⟨by rw[zK],rfl,j⟩⟩
 ·rw[if_neg e]at i;exact hrel.slots k v i
theorem agt {t u ty e:TypeId}{k:IntKind}{i:TypeInfo}{z:Value}(U:P.underlying t=some (.slice e))(hu:P.underlying u=some (.int k))(hi:P.info? e=some i)(hz:i.zero=some z){k':IntKind}{n:Nat}(r:0<n)(J:0<i.size)
 (T:((n:Nat):Int)<=9223372036854775807) (g:n*i.bytes<=140737488355328):
 (Builtin.append_ #[t,u] ty #[.slice none 0 0,.int k' n]).run P w=
  .ok (.slice (some ⟨w.heap.size,0,none⟩) n (grownCap w n 0 e))
   (w.drew.alloc (.cells ((Builtin.zeroCells z.cells n).toList++(Builtin.zeroCells z.cells (grownCap w n 0 e - n)).toList).toArray e)):=by
 have hn: ¬(n<=0):=by omega
 have hw:IntKind.i64.wrap (n:Int)=n:=by grind[IntKind.wrap_i64]
 have l: ¬(9223372036854775807<(n:Int)):=by omega
 have R:=growslice_fits (old:=0) (need:=n) (bytes:=i.bytes) (by omega) g;have o: ¬(281474976710656<(n:Int)*(i.bytes:Int)):=by
  grind
 have j: ¬(281474976710656<Builtin.nextslicecap n 0*i.bytes):=by omega
 have I: ¬(n*i.size=0):=by
  have:0<n*i.size:=Nat.mul_pos r J;omega
 have p: ¬((n:Int)<0):=by omega
 simp[Builtin.append_,run_underlying U,run_underlying hu,sizeOf,typeInfo,zeroValue,hi,hz,hw,l,o,j,I,p,Question.forced,newRow,asInt,asIntOf,Builtin.firstCells];rw[if_neg (by omega)];have fin:(Builtin.zeroCells z.cells n++Builtin.zeroCells z.cells (grownCap w n 0 e - n))=((Builtin.zeroCells z.cells n).toList++(Builtin.zeroCells z.cells (grownCap w n 0 e - n)).toList).toArray:=by
  grind
 rw[<- fin];rfl
theorem aeF {t u ty e:TypeId}{k:IntKind}{i:TypeInfo}(g:P.underlying t=some (.slice e))(j:P.underlying u=some (.int k))(hi:P.info? e=some i){k':IntKind}:
 (Builtin.append_ #[t,u] ty #[.slice none 0 0,.int k' 0]).run P w= .ok (.slice none 0 0) w:=by
 have l:IntKind.i64.wrap 0=0:=by grind[IntKind.wrap_i64]
 simp[Builtin.append_,run_underlying g,run_underlying j,sizeOf,typeInfo,hi,l,asInt,asIntOf,Builtin.firstCells]
theorem ade (g:Array Value)(n:Nat):(Builtin.zeroCells g n).toList=(List.replicate n g.toList).flatten:=by
 have j:(List.replicate n g.toList).flatten.length=n*g.size:=by
  simp_all
 have hA:(Builtin.zeroCells g n).toList=(List.range (n*g.size)).map (λi=>g[i%g.size]!):=by simp[Builtin.zeroCells]
 rw[hA];apply List.ext_getElem?
 grind[q9,Array.length_toList]
theorem akn (hr:Rel F N ι s a w)(hd: ∀k,o.dst=some k ->k<N){args:Array Operand}{ts:Array TypeId}{x y:Operand}{t u e:TypeId}{k:IntKind}(ho:o.op= .call {callee:=.builtin .append,args:=args,argTypes:=ts})
 (ac:args.toList=[x,y]) (au:ts.toList=[t,u]) (ht:wo P t=some e) (hu:P.underlying u=some (.int k)) (ar:Nat.blt 0 (zE P e)=true) {z:List D}{aq:List (Nat×Pl)}(hz:w6 [] (qh P e).cells=some (z,aq)) (aa:Nat.beq z.length (zE P e)=true) (an:w9 P e=true)
 (h:zF P o.dst (.appz (zE P e) (wZ P e) z (cO x) (cO y)) s K):yW P F N o a w K:=by
 simp only[zF]at h;split at h
 case h_2=>grind
 rename_i d m g hx hm;obtain⟨g0,g1,g2,h⟩:=h;have T:=qK ht;obtain⟨i,zv,hi,ab,ao⟩:=ZF an;have aj:i.size=zE P e:=by grind[zE]
 have ad:i.bytes=wZ P e:=by grind[wZ]
 have aa:=Nat.eq_of_beq_eq_true aa;have ai:0<i.size:=by simp_all
 have ha:args= #[x,y]:=Array.toList_inj.1 (by grind);have ak:ts= #[t,u]:=Array.toList_inj.1 (by grind);have r:=xu hr x;rw[hx]at r;have r:a.eval x= .slice none 0 0:=r;obtain⟨k',al,_⟩:=uW hm (vj hr y);obtain⟨n,rfl⟩: ∃n:Nat,m=n:=⟨m.toNat,by omega⟩;simp only[Int.toNat_natCast]at h g1;have I: ∀v w',(Builtin.append_ #[t,u] o.type #[.slice none 0 0,.int k' n]).run P w= .ok v w' ->(execOp a.eval o).run P w= .ok (.value v) w':=by
  intro v w' hv;simp[execOp,ho,resolve,invoke,builtin,ha,ak,r,al,hv]
 by_cases hn:n=0
 ·subst hn;have hrel:=hr.noRow (d:=d) (sz:=zE P e) [d] (by simp[isin]) (by omega) (hr.h_slot (hd _ g));refine yW.of_value (ι':=w8 ι d ⟨none,0⟩) (I _ _ (by simpa using aeF (ty:=o.type) T hu hi)) ?_ h;rw[g];exact hrel.put (some d) (λk hk=>by grind) _ _ (.inl ⟨by rw[zK],rfl,rfl⟩)
 ·have R:=agt (w:=w) (ty:=o.type) (k':=k') T hu hi ab (n:=n) (by omega) ai g2 (by rw[ad];exact g1);obtain⟨l,p⟩: ∃l:Array Value,l=((Builtin.zeroCells zv.cells n).toList++(Builtin.zeroCells zv.cells (grownCap w n 0 e - n)).toList).toArray:=⟨_,rfl⟩;rw[<- p]at R;have J:=NewRow.draw w l e (0,0);have af:=grownCap_ge w n 0 e;have ag:=grownCap_le_maxLen w n 0 e (by grind[maxLen]);have ae:l.size=grownCap w n 0 e*i.size:=by
   rw[p];simp only[List.size_toArray,List.length_append,aee ab,ao,<- Nat.add_mul];congr 1;omega
  have U:CRs ι w (F.ok ι s.pl w) (z.map .d) zv.cells.toList:=by
   grind[Xx,qh,ZH,Yi,uR]
  have ah:=Zs U n;have hrel:=hr.newRow J d (.arr (zE P e) (List.replicate n z) false) [d] (by simp[isin]) n (hr.h_slot (hd _ g)) ⟨by omega,by grind[zK],.inr ⟨w.heap.size,by rw[zK],by
   refine Yh (ι:=ι) (vs:=(List.replicate n zv.cells.toList).flatten) (λq hq=>?_) ?_ ?_
   ·grind
   ·exact CRs.keep (jy hr J d _ [d] (by simp[isin]) _) J.shapes _ _ ah
   ·intro j v hv;rw[Nat.zero_add,J.cell,p]
    grind[ade],(λhf=>by cases hf),(λ_=>⟨l,⟨e,J.new⟩,by
    simp_all[Nat.mul_le_mul_right]⟩)⟩⟩
  refine yW.of_value (ι':=w8 ι d ⟨some w.heap.size,n⟩) (I _ _ R) ?_ h;rw[g];refine hrel.put (some d) (λk hk=>by grind) _ _ ?_;exact .inr ⟨w.heap.size,_,e,by rw[zK],by simp_all[zK],rfl,af,ag,by rw[J.shape,ae,aj]⟩
end
section
variable {P:Program}{F:Fr}{N:Nat}{ι:Nat ->Gh}{s:S}{a:Act}{w:World}{o:Oper}{K:S ->Prop}
theorem akN {ok:Nat ->Prop}: ∀{g:List D}{vs:List Value},CRs ι w ok (g.map .d) vs ->RDv w ok vs g
 | [],[],_=>by simp only[RDv]
 | [],_::_,h=>h.elim
 |_::_,[],h=>h.elim
 |d::r,v::vs,h=>by
  simp only[RDv];exact⟨v,vs,rfl,h.1,akN h.2⟩
theorem ab5 {ok:Nat ->Prop}: ∀{g:List D}{vs:List Value},RDv w ok vs g ->CRs ι w ok (g.map .d) vs
 | [],vs,h=>by simp only[RDv]at h;subst h;trivial
 |d::r,vs,h=>by
  simp only[RDv]at h;obtain⟨v,l,rfl,i,j⟩:=h;exact⟨i,ab5 j⟩
theorem amh (hr:Rel F N ι s a w)(I: ∀k,o.dst=some k ->k<N){t:TypeId}{x:Operand}(J:o.op= .makeInterface t x){p:Array Field}(R:P.underlying t=some (.struct p))(h:zF P o.dst (.mki t (cO x)) s K):yW P F N o a w K:=by
 simp only[zF]at h;have j:=afh hr x;split at h
 ·rename_i cs g;rw[g]at j;obtain⟨vs,T,r⟩:=j;split at h
  ·rename_i l U i;obtain⟨g1,g2,g3⟩:=jY hr r i;refine yW.put g1 I (v:=.iface t (.agg vs.toArray)) ?_ (show VR ι w _ (cV (.d (.ifc t l))) _ from ?_) h
   ·simp[execOp,J,Instr.makeInterface,run_underlying R,T]
   ·simp only[cV,VR,WR,CR,RD];exact⟨_,rfl,akN g3⟩
  ·exact h.elim
 ·exact h.elim
theorem ama (hr:Rel F N ι s a w)(J: ∀k,o.dst=some k ->k<N){t u:TypeId}{x:Operand}{c:Bool}(R:o.op= .typeAssert x u t c){fs:Array Field}(T:P.underlying t=some (.struct fs))(hc:c=true)(j:QL P t=true)(h:zF P o.dst (.ast t (qh P t) (cO x)) s K):yW P F N o a w K:=by
 simp only[zF]at h;have I:=xu hr x;subst hc;split at h
 ·rename_i u2 l hl;rw[hl]at I;simp only[CR,RD]at I;obtain⟨vs,U,r⟩:=I;cases p:Nat.beq u2 t with
  |true=>
   rw[p]at h;have e:=Nat.eq_of_beq_eq_true p;subst e;refine yW.put hr J (v:=.tuple #[.agg vs.toArray,.bool true]) (x:=.tup [.agg (l.map .d),.c (.d (.lit (.bool true)))]) ?_ ⟨[.agg vs.toArray,.bool true],rfl,⟨vs,rfl,ab5 r⟩,?_,trivial⟩ h
   ·simp[execOp,R,Instr.typeAssert,run_underlying T,U]
   ·simp[WR,CR,RD,Value.oneCell']
  |false=>
   rw[p]at h;have e:u2≠t:=λe=>by subst e;rw[Nat.beq_refl]at p;cases p
   unfold QL at j;unfold qh at h;cases hi:P.info? t with
   |none=>rw[hi]at j;cases j
   |some i=>
    simp only[hi]at j h;cases g:i.zero with
    |none=>rw[g]at j;cases j
    |some v=>
     simp only[g]at h;refine yW.put hr J (v:=.tuple #[v,.bool false]) (x:=.tup [ofValue v,.c (.d (.lit (.bool false)))]) ?_ ⟨[v,.bool false],rfl,Yi _ _ _ _,?_,trivial⟩ h
     ·simp[execOp,R,Instr.typeAssert,run_underlying T,U,e,zeroValue,typeInfo,hi,g]
     ·simp[WR,CR,RD,Value.oneCell']
 ·exact h.elim
theorem Ku {m:String}{t f:Nat}: ∀{n:Nat},aget (Ua P m n) t=some f ->abe P m t=some f
 |0,h=>by cases h
 |n+1,h=>by
  simp only[Ua]at h;split at h
  ·rename_i g j;simp only[aget]at h;cases i:Nat.beq n t with
   |true=>
    rw[i]at h;have e:=Nat.eq_of_beq_eq_true i;subst e;cases h;exact j
   |false=>rw[i]at h;exact Ku h
  ·exact Ku h
theorem alk {m:String}{t f:Nat}(h:abe P m t=some f): ∃j i x,P.underlying t=some (.struct j)/\P.info? t=some i /\i.methods.find? (λx=>x.name==m)=some x /\x.func=some (f,false)/\x.path= #[]:=by
 unfold abe at h;split at h
 ·rename_i j i o p;split at h
  ·rename_i x I;split at h
   ·rename_i g r;cases l:x.path.isEmpty with
    |true=>
     rw[l]at h;cases h;exact⟨j,i,x,o,p,I,r,Array.isEmpty_iff.1 l⟩
    |false=>rw[l]at h;cases h
   ·cases h
  ·cases h
 ·cases h
end
end Go.AM
