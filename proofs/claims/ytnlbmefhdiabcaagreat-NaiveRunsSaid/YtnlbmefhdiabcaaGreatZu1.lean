import Derived.Shelf.Strings.Search3
import Derived.Shelf.LaysM
import Derived.Ground.NamesProg
import Derived.Test.YtnlbmefhdiabcaaGreatProg
import Derived.Tactics2
import Derived.KernelRfl
import Derived.WalkKit
import Derived.Laws.StructEq
import Derived.ChangeKeysEq
set_option linter.unusedSimpArgs false
set_option linter.unusedVariables false
set_option maxRecDepth 100000
set_option maxHeartbeats 4000000
namespace Go.Proofs
section
open Go.Shelf
def Tryz.laysM144_ren:Go.Shelf.Ren:=⟨fun|144=>317|143=>325|219=>335|217=>235|225=>338|224=>339|267=>340|266=>275|314=>341|n=>n,fun|9=>9|4=>4|3=>3|5=>5|46=>147|146=>206|51=>205|n=>n,fun|1=>0|n=>n⟩
theorem Tryz.laysM144:Go.Proofs.LaysM.n144 Tryz.prog Tryz.laysM144_ren:={
 mixed:=by kernel_rfl
 f143:=Tryz.func325.trans (congrArg some (by kernel_rfl))
 f144:=Tryz.func317.trans (congrArg some (by kernel_rfl))
 f217:=Tryz.func235.trans (congrArg some (by kernel_rfl))
 f219:=Tryz.func335.trans (congrArg some (by kernel_rfl))
 f224:=Tryz.func339.trans (congrArg some (by kernel_rfl))
 f225:=Tryz.func338.trans (congrArg some (by kernel_rfl))
 f266:=Tryz.func275.trans (congrArg some (by kernel_rfl))
 f267:=Tryz.func340.trans (congrArg some (by kernel_rfl))
 f314:=Tryz.func341.trans (congrArg some (by kernel_rfl))
 t3:=Tryz.underlying3
 a3:=Tryz.isAgg3
 z3:=Tryz.sizeOf3
 v3:=Tryz.zeroValue3
 t4:=Tryz.underlying4
 a4:=Tryz.isAgg4
 z4:=Tryz.sizeOf4
 v4:=Tryz.zeroValue4
 t5:=Tryz.underlying5
 a5:=Tryz.isAgg5
 z5:=Tryz.sizeOf5
 v5:=Tryz.zeroValue5
 t9:=Tryz.underlying9
 a9:=Tryz.isAgg9
 z9:=Tryz.sizeOf9
 v9:=Tryz.zeroValue9
 t46:=Tryz.underlying147
 a46:=Tryz.isAgg147
 z46:=Tryz.sizeOf147
 v46:=Tryz.zeroValue147
 t51:=Tryz.underlying205
 a51:=Tryz.isAgg205
 z51:=Tryz.sizeOf205
 v51:=Tryz.zeroValue205
 t146:=Tryz.underlying206
 a146:=Tryz.isAgg206
 z146:=Tryz.sizeOf206
 v146:=Tryz.zeroValue206
 g1:=by kernel_rfl
 i3:=by kernel_rfl
 i4:=by kernel_rfl
 i5:=by kernel_rfl
 i9:=by kernel_rfl
 i46:=by kernel_rfl
 i51:=by kernel_rfl
 i146:=by kernel_rfl
 m1:=by kernel_rfl
 s1_3:=λw h=>Go.Proofs.cell_of_shapedOpen_int (zero:= #[.int .i64 0]) (t:=3) h (of_decide_eq_true (by kernel_rfl)) (by kernel_rfl) rfl (by kernel_rfl) (by kernel_rfl) Tryz.underlying3}
end
end Go.Proofs
namespace Go.AM
inductive D where
 |lit (v:Value)
 |sl (l:List (List D))
 |fn (f:FuncId) (caps:List (List D))
inductive C where
 |dead
 |d (x:D)
 |nil
 |ptr (p off:Nat)
 |eptr (p sz i k:Nat)
 |own (p sz len:Nat)
 |sub (p sz off n:Nat)
 |fp (cells:List D)
 |clo (f:FuncId) (caps:List Nat)
inductive W where
 |c (x:C)
 |agg (cs:List C)
inductive V where
 |w (x:W)
 |tup (xs:List W)
inductive Pl where
 |box (cells:List C)
 |arr (sz:Nat) (els:List (List D)) (fz:Bool)
 |fbox (ds:List D)
 |gone
structure S where
 sl:List (Nat×V)
 pl:List (Nat×Pl)
def aget {α:Type}:List (Nat×α) ->Nat ->Option α
 | [],_=>none
 |(k,v)::r,n=>bif Nat.beq k n then some v else aget r n
def yZ {α:Type}(n:Nat)(v:α):List (Nat×α) ->List (Nat×α)
 | []=> [(n,v)]
 |(k,u)::r=>bif Nat.beq k n then(n,v)::r else bif Nat.blt n k then(n,v)::(k,u)::r else(k,u)::yZ n v r
def isin (n:Nat):List Nat ->Bool
 | []=>false
 |k::r=>bif Nat.beq k n then true else isin n r
def XK:Value ->C
 | .slice none 0 0=>.nil
 | .bool b=>.d (.lit (.bool b))
 | .int k n=>.d (.lit (.int k n))
 | .string x=>.d (.lit (.string x))
 | .pointer none=>.d (.lit (.pointer none))
 | .map none=>.d (.lit (.map none))
 | .nilFunc=>.d (.lit .nilFunc)
 | .nilIface=>.d (.lit .nilIface)
 |_=>.dead
def ofValue:Value ->W
 | .agg cs=>.agg (cs.toList.map XK)
 |v=>.c (XK v)
def ass:V:=.w (.c .dead)
def wx:V:=.tup []
def S.tmp (s:S)(t:Nat):V:=match aget s.sl t with|some v=>v|none=>ass
def S.put (s:S)(dst:Option Tmp)(v:V):S:=
 match dst with
 |some d=>{s with sl:=yZ d v s.sl}
 |none=>s
def an1:C ->(C ->Prop) ->Prop
 | .dead,K=>K .dead
 | .d x,K=>K (.d x)
 | .nil,K=>K .nil
 | .ptr p o,K=>K (.ptr p o)
 | .eptr p z i k,K=>K (.eptr p z i k)
 | .own p z n,K=>K (.own p z n)
 | .sub p z o n,K=>K (.sub p z o n)
 | .fp l,K=>K (.fp l)
 | .clo f l,K=>K (.clo f l)
def gf:List C ->(List C ->Prop) ->Prop
 | [],K=>K []
 |x::r,K=>an1 x λx=>gf r λr=>K (x::r)
def ahv:W ->(W ->Prop) ->Prop
 | .c x,K=>an1 x λx=>K (.c x)
 | .agg cs,K=>gf cs λcs=>K (.agg cs)
def adX:List W ->(List W ->Prop) ->Prop
 | [],K=>K []
 |x::r,K=>ahv x λx=>adX r λr=>K (x::r)
def ahu:V ->(V ->Prop) ->Prop
 | .w x,K=>ahv x λx=>K (.w x)
 | .tup xs,K=>adX xs λxs=>K (.tup xs)
def ajd:Pl ->(Pl ->Prop) ->Prop
 | .box cs,K=>gf cs λcs=>K (.box cs)
 | .arr z g true,K=>K (.arr z g true)
 | .arr z g false,K=>K (.arr z g false)
 | .fbox i,K=>K (.fbox i)
 | .gone,K=>K .gone
def adW:List (Nat×V) ->(List (Nat×V) ->Prop) ->Prop
 | [],K=>K []
 |(k,v)::r,K=>ahu v λv=>adW r λr=>K ((k,v)::r)
def aaH:List (Nat×Pl) ->(List (Nat×Pl) ->Prop) ->Prop
 | [],K=>K []
 |(k,v)::r,K=>ajd v λv=>aaH r λr=>K ((k,v)::r)
def qa:S ->(S ->Prop) ->Prop
 |⟨sl,pl⟩,K=>adW sl λsl=>aaH pl λpl=>K ⟨sl,pl⟩
theorem akB (x:C)(K:C ->Prop):an1 x K=K x:=by cases x<;>rfl
theorem aaG: ∀(x:List C) (K:List C ->Prop),gf x K=K x
 | [],_=>rfl
 |x::r,K=>by simp only[gf,akB,aaG r]
theorem akD (x:W)(K:W ->Prop):ahv x K=K x:=by cases x<;>grind[ahv,akB,aaG]
theorem ahw: ∀(x:List W) (K:List W ->Prop),adX x K=K x
 | [],_=>rfl
 |x::r,K=>by simp only[adX,akD,ahw r]
theorem acw (x:V)(K:V ->Prop):ahu x K=K x:=by cases x<;>grind[ahu,akD,ahw]
theorem asB (x:Pl)(K:Pl ->Prop):ajd x K=K x:=by
 cases x with
 |box cs=>grind[ajd,aaG]
 |arr z g i=>cases i<;>rfl
 |fbox j=>rfl
 |gone=>rfl
theorem aht: ∀(x:List (Nat×V)) (K:List (Nat×V) ->Prop),adW x K=K x
 | [],_=>rfl
 |(_,_)::r,K=>by simp only[adW,acw,aht r]
theorem ae0: ∀(x:List (Nat×Pl)) (K:List (Nat×Pl) ->Prop),aaH x K=K x
 | [],_=>rfl
 |(_,_)::r,K=>by simp only[aaH,asB,ae0 r]
theorem xJ (s:S)(K:S ->Prop):qa s K=K s:=by simp_all[qa,aht,ae0]
def asW:C ->Option Value
 | .d (.lit v)=>some v
 | .nil=>some (.slice none 0 0)
 |_=>none
def amN:List C ->Option (List Value)
 | []=>some []
 |x::r=>match asW x,amN r with
  |some v,some l=>some (v::l)
  |_,_=>none
def ax1:W ->Option Value
 | .c x=>asW x
 | .agg cs=>match amN cs with
   |some l=>some (.agg l.toArray)
   |none=>none
def aoC:V ->Option Value
 | .w x=>ax1 x
 |_=>none
def gP {α:Type}(P:Program):Sem α ->Option α
 | .pure a=>some a
 | .program k=>gP P (k P)
 | .mark _ k=>gP P k
 |_=>none
def isSome {α:Type}:Option α ->Bool|some _=>true|none=>false
def W.cells:W ->List C
 | .c x=> [x]
 | .agg cs=>cs
def C.isDead:C ->Bool| .dead=>true|_=>false
def solid:List C ->Bool
 | []=>true
 |x::r=>bif x.isDead then false else solid r
def zP {α:Type}(l:List α)(off:Nat)(new:List α):List α:=l.take off++new++l.drop (off+new.length)
def C.kill (l:List Nat):C ->C
 | .ptr q o=>bif isin q l then .dead else .ptr q o
 | .eptr q sz i k=>bif isin q l then .dead else .eptr q sz i k
 | .own q sz n=>bif isin q l then .dead else .own q sz n
 | .sub q sz o n=>bif isin q l then .dead else .sub q sz o n
 | .clo f g=>bif g.any (λq=>isin q l)then .dead else .clo f g
 |x=>x
def W.kill (l:List Nat):W ->W
 | .c x=>.c (x.kill l)
 | .agg cs=>.agg (cs.map (C.kill l))
def V.kill (l:List Nat):V ->V
 | .w x=>.w (x.kill l)
 | .tup xs=>.tup (xs.map (W.kill l))
def Pl.kill (l:List Nat):Pl ->Pl
 | .box cs=>.box (cs.map (C.kill l))
 |x=>x
def qL {α:Type}(f:Nat ->Bool):List (Nat×α) ->List (Nat×α)
 | []=> []
 |(k,v)::r=>bif f k then(k,v)::qL f r else qL f r
def agX:List (Nat×Pl) ->List (Nat×Pl) ->List (Nat×Pl)
 | [],pl=>pl
 |(k,x)::r,pl=>yZ k x (agX r pl)
def ane {α β:Type}(f:α ->β):List (Nat×α) ->List (Nat×β)
 | []=> []
 |(k,v)::r=>(k,f v)::ane f r
def S.redo (s:S)(g:List Nat)(new:List (Nat×Pl)):S:=
 {sl:=ane (V.kill g) s.sl,pl:=agX new (ane (Pl.kill g) (qL (λk=>!isin k g) s.pl))}
def S.place (s:S)(p:Nat)(x:Pl):S:=s.redo [p] [(p,x)]
def vo (pl:List (Nat×Pl))(p:Nat):List (Nat×Pl):=
 match aget pl p with
 |some (.arr sz g _)=>yZ p (.arr sz g true) pl
 |_=>pl
def WD (pl:List (Nat×Pl)):C ->Option (D×List (Nat×Pl))
 | .d x=>some (x,pl)
 | .nil=>some (.sl [],pl)
 | .own p _ n=>match aget pl p with
   |some (.arr _ g _)=>some (.sl (g.take n),vo pl p)
   |_=>none
 | .clo f []=>some (.fn f [],pl)
 |_=>none
def jj (pl:List (Nat×Pl)):List C ->Option (List D×List (Nat×Pl))
 | []=>some ([],pl)
 |x::r=>match WD pl x with
  |some (y,g)=>match jj g r with
   |some (ys,i)=>some (y::ys,i)
   |none=>none
  |none=>none
def atO (pl:List (Nat×Pl)):W ->Option (W×List (Nat×Pl))
 | .c (.fp l)=>some (.c (.fp l),pl)
 | .c x=>match WD pl x with
   |some (y,g)=>some (.c (.d y),g)
   |none=>none
 | .agg cs=>match jj pl cs with
   |some (ys,g)=>some (.agg (ys.map .d),g)
   |none=>none
def abk (pl:List (Nat×Pl)):List W ->Option (List W×List (Nat×Pl))
 | []=>some ([],pl)
 |x::r=>match atO pl x with
  |some (y,g)=>match abk g r with
   |some (ys,i)=>some (y::ys,i)
   |none=>none
  |none=>none
structure Res where
 v:V
 pl:List Pl
def C.scalar:C ->Bool| .d (.lit _)=>true|_=>false
def W.scalar:W ->Bool| .c x=>x.scalar| .agg cs=>cs.all C.scalar
def V.scalar:V ->Bool| .w x=>x.scalar| .tup xs=>xs.all W.scalar
def vZ {α:Type}:List (Option α) ->Nat ->Option α
 | [],_=>none
 |x::_,0=>x
 |_::r,n+1=>vZ r n
def C.ren (l:List (Option Nat)):C ->C
 | .ptr q o=>match vZ l q with|some p=>.ptr p o|none=>.dead
 | .eptr q sz i k=>match vZ l q with|some p=>.eptr p sz i k|none=>.dead
 | .own q sz k=>match vZ l q with|some p=>.own p sz k|none=>.dead
 | .sub _ _ _ _=>.dead
 | .clo f []=>.clo f []
 | .clo _ _=>.dead
 | .d x=>.d x
 | .nil=>.nil
 | .fp l=>.fp l
 | .dead=>.dead
def W.ren (l:List (Option Nat)):W ->W| .c x=>.c (x.ren l)| .agg cs=>.agg (cs.map (C.ren l))
def V.ren (l:List (Option Nat)):V ->V| .w x=>.w (x.ren l)| .tup xs=>.tup (xs.map (W.ren l))
def Pl.ren (l:List (Option Nat)):Pl ->Pl
 | .box cs=>.box (cs.map (C.ren l))
 | .arr z g j=>.arr z g j
 | .fbox i=>.fbox i
 | .gone=>.gone
def ZK:Nat ->List Pl ->List (Nat×Pl)
 |_,[]=> []
 |n,x::r=>(n,x)::ZK (n+1) r
def Ze:List (Nat×Pl) ->List Nat
 | []=> []
 |(k,_)::r=>k::Ze r
def xi (d:Nat):Nat:=600000+16*d
def yg:Nat ->Nat ->List Nat
 |_,0=> []
 |i,n+1=>i::yg (i+1) n
def YI:List Nat ->List Pl ->List (Option Nat)
 |n::g,.gone::xs=>none::YI g xs
 |n::g,_::xs=>some n::YI g xs
 |_,_=> []
def xy:List Nat ->List Pl ->List (Nat×Pl)
 |_::g,.gone::xs=>xy g xs
 |n::g,x::xs=>(n,x)::xy g xs
 |_,_=> []
def W7:Nat ->List Nat ->List Pl ->List Nat
 |m+1,n::g,.gone::xs=>n::W7 m g xs
 |m+1,_::g,_::xs=>W7 m g xs
 |0,n::g,_::xs=>n::W7 0 g xs
 |_,_,_=> []
def uS:List Nat ->Bool
 | []=>true
 |x::r=>!isin x r&&uS r
def aec (s:S)(U:List Nat)(nb:Nat)(dst:Option Tmp)(r:Res):S:=
 (s.redo (W7 U.length (U++yg nb (r.pl.length - U.length)) r.pl)
  (xy (U++yg nb (r.pl.length - U.length)) (r.pl.map (Pl.ren (YI (U++yg nb (r.pl.length - U.length)) r.pl))))).put dst
  (r.v.ren (YI (U++yg nb (r.pl.length - U.length)) r.pl))
def U8 (U:List Nat)(nb:Nat)(r:Res):Bool:=uS (Ze (xy (U++yg nb (r.pl.length - U.length)) r.pl))
def ate (s g:S)(dst:Option Tmp)(r:Res):S:=
 match dst with
 |some d=>bif r.v.scalar then s.put (some d) r.v
  else aec g [] (xi d) (some d) r
 |none=>s
def idx (p:Nat):List Nat ->Option Nat
 | []=>none
 |k::r=>bif Nat.beq k p then some 0 else match idx p r with|some i=>some (i+1)|none=>none
def C.pk (pl:List (Nat×Pl))(U:List Nat):C ->C
 | .own p z n=>match aget pl p with
   |some (.arr _ _ false)=>match idx p U with|some k=>.own k z n|none=>.dead
   |some (.arr _ g true)=>.d (.sl (g.take n))
   |_=>.dead
 | .ptr p o=>match aget pl p with
   |some (.box _)=>match idx p U with|some k=>.ptr k o|none=>.dead
   |some (.fbox i)=>.fp (i.drop o)
   |_=>.dead
 | .d x=>.d x
 | .nil=>.nil
 | .clo f []=>.d (.fn f [])
 | .fp l=>.fp l
 |_=>.dead
def W.pk (pl:List (Nat×Pl))(U:List Nat):W ->W| .c x=>.c (x.pk pl U)| .agg cs=>.agg (cs.map (C.pk pl U))
def V.pk (pl:List (Nat×Pl))(U:List Nat):V ->V| .w x=>.w (x.pk pl U)| .tup xs=>.tup (xs.map (W.pk pl U))
def kA (pl:List (Nat×Pl))(U:List Nat)(k p:Nat):Pl:=
 match idx p U with
 |some i=>bif Nat.beq i k then
  match aget pl p with
  |some (.box cs)=>.box (cs.map (C.pk pl U))
  |some (.arr z g false)=>.arr z g false
  |_=>.gone
  else .gone
 |none=>.gone
def Zg (pl:List (Nat×Pl))(U:List Nat):Nat ->List Nat ->List Pl
 |_,[]=> []
 |k,p::r=>kA pl U k p::Zg pl U (k+1) r
def C.refs:C ->List Nat
 | .ptr p _=> [p]
 | .eptr p _ _ _=> [p]
 | .own p _ _=> [p]
 | .sub p _ _ _=> [p]
 | .clo _ g=>g
 |_=> []
def gS:List C ->List Nat
 | []=> []
 |x::r=>x.refs++gS r
def W.refs:W ->List Nat
 | .c x=>x.refs
 | .agg cs=>gS cs
def YN:List W ->List Nat
 | []=> []
 |x::r=>x.refs++YN r
def V.refs:V ->List Nat
 | .w x=>x.refs
 | .tup xs=>YN xs
def wC (pl:List (Nat×Pl)):List Nat ->List Nat ->List Nat
 |U,[]=>U
 |U,p::r=>match aget pl p with
  |some (.box _)=>bif isin p U then wC pl U r else wC pl (U++[p]) r
  |some (.arr _ _ false)=>bif isin p U then wC pl U r else wC pl (U++[p]) r
  |_=>wC pl U r
def at?:List Nat ->Nat ->Option Nat
 | [],_=>none
 |x::_,0=>some x
 |_::r,n+1=>at? r n
def UV (pl:List (Nat×Pl)):Nat ->Nat ->List Nat ->List Nat
 |0,_,U=>U
 |n+1,i,U=>match at? U i with
  |some p=>match aget pl p with
   |some (.box cs)=>UV pl n (i+1) (wC pl U (gS cs))
   |_=>UV pl n (i+1) U
  |none=>U
def uM (pl:List (Nat×Pl))(U l:List Nat):List Nat:=UV pl 40 0 (wC pl U l)
def aB0 (pl:List (Nat×Pl))(U:List Nat)(v:V):Res:=⟨v.pk pl U,Zg pl U 0 U⟩
def azL (pl:List (Nat×Pl))(U:List Nat)(v:V):Res:=aB0 pl (uM pl U v.refs) v
mutual
def RD (w:World)(ok:Nat ->Prop):D ->Value ->Prop
 | .lit v,x=>x=v /\v.oneCell'=true
 | .sl l,x=> ∃a n c,x= .slice a n c /\n=l.length /\n<=c /\c<=maxLen /\(l=[]\/ ∃b o sz,a=some ⟨b,o,none⟩/\ok b /\RDs w ok b sz o l)
 | .fn f g,x=> ∃vs:List Value,x= .func (.func f) #[] vs.toArray /\RDf w ok vs g
def RDs (w:World)(ok:Nat ->Prop)(b sz:Nat):Nat ->List (List D) ->Prop
 |_,[]=>True
 |o,e::r=>e.length=sz /\RDc w ok b o e /\RDs w ok b sz (o+sz) r
def RDc (w:World)(ok:Nat ->Prop)(b:Nat):Nat ->List D ->Prop
 |_,[]=>True
 |o,d::r=>(∃v,w.cell? ⟨b,o,none⟩=some v /\RD w ok d v)/\RDc w ok b (o+1) r
def RDf (w:World)(ok:Nat ->Prop):List Value ->List (List D) ->Prop
 |vs,[]=>vs=[]
 |vs,c::r=> ∃b o g,vs= .pointer (some ⟨b,o,none⟩)::g /\ok b /\RDc w ok b o c /\RDf w ok g r
end
structure Gh where
 b:Option Nat
 n:Nat
def CR (ι:Nat ->Gh)(w:World)(ok:Nat ->Prop):C ->Value ->Prop
 | .dead,_=>True
 | .d x,v=>RD w ok x v
 | .nil,v=>v= .slice none 0 0
 | .ptr p off,v=> ∃b,(ι p).b=some b /\v= .pointer (some ⟨b,off,none⟩)
 | .eptr p sz i k,v=> ∃b,(ι p).b=some b /\v= .pointer (some ⟨b,i*sz+k,none⟩)
 | .own p sz n,v=>((ι p).b=none /\n=0 /\v= .slice none 0 0)\/
  ∃b cap t,(ι p).b=some b /\n<=(ι p).n /\v= .slice (some ⟨b,0,none⟩) n cap /\n<=cap /\cap<=maxLen /\w.shape? b=some (t,cap*sz)
 | .sub p sz off n,v=> ∃j c,v= .slice j n c /\n<=c /\c<=maxLen /\(n=0\/ ∃b,(ι p).b=some b /\j=some ⟨b,off*sz,none⟩/\off+n<=(ι p).n)
 | .fp cells,v=> ∃b o,v= .pointer (some ⟨b,o,none⟩)/\ok b /\RDc w ok b o cells
 | .clo f g,v=> ∃l:List Nat,g.map (λp=>(ι p).b)=l.map some /\v= .func (.func f) #[] (l.map λb=>Value.pointer (some ⟨b,0,none⟩)).toArray
def CRs (ι:Nat ->Gh)(w:World)(ok:Nat ->Prop):List C ->List Value ->Prop
 | [],[]=>True
 |c::cs,v::vs=>CR ι w ok c v /\CRs ι w ok cs vs
 |_,_=>False
def WR (ι:Nat ->Gh)(w:World)(ok:Nat ->Prop):W ->Value ->Prop
 | .c x,v=>CR ι w ok x v
 | .agg cs,v=> ∃vs:List Value,v= .agg vs.toArray /\CRs ι w ok cs vs
def qK (ι:Nat ->Gh)(w:World)(ok:Nat ->Prop):List W ->List Value ->Prop
 | [],[]=>True
 |c::cs,v::vs=>WR ι w ok c v /\qK ι w ok cs vs
 |_,_=>False
def VR (ι:Nat ->Gh)(w:World)(ok:Nat ->Prop):V ->Value ->Prop
 | .w x,v=>WR ι w ok x v
 | .tup xs,v=> ∃vs:List Value,v= .tuple vs.toArray /\qK ι w ok xs vs
def RowAt (w:World)(b:Nat)(g:Array Value):Prop:= ∃t,w.heap[b]? =some (.cells g t (0,0))
def PR (ι:Nat ->Gh)(w:World)(ok:Nat ->Prop)(p:Nat):Pl ->Prop
 | .box cs=> ∃b g,(ι p).b=some b /\RowAt w b g /\CRs ι w ok cs g.toList
 | .arr sz i j=>0<sz /\i.length=(ι p).n /\(((ι p).b=none /\i=[])\/
  ∃b,(ι p).b=some b /\RDs w ok b sz 0 i /\(j=true ->ok b)/\(j=false -> ∃g,RowAt w b g /\i.length*sz<=g.size))
 | .fbox l=> ∃b,(ι p).b=some b /\ok b /\RDc w ok b 0 l
 | .gone=>False
def Pl.live:Pl ->Bool
 | .box _=>true
 | .arr _ _ g=>!g
 | .fbox _=>false
 | .gone=>false
def Owns (ι:Nat ->Gh)(pl:List (Nat×Pl))(b:Nat):Prop:= ∃p x,aget pl p=some x /\x.live=true /\(ι p).b=some b
structure Fr where
 w0:World
 A:Nat ->Prop
 M:Nat ->Prop
 h:Nat ->Option Gh
def Fr.ok (F:Fr)(ι:Nat ->Gh)(pl:List (Nat×Pl))(w:World)(b:Nat):Prop:=
 (F.A b\/F.M b\/F.w0.heap.size<=b)/\b<w.heap.size /\ ¬Owns ι pl b
def Out (w w':World):Prop:=w'.output=w.output /\w.drawn<=w'.drawn
theorem Out.refl (w:World):Out w w:=⟨rfl,Nat.le_refl _⟩
theorem Out.trans {a b c:World}(k:Out b c)(h:Out a b):Out a c:=⟨k.1.trans h.1,Nat.le_trans h.2 k.2⟩
structure Grows (M:Nat ->Prop)(w w':World):Prop where
 os:w'.os=w.os
 tape:w'.tape=w.tape
 output:Out w w'
 size:w.heap.size<=w'.heap.size
 block: ∀b,b<w.heap.size -> ¬M b ->w'.heap[b]? =w.heap[b]?
 shapes: ∀b t m,w.shape? b=some (t,m) ->w'.shape? b=some (t,m)
def gl (k:Nat):Bool:=Nat.blt k 1
def Glb (A:Nat ->Prop)(w:World):Prop:= ∀k,gl k=true ->A k /\ ∃m,w.cell? ⟨k,0,none⟩=some (.int .i64 m)
structure Rel (F:Fr)(N:Nat)(ι:Nat ->Gh)(s:S)(a:Act)(w:World):Prop where
 room:N<=a.tmps.size /\ ∀g,F.h 599999=some g ->a.tmps.size=g.n
 slots: ∀k v,aget s.sl k=some v -> ∃x,a.tmps[k]? =some x /\VR ι w (F.ok ι s.pl w) v x
 places: ∀p x,aget s.pl p=some x ->PR ι w (F.ok ι s.pl w) p x
 inj: ∀p q x y b,aget s.pl p=some x ->aget s.pl q=some y ->p≠q ->x.live=true ->(ι p).b=some b ->(ι q).b≠some b
 mine: ∀b,Owns ι s.pl b ->(F.M b\/F.w0.heap.size<=b)/\b<w.heap.size
 defers:a.defers=[]
 grows:Grows F.M F.w0 w
 foreign: ∀b,F.A b ->b<F.w0.heap.size /\ ¬F.M b
 handed:(∀b,F.M b ->b<F.w0.heap.size)/\Glb F.A F.w0
 few:N<=5000
 hdom: ∀p g,F.h p=some g ->100000<=p /\p<600000
 hkeep: ∀p x g,aget s.pl p=some x ->F.h p=some g ->ι p=g
def WE (s t:S):Prop:= ∀(F:Fr) (N:Nat) (ι:Nat ->Gh) (a:Act) (w:World),Rel F N ι s a w -> ∃ι',Rel F N ι' t a w
theorem WE.refl (s:S):WE s s:=λ_ _ ι _ _ h=>⟨ι,h⟩
theorem WE.trans {s t u:S}(h:WE s t)(k:WE t u):WE s u:=λF N ι a w hr=>let⟨ι1,g⟩:=h F N ι a w hr;k F N ι1 a w g
def amZ (F:Fr)(ι0:Nat ->Gh)(m:Nat)(w':World)(r:Res)(v:Value):Prop:=
 m<=r.pl.length /\ ∃ι:Nat ->Gh,
  let pl:=xy (yg 0 r.pl.length) r.pl
  let ok:=F.ok ι pl w'
  VR ι w' ok r.v v /\(∀p x,aget pl p=some x ->PR ι w' ok p x)/\(∀p q x y b,aget pl p=some x ->aget pl q=some y ->p≠q ->(ι p).b=some b ->(ι q).b≠some b)/\
  (∀p x b,aget pl p=some x ->(ι p).b=some b ->F.M b\/F.w0.heap.size<=b)/\(∀p x,aget pl p=some x ->x.live=true)/\(∀p x,p<m ->aget pl p=some x ->ι p=ι0 p)
def aal (F:Fr)(w':World)(r:Res)(v:Value):Prop:=amZ F (λ_=>⟨none,0⟩) 0 w' r v
def qQ (P:Program)(k:Nat):Bool:=
 match P.funcs[k]? with
 |some fn=>fn.body.isSome&& !(fn.name== "runtime.NumGoroutine")
 |none=>false
def Sat (P:Program)(k:Nat)(args:List W)(Q:Res ->Prop):Prop:=
 qQ P k=true /\ ∀(w:World) (A:Nat ->Prop) (g:List Value),((∀b,A b ->b<w.heap.size)/\Glb A w) ->qK (λ_=>⟨none,0⟩) w A args g ->
  Calls P k g.toArray w λe w'=> ∃v r,e= .returned v /\Q r /\aal ⟨w,A,λ_=>False,λ_=>none⟩ w' r v /\Grows (λ_=>False) w w'
theorem Sat.mono {P:Program}{k:Nat}{args:List W}{Q i:Res ->Prop}(h:Sat P k args Q)(J: ∀r,Q r ->i r):Sat P k args i:=
 ⟨h.1,λw A g j l=>(h.2 w A g j l).mono λ_ _ ⟨v,r,I,o,p⟩=>⟨v,r,I,J r o,p⟩⟩
def QK (ι:Nat ->Gh)(hs:List Pl)(b:Nat):Prop:= ∃i x,hs[i]? =some x /\(ι i).b=some b
def zQ (P:Program)(k:Nat)(args:List W)(hs:List Pl)(Q:Res ->Prop):Prop:=
 qQ P k=true /\ ∀(w:World) (A:Nat ->Prop) (ι:Nat ->Gh) (g:List Value),(∀b,A b ->b<w.heap.size /\ ¬QK ι hs b) ->((∀b,QK ι hs b ->b<w.heap.size)/\Glb A w) ->
  (∀i x,hs[i]? =some x ->PR ι w A i x /\x.live=true) ->(∀i j x y b,hs[i]? =some x ->hs[j]? =some y ->i≠j ->(ι i).b=some b ->(ι j).b≠some b) ->qK ι w A args g ->
  Calls P k g.toArray w λe w'=> ∃v r,e= .returned v /\Q r /\amZ ⟨w,A,QK ι hs,λ_=>none⟩ ι hs.length w' r v /\Grows (QK ι hs) w w'
theorem zQ.mono {P:Program}{k:Nat}{args:List W}{hs:List Pl}{Q i:Res ->Prop}(h:zQ P k args hs Q)(U: ∀r,Q r ->i r):zQ P k args hs i:=
 ⟨h.1,λw A ι g j l o p I=>(h.2 w A ι g j l o p I).mono λ_ _ ⟨v,r,T,J,R⟩=>⟨v,r,T,U r J,R⟩⟩
inductive O where
 |t (n:Nat)
 |k (v:V)
inductive AOp where
 |mov (x:O)
 |pick (c a b:O)
 |alloc (cs:List C)
 |bx (x:O)
 |build (zero:List C) (parts:List (Nat×Nat×O))
 |lits (sz:Nat) (parts:List O)
 |ld (agg:Bool) (sz:Nat) (x:O)
 |st (sz:Nat) (a x:O)
 |nc (x:O)
 |b2s (x:O)
 |s2b (x:O)
 |clo (f:Nat) (caps:List O)
 |clof (f:Nat) (caps:List O)
 |slen (x:O)
 |cap (x:O)
 |cpy (sz:Nat) (x y:O)
 |clr (sz:Nat) (z:List D) (x:O)
 |slw (sz:Nat) (x:O) (lo hi:Option O)
 |bnot (x:O)
 |ineg (x:O)
 |beq (neg:Bool) (x y:O)
 |shf (left:Bool) (x y:O)
 |stop
 |conv (k:IntKind) (x:O)
 |eqa (neg:Bool) (ks:List Nat) (x y:O)
 |callh (f:Nat) (args:List O)
 |mk (sz bytes:Nat) (z:List D) (n c:O)
 |sli (sz:Nat) (x:O) (lo hi:Option O)
 |sls (x:O) (lo hi:Option O)
 |fa (off:Nat) (x:O)
 |fld (agg:Bool) (sz off:Nat) (x:O)
 |ia (sz:Nat) (x i:O)
 |six (x i:O)
 |ext (x:O) (i:Nat)
 |len (x:O)
 |app (sz bytes:Nat) (x y:O)
 |apps (x y:O)
 |appz (sz bytes:Nat) (z:List D) (x n:O)
 |bin (o:BinOp) (x y:O)
 |isn (neg:Bool) (x:O)
 |mm (mx:Bool) (x y:O)
 |pure (o:Op) (ty:TypeId)
 |call (f:Nat) (args:List O)
 |calv (x:O) (args:List O)
inductive AI where
 |mk (dst:Option Nat) (g:Option (Nat×Bool)) (isG:Bool) (op:AOp) (drop:List Nat)
inductive ATr where
 |fin
 |run (ops:List AI) (t:ATr)
 |br (a b:ATr)
inductive ACode where
 |skip
 |reg (ops:List AI)
 |seq (a b:ACode)
 |cond (c:O) (a b:ACode)
 |block (id:Nat) (a:ACode)
 |loop (keep:List Nat) (a:ACode)
 |scope (a:ACode)
 |exit (id:Nat)
 |ret
 |tree (t:ATr)
inductive ARes where
 |tmp (t:Nat)
 |cell (a:Nat) (agg:Bool) (sz:Nat)
structure AFun where
 code:ACode
 res:List ARes
def z0 (P:Program)(t:TypeId):Nat:=match P.info? t with|some i=>i.size|none=>0
def uZ (P:Program)(t:TypeId):Nat:=match P.info? t with|some i=>i.bytes|none=>0
def kI (P:Program)(t:TypeId):Option Bool:=match P.underlying t with|some (.struct _)=>some true|some (.array _ _)=>some true|some _=>some false|none=>none
def vP (P:Program)(t:TypeId):W:=match P.info? t with|some i=>(match i.zero with|some v=>ofValue v|none=>.c .dead)|none=>.c .dead
def uk (P:Program)(t:TypeId):Option TypeId:=match P.underlying t with|some (.slice e)=>some e|_=>none
def JY (P:Program)(t:TypeId)(f:Nat):Option (Nat×TypeId):=
 match P.underlying t with
 |some (.struct g)=>match g[f]? with|some x=>some (x.offset,x.type)|none=>none
 |_=>none
def wo (P:Program)(t:TypeId)(s:Bool):Bool:=
 match P.underlying t with
 |some .string=>s
 |some (.slice e)=>match P.underlying e with|some (.int .u8)=>!s|_=>false
 |_=>false
def ahA (P:Program):List Field ->Bool
 | []=>true
 |f::r=>bif isSome (P.info? f.type)then ahA P r else false
def aje (P:Program)(t:TypeId):Bool:=match P.info? t with|some i=>isSome i.zero|none=>false
def u6 (P:Program)(t:TypeId):Bool:=match P.info? t with|some i=>(match i.zero with|some z=>Nat.beq z.cells.size i.size|none=>false)|none=>false
def adZ (P:Program)(t:TypeId):Bool:=
 match P.underlying t with
 |some (.int _)=>true
 |some .string=>true
 |_=>false
def aa4:BinOp ->Bool
 | .quo=>true| .rem=>true| .and=>true| .or=>true| .xor=>true| .andNot=>true
 | .add=>true| .sub=>true| .mul=>true| .eql=>true| .neq=>true| .lss=>true| .leq=>true| .gtr=>true| .geq=>true
 |_=>false
def gO (P:Program)(b:BinOp)(t:TypeId)(y:Operand):Option Bool:=
 match y with
 | .const (.slice none _ _)=>match P.underlying t with
   |some (.slice _)=>match b with
    | .eql=>some false
    | .neq=>some true
    |_=>none
   |_=>none
 |_=>none
def cO:Operand ->O
 | .tmp t=>.t t
 | .const v=>.k (.w (ofValue v))
 | .global _=>.k ass
 | .func f=>.k (.w (.c (.clo f [])))
def adV (P:Program)(t:TypeId):Option Nat:=
 match P.underlying t with
 |some (.int _)=>some 0
 |some .string=>some 1
 |some .bool=>some 2
 |_=>none
def adU (P:Program):Nat ->List Field ->Option (List Nat)
 |_,[]=>some []
 |o,f::r=>bif Nat.beq f.offset o&& !(f.name== "_")&&P.plainKey f.type then
  match adV P f.type,adU P (o+1) r with
  |some k,some l=>some (k::l)
  |_,_=>none
  else none
def azJ (P:Program)(t:TypeId):Option (List Nat):=
 match P.underlying t with
 |some (.struct g)=>bif !P.stoodInHeld t&& !P.eqGuardType P.depth t then adU P 0 g.toList else none
 |_=>none
def Kl (P:Program)(b:BinOp)(t:TypeId)(x y:Operand):Option AOp:=
 match azJ P t with
 |some n=>match b with
  | .eql=>some (.eqa false n (cO x) (cO y))
  | .neq=>some (.eqa true n (cO x) (cO y))
  |_=>none
 |none=>none
def K5 (P:Program)(b:UnOp)(t:TypeId)(x:Operand):Option AOp:=
 match b with
 | .not=>some (.bnot (cO x))
 | .neg=>match P.underlying t with|some (.int _)=>some (.ineg (cO x))|_=>none
 |_=>none
def UG (P:Program)(b:BinOp)(t:TypeId)(x y:Operand):Option AOp:=
 match b with
 | .eql=>match P.underlying t with|some .bool=>some (.beq false (cO x) (cO y))|_=>none
 | .neq=>match P.underlying t with|some .bool=>some (.beq true (cO x) (cO y))|_=>none
 | .shl=>match P.underlying t with|some (.int _)=>some (.shf true (cO x) (cO y))|_=>none
 | .shr=>match P.underlying t with|some (.int _)=>some (.shf false (cO x) (cO y))|_=>none
 |_=>none
def Vz (P:Program)(g dst:TypeId)(x:Operand):Option AOp:=
 match P.underlying g with
 |some (.int _)=>match P.underlying dst with
  |some (.int k)=>some (.conv k (cO x))
  |_=>none
 |_=>none
def KD (P:Program)(t:TypeId)(x:Operand):Option AOp:=
 match P.underlying t with
 |some .string=>some (.slen (cO x))
 |_=>none
def VJ {α:Type}(c:Bool)(x:α):Option α:=bif c then some x else none
def aca (P:Program)(t:TypeId):List (Nat×Operand) ->Option (List (Nat×Nat×O))
 | []=>some []
 |(i,x)::r=>match JY P t i,aca P t r with
  |some (off,g),some l=>some ((off,z0 P g,cO x)::l)
  |_,_=>none
def gi:Nat ->List (Nat×Operand) ->Bool
 |_,[]=>true
 |i,(j,_)::r=>Nat.beq i j&&gi (i+1) r
def acT (b:Builtin)(l:List Operand):Option AOp:=
 match b with
 | .min=>match l with| [x,y]=>some (.mm false (cO x) (cO y))|_=>none
 | .max=>match l with| [x,y]=>some (.mm true (cO x) (cO y))|_=>none
 |_=>none
def UJ (P:Program)(b:Builtin)(l:List Operand)(g:List TypeId):Option AOp:=
 match b with
 | .cap=>match l,g with
   | [x],[t]=>match uk P t with
     |some _=>some (.cap (cO x))
     |none=>none
   |_,_=>none
 | .copy=>match l,g with
   | [x,y],[t,u]=>match uk P t,P.underlying u with
     |some e,some (.slice _)=>VJ (Nat.blt 0 (z0 P e)&&u6 P e) (.cpy (z0 P e) (cO x) (cO y))
     |_,_=>none
   |_,_=>none
 | .clear=>match l,g with
   | [x],[t]=>match uk P t with
     |some e=>match jj [] (vP P e).cells with
      |some (z,_)=>VJ (Nat.blt 0 (z0 P e)&&Nat.beq z.length (z0 P e)&&u6 P e) (.clr (z0 P e) z (cO x))
      |none=>none
     |none=>none
   |_,_=>none
 |_=>none
def cOp (P:Program)(op:Op)(ty:TypeId):Option AOp:=
 match op with
 | .move x=>some (.mov (cO x))
 | .assign x=>some (.mov (cO x))
 | .pick c a b=>some (.pick (cO c) (cO a) (cO b))
 | .alloc t=>some (.alloc (vP P t).cells)
 | .box _ x=>some (.bx (cO x))
 | .build t parts=>match P.underlying t,aca P t parts.toList with
   |some (.struct J),some l=>VJ (ahA P J.toList&&solid (vP P t).cells) (.build (vP P t).cells l)
   |_,_=>none
 | .buildSlice t n parts=>match uk P t with
   |some e=>VJ (Nat.blt 0 (z0 P e)&&Nat.beq n parts.toList.length&&Nat.ble (n*z0 P e) 16777216&&gi 0 parts.toList&&aje P e) (.lits (z0 P e) (parts.toList.map λx=>cO x.2))
   |none=>none
 | .load t a=>match kI P t with|some g=>some (.ld g (z0 P t) (cO a))|none=>none
 | .store t a x=>VJ (isSome (P.info? t)) (.st (z0 P t) (cO a) (cO x))
 | .nilCheck x=>some (.nc (cO x))
 | .convert j dst x=>bif wo P j false&&wo P dst true then some (.b2s (cO x))else bif wo P j true&&wo P dst false then some (.s2b (cO x))else match Vz P j dst x with
   |some z=>some z
   |none=>some (.pure op ty)
 | .makeFunc (.func f) first o=>VJ first.toList.isEmpty (.clo f (o.toList.map cO))
 | .makeSlice t n c=>match uk P t with
   |some e=>match jj [] (vP P e).cells with
    |some (z,_)=>VJ (Nat.blt 0 (z0 P e)&&Nat.beq z.length (z0 P e)) (.mk (z0 P e) (uZ P e) z (cO n) (cO c))
    |none=>none
   |none=>none
 | .slice t x I r R=>match R,P.underlying t with
   |none,some .string=>some (.sls (cO x) (I.map cO) (r.map cO))
   |none,some (.slice e)=>VJ (isSome (P.info? e)) (.sli (z0 P e) (cO x) (I.map cO) (r.map cO))
   |_,_=>none
 | .fieldAddr t x f=>match JY P t f with
   |some (off,p)=>VJ (Nat.blt 0 (z0 P p)) (.fa off (cO x))
   |none=>none
 | .field t x f=>match JY P t f with
   |some (off,p)=>match kI P p with|some g=>some (.fld g (z0 P p) off (cO x))|none=>none
   |none=>none
 | .indexAddr t x i=>match uk P t with
   |some e=>VJ (Nat.blt 0 (z0 P e)) (.ia (z0 P e) (cO x) (cO i))
   |none=>none
 | .index t x i=>match P.underlying t with
   |some .string=>some (.six (cO x) (cO i))
   |_=>none
 | .extract x i=>some (.ext (cO x) i)
 | .call {callee:=.builtin .len,args,argTypes}=>match args.toList,argTypes.toList with
   | [x],[t]=>match uk P t with
     |some _=>some (.len (cO x))
     |none=>match KD P t x with
      |some z=>some z
      |none=>some (.pure op ty)
   |_,_=>none
 | .call {callee:=.builtin .append,args,argTypes}=>match args.toList,argTypes.toList with
   | [x,y],[t,u]=>match uk P t,P.underlying u with
     |some e,some (.slice _)=>VJ (Nat.blt 0 (z0 P e)&&u6 P e) (.app (z0 P e) (uZ P e) (cO x) (cO y))
     |some e,some (.int _)=>match jj [] (vP P e).cells with
      |some (z,_)=>VJ (Nat.blt 0 (z0 P e)&&Nat.beq z.length (z0 P e)&&u6 P e) (.appz (z0 P e) (uZ P e) z (cO x) (cO y))
      |none=>none
     |some e,some .string=>VJ (Nat.beq (z0 P e) 1&&Nat.beq (uZ P e) 1&&u6 P e) (.apps (cO x) (cO y))
     |_,_=>none
   |_,_=>none
 | .call {callee:=.value (.func f),args,argTypes:=_}=>some (.call f (args.toList.map cO))
 | .call {callee:=.value x,args,argTypes:=_}=>some (.calv (cO x) (args.toList.map cO))
 | .call {callee:=.builtin b,args,argTypes}=>match acT b args.toList with
   |some x=>some x
   |none=>match UJ P b args.toList argTypes.toList with
    |some x=>some x
    |none=>some (.pure op ty)
 | .binOp b t x y _=>match gO P b t y with
   |some neg=>some (.isn neg (cO x))
   |none=>match Kl P b t x y with
    |some z=>some z
    |none=>match UG P b t x y with
    |some z=>some z
    |none=>bif aa4 b&&adZ P t then some (.bin b (cO x) (cO y))else some (.pure op ty)
 | .unOp b t x=>match K5 P b t x with
   |some z=>some z
   |none=>some (.pure op ty)
 | .select _ _=>none
 |_=>some .stop
def uJ:List Oper ->List Nat
 | []=> []
 |o::r=>match o.guard with
  |some (j,_)=>bif isin j (uJ r)then uJ r else j::uJ r
  |none=>uJ r
def amL (ops:List Oper)(j:Nat):Option Tmp:=match ops[j]? with|some o=>o.dst|none=>none
def Yt (all:List Oper)(g:Option (Nat×Bool)):Option (Option (Nat×Bool)):=
 match g with
 |none=>some none
 |some (j,w)=>match amL all j with
  |some d=>some (some (d,w))
  |none=>none
def amM (N:Nat):Option Tmp ->Bool
 |some d=>Nat.blt d N
 |none=>true
def awV (P:Program)(op:Op)(ty:TypeId):Option AOp:=
 match op with
 | .makeFunc (.func f) first g=>VJ first.toList.isEmpty (.clof f (g.toList.map cO))
 | .call {callee:=.value (.func f),args,argTypes:=_}=>some (.callh f (args.toList.map cO))
 | .slice t x j i none=>match P.underlying t with
   |some (.slice e)=>VJ (isSome (P.info? e)) (.slw (z0 P e) (cO x) (j.map cO) (i.map cO))
   |_=>cOp P op ty
 |op=>cOp P op ty
def QR (P:Program)(b:Bool)(op:Op)(ty:TypeId):Option AOp:=bif b then awV P op ty else cOp P op ty
def Xk (P:Program)(N:Nat)(hs:List Nat)(all:List Oper)(gs:List Nat):List Nat ->Option (List AI)
 | []=>some []
 |i::r=>match all[i]? with
  |some o=>bif amM N o.dst then
   match QR P (isin i hs) o.op o.type,Yt all o.guard,Xk P N hs all gs r with
   |some x,some g,some l=>some (.mk o.dst g (isin i gs) x []::l)
   |_,_,_=>none
   else none
  |none=>none
def AOp.quiet:AOp ->Bool
 | .mov _=>true| .pick _ _ _=>true| .ld _ _ _=>true| .nc _=>true| .b2s _=>true| .sli _ _ _ _=>true| .sls _ _ _=>true| .fa _ _=>true| .fld _ _ _ _=>true
 | .ia _ _ _=>true| .six _ _=>true| .ext _ _=>true| .len _=>true| .bin _ _ _=>true| .pure _ _=>true| .build _ _=>true| .isn _ _=>true| .mm _ _ _=>true
 | .slen _=>true| .bnot _=>true| .ineg _=>true| .beq _ _ _=>true| .shf _ _ _=>true| .conv _ _=>true| .eqa _ _ _ _=>true
 |_=>false
def AOp.reads:AOp ->Bool
 | .ld _ _ _=>true| .b2s _=>true
 |_=>false
def YA:AOp ->Bool
 | .call _ _=>true| .calv _ _=>true| .bx _=>true| .lits _ _=>true| .mk _ _ _ _ _=>true| .s2b _=>true
 |_=>false
def acA (o:Oper):AOp ->Bool
 | .alloc cs=>solid cs&& !isSome o.guard&&isSome o.dst
 |_=>false
def Jy (P:Program)(o:Oper):Nat:=
 match cOp P o.op o.type with
 |some x=>bif x.quiet then(bif x.reads then 2 else 1)else bif YA x then 3 else bif acA o x then 4 else 0
 |none=>0
def clsAt (P:Program)(hs:List Nat)(ops:Array Oper)(j:Nat):Nat:=bif isin j hs then 0 else match ops[j]? with|some o=>bif Nat.beq (Jy P o) 4&&isin 999999 hs then 3 else Jy P o|none=>0
def aiT {α:Type}(f:α ->Bool):List α ->Bool| []=>false|x::r=>bif f x then true else aiT f r
def Yb {α:Type}(f:α ->Bool):List α ->Bool| []=>true|x::r=>bif f x then Yb f r else false
def aty (ops:Array Oper)(d:Option Tmp)(o:Oper):Bool:=
 match d with
 |some t=>!isin t (o.looksAt ops)&&(match o.dst with|some e=>!Nat.beq e t|none=>true)
 |none=>true
def ang (ops:Array Oper)(x y:Oper):Bool:=aty ops x.dst y&&(match y.dst with|some e=>!isin e (x.looksAt ops)|none=>true)
def waitsFor (ops:Array Oper)(j:Nat)(f:Nat ->Bool):Bool:=match ops[j]? with|some o=>aiT (λe=>Region.binds .any e&&f e.on) o.after.toList|none=>true
def dstOf (ops:Array Oper)(j:Nat):Option Tmp:=match ops[j]? with|some o=>o.dst|none=>none
def aqW (P:Program)(hs:List Nat)(ops:Array Oper)(o:Oper)(c j:Nat):Bool:=match ops[j]? with|some y=>ang ops o y&&(Nat.beq c 1||Nat.ble 1 (clsAt P hs ops j))|none=>false
def depsL (P:Program)(hs:List Nat)(ops:Array Oper)(i:Nat):List Nat ->List Nat ->List Nat
 | [],T=>T
 |j::r,T=>depsL P hs ops i r (bif !Nat.beq (clsAt P hs ops j) 4&&waitsFor ops j (λn=>Nat.beq n i||isin n T)then j::T else T)
def Kp (P:Program)(hs:List Nat)(ops:Array Oper)(i:Nat)(r:List Nat):Bool:=
 match ops[i]? with
 |none=>false
 |some o=>
  !isin i r&&Yb (λe=>!Region.binds .any e||(Nat.blt e.on ops.size&& !isin e.on (i::r))) o.after.toList&&
  Yb (λj=>!Nat.beq (clsAt P hs ops j) 4||aty ops (dstOf ops j) o) r&&
  (bif Nat.beq (clsAt P hs ops i) 1||Nat.beq (clsAt P hs ops i) 2 then Yb (λj=>isin j (depsL P hs ops i r [])||aqW P hs ops o (clsAt P hs ops i) j) r
   else Yb (λj=>Nat.beq (clsAt P hs ops j) 4||waitsFor ops j (λn=>isin n (i::r)&&(Nat.beq n i|| !Nat.beq (clsAt P hs ops n) 4))) r)
def aaX (P:Program)(hs:List Nat)(ops:Array Oper):List Nat ->Bool
 | []=>true
 |i::r=>bif Kp P hs ops i r then aaX P hs ops r else false
def VA (P:Program)(hs:List Nat)(ops:Array Oper):List Nat ->Bool
 | []=>true
 |i::r=>bif Nat.beq (clsAt P hs ops i) 4 then Yb (λj=>!Nat.beq (clsAt P hs ops j) 4) r else VA P hs ops r
def acW (P:Program)(hs:List Nat)(ops:Array Oper)(g:List Nat):Bool:=
 P.follows .mixedOrders&&Yb (λi=>isin i g) (yg 0 ops.size)&&Nat.ble g.length ops.size&&VA P hs ops g&&aaX P hs ops g
def wE (ords:List (Nat×List Nat))(id:Nat):List Nat:=match aget ords (1000000+id)with|some l=>l|none=> []
inductive Tr where
 |fin
 |run (l:List Nat) (t:Tr)
 |br (a b:Tr)
def azO:Nat ->List Nat ->List Nat
 |n+1,x::r=>x::azO n r
 |_,_=> []
def azF:Nat ->List Nat ->List Nat
 |n+1,_::r=>azF n r
 |_,l=>l
def anO:Nat ->List Nat ->Option (Tr×List Nat)
 |0,_=>none
 |_+1,[]=>none
 |n+1,c::r=>match c with
  |0=>some (.fin,r)
  |1=>match r with
   |k::g=>match anO n (azF k g)with
    |some (t,i)=>some (.run (azO k g) t,i)
    |none=>none
   | []=>none
  |_=>match anO n r with
   |some (a,g)=>match anO n g with
    |some (b,i)=>some (.br a b,i)
    |none=>none
   |none=>none
def XL (i:Nat):List Nat ->List Nat
 | []=> []
 |x::r=>bif Nat.beq x i then XL i r else x::XL i r
def aBH:List Nat ->Bool| []=>true|_::_=>false
def aaY (P:Program)(hs:List Nat)(ops:Array Oper):List Nat ->List Nat ->(List Nat ->Bool) ->Bool
 | [],rest,f=>f rest
 |i::l,rest,f=>bif isin i rest&&Kp P hs ops i (XL i rest)then aaY P hs ops l (XL i rest) f else false
def ac9 (ops:Array Oper)(rest:List Nat)(j:Nat):Bool:=match ops[j]? with|some o=>Yb (λe=>!Region.binds .any e||(Nat.blt e.on ops.size&& !isin e.on rest)) o.after.toList|none=>false
def Vr:Tr ->List Nat
 | .run (j::_) _=> [j]
 | .br a b=>Vr a++Vr b
 |_=> []
def Xs (P:Program)(hs:List Nat)(ops:Array Oper):Bool ->Tr ->List Nat ->Bool
 |false,.fin,rest=>aBH rest
 |true,.fin,_=>false
 |false,.run l t,rest=>aaY P hs ops l rest (Xs P hs ops false t)
 |true,.run l t,rest=>match l with
  |j::l=>isin j rest&&aaY P hs ops l (XL j rest) (Xs P hs ops false t)
  | []=>false
 |b,.br x y,rest=>Xs P hs ops true x rest&&Xs P hs ops true y rest&&(b||(aiT (ac9 ops rest) rest&&Yb (λj=>!ac9 ops rest j||isin j (Vr x++Vr y)) rest))
def ajF (P:Program)(hs:List Nat)(ops:Array Oper)(t:Tr):Bool:=
 P.follows .mixedOrders&&Yb (λj=>!Nat.beq (clsAt P hs ops j) 4) (yg 0 ops.size)&&Xs P hs ops false t (yg 0 ops.size)
def Vq (P:Program)(N:Nat)(hs:List Nat)(all:List Oper)(gs:List Nat):Tr ->Option ATr
 | .fin=>some .fin
 | .run l t=>match Xk P N hs all gs l,Vq P N hs all gs t with
   |some x,some y=>some (.run x y)
   |_,_=>none
 | .br a b=>match Vq P N hs all gs a,Vq P N hs all gs b with
   |some x,some y=>some (.br x y)
   |_,_=>none
def Yu (P:Program)(N:Nat)(ords:List (Nat×List Nat))(id:Nat)(ops:Array Oper):Bool ->Option ACode
 |false=>(Xk P N (wE ords id) ops.toList (uJ ops.toList) (yg 0 ops.toList.length)).map .reg
 |true=>match aget ords (2000000+id)with
  |some l=>match anO 300 l with
   |some (t,_)=>bif ajF P (wE ords id) ops t then(Vq P N (wE ords id) ops.toList (uJ ops.toList) t).map .tree else none
   |none=>none
  |none=>match aget ords id with
   |some g=>bif acW P (wE ords id) ops g then(Xk P N (wE ords id) ops.toList (uJ ops.toList) g).map .reg else none
   |none=>none
def qz (P:Program)(N:Nat)(ords:List (Nat×List Nat)):Code ->Option ACode
 | .skip=>some .skip
 | .region id ops d=>Yu P N ords id ops d
 | .seq a b=>match qz P N ords a,qz P N ords b with
   |some x,some y=>some (.seq x y)
   |_,_=>none
 | .cond c a b=>match qz P N ords a,qz P N ords b with
   |some x,some y=>some (.cond (cO c) x y)
   |_,_=>none
 | .block i a=>(qz P N ords a).map (.block i)
 | .loop a=>(qz P N ords a).map (.loop [])
 | .scope a=>(qz P N ords a).map .scope
 | .label _=>some .skip
 | .exit i=>some (.exit i)
 | .ret=>some .ret
 |_=>none
def acb (P:Program):List ResultVar ->Option (List ARes)
 | []=>some []
 | .tmp t::r=>(acb P r).map (.tmp t:: ·)
 | .cell a t::r=>match kI P t,acb P r with
   |some g,some l=>some (.cell a g (z0 P t)::l)
   |_,_=>none
def cFun (P:Program)(ords:List (Nat×List Nat))(k:Nat):Option AFun:=
 match P.funcs[k]? with
 |some fn=>match fn.body with
  |some c=>match qz P fn.ntmps ords c,acb P fn.results.toList with
   |some x,some r=>bif Nat.ble fn.ntmps 5000 then some ⟨x,r⟩else none
   |_,_=>none
  |none=>none
 |none=>none
def AI.erase:AI ->AI
 | .mk d g i o _=>.mk d g i o []
def ATr.erase:ATr ->ATr
 | .fin=>.fin
 | .run ops t=>.run (ops.map AI.erase) t.erase
 | .br a b=>.br a.erase b.erase
def ACode.erase:ACode ->ACode
 | .skip=>.skip
 | .reg ops=>.reg (ops.map AI.erase)
 | .seq a b=>.seq a.erase b.erase
 | .cond c a b=>.cond c a.erase b.erase
 | .block i a=>.block i a.erase
 | .loop _ a=>.loop [] a.erase
 | .scope a=>.scope a.erase
 | .exit i=>.exit i
 | .ret=>.ret
 | .tree t=>.tree t.erase
def AFun.erase (F:AFun):AFun:=⟨F.code.erase,F.res⟩
def XH:V ->Option Int
 | .w (.c (.d (.lit (.int _ n))))=>some n
 |_=>none
def yY:V ->Option Bool
 | .w (.c (.d (.lit (.bool b))))=>some b
 |_=>none
def cOf:V ->C
 | .w (.c x)=>x
 |_=>.dead
def wOf:V ->W
 | .w x=>x
 |_=>.c .dead
def cV (x:C):V:=.w (.c x)
def zj (n:Int):V:=cV (.d (.lit (.int .i64 n)))
def yd (b:Bool):V:=cV (.d (.lit (.bool b)))
def x8 (b:ByteArray):List (List D):=b.data.toList.map λx=> [D.lit (.int .u8 x.toNat)]
def S.o (s:S):O ->V
 | .t n=>s.tmp n
 | .k v=>v
def S.oc (s:S)(x:O):C:=cOf (s.o x)
def S.ow (s:S)(x:O):W:=wOf (s.o x)
def KH (agg:Bool)(sz:Nat)(cells:List C):Option W:=
 bif agg then(bif Nat.ble sz cells.length then some (.agg (cells.take sz))else none)
 else match cells with|x::_=>some (.c x)| []=>none
def zS (n bytes:Nat):Prop:=n*bytes<=140737488355328
def aLd (dst:Option Nat)(agg:Bool)(sz:Nat)(x:C)(s:S)(K:S ->Prop):Prop:=
 match x with
 | .ptr p off=>match aget s.pl p with
   |some (.box cs)=>match KH agg sz (cs.drop off)with
    |some w=>K (s.put dst (.w w))
    |none=>False
   |some (.fbox j)=>match KH agg sz ((j.drop off).map .d)with
    |some w=>K (s.put dst (.w w))
    |none=>False
   |_=>False
 | .fp cells=>match KH agg sz (cells.map .d)with
   |some w=>K (s.put dst (.w w))
   |none=>False
 | .eptr p z i k=>match aget s.pl p with
   |some (.arr l g _)=>bif Nat.beq z l then
    ∃e,g[i]? =some e /\(match KH agg sz ((e.drop k).map .d)with
     |some w=>K (s.put dst (.w w))
     |none=>False)
    else False
   |_=>False
 |_=>False
def aSt (sz:Nat)(x:C)(v:W)(s:S)(K:S ->Prop):Prop:=
 bif Nat.beq v.cells.length sz then
  match x with
  | .ptr p off=>match aget s.pl p with
    |some (.box cs)=>
     bif solid v.cells&&Nat.ble (off+v.cells.length) cs.length then
      K {s with pl:=yZ p (.box (zP cs off v.cells)) s.pl}
     else False
    |_=>False
  | .eptr p z i k=>match jj s.pl v.cells with
    |some (l,j)=>match aget j p with
     |some (.arr o g false)=>bif Nat.beq z o then
      ∃e,g[i]? =some e /\k+l.length<=e.length /\K {s with pl:=yZ p (.arr o (g.set i (zP e k l)) false) j}
      else False
     |_=>False
    |none=>False
  |_=>False
 else False
def UK (s:S):List C ->List (Nat×Nat×O) ->Option (List C)
 |cs,[]=>some cs
 |cs,(off,sz,x)::r=>bif solid (s.ow x).cells&&Nat.beq (s.ow x).cells.length sz&&Nat.ble (off+sz) cs.length then UK s (zP cs off (s.ow x).cells) r else none
def ahZ (s:S)(sz:Nat)(pl:List (Nat×Pl)):List O ->Option (List (List D)×List (Nat×Pl))
 | []=>some ([],pl)
 |x::r=>bif Nat.beq (s.ow x).cells.length sz then
   match jj pl (s.ow x).cells with
   |some (j,g)=>match ahZ s sz g r with
    |some (l,i)=>some (j::l,i)
    |none=>none
   |none=>none
  else none
def yr (o:Option Int)(n:Int):Int:=match o with|some m=>m|none=>n
def S.bnd (s:S):Option O ->Option (Option Int)
 |none=>some none
 |some x=>match XH (s.o x)with|some n=>some (some n)|none=>none
def awx (dst:Option Nat)(sz:Nat)(x:C)(j i:Option Int)(s:S)(K:S ->Prop):Prop:=
 match x with
 | .d (.sl g)=>match j with
   |none=>0<=yr i g.length /\yr i g.length<=g.length /\K (s.put dst (cV (.d (.sl (g.take (yr i g.length).toNat)))))
   |some l=>(∀y∈g,y.length=sz)/\0<=l /\l<=yr i g.length /\yr i g.length<=g.length /\
    K (s.put dst (cV (.d (.sl ((g.take (yr i g.length).toNat).drop l.toNat)))))
 | .own p z n=>bif Nat.beq z sz then
  match j with
  |none=>0<=yr i n /\yr i n<=n /\K (s.put dst (cV (.own p z (yr i n).toNat)))
  |some l=>match aget s.pl p with
   |some (.arr o g _)=>bif Nat.beq z o then 0<=l /\l<=yr i n /\yr i n<=n /\
    K ({s with pl:=vo s.pl p}.put dst (cV (.d (.sl ((g.take (yr i n).toNat).drop l.toNat)))))
    else False
   |_=>False
   else False
 | .nil=>0<=yr j 0 /\yr j 0<=yr i 0 /\yr i 0<=0 /\K (s.put dst (cV .nil))
 |_=>False
def awy (dst:Option Nat)(x:C)(i g:Option Int)(s:S)(K:S ->Prop):Prop:=
 match x with
 | .d (.lit (.string b))=>0<=yr i 0 /\yr i 0<=yr g b.size /\yr g b.size<=b.size /\
  K (s.put dst (cV (.d (.lit (.string (b.extract (yr i 0).toNat (yr g b.size).toNat))))))
 |_=>False
def awz (dst:Option Nat)(sz:Nat)(x:C)(g i:Option Int)(s:S)(K:S ->Prop):Prop:=
 match x with
 | .own p z n=>bif Nat.beq z sz then 0<=yr g 0 /\yr g 0<=yr i n /\yr i n<=n /\K (s.put dst (cV (.sub p z (yr g 0).toNat ((yr i n).toNat -(yr g 0).toNat))))else False
 | .nil=>0<=yr g 0 /\yr g 0<=yr i 0 /\yr i 0<=0 /\K (s.put dst (cV .nil))
 |_=>False
def range:C ->Option (Nat×Nat×Nat×Nat)
 | .own p z n=>some (p,z,0,n)
 | .sub p z off n=>some (p,z,off,n)
 |_=>none
def W9 (pl:List (Nat×Pl)):C ->Option (List (List D))
 | .d (.sl l)=>some l
 | .nil=>some []
 | .own p _ n=>match aget pl p with
   |some (.arr _ g _)=>some (g.take n)
   |_=>none
 |_=>none
def aa7 (pl:List (Nat×Pl)):C ->Option (List (List D))
 | .sub p z off n=>match aget pl p with
   |some (.arr i g _)=>bif Nat.beq z i then some ((g.drop off).take n)else none
   |_=>none
 |x=>W9 pl x
def awv (dst:Option Nat)(sz:Nat)(x:C)(i:Option (List (List D)))(s:S)(K:S ->Prop):Prop:=
 match i with
 |some l=>match x with
  | .nil=>K (s.put dst (zj 0))
  |x=>match range x with
   |some (p,z,off,n)=>match aget s.pl p with
    |some (.arr j g false)=>bif Nat.beq z j&&Nat.beq z sz then(∀y∈l,y.length=sz)/\
     K ({s with pl:=yZ p (.arr j (zP g off (l.take n)) false) s.pl}.put dst (zj (min l.length n:Nat)))
     else False
    |_=>False
   |none=>False
 |none=>False
def awu (dst:Option Nat)(sz:Nat)(j:List D)(x:C)(s:S)(K:S ->Prop):Prop:=
 match x with
 | .nil=>K (s.put dst wx)
 |x=>match range x with
  |some (p,z,off,n)=>match aget s.pl p with
   |some (.arr i g false)=>bif Nat.beq z i&&Nat.beq z sz then K ({s with pl:=yZ p (.arr i (zP g off (List.replicate n j)) false) s.pl}.put dst wx)else False
   |_=>False
  |none=>False
def aiS (d:Nat)(sz bytes:Nat)(x:C)(new:Option (List (List D)))(s:S)(K:S ->Prop):Prop:=
 match new with
 |some l=>
  match x with
  | .nil=>(∀y∈l,y.length=sz)/\zS l.length bytes /\l.length<=9223372036854775807 /\
   K ((s.place d (.arr sz l false)).put (some d) (cV (.own d sz l.length)))
  | .own p z n=>match aget s.pl p with
    |some (.arr i g false)=>bif Nat.beq z i&&Nat.beq z sz then
     (∀y∈l,y.length=sz)/\zS (n+l.length) bytes /\n+l.length<=9223372036854775807 /\
      K ((s.redo [p,d] [(d,.arr sz (g.take n++l) false)]).put (some d) (cV (.own d sz (n+l.length))))
     else False
    |_=>False
  |_=>False
 |_=>False
def frz (s:S)(pl:List (Nat×Pl)):List O ->Option (List (List D)×List (Nat×Pl))
 | []=>some ([],pl)
 |x::r=>match s.oc x with
  | .fp i=>match frz s pl r with
    |some (l,g)=>some (i::l,g)
    |none=>none
  | .ptr p 0=>match aget pl p with
    |some (.box cs)=>match jj pl cs with
     |some (i,j)=>match frz s (yZ p (.fbox i) j) r with
      |some (l,g)=>some (i::l,g)
      |none=>none
     |none=>none
    |some (.fbox i)=>match frz s pl r with
     |some (l,g)=>some (i::l,g)
     |none=>none
    |_=>none
  |_=>none
def aoR (s:S):List O ->Option (List Nat)
 | []=>some []
 |x::r=>match s.oc x,aoR s r with
  | .ptr p 0,some l=>some (p::l)
  |_,_=>none
def aam (P:Program)(dst:Option Nat)(f:FuncId)(args:List W)(s:S)(K:S ->Prop):Prop:=
 match abk s.pl args with
 |some (i,g)=>Sat P f i λr=>K (ate s {s with pl:=g} dst r)
 |none=>False
def XT (dst:Option Nat)(U:List Nat):Nat:=
 match dst with
 |some d=>xi d
 |none=>match U with
  |p::_=>10000000+16*p
  | []=>10000000
def agW (P:Program)(dst:Option Nat)(f:FuncId)(args:List W)(s:S)(K:S ->Prop):Prop:=
 zQ P f (args.map (W.pk s.pl (uM s.pl [] (YN args)))) (Zg s.pl (uM s.pl [] (YN args)) 0 (uM s.pl [] (YN args))) λr=>
  cond (U8 (uM s.pl [] (YN args)) (XT dst (uM s.pl [] (YN args))) r)
   (K (aec s (uM s.pl [] (YN args)) (XT dst (uM s.pl [] (YN args))) dst r)) False
def ab5 (s:S):List Operand ->Bool
 | []=>true
 |x::r=>match aoC (s.o (cO x))with
  |some _=>ab5 s r
  |none=>false
def rho (s:S)(x:Operand):Value:=match aoC (s.o (cO x))with|some v=>v|none=>undef
def aoS (op:Op)(ty:TypeId):Oper:={dst:=none,op,type:=ty,pos:= "",after:= #[],guard:=none}
def ar2 (P:Program)(dst:Option Nat)(op:Op)(ty:TypeId)(s:S)(K:S ->Prop):Prop:=
 bif ab5 s op.operands.toList then
  match gP P (execOp (rho s) (aoS op ty))with
  |some (.value v)=>K (s.put dst (.w (ofValue v)))
  |_=>False
 else False
def Ji (b:BinOp)(k:IntKind)(x y:Int):Int:=
 match b with
 | .and=>k.wrap (BitVec.ofInt k.bits x&&&BitVec.ofInt k.bits y).toNat
 | .or=>k.wrap (BitVec.ofInt k.bits x|||BitVec.ofInt k.bits y).toNat
 | .xor=>k.wrap (BitVec.ofInt k.bits x^^^BitVec.ofInt k.bits y).toNat
 |_=>k.wrap (BitVec.ofInt k.bits x&&& ~~~(BitVec.ofInt k.bits y)).toNat
def VS (left:Bool)(k:IntKind)(x y:Int):Int:=bif left then k.wrap (x*2^min y.toNat k.bits)else x.fdiv (2^min y.toNat k.bits)
def zl (x y:ByteArray):Bool:=x.toList==y.toList
def XI (x y:ByteArray):Bool:=Op.bytesLess x.toList y.toList
def aiX (b:BinOp)(k:IntKind)(x y:Int):Option Value:=
 match b with
 | .and=>some (.int k (Ji .and k x y))
 | .or=>some (.int k (Ji .or k x y))
 | .xor=>some (.int k (Ji .xor k x y))
 | .andNot=>some (.int k (Ji .andNot k x y))
 | .add=>some (.int k (k.wrap (x+y)))
 | .sub=>some (.int k (k.wrap (x - y)))
 | .mul=>some (.int k (k.wrap (x*y)))
 | .eql=>some (.bool (x==y))
 | .neq=>some (.bool (x !=y))
 | .lss=>some (.bool (decide (x<y)))
 | .leq=>some (.bool (decide (x<=y)))
 | .gtr=>some (.bool (decide (x>y)))
 | .geq=>some (.bool (decide (x>=y)))
 |_=>none
def aiY (b:BinOp)(x y:ByteArray):Option Value:=
 match b with
 | .eql=>some (.bool (zl x y))
 | .neq=>some (.bool (!zl x y))
 | .lss=>some (.bool (XI x y))
 | .leq=>some (.bool (XI x y||zl x y))
 | .gtr=>some (.bool (!(XI x y||zl x y)))
 | .geq=>some (.bool (!XI x y))
 |_=>none
def Zw:IntKind ->IntKind ->Bool
 | .i8,.i8=>true| .i16,.i16=>true| .i32,.i32=>true| .i64,.i64=>true
 | .u8,.u8=>true| .u16,.u16=>true| .u32,.u32=>true| .u64,.u64=>true
 |_,_=>false
def ar1 (dst:Option Nat)(b:BinOp)(x y:C)(s:S)(K:S ->Prop):Prop:=
 match x,y with
 | .d (.lit (.int k m)),.d (.lit (.int g n))=>bif Zw k g then
  match aiX b k m n with
  |some v=>K (s.put dst (cV (.d (.lit v))))
  |none=>match b with
   | .quo=>n≠0 /\K (s.put dst (cV (.d (.lit (.int k (k.wrap (m.tdiv n)))))))
   | .rem=>n≠0 /\K (s.put dst (cV (.d (.lit (.int k (m.tmod n))))))
   |_=>False
   else False
 | .d (.lit (.string m)),.d (.lit (.string n))=>match aiY b m n with
   |some v=>K (s.put dst (cV (.d (.lit v))))
   |none=>match b with
    | .add=>m.size+n.size<=9223372036854775807 /\K (s.put dst (cV (.d (.lit (.string (m++n))))))
    |_=>False
 |_,_=>False
def yH (g:Bool)(m n:Int):Int:=bif g then(if n>m then n else m)else(if n<m then n else m)
def aMm (dst:Option Nat)(i:Bool)(x y:C)(s:S)(K:S ->Prop):Prop:=
 match x,y with
 | .d (.lit (.int k m)),.d (.lit (.int g n))=>bif Zw k g then K (s.put dst (cV (.d (.lit (.int k (yH i m n))))))else False
 |_,_=>False
def anS (k:Nat)(x y:C):Option Bool:=
 match x,y with
 | .d (.lit (.int g m)),.d (.lit (.int i n))=>bif Nat.beq k 0&&Zw g i then some (m==n)else none
 | .d (.lit (.string m)),.d (.lit (.string n))=>bif Nat.beq k 1 then some (zl m n)else none
 | .d (.lit (.bool m)),.d (.lit (.bool n))=>bif Nat.beq k 2 then some (m==n)else none
 |_,_=>none
def Y3:List Nat ->List C ->List C ->Option Bool
 | [],[],[]=>some true
 |k::g,x::xs,y::ys=>match anS k x y,Y3 g xs ys with
  |some a,some b=>some (a&&b)
  |_,_=>none
 |_,_,_=>none
def aww (dst:Option Nat)(neg:Bool)(x:C)(s:S)(K:S ->Prop):Prop:=
 match x with
 | .nil=>K (s.put dst (yd (!neg)))
 | .d (.sl l)=>(l=[] ->K (s.put dst (yd (!neg))))/\K (s.put dst (yd neg))
 | .own _ _ n=>(n=0 ->K (s.put dst (yd (!neg))))/\K (s.put dst (yd neg))
 |_=>False
def z8 (P:Program)(dst:Option Nat)(op:AOp)(s:S)(K:S ->Prop):Prop:=
 match op with
 | .mov x=>K (s.put dst (s.o x))
 | .pick c a b=>match yY (s.o c)with
   |some t=>cond t (K (s.put dst (s.o a))) (K (s.put dst (s.o b)))
   |none=>False
 | .alloc cs=>match dst with
   |some d=>bif solid cs then K ((s.place d (.box cs)).put (some d) (cV (.ptr d 0)))else False
   |none=>False
 | .bx x=>match dst,s.o x with
   |some d,.w w=>bif solid w.cells then K ((s.place d (.box (w.cells.map (C.kill [d])))).put (some d) (cV (.ptr d 0)))else False
   |_,_=>False
 | .build zero parts=>match UK s zero parts with
   |some cs=>K (s.put dst (.w (.agg cs)))
   |none=>False
 | .lits sz parts=>match dst,ahZ s sz s.pl parts with
   |some d,some (I,r)=>K (({s with pl:=r}.place d (.arr sz I false)).put (some d) (cV (.own d sz I.length)))
   |_,_=>False
 | .ld g sz x=>aLd dst g sz (s.oc x) s K
 | .st sz a x=>match dst with
   |none=>aSt sz (s.oc a) (s.ow x) s K
   |some _=>False
 | .nc x=>match s.oc x with
   | .ptr p k=>K (s.put dst (cV (.ptr p k)))
   | .eptr p z i k=>K (s.put dst (cV (.eptr p z i k)))
   | .fp l=>K (s.put dst (cV (.fp l)))
   |_=>False
 | .b2s x=>match W9 s.pl (s.oc x)with
   |some l=> ∃b:ByteArray,l=x8 b /\K (s.put dst (cV (.d (.lit (.string b)))))
   |none=>False
 | .s2b x=>match dst,s.oc x with
   |some d,.d (.lit (.string b))=>b.size<=9223372036854775807 /\K ((s.place d (.arr 1 (x8 b) true)).put (some d) (cV (.own d 1 b.size)))
   |_,_=>False
 | .clo f j=>match aoR s j with
   |some ps=>K (s.put dst (cV (.clo f ps)))
   |none=>False
 | .clof f j=>match frz s s.pl j with
   |some (l,r)=>K ({s with pl:=r}.put dst (cV (.d (.fn f l))))
   |none=>False
 | .slen x=>match s.oc x with
   | .d (.lit (.string b))=>K (s.put dst (zj b.size))
   |_=>False
 | .cap x=>match s.oc x with
   | .d (.sl l)=> ∀c:Nat,l.length<=c ->c<=9223372036854775807 ->K (s.put dst (zj c))
   | .nil=>K (s.put dst (zj 0))
   | .own _ _ n=> ∀c:Nat,n<=c ->c<=9223372036854775807 ->K (s.put dst (zj c))
   |_=>False
 | .cpy sz x y=>awv dst sz (s.oc x) (aa7 s.pl (s.oc y)) s K
 | .clr sz z x=>awu dst sz z (s.oc x) s K
 | .slw sz x R J=>match s.bnd R,s.bnd J with
   |some l,some h=>awz dst sz (s.oc x) l h s K
   |_,_=>False
 | .bnot x=>match yY (s.o x)with
   |some b=>K (s.put dst (yd (!b)))
   |none=>False
 | .ineg x=>match s.oc x with
   | .d (.lit (.int k n))=>K (s.put dst (cV (.d (.lit (.int k (k.wrap (0 - n)))))))
   |_=>False
 | .beq neg x y=>match yY (s.o x),yY (s.o y)with
   |some a,some b=>K (s.put dst (yd (bif neg then a !=b else a==b)))
   |_,_=>False
 | .shf left x y=>match s.oc x,s.oc y with
   | .d (.lit (.int k m)),.d (.lit (.int _ n))=>0<=n /\K (s.put dst (cV (.d (.lit (.int k (VS left k m n))))))
   |_,_=>False
 | .stop=>False
 | .conv k x=>match s.oc x with
   | .d (.lit (.int _ n))=>K (s.put dst (cV (.d (.lit (.int k (k.wrap n))))))
   |_=>False
 | .eqa neg U x y=>match s.o x,s.o y with
   | .w (.agg xs),.w (.agg ys)=>match Y3 U xs ys with
     |some b=>K (s.put dst (yd (bif neg then !b else b)))
     |none=>False
   |_,_=>False
 | .callh f args=>agW P dst f (args.map s.ow) s K
 | .mk sz bytes z n c=>match dst,XH (s.o n),XH (s.o c)with
   |some d,some n,some c=>0<=n /\n<=c /\zS c.toNat bytes /\c<=9223372036854775807 /\
    K ((s.place d (.arr sz (List.replicate n.toNat z) false)).put (some d) (cV (.own d sz n.toNat)))
   |_,_,_=>False
 | .sli sz x R J=>match s.bnd R,s.bnd J with
   |some l,some h=>awx dst sz (s.oc x) l h s K
   |_,_=>False
 | .sls x R J=>match s.bnd R,s.bnd J with
   |some l,some h=>awy dst (s.oc x) l h s K
   |_,_=>False
 | .fa off x=>match s.oc x with
   | .ptr p o=>K (s.put dst (cV (.ptr p (o+off))))
   | .eptr p z i k=>K (s.put dst (cV (.eptr p z i (k+off))))
   | .fp cells=>K (s.put dst (cV (.fp (cells.drop off))))
   |_=>False
 | .fld g sz off x=>match s.o x with
   | .w (.agg cs)=>match KH g sz (cs.drop off)with
     |some w=>K (s.put dst (.w w))
     |none=>False
   |_=>False
 | .ia sz x i=>match XH (s.o i)with
   |some n=>match s.oc x with
    | .d (.sl l)=>0<=n /\ ∃y,l[n.toNat]? =some y /\y.length=sz /\K (s.put dst (cV (.fp y)))
    | .own p z m=>bif Nat.beq z sz then 0<=n /\n<m /\K (s.put dst (cV (.eptr p z n.toNat 0)))else False
    |_=>False
   |none=>False
 | .six x i=>match s.oc x,XH (s.o i)with
   | .d (.lit (.string b)),some n=>0<=n /\n<b.size /\K (s.put dst (cV (.d (.lit (.int .u8 (b.data.toList.getD n.toNat 0).toNat)))))
   |_,_=>False
 | .ext x i=>match s.o x with
   | .tup xs=>match xs[i]? with
     |some w=>K (s.put dst (.w w))
     |none=>False
   |_=>False
 | .len x=>match s.oc x with
   | .d (.sl l)=>K (s.put dst (zj l.length))
   | .nil=>K (s.put dst (zj 0))
   | .own _ _ n=>K (s.put dst (zj n))
   |_=>False
 | .app sz bytes x y=>match dst with
   |some d=>aiS d sz bytes (s.oc x) (W9 s.pl (s.oc y)) s K
   |none=>False
 | .appz sz bytes z x n=>match dst,s.oc x,XH (s.o n)with
   |some d,.nil,some m=>0<=m /\zS m.toNat bytes /\m<=9223372036854775807 /\K ((s.place d (.arr sz (List.replicate m.toNat z) false)).put (some d) (cV (.own d sz m.toNat)))
   |_,_,_=>False
 | .apps x y=>match dst,s.oc y with
   |some d,.d (.lit (.string b))=>aiS d 1 1 (s.oc x) (some (x8 b)) s K
   |_,_=>False
 | .bin b x y=>ar1 dst b (s.oc x) (s.oc y) s K
 | .isn neg x=>aww dst neg (s.oc x) s K
 | .mm mx x y=>aMm dst mx (s.oc x) (s.oc y) s K
 | .pure op ty=>ar2 P dst op ty s K
 | .call f args=>aam P dst f (args.map s.ow) s K
 | .calv x args=>match s.oc x with
   | .clo f []=>aam P dst f (args.map s.ow) s K
   | .d (.fn f j)=>aam P dst f (args.map s.ow++j.map λT=>W.c (.fp T)) s K
   |_=>False
def split (g:Bool)(dst:Option Nat)(s:S)(K:S ->Prop):Prop:=
 bif g then
  match dst with
  |some d=>match yY (s.tmp d)with
   |some b=>cond b (K (s.put dst (yd true))) (K (s.put dst (yd false)))
   |none=>K s
  |none=>K s
 else K s
def S.drop (s:S)(l:List Nat):S:={s with sl:=qL (λk=>!isin k l) s.sl}
def yh (P:Program):List AI ->S ->(S ->Prop) ->Prop
 | [],s,K=>K s
 | .mk dst g l op drop::rest,s,K=>
   match g with
   |none=>z8 P dst op s λo=>split l dst o λj=>qa (j.drop drop) λj=>yh P rest j K
   |some (d,i)=>match s.tmp d with
    | .w (.c (.d (.lit (.bool b))))=>
      bif (bif b then i else !i)then z8 P dst op s λo=>split l dst o λj=>qa (j.drop drop) λj=>yh P rest j K
      else qa ((s.put dst wx).drop drop) λs=>yh P rest s K
    | .tup []=>qa ((s.put dst wx).drop drop) λs=>yh P rest s K
    |_=>False
inductive E where
 |normal
 |exit (id:Nat)
 |ret
def gU:List (Nat×V) ->List Nat
 | []=> []
 |(_,v)::r=>v.refs++gU r
def VK:List Nat ->List (Nat×Pl) ->List Nat
 |_,[]=> []
 |g,(p,.box cs)::r=>bif isin p g then gS cs++VK g r else VK g r
 |g,_::r=>VK g r
def ZS:List Nat ->List Nat ->List Nat
 | [],l=>l
 |x::r,l=>bif isin x l then ZS r l else ZS r (x::l)
def S.norm (s:S)(g:List Nat):S:=
 {sl:=qL (λk=>isin k g) s.sl,
  pl:=qL (λk=>isin k (ZS (VK (ZS (VK (ZS (gU (qL (λk=>isin k g) s.sl)) []) s.pl) (ZS (gU (qL (λk=>isin k g) s.sl)) [])) s.pl)
   (ZS (VK (ZS (gU (qL (λk=>isin k g) s.sl)) []) s.pl) (ZS (gU (qL (λk=>isin k g) s.sl)) [])))) s.pl}
def gg:List Nat ->(List Nat ->Prop) ->Prop
 | [],K=>K []
 |x::r,K=>gg r λr=>K (x::r)
theorem Ko: ∀(l:List Nat) (K:List Nat ->Prop),gg l K=K l
 | [],_=>rfl
 |x::r,K=>by simp only[gg,Ko r]
def US (s:S)(g:List Nat)(K:S ->Prop):Prop:=
 gg (ZS (gU (qL (λk=>isin k g) s.sl)) []) λi=>gg (ZS (VK i s.pl) i) λj=>gg (ZS (VK j s.pl) j) λl=>
  qa ⟨qL (λk=>isin k g) s.sl,qL (λk=>isin k l) s.pl⟩ K
theorem Qj (s:S)(g:List Nat)(K:S ->Prop):US s g K=K (s.norm g):=by
 unfold US;rw[Ko,Ko,Ko,xJ];rfl
def xL (s:S)(g:List Nat)(K:S ->Prop):Prop:= ∃t,WE s t /\US t g K
theorem zf {s:S}{g:List Nat}{K:S ->Prop}(h:US s g K):xL s g K:=⟨s,WE.refl s,h⟩
def atr (P:Program):ATr ->S ->(S ->Prop) ->Prop
 | .fin,s,K=>K s
 | .run ops t,s,K=>yh P ops s λg=>atr P t g K
 | .br a b,s,K=>atr P a s K /\atr P b s K
def Xh (P:Program):ACode ->(E ->S ->Prop) ->S ->Prop
 | .skip,Q,s=>Q .normal s
 | .reg ops,Q,s=>yh P ops s (Q .normal)
 | .seq a b,Q,s=>Xh P a (λe g=>match e with| .normal=>Xh P b Q g| .exit i=>Q (.exit i) g| .ret=>Q .ret g) s
 | .cond c a b,Q,s=>match yY (s.o c)with
   |some t=>cond t (Xh P a Q s) (Xh P b Q s)
   |none=>False
 | .block id a,Q,s=>Xh P a (λe g=>match e with| .normal=>Q .normal g| .exit i=>bif Nat.beq i id then Q .normal g else Q (.exit i) g| .ret=>Q .ret g) s
 | .loop j body,Q,s=> ∃(I:S ->Prop) (μ:S ->Nat),xL s j I /\ ∀g,I g ->
  Xh P body (λe l=>match e with| .normal=>xL l j λl=>I l /\μ l<μ g| .exit i=>Q (.exit i) l| .ret=>Q .ret l) g
 | .scope a,Q,s=>Xh P a Q s
 | .exit i,Q,s=>Q (.exit i) s
 | .ret,Q,s=>Q .ret s
 | .tree t,Q,s=>atr P t s (Q .normal)
def ayy (s:S):ARes ->Option W
 | .tmp t=>match s.tmp t with| .w w=>some w|_=>none
 | .cell a g sz=>match cOf (s.tmp a)with
   | .ptr p off=>match aget s.pl p with
     |some (.box cs)=>KH g sz (cs.drop off)
     |some (.fbox i)=>KH g sz ((i.drop off).map .d)
     |_=>none
   |_=>none
def aed (s:S):List ARes ->Option (List W)
 | []=>some []
 |x::r=>match ayy s x,aed s r with
  |some w,some l=>some (w::l)
  |_,_=>none
def ayx (s:S)(l:List ARes):Option V:=
 match aed s l with
 |some [w]=>some (.w w)
 |some ws=>some (.tup ws)
 |none=>none
def jz:Nat ->List W ->List (Nat×V)
 |_,[]=> []
 |i,w::r=>(i,.w w)::jz (i+1) r
def kC (g:List ARes)(U:List Nat)(Q:Res ->Prop)(s:S):Prop:=
 match ayx s g with
 |some v=>Q (azL s.pl U v)
 |none=>False
def awM (P:Program)(F:AFun)(args:List W)(Q:Res ->Prop):Prop:=
 qa ⟨jz 0 args,[]⟩ λs=>Xh P F.code (λe s=>match e with| .exit _=>False| .normal=>kC F.res [] Q s| .ret=>kC F.res [] Q s) s
def jy (n0:Nat)(hs:List Pl):List Nat:=yg n0 hs.length
def adM (n0:Nat)(P:Program)(F:AFun)(args:List W)(hs:List Pl)(Q:Res ->Prop):Prop:=
 qa ⟨jz 0 (args.map (W.ren ((jy n0 hs).map some))),ZK n0 (hs.map (Pl.ren ((jy n0 hs).map some)))⟩ λs=>
  Xh P F.code (λe s=>match e with| .exit _=>False| .normal=>kC F.res (jy n0 hs) Q s| .ret=>kC F.res (jy n0 hs) Q s) s
def azC (P:Program)(F:AFun)(args:List W)(hs:List Pl)(Q:Res ->Prop):Prop:=adM 100000 P F args hs Q
section
variable {α β:Type}
theorem qD {m n:Nat}(h:m≠n):Nat.beq m n=false:=by
 grind[Nat.eq_of_beq_eq_true]
theorem uq (n:Nat):Nat.beq n n=true:=Nat.beq_refl n
theorem yR (k:Nat)(v:α)(r:List (Nat×α))(n:Nat):aget ((k,v)::r) n=if k=n then some v else aget r n:=by
 simp_all[aget]
theorem yJ (l:List (Nat×α))(n m:Nat)(v:α):aget (yZ n v l) m=if n=m then some v else aget l m:=by
 induction l with
 |nil=>grind[yZ,yR]
 |cons x r g=>
  obtain⟨k,u⟩:=x;unfold yZ;by_cases h:k=n
  ·simp_all[yR]
  ·rw[qD h];cases j:Nat.blt n k
   ·simp only[cond_false,yR,g];by_cases i:k=m<;>simp_all[Ne.symm]
   simp_all[yR]
theorem am7 (l:List (Nat×α))(f:α ->β)(m:Nat):aget (ane f l) m=(aget l m).map f:=by
 induction l<;>grind[aget,ane]
theorem Yf (l:List (Nat×α))(f:Nat ->Bool)(m:Nat):aget (qL f l) m=if f m=true then aget l m else none:=by
 induction l with
 |nil=>grind[qL,aget]
 |cons x r g=>
  obtain⟨k,u⟩:=x;unfold qL;cases i:f k
  ·simp only[cond_false,g,yR]
   grind
  ·simp only[cond_true,yR,g]
   grind
theorem Jf (l:List (Nat×α))(f:Nat ->Bool)(m:Nat)(v:α)(h:aget (qL f l) m=some v):aget l m=some v /\f m=true:=by
 grind[Yf]
end
theorem yk (n:Nat)(l:List Nat):isin n l=true↔n∈l:=by
 induction l with
 |nil=>simp[isin]
 |cons k r g=>
  unfold isin;by_cases h:k=n<;>simp_all[Ne.symm]
theorem apZ (new pl:List (Nat×Pl))(m:Nat):aget (agX new pl) m=match aget new m with|some x=>some x|none=>aget pl m:=by
 induction new with
 |nil=>rfl
 |cons x r g=>
  grind[agX,yJ,yR]
def zR (w w':World)(ok ok':Nat ->Prop):Prop:= ∀b,ok b ->ok' b /\w'.heap[b]? =w.heap[b]?
theorem qv {w w':World}{b:Nat}(h:w'.heap[b]? =w.heap[b]?)(o:Nat):w'.cell? ⟨b,o,none⟩=w.cell? ⟨b,o,none⟩:=by
 simp[World.cell?,h]
mutual
theorem RD.keep {w w':World}{ok ok':Nat ->Prop}(h:zR w w' ok ok'): ∀(d:D) (v:Value),RD w ok d v ->RD w' ok' d v
 | .lit x,v,g=>by grind[RD]
 | .sl l,v,g=>by
   simp only[RD]at g⊢;obtain⟨a,n,c,j,p,T,U,J⟩:=g;refine⟨a,n,c,j,p,T,U,?_⟩;rcases J with J|⟨b,o,sz,P,I,R⟩
   ·grind
   ·exact .inr ⟨b,o,sz,P,(h b I).1,RDs.keep h b I sz l o R⟩
 | .fn f i,v,g=>by
   simp only[RD]at g⊢;obtain⟨r,j,p⟩:=g;exact⟨r,j,RDf.keep h i r p⟩
theorem RDs.keep {w w':World}{ok ok':Nat ->Prop}(h:zR w w' ok ok')(b:Nat)(i:ok b)(sz:Nat): ∀(l:List (List D)) (o:Nat),RDs w ok b sz o l ->RDs w' ok' b sz o l
 | [],o,_=>by grind[RDs]
 |e::r,o,g=>by
  simp only[RDs]at g⊢;exact⟨g.1,RDc.keep h b i e o g.2.1,RDs.keep h b i sz r (o+sz) g.2.2⟩
theorem RDc.keep {w w':World}{ok ok':Nat ->Prop}(h:zR w w' ok ok')(b:Nat)(g:ok b): ∀(l:List D) (o:Nat),RDc w ok b o l ->RDc w' ok' b o l
 | [],o,_=>by grind[RDc]
 |d::r,o,i=>by
  simp only[RDc]at i⊢;obtain⟨⟨v,j,p⟩,I⟩:=i;exact⟨⟨v,by rw[qv (h b g).2];exact j,RD.keep h d v p⟩,RDc.keep h b g r (o+1) I⟩
theorem RDf.keep {w w':World}{ok ok':Nat ->Prop}(h:zR w w' ok ok'): ∀(l:List (List D)) (i:List Value),RDf w ok i l ->RDf w' ok' i l
 | [],i,j=>by grind[RDf]
 |c::r,i,j=>by
  simp only[RDf]at j⊢;obtain⟨b,o,g,I,p,J,P⟩:=j;exact⟨b,o,g,I,(h b p).1,RDc.keep h b p c o J,RDf.keep h r g P⟩
end
theorem RDc.keep' {w w':World}{ok ok':Nat ->Prop}(h:zR w w' ok ok')(b:Nat): ∀(l:List D) (o:Nat),(∀j,o<=j ->j<o+l.length ->w'.cell? ⟨b,j,none⟩=w.cell? ⟨b,j,none⟩) ->RDc w ok b o l ->RDc w' ok' b o l
 | [],o,_,_=>by grind[RDc]
 |d::r,o,J,i=>by
  simp only[RDc]at i⊢;obtain⟨⟨v,p,g⟩,I⟩:=i;refine⟨⟨v,by simp_all,RD.keep h d v g⟩,RDc.keep' h b r (o+1) (λj p g=>J j (by omega) (by grind)) I⟩
theorem RDs.keep' {w w':World}{ok ok':Nat ->Prop}(h:zR w w' ok ok')(b sz:Nat): ∀(l:List (List D)) (o:Nat),(∀j,o<=j ->j<o+l.length*sz ->w'.cell? ⟨b,j,none⟩=w.cell? ⟨b,j,none⟩) ->RDs w ok b sz o l ->RDs w' ok' b sz o l
 | [],o,_,_=>by grind[RDs]
 |e::r,o,I,g=>by
  simp only[RDs]at g⊢;refine⟨g.1,RDc.keep' h b e o (λj i p=>I j i ?_) g.2.1,RDs.keep' h b sz r (o+sz) (λj i p=>I j (by omega) ?_) g.2.2⟩
  ·rw[g.1]at p;simp only[List.length_cons,Nat.add_mul,Nat.one_mul];omega
  ·simp only[List.length_cons,Nat.add_mul,Nat.one_mul];omega
theorem RDs.len {w:World}{ok:Nat ->Prop}{b sz:Nat}: ∀{l:List (List D)}{o:Nat},RDs w ok b sz o l -> ∀e∈l,e.length=sz
 | [],_,_,e,g=>by cases g
 |x::r,o,i,e,g=>by
  simp only[RDs]at i;rcases List.mem_cons.1 g with rfl|g
  ·exact i.1
  ·exact RDs.len i.2.2 e g
theorem RDs.get {w:World}{ok:Nat ->Prop}{b sz:Nat}: ∀{l:List (List D)}{o i:Nat}{e:List D},RDs w ok b sz o l ->l[i]? =some e ->RDc w ok b (o+i*sz) e
 | [],_,i,e,_,g=>by grind
 |x::r,o,0,e,j,g=>by
  grind[RDs]
 |x::r,o,i+1,e,j,g=>by
  simp only[RDs]at j;simp at g;have:=RDs.get j.2.2 g;rwa[show o+(i+1)*sz=o+sz+i*sz by rw[Nat.add_mul];omega]
theorem RDs.take {w:World}{ok:Nat ->Prop}{b sz:Nat}: ∀{l:List (List D)}{o:Nat}(n:Nat),RDs w ok b sz o l ->RDs w ok b sz o (l.take n)
 | [],_,n,_=>by grind
 |x::r,o,0,g=>by simp[RDs]
 |x::r,o,n+1,g=>by
  simp only[RDs,List.take_succ_cons]at g⊢;exact⟨g.1,g.2.1,RDs.take n g.2.2⟩
theorem RDs.drop {w:World}{ok:Nat ->Prop}{b sz:Nat}: ∀{l:List (List D)}{o:Nat}(n:Nat),RDs w ok b sz o l ->RDs w ok b sz (o+n*sz) (l.drop n)
 | [],_,n,_=>by simp[RDs]
 |x::r,o,0,g=>by grind
 |x::r,o,n+1,g=>by
  simp only[List.drop_succ_cons];simp only[RDs]at g;have:=RDs.drop n g.2.2;rwa[show o+(n+1)*sz=o+sz+n*sz by rw[Nat.add_mul];omega]
theorem RDc.drop {w:World}{ok:Nat ->Prop}{b:Nat}: ∀{l:List D}{o:Nat}(n:Nat),RDc w ok b o l ->RDc w ok b (o+n) (l.drop n)
 | [],_,n,_=>by simp[RDc]
 |x::r,o,0,g=>by grind
 |x::r,o,n+1,g=>by
  simp only[List.drop_succ_cons];simp only[RDc]at g;have:=RDc.drop n g.2<;>grind
def yp (w w':World):Prop:= ∀b t m,w.shape? b=some (t,m) ->w'.shape? b=some (t,m)
theorem yp.refl (w:World):yp w w:=λ_ _ _ h=>h
section
variable {ι ι':Nat ->Gh}{w w':World}{ok ok':Nat ->Prop}{l:List Nat}
theorem CR.kill (hk:zR w w' ok ok')(hs:yp w w')(hι: ∀p,isin p l=false ->ι' p=ι p)(c:C)(v:Value)(h:CR ι w ok c v):CR ι' w' ok' (c.kill l) v:=by
 cases c with
 |dead=>trivial
 |d x=>exact RD.keep hk x v h
 |nil=>exact h
 |ptr p o=>
  simp only[C.kill];cases J:isin p l
  ·obtain⟨b,j,g⟩:=h;exact⟨b,by grind,g⟩
  ·trivial
 |eptr p z i k=>
  simp only[C.kill];cases J:isin p l
  ·obtain⟨b,j,g⟩:=h;exact⟨b,by grind,g⟩
  ·trivial
 |own p z n=>
  simp only[C.kill];cases J:isin p l
  ·rcases h with⟨j,g,I⟩|⟨b,cap,t,j,g,I,R,T,U⟩
   ·exact .inl ⟨by grind,g,I⟩
   ·exact .inr ⟨b,cap,t,by grind,by grind,I,R,T,hs _ _ _ U⟩
  ·trivial
 |sub p z o n=>
  simp only[C.kill];cases J:isin p l<;>simp_all[CR]
 |fp cells=>
  obtain⟨b,o,j,g,I⟩:=h;exact⟨b,o,j,(hk b g).1,RDc.keep hk b g _ _ I⟩
 |clo f r=>
  simp only[C.kill];cases J:r.any (λq=>isin q l)
  ·obtain⟨P,j,g⟩:=h;refine⟨P,?_,g⟩;rw[<- j];apply List.map_congr_left;simp_all
  ·trivial
theorem CR.keep (hk:zR w w' ok ok')(hs:yp w w')(c:C)(v:Value)(h:CR ι w ok c v):CR ι w' ok' c v:=by
 cases c with
 |dead=>trivial
 |d x=>exact RD.keep hk x v h
 |nil=>exact h
 |ptr p o=>exact h
 |eptr p z i k=>exact h
 |own p z n=>
  rcases h with h|⟨b,cap,t,j,g,l,I,J,P⟩
  ·exact .inl h
  ·exact .inr ⟨b,cap,t,j,g,l,I,J,hs _ _ _ P⟩
 |sub p z o n=>exact h
 |fp cells=>
  obtain⟨b,o,j,g,l⟩:=h;exact⟨b,o,j,(hk b g).1,RDc.keep hk b g _ _ l⟩
 |clo f r=>exact h
theorem CRs.kill (hk:zR w w' ok ok')(hs:yp w w')(g: ∀p,isin p l=false ->ι' p=ι p): ∀(cs:List C) (vs:List Value),CRs ι w ok cs vs ->CRs ι' w' ok' (cs.map (C.kill l)) vs
 | [],[],_=>trivial
 | [],_::_,h=>h
 |_::_,[],h=>h
 |c::cs,v::vs,h=>⟨CR.kill hk hs g c v h.1,CRs.kill hk hs g cs vs h.2⟩
theorem CRs.keep (hk:zR w w' ok ok')(hs:yp w w'): ∀(cs:List C) (vs:List Value),CRs ι w ok cs vs ->CRs ι w' ok' cs vs
 | [],[],_=>trivial
 | [],_::_,h=>h
 |_::_,[],h=>h
 |c::cs,v::vs,h=>⟨CR.keep hk hs c v h.1,CRs.keep hk hs cs vs h.2⟩
theorem WR.kill (hk:zR w w' ok ok')(hs:yp w w')(g: ∀p,isin p l=false ->ι' p=ι p)(x:W)(v:Value)(h:WR ι w ok x v):WR ι' w' ok' (x.kill l) v:=by
 cases x with
 |c x=>exact CR.kill hk hs g x v h
 |agg cs=>obtain⟨vs,i,j⟩:=h;exact⟨vs,i,CRs.kill hk hs g cs vs j⟩
theorem WR.keep (hk:zR w w' ok ok')(hs:yp w w')(x:W)(v:Value)(h:WR ι w ok x v):WR ι w' ok' x v:=by
 cases x with
 |c x=>exact CR.keep hk hs x v h
 |agg cs=>obtain⟨vs,g,i⟩:=h;exact⟨vs,g,CRs.keep hk hs cs vs i⟩
theorem qK.kill (hk:zR w w' ok ok')(hs:yp w w')(g: ∀p,isin p l=false ->ι' p=ι p): ∀(cs:List W) (vs:List Value),qK ι w ok cs vs ->qK ι' w' ok' (cs.map (W.kill l)) vs
 | [],[],_=>trivial
 | [],_::_,h=>h
 |_::_,[],h=>h
 |c::cs,v::vs,h=>⟨WR.kill hk hs g c v h.1,qK.kill hk hs g cs vs h.2⟩
theorem qK.keep (hk:zR w w' ok ok')(hs:yp w w'): ∀(cs:List W) (vs:List Value),qK ι w ok cs vs ->qK ι w' ok' cs vs
 | [],[],_=>trivial
 | [],_::_,h=>h
 |_::_,[],h=>h
 |c::cs,v::vs,h=>⟨WR.keep hk hs c v h.1,qK.keep hk hs cs vs h.2⟩
theorem VR.kill (hk:zR w w' ok ok')(hs:yp w w')(g: ∀p,isin p l=false ->ι' p=ι p)(x:V)(v:Value)(h:VR ι w ok x v):VR ι' w' ok' (x.kill l) v:=by
 cases x with
 |w x=>exact WR.kill hk hs g x v h
 |tup cs=>obtain⟨vs,i,j⟩:=h;exact⟨vs,i,qK.kill hk hs g cs vs j⟩
theorem VR.keep (hk:zR w w' ok ok')(hs:yp w w')(x:V)(v:Value)(h:VR ι w ok x v):VR ι w' ok' x v:=by
 cases x with
 |w x=>exact WR.keep hk hs x v h
 |tup cs=>obtain⟨vs,g,i⟩:=h;exact⟨vs,g,qK.keep hk hs cs vs i⟩
end
theorem CRs.length {ι:Nat ->Gh}{w:World}{ok:Nat ->Prop}: ∀{cs:List C}{vs:List Value},CRs ι w ok cs vs ->cs.length=vs.length
 | [],[],_=>rfl
 | [],_::_,h=>h.elim
 |_::_,[],h=>h.elim
 |_::_,_::_,h=>by simp[CRs.length h.2]
theorem CRs.take {ι:Nat ->Gh}{w:World}{ok:Nat ->Prop}: ∀{cs:List C}{vs:List Value}(n:Nat),CRs ι w ok cs vs ->CRs ι w ok (cs.take n) (vs.take n)
 | [],[],n,_=>by grind
 | [],_::_,_,h=>h.elim
 |_::_,[],_,h=>h.elim
 |_::_,_::_,0,_=>by simp[CRs]
 |_::_,_::_,n+1,h=>⟨h.1,CRs.take n h.2⟩
theorem CRs.drop {ι:Nat ->Gh}{w:World}{ok:Nat ->Prop}: ∀{cs:List C}{vs:List Value}(n:Nat),CRs ι w ok cs vs ->CRs ι w ok (cs.drop n) (vs.drop n)
 | [],[],n,_=>by grind
 | [],_::_,_,h=>h.elim
 |_::_,[],_,h=>h.elim
 |_::_,_::_,0,h=>h
 |_::_,_::_,n+1,h=>CRs.drop n h.2
theorem CRs.append {ι:Nat ->Gh}{w:World}{ok:Nat ->Prop}: ∀{cs i:List C}{vs j:List Value},CRs ι w ok cs vs ->CRs ι w ok i j ->CRs ι w ok (cs++i) (vs++j)
 | [],_,[],_,_,g=>g
 | [],_,_::_,_,h,_=>h.elim
 |_::_,_,[],_,h,_=>h.elim
 |_::_,_,_::_,_,h,g=>⟨h.1,CRs.append h.2 g⟩
theorem CR.one {ι:Nat ->Gh}{w:World}{ok:Nat ->Prop}{c:C}{v:Value}(h:CR ι w ok c v)(j:c.isDead=false):v.oneCell'=true:=by
 cases c with
 |dead=>cases j
 |d x=>cases x with
  |lit u=>grind[CR,RD]
  |sl l=>simp only[CR,RD]at h;obtain⟨_,_,_,rfl,_⟩:=h;rfl
  |fn f l=>simp only[CR,RD]at h;obtain⟨_,rfl,_⟩:=h;rfl
 |nil=>simp only[CR]at h;subst h;rfl
 |ptr p o=>obtain⟨_,_,rfl⟩:=h;rfl
 |eptr p z i k=>obtain⟨_,_,rfl⟩:=h;rfl
 |own p z n=>rcases h with⟨_,_,rfl⟩|⟨_,_,_,_,_,rfl,_⟩<;>rfl
 |sub p z o n=>obtain⟨_,_,rfl,_⟩:=h;rfl
 |fp cells=>obtain⟨_,_,rfl,_⟩:=h;rfl
 |clo f g=>obtain⟨_,_,rfl⟩:=h;rfl
theorem CRs.ones {ι:Nat ->Gh}{w:World}{ok:Nat ->Prop}: ∀{cs:List C}{vs:List Value},CRs ι w ok cs vs ->solid cs=true -> ∀v∈vs,v.oneCell'=true
 | [],[],_,_,_,j=>by cases j
 | [],_::_,h,_,_,_=>h.elim
 |_::_,[],h,_,_,_=>h.elim
 |c::cs,v::vs,h,hs,u,i=>by
  unfold solid at hs;cases g:c.isDead
  ·rw[g]at hs;rcases List.mem_cons.1 i with rfl|i
   ·exact CR.one h.1 g
   ·exact CRs.ones h.2 hs u i
  ·rw[g]at hs;cases hs
theorem Pl.live_kill (x:Pl)(l:List Nat):(x.kill l).live=x.live:=by cases x<;>rfl
theorem RowAt.cell {w:World}{b:Nat}{g:Array Value}(h:RowAt w b g)(j:Nat):w.cell? ⟨b,j,none⟩=g[j]? :=by
 obtain⟨t,h⟩:=h;grind[cell_of_row]
theorem RowAt.lt {w:World}{b:Nat}{g:Array Value}(h:RowAt w b g):b<w.heap.size:=by
 obtain⟨t,h⟩:=h;grind
theorem PR.kill {ι ι':Nat ->Gh}{w w':World}{ok ok':Nat ->Prop}{l:List Nat}(hk:zR w w' ok ok')(hs:yp w w')(hι: ∀p,isin p l=false ->ι' p=ι p)(p:Nat)(hp:isin p l=false)(x:Pl)
 (I:x.live=true -> ∀b,(ι p).b=some b ->w'.heap[b]? =w.heap[b]?) (h:PR ι w ok p x):PR ι' w' ok' p (x.kill l):=by
 cases x with
 |box cs=>
  obtain⟨b,g,i,⟨t,j⟩,o⟩:=h;exact⟨b,g,by grind,⟨t,by rw[I rfl b i];exact j⟩,CRs.kill hk hs hι cs _ o⟩
 |arr sz P R=>
  obtain⟨h0,hn,h⟩:=h;refine⟨h0,by grind,?_⟩;rcases h with⟨i,j⟩|⟨b,i,j,o,T⟩
  ·grind
  ·refine .inr ⟨b,by grind,?_,λr=>(hk b (o r)).1,λr=>?_⟩
   ·have J:w'.heap[b]? =w.heap[b]? :=by
     cases R
     ·exact I rfl b i
     ·exact(hk b (o rfl)).2
    grind[RDs.keep',qv]
   ·obtain⟨g,⟨t,U⟩,h6⟩:=T r;subst r;exact⟨g,⟨t,by rw[I rfl b i];exact U⟩,h6⟩
 |fbox ds=>
  obtain⟨b,i,j,o⟩:=h;exact⟨b,by grind,(hk b j).1,RDc.keep hk b j _ _ o⟩
 |gone=>exact h.elim
theorem Grows.refl (M:Nat ->Prop)(w:World):Grows M w w:=⟨rfl,rfl,Out.refl w,Nat.le_refl _,λ_ _ _=>rfl,λ_ _ _ h=>h⟩
section
variable {F:Fr}{N:Nat}{ι:Nat ->Gh}{s:S}{a:Act}{w:World}
theorem S.redo_sl (s:S)(g:List Nat)(new:List (Nat×Pl))(k:Nat):aget (s.redo g new).sl k=(aget s.sl k).map (V.kill g):=by
 grind[S.redo,am7]
theorem S.redo_pl (s:S)(g:List Nat)(new:List (Nat×Pl))(p:Nat):
 aget (s.redo g new).pl p=match aget new p with|some x=>some x|none=>if isin p g=false then(aget s.pl p).map (Pl.kill g)else none:=by
 grind[S.redo,apZ,am7,Yf]
theorem Rel.redoG (hr:Rel F N ι s a w)(j:List Nat)(new:List (Nat×Pl))(ι':Nat ->Gh)(w':World)
 (hι: ∀p,isin p j=false ->ι' p=ι p)
 (P: ∀b,b<w.heap.size ->(∀q y,(isin q j=true\/aget new q≠none) ->aget s.pl q=some y ->y.live=true ->(ι q).b≠some b) ->w'.heap[b]? =w.heap[b]?)
 (hs:yp w w') (ai:w'.os=w.os) (ae:w'.tape=w.tape) (af:Out w w') (R:w.heap.size<=w'.heap.size)
 (au: ∀p x,aget new p=some x ->PR ι' w' (F.ok ι' (s.redo j new).pl w') p x)
 (l: ∀p x b,aget new p=some x ->(ι' p).b=some b ->b<w'.heap.size /\(w.heap.size<=b\/ ∃q y,(isin q j=true\/aget new q≠none)/\aget s.pl q=some y /\y.live=true /\(ι q).b=some b))
 (an: ∀p q x y b,aget new p=some x ->aget new q=some y ->p≠q ->(ι' p).b=some b ->(ι' q).b≠some b)
 (hh: ∀p x g,aget new p=some x ->F.h p=some g ->ι' p=g):
 Rel F N ι' (s.redo j new) a w':=by
 have ab: ∀b,Owns ι' (s.redo j new).pl b ->(w.heap.size<=b\/Owns ι s.pl b)/\b<w'.heap.size:=by
  rintro b ⟨p,x,i,hl,o⟩;rw[S.redo_pl]at i;cases hn:aget new p with
  |some y=>
   simp only[hn]at i;obtain⟨h1,U⟩:=l p y b hn o;refine⟨?_,h1⟩;rcases U with U|⟨q,z,_,h4,h5,h6⟩
   ·grind
   ·exact .inr ⟨q,z,h4,h5,h6⟩
  |none=>
   simp only[hn]at i;split at i
   ·rename_i hk;cases J:aget s.pl p with
    |none=>grind
    |some y=>
     rw[J]at i;simp at i;subst i;have ho:Owns ι s.pl b:=⟨p,y,J,by grind[Pl.live_kill],by grind⟩;exact⟨.inr ho,Nat.lt_of_lt_of_le (hr.mine b ho).2 R⟩
   ·cases i
 have ac:zR w w' (F.ok ι s.pl w) (F.ok ι' (s.redo j new).pl w'):=by
  intro b o;obtain⟨h1,U,I⟩:=o;refine⟨⟨h1,Nat.lt_of_lt_of_le U R,λho=>?_⟩,P b U (λq y _ T hl hq=>I ⟨q,y,T,hl,hq⟩)⟩
  grind
 refine⟨hr.room,?_,?_,?_,?_,hr.defers,?_,hr.foreign,hr.handed,hr.few,hr.hdom,?_⟩
 rotate_left 5
 ·intro p x g i hg;rw[S.redo_pl]at i;cases hn:aget new p with
  |some y=>grind
  |none=>
   simp only[hn]at i;split at i
   ·rename_i hk;cases J:aget s.pl p with
    |none=>grind
    |some y=>rw[hι p hk];exact hr.hkeep p y g J hg
   ·cases i
 ·intro k v hv;rw[S.redo_sl]at hv;cases hk:aget s.sl k with
  |none=>grind
  |some u=>
   rw[hk]at hv;simp at hv;subst hv;obtain⟨x,h1,U⟩:=hr.slots k u hk<;>grind[VR.kill]
 ·intro p x i;rw[S.redo_pl]at i;cases hn:aget new p with
  |some y=>grind
  |none=>
   simp only[hn]at i;split at i
   ·rename_i hk;cases J:aget s.pl p with
    |none=>grind
    |some y=>
     rw[J]at i;simp at i;subst i;refine PR.kill ac hs hι p hk y (λhl b o=>?_) (hr.places p y J);refine P b (hr.mine b ⟨p,y,J,hl,o⟩).2 (λq z hq hz ar ak=>?_);have ad:p≠q:=λe=>by grind
     exact hr.inj p q y z b J hz ad hl o ak
   ·cases i
 ·intro p q x y b i T ad hl o hq;rw[S.redo_pl]at i T;cases hn:aget new p with
  |some x'=>
   simp only[hn]at i;cases i;cases hm:aget new q with
   |some y'=>grind
   |none=>
    simp only[hm]at T;split at T
    ·rename_i hk;cases aa:aget s.pl q with
     |none=>grind
     |some z=>
      rw[aa]at T;simp at T;rw[hι q hk]at hq;obtain⟨_,U⟩:=l p _ b hn o;have aq:b<w.heap.size:=by
       have hz:=hr.places q z aa;cases z with
       |box cs=>obtain⟨b',ag,e1,e2,_⟩:=hz;rw[hq]at e1;cases e1;exact e2.lt
       |arr sz ao fz=>
        obtain⟨_,_,hz|⟨b',e1,e2,e3,e4⟩⟩:=hz
        ·rw[hq]at hz;cases hz.1
        ·rw[hq]at e1;cases e1;cases fz
         ·obtain⟨ag,e5,_⟩:=e4 rfl;exact e5.lt
         ·exact(e3 rfl).2.1
       |fbox ds=>obtain⟨b',e1,e2,_⟩:=hz;rw[hq]at e1;cases e1;exact e2.2.1
       |gone=>exact hz.elim
      rcases U with U|⟨r,u,I,h4,h5,h6⟩
      ·omega
      ·have al:r≠q:=λe=>by subst e;rcases I with I|I; ·rw[hk]at I;cases I
                           ·exact I hm
       exact hr.inj r q u z b h4 aa al h5 h6 hq
    ·cases T
  |none=>
   simp only[hn]at i;split at i
   ·rename_i hk;cases J:aget s.pl p with
    |none=>rw[J]at i;cases i
    |some x'=>
     rw[J]at i;simp at i;subst i;rw[Pl.live_kill]at hl;rw[hι p hk]at o;cases hm:aget new q with
     |some y'=>
      obtain⟨_,U⟩:=l q y' b hm hq;rcases U with U|⟨r,u,I,h4,h5,h6⟩
      ·have:=(hr.mine b ⟨p,x',J,hl,o⟩).2;omega
      ·have aj:p≠r:=λe=>by subst e;rcases I with I|I; ·rw[hk]at I;cases I
                           ·exact I hn
       exact hr.inj p r x' u b J h4 aj hl o h6
     |none=>
      simp only[hm]at T;split at T
      ·rename_i ah;cases aa:aget s.pl q with
       |none=>rw[aa]at T;cases T
       |some z=>
        rw[hι q ah]at hq;exact hr.inj p q x' z b J aa ad hl o hq
      ·cases T
   ·cases i
 ·intro b o;obtain⟨h1,U⟩:=ab b o;refine⟨?_,U⟩;rcases h1 with h1|h1
  ·exact .inr (Nat.le_trans hr.grows.size h1)
  ·exact(hr.mine b h1).1
 ·refine⟨ai.trans hr.grows.os,ae.trans hr.grows.tape,af.trans hr.grows.output,Nat.le_trans hr.grows.size R,λb o hm=>?_,λb t m h=>hs b t m (hr.grows.shapes b t m h)⟩;rw[P b (Nat.lt_of_lt_of_le o hr.grows.size) ?_]
  ·exact hr.grows.block b o hm
  ·intro q y _ T hl hq;rcases(hr.mine b ⟨q,y,T,hl,hq⟩).1 with h|h
   ·exact hm h
   ·omega
theorem Rel.redo (hr:Rel F N ι s a w)(i:List Nat)(new:List (Nat×Pl))(ι':Nat ->Gh)(w':World)
 (hι: ∀p,isin p i=false ->ι' p=ι p)
 (l: ∀b,b<w.heap.size ->(∀q y,isin q i=true ->aget s.pl q=some y ->y.live=true ->(ι q).b≠some b) ->w'.heap[b]? =w.heap[b]?)
 (hs:yp w w') (T:w'.os=w.os) (I:w'.tape=w.tape) (P:Out w w') (o:w.heap.size<=w'.heap.size)
 (U: ∀p x,aget new p=some x ->PR ι' w' (F.ok ι' (s.redo i new).pl w') p x)
 (j: ∀p x b,aget new p=some x ->(ι' p).b=some b ->b<w'.heap.size /\(w.heap.size<=b\/ ∃q y,isin q i=true /\aget s.pl q=some y /\y.live=true /\(ι q).b=some b))
 (J: ∀p q x y b,aget new p=some x ->aget new q=some y ->p≠q ->(ι' p).b=some b ->(ι' q).b≠some b)
 (hh: ∀p x,aget new p=some x ->F.h p=none):
 Rel F N ι' (s.redo i new) a w':=
 hr.redoG i new ι' w' hι (λb R h=>l b R λq y hq=>h q y (.inl hq)) hs T I P o U
  (λp x b hx R=>⟨(j p x b hx R).1,(j p x b hx R).2.imp id λ⟨q,y,h,r⟩=>⟨q,y,.inl h,r⟩⟩) J (λp x g hx hg=>by grind)
theorem Rel.h_slot (hr:Rel F N ι s a w){d:Nat}(i:d<N):F.h d=none:=by
 cases h:F.h d with
 |none=>rfl
 |some g=>have:=hr.hdom d g h;have:=hr.few;omega
theorem Rel.h_big (hr:Rel F N ι s a w){i:Nat}(j:600000<=i):F.h i=none:=by
 cases h:F.h i with
 |none=>rfl
 |some g=>have:=hr.hdom i g h;omega
theorem PR.keep {ι:Nat ->Gh}{w:World}{ok ok':Nat ->Prop}(hk:zR w w ok ok'){p:Nat}{x:Pl}(h:PR ι w ok p x):PR ι w ok' p x:=by
 cases x with
 |box cs=>obtain⟨b,l,i,g,j⟩:=h;exact⟨b,l,i,g,CRs.keep hk (yp.refl w) _ _ j⟩
 |arr sz o R=>
  obtain⟨h0,r,h|⟨b,i,g,j,I⟩⟩:=h
  ·exact⟨h0,r,.inl h⟩
  ·exact⟨h0,r,.inr ⟨b,i,RDs.keep' hk b sz o 0 (λ_ _ _=>rfl) g,λJ=>(hk b (j J)).1,I⟩⟩
 |fbox P=>obtain⟨b,i,g,j⟩:=h;exact⟨b,i,(hk b g).1,RDc.keep hk b g _ _ j⟩
 |gone=>exact h.elim
theorem Rel.sub (hr:Rel F N ι s a w)(t:S)(h1: ∀k v,aget t.sl k=some v ->aget s.sl k=some v)(I: ∀p x,aget t.pl p=some x ->aget s.pl p=some x):Rel F N ι t a w:=by
 have o: ∀b,Owns ι t.pl b ->Owns ι s.pl b:=λb ⟨p,x,l,j,r⟩=>⟨p,x,I p x l,j,r⟩
 have i:zR w w (F.ok ι s.pl w) (F.ok ι t.pl w):=λb J=>⟨⟨J.1,J.2.1,λh=>J.2.2 (o b h)⟩,rfl⟩
 refine⟨hr.room,λk v hv=>?_,λp x P=>?_,λp q x y b P hy=>hr.inj p q x y b (I p x P) (I q y hy),λb J=>hr.mine b (o b J),hr.defers,hr.grows,hr.foreign,hr.handed,hr.few,hr.hdom,λp x g P hg=>hr.hkeep p x g (I p x P) hg⟩
 ·obtain⟨x,l,j⟩:=hr.slots k v (h1 k v hv)
  grind[VR.keep,yp.refl]
 ·have h:=hr.places p x (I p x P);cases x with
  |box cs=>obtain⟨b,R,l,j,r⟩:=h;exact⟨b,R,l,j,CRs.keep i (yp.refl w) _ _ r⟩
  |arr sz T fz=>
   obtain⟨h0,U,h|⟨b,l,j,r,e4⟩⟩:=h
   ·exact⟨h0,U,.inl h⟩
   ·exact⟨h0,U,.inr ⟨b,l,RDs.keep' i b sz T 0 (λ_ _ _=>rfl) j,λhf=>(i b (r hf)).1,e4⟩⟩
  |fbox ds=>obtain⟨b,l,j,r⟩:=h;exact⟨b,l,(i b j).1,RDc.keep i b j _ _ r⟩
  |gone=>exact h.elim
theorem Act.put_size (a:Act)(d:Option Tmp)(v:Value):(a.put d v).tmps.size=a.tmps.size:=by
 cases d<;>grind[Act.put]
theorem Act.put_defers (a:Act)(d:Option Tmp)(v:Value):(a.put d v).defers=a.defers:=by
 cases d<;>grind[Act.put]
theorem Rel.put (hr:Rel F N ι s a w)(d:Option Tmp)(j: ∀k,d=some k ->k<N)(v:V)(x:Value)(o:VR ι w (F.ok ι s.pl w) v x):Rel F N ι (s.put d v) (a.put d x) w:=by
 cases d with
 |none=>exact hr
 |some d=>
  have l:d<a.tmps.size:=Nat.lt_of_lt_of_le (j d rfl) hr.room.1;refine⟨by rw[Act.put_size];exact hr.room,λk u g=>?_,hr.places,hr.inj,hr.mine,by rw[Act.put_defers];exact hr.defers,hr.grows,hr.foreign,hr.handed,hr.few,hr.hdom,hr.hkeep⟩;simp only[S.put,yJ]at g;simp only[Act.put];by_cases hk:d=k
  ·subst hk;simp only[if_true]at g;cases g;exact⟨x,by grind,o⟩
  ·rw[if_neg hk]at g;obtain⟨y,p,i⟩:=hr.slots k u g;exact⟨y,by simp_all,i⟩
end
section
variable {F:Fr}{N:Nat}{ι:Nat ->Gh}{s:S}{a:Act}{w:World}
def S.withPl (s:S)(pl:List (Nat×Pl)):S:={s with pl:=pl}
theorem vS (pl:List (Nat×Pl))(p q:Nat):aget (vo pl p) q=if p=q then(match aget pl p with|some (.arr z g _)=>some (.arr z g true)|x=>x)else aget pl q:=by
 grind[vo,yJ]
theorem Rel.freeze (hr:Rel F N ι s a w)(p:Nat):Rel F N ι (s.withPl (vo s.pl p)) a w:=by
 have aa: ∀b,Owns ι (vo s.pl p) b ->Owns ι s.pl b:=by
  rintro b ⟨q,x,J,U,h3⟩;rw[vS]at J;split at J
  ·rename_i e;subst e;cases P:aget s.pl p with
   |none=>grind
   |some y=>
    rw[P]at J;cases y with
    |arr z T fz=>cases J;cases U
    |_=>cases J;exact⟨p,_,P,U,h3⟩
  ·exact⟨q,x,J,U,h3⟩
 have i:zR w w (F.ok ι s.pl w) (F.ok ι (vo s.pl p) w):=λb hb=>⟨⟨hb.1,hb.2.1,λh=>hb.2.2 (aa b h)⟩,rfl⟩
 refine⟨hr.room,λk v hv=>?_,λq x hx=>?_,λq r x y b hx hy ad hl hb ae=>?_,λb hb=>hr.mine b (aa b hb),hr.defers,hr.grows,hr.foreign,hr.handed,hr.few,hr.hdom,λq x g hx hg=>?_⟩
 rotate_left 3
 ·have j:aget (vo s.pl p) q=some x:=hx;rw[vS]at j;split at j
  ·rename_i e;subst e;cases P:aget s.pl p with
   |none=>grind
   |some y=>exact hr.hkeep p y g P hg
  ·exact hr.hkeep q x g j hg
 ·obtain⟨x,l,o⟩:=hr.slots k v hv;exact⟨x,l,VR.keep i (yp.refl w) v x o⟩
 ·have j:aget (vo s.pl p) q=some x:=hx;rw[vS]at j;split at j
  ·rename_i e;subst e;cases P:aget s.pl p with
   |none=>grind
   |some y=>
    have h:=hr.places p y P;rw[P]at j;cases y with
    |box cs=>cases j;obtain⟨b,ab,l,o,R⟩:=h;exact⟨b,ab,l,o,CRs.keep i (yp.refl w) _ _ R⟩
    |fbox ds=>cases j;obtain⟨b,l,o,R⟩:=h;exact⟨b,l,(i b o).1,RDc.keep i b o _ _ R⟩
    |gone=>exact h.elim
    |arr z T fz=>
     cases j;obtain⟨h0,hn,h|⟨b,l,o,R,e4⟩⟩:=h
     ·exact⟨h0,hn,.inl h⟩
     ·refine⟨h0,hn,.inr ⟨b,l,RDs.keep' i b z T 0 (λ_ _ _=>rfl) o,λ_=>?_,λhf=>by cases hf⟩⟩;cases fz
      ·have ho:Owns ι s.pl b:=⟨p,_,P,rfl,l⟩;refine⟨?_,(hr.mine b ho).2,?_⟩
       ·rcases(hr.mine b ho).1 with h|h<;>grind
       ·rintro⟨q,x,J,U,h3⟩;have I:aget (vo s.pl p) q=some x:=J;rw[vS]at I;split at I
        ·rename_i e;subst e;rw[P]at I;cases I;cases U
        ·rename_i ac;exact hr.inj p q _ x b P I ac rfl l h3
      ·exact(i b (R rfl)).1
  ·have h:=hr.places q x j;cases x with
   |box cs=>obtain⟨b,ab,l,o,R⟩:=h;exact⟨b,ab,l,o,CRs.keep i (yp.refl w) _ _ R⟩
   |fbox ds=>obtain⟨b,l,o,R⟩:=h;exact⟨b,l,(i b o).1,RDc.keep i b o _ _ R⟩
   |gone=>exact h.elim
   |arr sz T fz=>
    obtain⟨h0,hn,h|⟨b,l,o,R,e4⟩⟩:=h
    ·exact⟨h0,hn,.inl h⟩
    ·exact⟨h0,hn,.inr ⟨b,l,RDs.keep' i b sz T 0 (λ_ _ _=>rfl) o,λhf=>(i b (R hf)).1,e4⟩⟩
 ·have j:aget (vo s.pl p) q=some x:=hx;have af:aget (vo s.pl p) r=some y:=hy;rw[vS]at j af;have J: ∃x',aget s.pl q=some x' /\x'.live=true:=by
   split at j
   ·rename_i e;subst e;cases P:aget s.pl p with
    |none=>grind
    |some z=>
     rw[P]at j;cases z with
     |arr z T fz=>cases j;cases hl
     |_=>cases j;exact⟨_,rfl,hl⟩
   grind
  have U: ∃y',aget s.pl r=some y':=by
   grind
  obtain⟨x',J,I⟩:=J;obtain⟨y',U⟩:=U;exact hr.inj q r x' y' b J U ad I hb ae
theorem avq (p b:Nat)(h:F.ok ι s.pl w b):F.ok ι (vo s.pl p) w b:=by
 refine⟨h.1,h.2.1,λr=>h.2.2 ?_⟩;obtain⟨q,x,g,i,j⟩:=r;rw[vS]at g;split at g
 ·rename_i e;subst e;cases l:aget s.pl p with
  |none=>grind
  |some y=>
   rw[l]at g;cases y with
   |arr z o I=>cases g;cases i
   |_=>cases g;exact⟨p,_,l,i,j⟩
 ·exact⟨q,x,g,i,j⟩
theorem Rel.still (hr:Rel F N ι s a w){p:Nat}{x y:Pl}(hp:aget s.pl p=some x)(hx:x.live=true)(hy:y.live=false)
 (ab:(∀b,F.ok ι s.pl w b ->F.ok ι (yZ p y s.pl) w b) ->(∀b,(ι p).b=some b ->F.ok ι (yZ p y s.pl) w b) ->PR ι w (F.ok ι (yZ p y s.pl) w) p y):
 Rel F N ι (s.withPl (yZ p y s.pl)) a w /\(∀b,F.ok ι s.pl w b ->F.ok ι (yZ p y s.pl) w b)/\(∀b,(ι p).b=some b ->F.ok ι (yZ p y s.pl) w b):=by
 have I: ∀b,Owns ι (yZ p y s.pl) b ->Owns ι s.pl b /\(ι p).b≠some b:=by
  rintro b ⟨q,z,h1,h2,h3⟩;rw[yJ]at h1;split at h1
  ·grind
  ·rename_i aa;exact⟨⟨q,z,h1,h2,h3⟩,λe=>hr.inj p q x z b hp h1 aa hx e h3⟩
 have j: ∀b,F.ok ι s.pl w b ->F.ok ι (yZ p y s.pl) w b:=λb l=>⟨l.1,l.2.1,λh=>l.2.2 (I b h).1⟩
 have o:zR w w (F.ok ι s.pl w) (F.ok ι (yZ p y s.pl) w):=λb l=>⟨j b l,rfl⟩
 have J: ∀b,(ι p).b=some b ->F.ok ι (yZ p y s.pl) w b:=λb l=>by
  have ho:Owns ι s.pl b:=⟨p,x,hp,hx,l⟩;refine⟨?_,(hr.mine b ho).2,λh=>(I b h).2 l⟩;rcases(hr.mine b ho).1 with h|h<;>grind
 refine⟨⟨hr.room,λk v hv=>?_,λq z U=>?_,λq r z u b U hu R hl l T=>?_,λb l=>hr.mine b (I b l).1,hr.defers,hr.grows,hr.foreign,hr.handed,hr.few,hr.hdom,λq z g U hg=>?_⟩,j,J⟩
 ·obtain⟨u,e1,e2⟩:=hr.slots k v hv;exact⟨u,e1,VR.keep o (yp.refl w) v u e2⟩
 ·have i:aget (yZ p y s.pl) q=some z:=U;rw[yJ]at i;split at i
  ·rename_i e;subst e;cases i;exact ab j J
  ·exact PR.keep o (hr.places q z i)
 ·have i:aget (yZ p y s.pl) q=some z:=U;have P:aget (yZ p y s.pl) r=some u:=hu;rw[yJ]at i P;split at i
  ·grind
  ·split at P
   ·rename_i e;subst e;exact hr.inj q p z x b i hp R hl l T
   ·exact hr.inj q r z u b i P R hl l T
 ·have i:aget (yZ p y s.pl) q=some z:=U;rw[yJ]at i;split at i
  ·rename_i e;subst e;exact hr.hkeep p x g hp hg
  ·exact hr.hkeep q z g i hg
theorem aoN (hr:Rel F N ι s a w){p z n:Nat}{v:Value}{sz:Nat}{g:List (List D)}{i:Bool}(r:aget s.pl p=some (.arr sz g i))(J:z=sz)
 (h:CR ι w (F.ok ι s.pl w) (.own p z n) v):n<=g.length /\((n=0 /\v= .slice none 0 0 /\(ι p).b=none /\g=[])\/
  ∃b cap t,(ι p).b=some b /\v= .slice (some ⟨b,0,none⟩) n cap /\n<=cap /\cap<=maxLen /\w.shape? b=some (t,cap*sz)/\RDs w (F.ok ι s.pl w) b sz 0 g):=by
 subst J;obtain⟨h0,U,I⟩:=hr.places p _ r;rcases h with⟨j,l,o⟩|⟨b,cap,t,j,l,o,P,R,T⟩
 ·simp_all
 grind
theorem ac0 (hr:Rel F N ι s a w){p z n:Nat}{v:Value}{sz:Nat}{g:List (List D)}{i:Bool}(r:aget s.pl p=some (.arr sz g i))
 (h:CR ι w (F.ok ι s.pl w) (.own p z n) v):n<=g.length /\((n=0 /\v= .slice none 0 0 /\(ι p).b=none /\g=[])\/
  ∃b cap t,(ι p).b=some b /\v= .slice (some ⟨b,0,none⟩) n cap /\n<=cap /\cap<=maxLen /\w.shape? b=some (t,cap*z)/\RDs w (F.ok ι s.pl w) b sz 0 g):=by
 obtain⟨h0,T,I⟩:=hr.places p _ r;rcases h with⟨j,l,o⟩|⟨b,cap,t,j,l,o,J,P,R⟩
 ·simp_all
 grind
theorem avt (hr:Rel F N ι s a w){p sz n:Nat}{g:List (List D)}{J:Bool}(hp:aget s.pl p=some (.arr sz g J)){b cap:Nat}(P:(ι p).b=some b)(U:n<=g.length)
 (j:n<=cap) (i:cap<=maxLen):
 RD w (F.ok ι (vo s.pl p) w) (.sl (g.take n)) (.slice (some ⟨b,0,none⟩) n cap):=by
 simp only[RD];refine⟨_,_,_,rfl,by simp;omega,j,i,?_⟩;have o:=(hr.freeze p).places p (.arr sz g true) (by show aget (vo s.pl p) p=_;simp_all[vS]);obtain⟨_,_,o|⟨R,l,r,I,T⟩⟩:=o
 ·grind
 ·rw[P]at l;cases l;exact .inr ⟨b,0,sz,rfl,I rfl,RDs.take n r⟩
theorem adD (hr:Rel F N ι s a w){c:C}{v:Value}(j:CR ι w (F.ok ι s.pl w) c v){x:D}{g:List (Nat×Pl)}(h:WD s.pl c=some (x,g)):
 Rel F N ι (s.withPl g) a w /\(∀b,F.ok ι s.pl w b ->F.ok ι g w b)/\RD w (F.ok ι g w) x v:=by
 cases c with
 |d y=>cases h;exact⟨hr,λ_ h=>h,j⟩
 |nil=>cases h;exact⟨hr,λ_ h=>h,by simp only[CR]at j;subst j;simp only[RD];exact⟨none,0,0,rfl,rfl,Nat.le_refl _,Nat.zero_le _,.inl trivial⟩⟩
 |own p z n=>
  simp only[WD]at h;cases r:aget s.pl p with
  |none=>grind
  |some y=>
   cases y with
   |box cs=>grind
   |fbox T=>grind
   |gone=>grind
   |arr sz I U=>
    simp only[r]at h;cases h;refine⟨hr.freeze p,λb=>avq p b,?_⟩;obtain⟨hn,h|⟨b,cap,t,J,P,h3,h4,h5,h6⟩⟩:=ac0 hr r j
    ·obtain⟨rfl,rfl,_,_⟩:=h;simp only[RD,List.take_zero];exact⟨none,0,0,rfl,rfl,Nat.le_refl _,Nat.zero_le _,.inl trivial⟩
    grind[avt]
 |dead=>cases h
 |sub p z o n=>cases h
 |ptr p o=>cases h
 |eptr p z i k=>cases h
 |fp l=>cases h
 |clo f l=>
  cases l with
  |cons _ _=>cases h
  |nil=>
   cases h;refine⟨hr,λ_ h=>h,?_⟩;obtain⟨R,J,P⟩:=j<;>simp_all[RD,RDf]
theorem Wr: ∀{cs:List C}{vs:List Value}{s:S}(_:Rel F N ι s a w) (_:CRs ι w (F.ok ι s.pl w) cs vs) {o:List D}{g:List (Nat×Pl)}(_:jj s.pl cs=some (o,g)),
 Rel F N ι (s.withPl g) a w /\(∀b,F.ok ι s.pl w b ->F.ok ι g w b)/\CRs ι w (F.ok ι g w) (o.map .d) vs
 | [],[],s,hr,_,o,g,h=>by cases h;exact⟨hr,λ_ h=>h,trivial⟩
 | [],_::_,_,_,j,_,_,_=>j.elim
 |_::_,[],_,_,j,_,_,_=>j.elim
 |c::cs,v::vs,s,hr,j,o,g,h=>by
  unfold jj at h;cases p:WD s.pl c with
  |none=>rw[p]at h;cases h
  |some y=>
   obtain⟨y,i⟩:=y;rw[p]at h;simp only[]at h;obtain⟨g1,g2,g3⟩:=adD hr j.1 p;cases r:jj i cs with
   |none=>rw[r]at h;cases h
   |some z=>
    obtain⟨z,R⟩:=z;rw[r]at h;cases h;have hk:zR w w (F.ok ι s.pl w) (F.ok ι i w):=λb l=>⟨g2 b l,rfl⟩
    obtain⟨J,I,P⟩:=Wr (s:=s.withPl i) g1 (CRs.keep hk (yp.refl w) _ _ j.2) r;exact⟨J,λb l=>I b (g2 b l),RD.keep (λb l=>⟨I b l,rfl⟩) _ _ g3,P⟩
theorem atP (hr:Rel F N ι s a w){c:W}{v:Value}(j:WR ι w (F.ok ι s.pl w) c v){x:W}{g:List (Nat×Pl)}(h:atO s.pl c=some (x,g)):
 Rel F N ι (s.withPl g) a w /\(∀b,F.ok ι s.pl w b ->F.ok ι g w b)/\(∀ι',WR ι' w (F.ok ι g w) x v):=by
 cases c with
 |c c=>
  by_cases o: ∃l,c= .fp l
  ·obtain⟨l,rfl⟩:=o;cases h;exact⟨hr,λ_ h=>h,λ_=>j⟩
  ·have r:(match WD s.pl c with|some (y,g)=>some (W.c (.d y),g)|none=>none)=some (x,g):=by
    rw[<- h];cases c with
    |fp l=>grind
    |_=>rfl
   cases i:WD s.pl c with
   |none=>grind
   |some y=>
    simp only[i]at r;cases r;obtain⟨g1,g2,g3⟩:=adD hr j i;exact⟨g1,g2,λ_=>g3⟩
 |agg cs=>
  simp only[atO]at h;cases i:jj s.pl cs with
  |none=>grind
  |some y=>
   simp only[i]at h;cases h;obtain⟨vs,rfl,j⟩:=j;obtain⟨g1,g2,g3⟩:=Wr hr j i;refine⟨g1,g2,λι'=>⟨vs,rfl,?_⟩⟩;clear i j;generalize y.1=p at*;induction p generalizing vs with
   |nil=>cases vs<;>exact g3
   |cons d p I=>cases vs with
    |nil=>exact g3
    |cons v vs=>exact⟨g3.1,I vs g3.2⟩
theorem afo: ∀{cs:List W}{vs:List Value}{s:S}(_:Rel F N ι s a w) (_:qK ι w (F.ok ι s.pl w) cs vs) {o:List W}{g:List (Nat×Pl)}(_:abk s.pl cs=some (o,g)),
 Rel F N ι (s.withPl g) a w /\(∀b,F.ok ι s.pl w b ->F.ok ι g w b)/\(∀ι',qK ι' w (F.ok ι g w) o vs)
 | [],[],s,hr,_,o,g,h=>by cases h;exact⟨hr,λ_ h=>h,λ_=>trivial⟩
 | [],_::_,_,_,j,_,_,_=>j.elim
 |_::_,[],_,_,j,_,_,_=>j.elim
 |c::cs,v::vs,s,hr,j,o,g,h=>by
  unfold abk at h;cases p:atO s.pl c with
  |none=>rw[p]at h;cases h
  |some y=>
   obtain⟨y,i⟩:=y;rw[p]at h;simp only[]at h;obtain⟨g1,g2,g3⟩:=atP hr j.1 p;cases r:abk i cs with
   |none=>rw[r]at h;cases h
   |some z=>
    obtain⟨z,R⟩:=z;rw[r]at h;cases h;have hk:zR w w (F.ok ι s.pl w) (F.ok ι i w):=λb l=>⟨g2 b l,rfl⟩
    obtain⟨J,I,P⟩:=afo (s:=s.withPl i) g1 (qK.keep hk (yp.refl w) _ _ j.2) r;exact⟨J,λb l=>I b (g2 b l),λι'=>⟨WR.keep (λb l=>⟨I b l,rfl⟩) (yp.refl w) _ _ (g3 ι'),P ι'⟩⟩
end
theorem aki (ι:Nat ->Gh)(w:World)(ok:Nat ->Prop)(v:Value):CR ι w ok (XK v) v:=by
 unfold XK
 split<;>first
  |trivial
  |rfl
  |(simp only[CR,RD];exact⟨rfl,rfl⟩)
theorem YX (ι:Nat ->Gh)(w:World)(ok:Nat ->Prop): ∀(vs:List Value),CRs ι w ok (vs.map XK) vs
 | []=>trivial
 |v::vs=>⟨aki ι w ok v,YX ι w ok vs⟩
theorem UE (ι:Nat ->Gh)(w:World)(ok:Nat ->Prop)(v:Value):WR ι w ok (ofValue v) v:=by
 unfold ofValue;split
 ·exact⟨_,by simp,YX ι w ok _⟩
 ·exact aki ι w ok _
section
variable {F:Fr}{N:Nat}{ι:Nat ->Gh}{s:S}{a:Act}{w:World}
theorem auc (hr:Rel F N ι s a w)(t:Nat):VR ι w (F.ok ι s.pl w) (s.tmp t) (a.tmps.getD t undef):=by
 unfold S.tmp;cases h:aget s.sl t with
 |none=>trivial
 |some v=>
  obtain⟨x,g,i⟩:=hr.slots t v h<;>simp_all
theorem jg (hr:Rel F N ι s a w)(x:Operand):VR ι w (F.ok ι s.pl w) (s.o (cO x)) (a.eval x):=by
 cases x with
 |tmp t=>exact auc hr t
 |const v=>exact UE ι w _ v
 |global g=>trivial
 |func f=>exact⟨[],rfl,rfl⟩
theorem qJ (hr:Rel F N ι s a w)(x:Operand):CR ι w (F.ok ι s.pl w) (s.oc (cO x)) (a.eval x):=by
 have h:=jg hr x;unfold S.oc cOf;cases e:s.o (cO x)with
 |w y=>rw[e]at h;cases y with
  |c z=>exact h
  |agg cs=>trivial
 |tup xs=>trivial
theorem ar0 (hr:Rel F N ι s a w)(x:Operand):WR ι w (F.ok ι s.pl w) (s.ow (cO x)) (a.eval x):=by
 have h:=jg hr x;unfold S.ow wOf;cases e:s.o (cO x)with
 |w y=>rw[e]at h;exact h
 |tup xs=>trivial
theorem agV (hr:Rel F N ι s a w): ∀(l:List Operand),qK ι w (F.ok ι s.pl w) ((l.map cO).map s.ow) (l.map a.eval)
 | []=>trivial
 |x::r=>⟨ar0 hr x,agV hr r⟩
end
def qk (P:Program)(F:Fr)(N:Nat)(o:Oper)(a:Act)(w:World)(K:S ->Prop):Prop:=
 ∀(next:Act ->World ->Prop) (Q:Exit ->Act ->World ->Prop),(∀ι s g w',Rel F N ι s g w' ->K s ->next g w') ->o.wp P a w next Q
section
variable {P:Program}{F:Fr}{N:Nat}{ι:Nat ->Gh}{s:S}{a:Act}{w:World}{o:Oper}{K:S ->Prop}
theorem qk.of_value {v:Value}{w':World}{ι':Nat ->Gh}{g:S}(h:(execOp a.eval o).run P w= .ok (.value v) w')(hr:Rel F N ι' g (a.put o.dst v) w')(hk:K g):qk P F N o a w K:=by
 intro next Q i;unfold Oper.wp;rw[h];exact i ι' g _ _ hr hk
theorem qk.of_skip {w':World}{ι':Nat ->Gh}{g:S}(h:(execOp a.eval o).run P w= .ok .skip w')(hr:Rel F N ι' g (a.put o.dst undef) w')(hk:K g):qk P F N o a w K:=by
 intro next Q i;unfold Oper.wp;rw[h];exact i ι' g _ _ hr hk
theorem qk.put (hr:Rel F N ι s a w)(g: ∀k,o.dst=some k ->k<N){v:Value}{x:V}(h:(execOp a.eval o).run P w= .ok (.value v) w)(i:VR ι w (F.ok ι s.pl w) x v)(hk:K (s.put o.dst x)):qk P F N o a w K:=
 qk.of_value h (hr.put o.dst g x v i) hk
def zH (P:Program)(F:Fr)(N:Nat)(o:Oper)(a:Act)(w:World)(C:World ->Prop)(K:S ->Prop):Prop:=
 ∃v ι' g,(∀w',C w' ->(execOp a.eval o).run P w'= .ok (.value v) w')/\Rel F N ι' g (a.put o.dst v) w /\K g
theorem zH.fine {C:World ->Prop}(hC:C w)(h:zH P F N o a w C K):qk P F N o a w K:=
 let⟨_,_,_,g,i,j⟩:=h
 qk.of_value (g w hC) i j
theorem zH.put {C:World ->Prop}(hr:Rel F N ι s a w)(g: ∀k,o.dst=some k ->k<N){v:Value}{x:V}(h: ∀w',C w' ->(execOp a.eval o).run P w'= .ok (.value v) w')(i:VR ι w (F.ok ι s.pl w) x v)(hk:K (s.put o.dst x)):zH P F N o a w C K:=
 ⟨v,ι,_,h,hr.put o.dst g x v i,hk⟩
def uN (w w':World):Prop:=w.heap.size<=w'.heap.size /\ ∀b,b<w.heap.size ->w'.heap[b]? =w.heap[b]?
theorem uN.refl (w:World):uN w w:=⟨Nat.le_refl _,λ_ _=>rfl⟩
theorem uN.trans {w w' g:World}(h:uN w w')(k:uN w' g):uN w g:=
 ⟨Nat.le_trans h.1 k.1,λb i=>(k.2 b (Nat.lt_of_lt_of_le i h.1)).trans (h.2 b i)⟩
theorem uN.cell {w w':World}(h:uN w w'){b q:Nat}{v:Value}(i:w.cell? ⟨b,q,none⟩=some v):w'.cell? ⟨b,q,none⟩=some v:=by
 have j:b<w.heap.size:=by
  rcases Nat.lt_or_ge b w.heap.size with g|g
  ·exact g
  ·simp[World.cell?,Array.getElem?_eq_none g]at i
 simp only[World.cell?,h.2 b j]at i⊢;exact i
def uy (P:Program)(F:Fr)(N:Nat)(o:Oper)(a:Act)(w:World)(K:S ->Prop):Prop:=
 ∀(next:Act ->World ->Prop) (Q:Exit ->Act ->World ->Prop),(∀ι s g w',Rel F N ι s g w' ->K s ->uN w w' ->next g w') ->o.wp P a w next Q
theorem uy.fine (h:uy P F N o a w K):qk P F N o a w K:=λnext Q i=>h next Q λι s g w' hr hk _=>i ι s g w' hr hk
theorem uy.of_value {v:Value}{w':World}{ι':Nat ->Gh}{g:S}(i:uN w w')(h:(execOp a.eval o).run P w= .ok (.value v) w')(hr:Rel F N ι' g (a.put o.dst v) w')(hk:K g):uy P F N o a w K:=by
 intro next Q j;unfold Oper.wp;rw[h];exact j ι' g _ _ hr hk i
theorem wJ (b o j:Nat):(⟨b,o,none⟩:Addr).add j=⟨b,o+j,none⟩:=by
 grind[Addr.add]
theorem acy {t:TypeId}{d:TypeDesc}(h:P.underlying t=some d): ∃i,P.info? t=some i:=by
 grind[Program.underlying]
theorem vM {t:TypeId}{i:TypeInfo}(h:P.info? t=some i)(w:World):(sizeOf t).run P w= .ok (z0 P t) w:=by
 simp_all[sizeOf,typeInfo,z0]
theorem adB {t:TypeId}{g:Bool}(h:kI P t=some g): ∃i,P.info? t=some i /\ ∀w,(isAgg t).run P w= .ok g w:=by
 unfold kI at h;cases j:P.underlying t with
 |none=>grind
 |some d=>
  obtain⟨i,l⟩:=acy j;refine⟨i,l,λw=>?_⟩;rw[j]at h;cases d<;>simp_all[isAgg,run_underlying]
theorem vO {t e:TypeId}(h:uk P t=some e):P.underlying t=some (.slice e):=by
 grind[uk]
theorem kJ {t:TypeId}{f off:Nat}{i:TypeId}(h:JY P t f=some (off,i)): ∃g x,P.underlying t=some (.struct g)/\g[f]? =some x /\x.offset=off /\x.type=i:=by
 grind[JY]
theorem Z8 {v:V}{n:Int}{x:Value}{ok:Nat ->Prop}(h:XH v=some n)(g:VR ι w ok v x): ∃k,x= .int k n /\v= .w (.c (.d (.lit (.int k n)))):=by
 unfold XH at h<;>grind[VR,WR,CR,RD]
theorem We {v:V}{b:Bool}{x:Value}{ok:Nat ->Prop}(h:yY v=some b)(g:VR ι w ok v x):x= .bool b:=by
 unfold yY at h<;>grind[VR,WR,CR,RD]
theorem xS {ok:Nat ->Prop}{v x:Value}:CR ι w ok (.d (.lit v)) x ->x=v:=by
 grind[CR,RD]
theorem xB {ok:Nat ->Prop}{v:Value}(h:v.oneCell'=true):VR ι w ok (cV (.d (.lit v))) v:=by
 grind[cV,VR,WR,CR,RD]
theorem K4 (hr:Rel F N ι s a w)(i: ∀k,o.dst=some k ->k<N){x:Operand}(g:o.op= .move x\/o.op= .assign x)(h:K (s.put o.dst (s.o (cO x)))):zH P F N o a w (λ_=>True) K:=by
 refine zH.put hr i ?_ (jg hr x) h;intro w' _;rcases g with g|g<;>simp_all[execOp]
theorem aiC (hr:Rel F N ι s a w)(i: ∀k,o.dst=some k ->k<N){c x y:Operand}(l:o.op= .pick c x y)
 (h:match yY (s.o (cO c))with|some t=>cond t (K (s.put o.dst (s.o (cO x)))) (K (s.put o.dst (s.o (cO y))))|none=>False):zH P F N o a w (λ_=>True) K:=by
 cases g:yY (s.o (cO c))with
 |none=>grind
 |some t=>
  simp only[g]at h;have j:=We g (jg hr c);cases t
  ·exact zH.put hr i (λw' _=>by simp_all[execOp,asBool]) (jg hr y) h
  ·exact zH.put hr i (λw' _=>by simp_all[execOp,asBool]) (jg hr x) h
theorem alk (hr:Rel F N ι s a w)(J: ∀k,o.dst=some k ->k<N){x:Operand}{i:Nat}(U:o.op= .extract x i)
 (h:z8 P o.dst (.ext (cO x) i) s K):zH P F N o a w (λ_=>True) K:=by
 simp only[z8]at h;have r:=jg hr x;cases e:s.o (cO x)with
 |w y=>grind
 |tup xs=>
  simp only[e]at h;rw[e]at r;obtain⟨vs,hv,l⟩:=r;cases p:xs[i]? with
  |none=>grind
  |some y=>
   simp only[p]at h;have: ∀(xs:List W) (vs:List Value) (i:Nat) (y:W),qK ι w (F.ok ι s.pl w) xs vs ->xs[i]? =some y -> ∃v,vs[i]? =some v /\WR ι w (F.ok ι s.pl w) y v:=by
    intro xs;induction xs with
    |nil=>grind
    |cons z zs R=>
     intro vs i y j g;cases vs with
     |nil=>exact j.elim
     |cons v vs=>cases i with
      |zero=>simp at g;subst g;exact⟨v,rfl,j.1⟩
      |succ i=>simp at g;simpa using R vs i y j.2 g
   obtain⟨v,T,I⟩:=this xs vs i y l p;refine zH.put hr J ?_ (show VR ι w _ (.w y) v from I) h;simp_all[execOp,Instr.extract]
theorem apH (hr:Rel F N ι s a w)(I: ∀k,o.dst=some k ->k<N){x:Operand}(J:o.op= .nilCheck x)
 (h:z8 P o.dst (.nc (cO x)) s K):zH P F N o a w (λ_=>True) K:=by
 simp only[z8]at h;have r:=qJ hr x;cases e:s.oc (cO x)<;>simp only[e]at h<;>rw[e]at r
 case ptr p k=>
  obtain⟨b,g,j⟩:=r;exact zH.put hr I (v:=a.eval x) (λw' _=>by simp_all[execOp]) (show VR ι w _ (cV (.ptr p k)) _ from⟨b,g,j⟩) h
 case eptr p z i k=>
  obtain⟨b,g,j⟩:=r;exact zH.put hr I (v:=a.eval x) (λw' _=>by simp_all[execOp]) (show VR ι w _ (cV (.eptr p z i k)) _ from⟨b,g,j⟩) h
 case fp l=>
  obtain⟨b,q,g,j⟩:=r;exact zH.put hr I (v:=a.eval x) (λw' _=>by simp_all[execOp]) (show VR ι w _ (cV (.fp l)) _ from⟨b,q,g,j⟩) h
theorem akT (hr:Rel F N ι s a w): ∀(g:List Operand) (j:List Nat),aoR s (g.map cO)=some j -> ∃i:List Nat,j.map (λp=>(ι p).b)=i.map some /\g.map a.eval=i.map λb=>Value.pointer (some ⟨b,0,none⟩)
 | [],j,h=>by cases h;simp_all
 |x::r,j,h=>by
  simp only[List.map_cons,aoR]at h;have o:=qJ hr x;split at h
  ·rename_i p l T U;cases h;rw[T]at o;obtain⟨b,I,J⟩:=o;obtain⟨i,P,R⟩:=akT hr r l U;exact⟨b::i,by simp[I,P],by simp[J,R]⟩
  ·cases h
theorem av5 (hr:Rel F N ι s a w)(r: ∀k,o.dst=some k ->k<N){f:FuncId}{first g:Array Operand}(T:o.op= .makeFunc (.func f) first g)(R:first.toList.isEmpty=true)
 (h:z8 P o.dst (.clo f (g.toList.map cO)) s K):qk P F N o a w K:=by
 simp only[z8]at h;cases e:aoR s (g.toList.map cO)with
 |none=>grind
 |some l=>
  simp only[e]at h;obtain⟨j,p,I⟩:=akT hr g.toList l e;have i:first= #[]:=by
   grind
  refine qk.put hr r (v:=.func (.func f) #[] (j.map λb=>Value.pointer (some ⟨b,0,none⟩)).toArray) ?_ (show VR ι w _ (cV (.clo f l)) _ from⟨j,p,rfl⟩) h;have J:g.map a.eval=(j.map λb=>Value.pointer (some ⟨b,0,none⟩)).toArray:=by
   grind
  simp_all[execOp,Instr.makeFunc]
theorem aoT {α:Type}: ∀(e:Sem α) (v:α),gP P e=some v -> ∀w,e.run P w= .ok v w:=by
 intro e;induction e with
 |pure x=>simp_all[gP]
 |program k g=>intro v h w;exact g P v h w
 |mark m k g=>intro v h w;exact g v h w
 |_=>intro v h w;cases h
theorem ahY {ok:Nat ->Prop}: ∀(cs:List C) (l vs:List Value),amN cs=some l ->CRs ι w ok cs vs ->vs=l
 | [],_,[],h,_=>by cases h;rfl
 | [],_,_::_,_,h=>h.elim
 |_::_,_,[],_,h=>h.elim
 |c::cs,l,v::vs,h,j=>by
  simp only[amN]at h;split at h
  ·rename_i u m g o;cases h;have:=ahY cs m vs o j.2;subst this;have i:=j.1;unfold asW at g;split at g
   ·cases g;rw[xS i]
   ·cases g;simp only[CR]at i;rw[i]
   ·cases g
  ·cases h
theorem ave {ok:Nat ->Prop}{v:V}{u x:Value}(h:aoC v=some u)(g:VR ι w ok v x):x=u:=by
 cases v with
 |tup xs=>cases h
 |w y=>
  cases y with
  |c c=>
   simp only[aoC,ax1]at h;unfold asW at h;split at h
   ·cases h;exact xS (ι:=ι) (w:=w) (ok:=ok) g
   ·cases h;exact g
   ·cases h
  |agg cs=>
   simp only[aoC,ax1]at h;obtain⟨vs,i,j⟩:=g<;>grind[ahY]
theorem aoV (hr:Rel F N ι s a w): ∀(l:List Operand),ab5 s l=true -> ∀x∈l,rho s x=a.eval x
 | [],_,_,g=>by cases g
 |y::r,h,x,g=>by
  simp only[ab5]at h;split at h
  ·rename_i u i;rcases List.mem_cons.1 g with rfl|g
   ·unfold rho;rw[i];exact(ave i (jg hr x)).symm
   ·exact aoV hr r h x g
  ·cases h
def arx:Op ->Bool
 | .convert _ _ _| .binOp _ _ _ _ _| .unOp _ _ _=>true
 | .call {callee:=.builtin _,args:=_,argTypes:=_}=>true
 |_=>false
theorem asx {ρ ρ':Operand ->Value}{o j:Oper}(i:arx o.op=true)(l:j.op=o.op)(p:j.type=o.type)(h: ∀x∈o.op.operands.toList,ρ x=ρ' x):execOp ρ' j=execOp ρ o:=by
 unfold execOp;rw[l,p];cases r:o.op<;>rw[r]at i h<;>try (cases i;done)
 case convert src dst x=>simp[Op.operands]at h;simp[h]
 case binOp b t x y u=>simp[Op.operands]at h;simp[h.1,h.2]
 case unOp u t x=>simp[Op.operands]at h;simp[h]
 case call c=>
  obtain⟨callee,args,I⟩:=c;cases callee<;>try (cases i;done)
  case builtin b=>
   have g:args.map ρ'=args.map ρ:=by
    grind[Op.operands,Call.operands]
   simp[resolve,g]
theorem vN (hr:Rel F N ι s a w)(i: ∀k,o.dst=some k ->k<N)(j:arx o.op=true)(h:z8 P o.dst (.pure o.op o.type) s K):zH P F N o a w (λ_=>True) K:=by
 simp only[z8,ar2]at h;cases g:ab5 s o.op.operands.toList with
 |false=>grind
 |true=>
  rw[g]at h;simp only[cond_true]at h;split at h
  ·rename_i v p;have l:execOp a.eval o=execOp (rho s) (aoS o.op o.type):=asx (o:=aoS o.op o.type) j rfl rfl (aoV hr _ g);exact zH.put hr i (v:=v) (x:=.w (ofValue v)) (λw' _=>by grind[aoT]) (UE ι w (F.ok ι s.pl w) v) h
  grind
theorem ae5 {k k':IntKind}(h:Zw k k'=true):k=k':=by
 cases k<;>cases k'<;>first|rfl|cases h
theorem awP {b:BinOp}{k:IntKind}{m n:Int}{v:Value}(h:aiX b k m n=some v):v.oneCell'=true:=by
 unfold aiX at h;split at h<;>cases h<;>rfl
theorem awQ {b:BinOp}{m n:ByteArray}{v:Value}(h:aiY b m n=some v):v.oneCell'=true:=by
 unfold aiY at h;split at h<;>cases h<;>rfl
theorem ayK {b:BinOp}{k:IntKind}{m n:Int}{v:Value}(h:aiX b k m n=some v)(t:TypeId)(w:World):(binOp b t (.int k m) (.int k n)).run P w= .ok v w:=by
 unfold aiX at h;split at h<;>simp_all[binOp,Op.intArith,Op.intCmp,Op.intBits,Ji]
theorem ayL {b:BinOp}{m n:ByteArray}{v:Value}(h:aiY b m n=some v)(t:TypeId)(w:World):(binOp b t (.string m) (.string n)).run P w= .ok v w:=by
 unfold aiY at h;split at h<;>simp_all[binOp,Op.stringOp,zl,XI]
theorem jG (b:BinOp)(t:TypeId)(x y:Operand){u v:Value}(g:(∃k n,u= .int k n)\/ ∃m,u= .string m)(w:World):(eqGuard b t x y u v).run P w= .ok () w:=by
 rcases g with⟨k,n,rfl⟩|⟨m,rfl⟩<;>simp_all[eqGuard]
theorem alh (hr:Rel F N ι s a w)(g: ∀k,o.dst=some k ->k<N){b:BinOp}{t u:TypeId}{x y:Operand}(i:o.op= .binOp b t x y u)
 (h:z8 P o.dst (.bin b (cO x) (cO y)) s K):zH P F N o a w (λ_=>True) K:=by
 simp only[z8]at h;have l:=qJ hr x;have p:=qJ hr y;generalize s.oc (cO x)=J at*;generalize s.oc (cO y)=R at*;unfold ar1 at h;split at h
 ·rename_i k m I n;cases hk:Zw k I with
  |false=>grind
  |true=>
   rw[hk]at h;have:=ae5 hk;subst this;simp only[cond_true]at h;split at h
   ·rename_i v j;refine zH.put hr g (v:=v) ?_ (xB (awP j)) h;intro w' _;simp[execOp,i,xS l,xS p,jG b t x y (.inl ⟨k,m,rfl⟩),ayK j]
   ·cases b<;>simp only[]at h
    case quo=>
     refine zH.put hr g (v:=.int k (k.wrap (m.tdiv n))) ?_ (xB rfl) h.2;intro w' _;simp[execOp,i,xS l,xS p,jG .quo t x y (.inl ⟨k,m,rfl⟩),binOp,Op.intDiv,h.1]
    case rem=>
     refine zH.put hr g (v:=.int k (m.tmod n)) ?_ (xB rfl) h.2;intro w' _;simp[execOp,i,xS l,xS p,jG .rem t x y (.inl ⟨k,m,rfl⟩),binOp,Op.intDiv,h.1]
 ·rename_i m n;split at h
  ·rename_i v j;refine zH.put hr g (v:=v) ?_ (xB (awQ j)) h;intro w' _;simp[execOp,i,xS l,xS p,jG b t x y (.inr ⟨m,rfl⟩),ayL j]
  ·cases b<;>simp only[]at h
   case add=>
    refine zH.put hr g (v:=.string (m++n)) ?_ (xB rfl) h.2;intro w' _;have r: ¬((m.size+n.size:Nat):Int)>IntKind.i64.max:=by
     have:=h.1;have e:IntKind.i64.max=9223372036854775807:=by decide
     grind
    simp[execOp,i,xS l,xS p,jG .add t x y (.inr ⟨m,rfl⟩),binOp,Op.stringOp]
    grind
 grind
theorem aie {t:TypeId}(h:kI P t=some true){b off:Nat}{vs:List Value}(r:vs.length=z0 P t)(o: ∀j v,vs[j]? =some v ->w.cell? ⟨b,off+j,none⟩=some v):
 (loadVar t ⟨b,off,none⟩).run P w= .ok (.agg vs.toArray) w:=by
 obtain⟨i,p,g⟩:=adB h;have l:=run_loadCells_list (P:=P) w ⟨b,off,none⟩ vs (λj v I=>by grind[wJ]);simp_all[loadVar,vM]
theorem aif {t:TypeId}(h:kI P t=some false){b off:Nat}{v:Value}(j:w.cell? ⟨b,off,none⟩=some v):
 (loadVar t ⟨b,off,none⟩).run P w= .ok v w:=by
 obtain⟨i,l,g⟩:=adB h<;>simp_all[loadVar]
theorem Y6 {ok:Nat ->Prop}{t:TypeId}{g:Bool}(r:kI P t=some g){cs:List C}{vs:List Value}(i:CRs ι w ok cs vs){b off:Nat}(I: ∀j v,vs[j]? =some v ->w.cell? ⟨b,off+j,none⟩=some v)
 {x:W}(o:KH g (z0 P t) cs=some x): ∃v,(∀w',uN w w' ->(loadVar t ⟨b,off,none⟩).run P w'= .ok v w')/\WR ι w ok x v:=by
 unfold KH at o;cases g
 ·simp only[cond_false]at o;cases cs with
  |nil=>cases o
  |cons c cs=>
   cases o;cases vs with
   |nil=>exact i.elim
   |cons v vs=>exact⟨v,λw' p=>aif r (p.cell (by simpa using I 0 v rfl)),i.1⟩
 ·simp only[cond_true]at o;cases l:Nat.ble (z0 P t) cs.length with
  |false=>grind
  |true=>
   rw[l]at o;cases o;have l:=Nat.le_of_ble_eq_true l;refine⟨.agg (vs.take (z0 P t)).toArray,λw' p=>aie r ?_ (λj v J=>p.cell ?_),_,rfl,CRs.take _ i⟩
   ·rw[List.length_take,<- i.length];omega
   grind
theorem RDc.vals {ok:Nat ->Prop}{b:Nat}: ∀{l:List D}{off:Nat},RDc w ok b off l -> ∃vs,CRs ι w ok (l.map .d) vs /\ ∀j v,vs[j]? =some v ->w.cell? ⟨b,off+j,none⟩=some v
 | [],off,_=>⟨[],trivial,λj v h=>by simp at h⟩
 |d::r,off,h=>by
  simp only[RDc]at h;obtain⟨⟨v,p,g⟩,i⟩:=h;obtain⟨vs,o,I⟩:=RDc.vals i;refine⟨v::vs,⟨g,o⟩,λj u J=>?_⟩
  grind
theorem apE (hr:Rel F N ι s a w)(hd: ∀k,o.dst=some k ->k<N){t:TypeId}{x:Operand}(ho:o.op= .load t x){g:Bool}(ht:kI P t=some g)
 (h:z8 P o.dst (.ld g (z0 P t) (cO x)) s K):zH P F N o a w (uN w) K:=by
 simp only[z8]at h;have hx:=qJ hr x;generalize s.oc (cO x)=cx at*;unfold aLd at h;split at h
 ·rename_i p off;obtain⟨b,T,h2⟩:=hx;split at h
  ·rename_i cs hp;split at h
   ·rename_i y J;obtain⟨b',aa,l,e2,R⟩:=hr.places p _ hp;rw[T]at l;cases l;obtain⟨v,hv,r⟩:=Y6 (b:=b) (off:=off) ht (CRs.drop off R) (λj v hv=>by
     rw[e2.cell];grind) J
    exact zH.put hr hd (λw' I=>by simp_all[execOp,Instr.loadAt,Instr.sureAddr]) (show VR ι w _ (.w y) v from r) h
   grind
  ·rename_i ds hp;split at h
   ·rename_i y J;obtain⟨b',l,e2,R⟩:=hr.places p _ hp;rw[T]at l;cases l;have R:=RDc.drop off R;rw[Nat.zero_add]at R;obtain⟨vs,U,h5⟩:=RDc.vals (ι:=ι) R;obtain⟨v,hv,r⟩:=Y6 (b:=b) (off:=off) ht U h5 J;exact zH.put hr hd (λw' I=>by simp_all[execOp,Instr.loadAt,Instr.sureAddr]) (show VR ι w _ (.w y) v from r) h
   grind
  grind
 ·rename_i cells;obtain⟨b,off,T,h2,h3⟩:=hx;split at h
  ·rename_i y J;obtain⟨vs,U,h5⟩:=RDc.vals (ι:=ι) h3;obtain⟨v,hv,r⟩:=Y6 (b:=b) (off:=off) ht U h5 J;exact zH.put hr hd (λw' I=>by simp_all[execOp,Instr.loadAt,Instr.sureAddr]) (show VR ι w _ (.w y) v from r) h
  grind
 ·rename_i p z i k;obtain⟨b,T,h2⟩:=hx;split at h
  ·rename_i z1 ab fz hp;cases hz:Nat.beq z z1 with
   |false=>grind
   |true=>
    rw[hz]at h;have hz:=Nat.eq_of_beq_eq_true hz;subst hz;simp only[cond_true]at h;obtain⟨e,he,h⟩:=h;split at h
    ·rename_i y J;obtain⟨_,_,ac|⟨b',l,e2,_⟩⟩:=hr.places p _ hp
     ·grind
     ·rw[T]at l;cases l;have h3:=RDc.drop k (RDs.get e2 he);rw[Nat.zero_add]at h3;obtain⟨vs,U,h5⟩:=RDc.vals (ι:=ι) h3;obtain⟨v,hv,r⟩:=Y6 (b:=b) (off:=i*z+k) ht U h5 J;exact zH.put hr hd (λw' I=>by simp_all[execOp,Instr.loadAt,Instr.sureAddr]) (show VR ι w _ (.w y) v from r) h
    grind
  grind
 grind
theorem apC (hr:Rel F N ι s a w)(T: ∀k,o.dst=some k ->k<N){t:TypeId}{x:Operand}{f off:Nat}{J:TypeId}(ho:o.op= .fieldAddr t x f)(ht:JY P t f=some (off,J))(hz:Nat.blt 0 (z0 P J)=true)
 (h:z8 P o.dst (.fa off (cO x)) s K):zH P F N o a w (λ_=>True) K:=by
 simp only[z8]at h;obtain⟨fs,y,hu,hy,aa,U⟩:=kJ ht;have ab:z0 P J≠0:=by have:=Nat.le_of_ble_eq_true hz;omega
 have j: ∃i,P.info? J=some i:=by
  grind[z0]
 obtain⟨i,hi⟩:=j;have g: ∀b q,a.eval x= .pointer (some ⟨b,q,none⟩) -> ∀w':World,True ->(execOp a.eval o).run P w'= .ok (.value (.pointer (some ⟨b,q+off,none⟩))) w':=by
  simp_all[execOp,Instr.fieldAt,run_underlying,Instr.sureAddr,fieldPlace,vM,wJ]
 have R:=qJ hr x;cases e:s.oc (cO x)<;>simp only[e]at h<;>rw[e]at R
 case ptr p k=>
  obtain⟨b,r,I⟩:=R;exact zH.put hr T (g b k I) (show VR ι w _ (cV (.ptr p (k+off))) _ from⟨b,r,rfl⟩) h
 case eptr p z i k=>
  obtain⟨b,r,I⟩:=R;exact zH.put hr T (g b _ I) (show VR ι w _ (cV (.eptr p z i (k+off))) _ from⟨b,r,by grind⟩) h
 case fp l=>
  obtain⟨b,q,r,I,h3⟩:=R;exact zH.put hr T (g b _ r) (show VR ι w _ (cV (.fp (l.drop off))) _ from⟨b,q+off,rfl,I,RDc.drop off h3⟩) h
theorem alm (hr:Rel F N ι s a w)(hd: ∀k,o.dst=some k ->k<N){t:TypeId}{x:Operand}{f off:Nat}{j:TypeId}{g:Bool}(ho:o.op= .field t x f)(ht:JY P t f=some (off,j))(hg:kI P j=some g)
 (h:z8 P o.dst (.fld g (z0 P j) off (cO x)) s K):zH P F N o a w (λ_=>True) K:=by
 simp only[z8]at h;obtain⟨fs,y,hu,hy,aa,R⟩:=kJ ht;obtain⟨i,hi,ab⟩:=adB hg;have hx:=jg hr x;cases e:s.o (cO x)with
 |tup xs=>grind
 |w z=>
  cases z with
  |c c=>grind
  |agg cs=>
   simp only[e]at h;rw[e]at hx;obtain⟨vs,h1,U⟩:=hx;split at h
   ·rename_i q l;unfold KH at l;cases g
    ·simp only[cond_false]at l;split at l
     ·rename_i c r p;cases l;have:=CRs.drop off U;rw[p]at this;cases I:vs.drop off with
      |nil=>rw[I]at this;exact this.elim
      |cons v vr=>
       rw[I]at this;have hv:vs[off]? =some v:=by
        have:(vs.drop off)[0]? =some v:=by grind
        grind
       exact zH.put hr hd (v:=v) (λw' _=>by simp_all[execOp,Instr.field,run_underlying,asAgg,part]) (show VR ι w _ (.w (.c c)) v from this.1) h
     ·cases l
    ·simp only[cond_true]at l;cases J:Nat.ble (z0 P j) (cs.drop off).length with
     |false=>grind
     |true=>
      rw[J]at l;cases l;have T:WR ι w (F.ok ι s.pl w) (.agg ((cs.drop off).take (z0 P j))) (.agg ((vs.drop off).take (z0 P j)).toArray):=⟨_,rfl,CRs.take _ (CRs.drop off U)⟩;refine zH.put hr hd (v:=.agg ((vs.drop off).take (z0 P j)).toArray) ?_ (show VR ι w _ (.w (.agg ((cs.drop off).take (z0 P j)))) _ from T) h;simp_all[execOp,Instr.field,run_underlying,asAgg,part,vM]
   grind
theorem apD (hr:Rel F N ι s a w)(hd: ∀k,o.dst=some k ->k<N){t e:TypeId}{x y:Operand}(ho:o.op= .indexAddr t x y)(ht:uk P t=some e)(hz:Nat.blt 0 (z0 P e)=true)
 (h:z8 P o.dst (.ia (z0 P e) (cO x) (cO y)) s K):zH P F N o a w (λ_=>True) K:=by
 simp only[z8]at h;have hu:=vO ht;have aa:z0 P e≠0:=by have:=Nat.le_of_ble_eq_true hz;omega
 have j: ∃i,P.info? e=some i:=by
  grind[z0]
 obtain⟨i,hi⟩:=j;split at h
 ·rename_i n hn;obtain⟨k,hy,_⟩:=Z8 hn (jg hr y);have g: ∀b q m c,a.eval x= .slice (some ⟨b,q,none⟩) m c ->0<=n ->n<m -> ∀w':World,True ->(execOp a.eval o).run P w'= .ok (.value (.pointer (some ⟨b,q+n.toNat*z0 P e,none⟩))) w':=by
   intro b q m c J R T w' _;simp[execOp,ho,J,hy,Instr.indexAt,run_underlying hu,asIntOf,R,T,vM hi,wJ]
  have I:=qJ hr x;split at h
  ·rename_i l hl;rw[hl]at I;simp only[CR,RD]at I;obtain⟨ad,m,c,U,h2,h3,h4,h5⟩:=I;obtain⟨g1,y',g2,g3,g4⟩:=h;rcases h5 with h5|⟨b,q,sz,J,R,T⟩
   ·grind
   ·subst J;have ab:n.toNat<l.length:=(List.getElem?_eq_some_iff.1 g2).1;have ac:y'.length=sz:=RDs.len T y' (List.mem_of_getElem? g2);refine zH.put hr hd (g b q m c U g1 (by grind)) (show VR ι w _ (cV (.fp y')) _ from⟨b,_,rfl,R,?_⟩) g4
    grind[RDs.get]
  ·rename_i p z m hl;rw[hl]at I;cases r:Nat.beq z (z0 P e)with
   |false=>grind
   |true=>
    rw[r]at h;have r:=Nat.eq_of_beq_eq_true r;simp only[cond_true]at h;obtain⟨g1,g2,g3⟩:=h;rcases I with⟨_,h2,_⟩|⟨b,cap,ty,U,h2,h3,h4,h5,h6⟩
    ·grind
    ·refine zH.put hr hd (g b 0 m cap h3 g1 g2) (show VR ι w _ (cV (.eptr p z n.toNat 0)) _ from⟨b,U,?_⟩) g3
     grind
  grind
 grind
theorem alq (hr:Rel F N ι s a w)(r: ∀k,o.dst=some k ->k<N){t:TypeId}{x y:Operand}(R:o.op= .index t x y)(T:P.underlying t=some .string)
 (h:z8 P o.dst (.six (cO x) (cO y)) s K):zH P F N o a w (λ_=>True) K:=by
 simp only[z8]at h;split at h
 ·rename_i b n J I;obtain⟨k,U,_⟩:=Z8 I (jg hr y);have g:=qJ hr x;rw[J]at g;have g:=xS g;obtain⟨g1,g2,g3⟩:=h;have i:n.toNat<b.size:=by omega
  have j:b[n.toNat]? =some (b.data.toList.getD n.toNat 0):=by
   have l:b[n.toNat]? =some b[n.toNat]:=getElem?_pos b n.toNat i;rw[l];have p:n.toNat<b.data.toList.length:=by simp_all
   simp only[List.getD,List.getElem?_eq_getElem p,Option.getD_some];rfl
  refine zH.put hr r (v:=.int .u8 (b.data.toList.getD n.toNat 0).toNat) ?_ (xB rfl) g3;simp_all[execOp,Instr.index,run_underlying,asIntOf]
 grind
theorem alo (hr:Rel F N ι s a w)(I: ∀k,o.dst=some k ->k<N){args:Array Operand}{U:Array TypeId}{x:Operand}{t e:TypeId}(ho:o.op= .call {callee:=.builtin .len,args:=args,argTypes:=U})
 (R:args.toList=[x]) (aa:U.toList=[t]) (ht:uk P t=some e) (h:z8 P o.dst (.len (cO x)) s K):zH P F N o a w (λ_=>True) K:=by
 simp only[z8]at h;have hu:=vO ht;have ha:args= #[x]:=Array.toList_inj.1 (by grind);have T:U= #[t]:=Array.toList_inj.1 (by grind);have g: ∀b m c,a.eval x= .slice b m c -> ∀w':World,True ->(execOp a.eval o).run P w'= .ok (.value (.int .i64 m)) w':=by
  intro b m c e1 w' _;simp[execOp,ho,resolve,invoke,builtin,Builtin.len_,ha,T,e1,run_underlying hu,goInt]
 have i:=qJ hr x;split at h
 ·rename_i l j;rw[j]at i;simp only[CR,RD]at i;obtain⟨ad,m,c,h1,r,_⟩:=i;subst r;exact zH.put hr I (g _ _ _ h1) (xB rfl) h
 ·rename_i j;rw[j]at i;exact zH.put hr I (g _ _ _ i) (xB rfl) h
 ·rename_i p z m j;rw[j]at i;rcases i with⟨_,r,J⟩|⟨b,cap,ty,h1,r,J,_⟩
  ·subst r;exact zH.put hr I (g _ _ _ J) (xB rfl) h
  ·exact zH.put hr I (g _ _ _ J) (xB rfl) h
 grind
theorem aln (hr:Rel F N ι s a w)(R: ∀k,o.dst=some k ->k<N){b:BinOp}{t u:TypeId}{x y:Operand}(ho:o.op= .binOp b t x y u){neg:Bool}(hn:gO P b t y=some neg)
 (h:z8 P o.dst (.isn neg (cO x)) s K):zH P F N o a w (λ_=>True) K:=by
 have hy: ∃n c e,y= .const (.slice none n c)/\P.underlying t=some (.slice e)/\((b= .eql /\neg=false)\/(b= .neq /\neg=true)):=by
  unfold gO at hn<;>grind
 obtain⟨J,r,e,rfl,hu,hb⟩:=hy;have g: ∀i m c,a.eval x= .slice i m c -> ∀w':World,True ->(execOp a.eval o).run P w'= .ok (.value (.bool (if i.isNone then !neg else neg))) w':=by
  intro i m c I w' _;have T:a.eval (.const (.slice none J r))= .slice none J r:=rfl;have heq:(Op.equal t (.slice i m c) (.slice none J r)).run P w'= .ok i.isNone w':=by
   obtain⟨d,R⟩: ∃d,Op.maxDepth=d+1:=⟨_,rfl⟩;rw[Op.equal,R,Op.equalIn];simp only[Sem.run_bind,run_underlying hu,Result.andThen_ok];cases i<;>rfl
  have hg: ∀b,(eqGuard b t x (.const (.slice none J r)) (.slice i m c) (.slice none J r)).run P w'= .ok () w':=by
   simp_all[eqGuard]
  rcases hb with⟨rfl,rfl⟩|⟨rfl,rfl⟩
  ·have j:binOp .eql t (.slice i m c) (.slice none J r)=(do pure (.bool (<- Op.equal t (.slice i m c) (.slice none J r)))):=rfl;simp only[execOp,ho,I,T,j,Sem.run_bind,hg,heq,Result.andThen_ok,Sem.run_pure]
   grind
  ·have j:binOp .neq t (.slice i m c) (.slice none J r)=(do pure (.bool (!(<- Op.equal t (.slice i m c) (.slice none J r))))):=rfl;simp only[execOp,ho,I,T,j,Sem.run_bind,hg,heq,Result.andThen_ok,Sem.run_pure]
   grind
 have I:=qJ hr x;simp only[z8]at h;generalize s.oc (cO x)=cx at*;unfold aww at h;split at h
 ·have I:a.eval x= .slice none 0 0:=I;exact zH.put hr R (g _ _ _ I) (xB rfl) h
 ·rename_i l;simp only[CR,RD]at I;obtain⟨i,m,c,h1,h2,U,h4,h5⟩:=I;cases i with
  |none=>
   rcases h5 with h5|⟨b',q,sz,e1,_⟩
   ·exact zH.put hr R (g _ _ _ h1) (xB rfl) (h.1 h5)
   ·cases e1
  |some i=>exact zH.put hr R (g _ _ _ h1) (xB rfl) h.2
 ·rename_i p z m;rcases I with⟨_,h2,U⟩|⟨b',cap,ty,h1,h2,U,_⟩
  ·exact zH.put hr R (g _ _ _ U) (xB rfl) (h.1 h2)
  ·exact zH.put hr R (g _ _ _ U) (xB rfl) h.2
 grind
theorem acU {b:Builtin}{l:List Operand}{z:AOp}(h:acT b l=some z): ∃x y,l=[x,y]/\((b= .min /\z= .mm false (cO x) (cO y))\/(b= .max /\z= .mm true (cO x) (cO y))):=by
 unfold acT at h<;>grind
theorem apG (hr:Rel F N ι s a w)(I: ∀k,o.dst=some k ->k<N){b:Builtin}{args:Array Operand}{T:Array TypeId}(ho:o.op= .call {callee:=.builtin b,args:=args,argTypes:=T})
 {z:AOp}(J:acT b args.toList=some z) (h:z8 P o.dst z s K):zH P F N o a w (λ_=>True) K:=by
 obtain⟨x,y,i,r⟩:=acU J;have ha:args= #[x,y]:=Array.toList_inj.1 (by grind);have key: ∀(g:Bool),(b= .min /\g=false\/b= .max /\g=true) ->aMm o.dst g (s.oc (cO x)) (s.oc (cO y)) s K ->zH P F N o a w (λ_=>True) K:=by
  intro g j h;have l:=qJ hr x;have p:=qJ hr y;generalize s.oc (cO x)=U at*;generalize s.oc (cO y)=cy at*;unfold aMm at h;split at h
  ·rename_i k m R n;cases hk:Zw k R with
   |false=>grind
   |true=>
    rw[hk]at h;simp only[cond_true]at h;have l:=xS l;have p:=xS p;refine zH.put hr I (v:=.int k (yH g m n)) ?_ (xB rfl) h;intro w' _;rcases j with⟨rfl,rfl⟩|⟨rfl,rfl⟩
    ·simp_all[execOp,resolve,invoke,builtin,Builtin.min_,Builtin.min2,yH]
    simp_all[execOp,resolve,invoke,builtin,Builtin.max_,Builtin.max2,yH]
  grind
 rcases r with⟨rfl,rfl⟩|⟨rfl,rfl⟩
 ·exact key false (.inl ⟨rfl,rfl⟩) h
 ·exact key true (.inr ⟨rfl,rfl⟩) h
end
def u4 (ι:Nat ->Gh)(p:Nat)(g:Gh):Nat ->Gh:=λq=>if q=p then g else ι q
theorem ya (ι:Nat ->Gh)(p:Nat)(g:Gh):u4 ι p g p=g:=by simp[u4]
theorem jM (ι:Nat ->Gh){p q:Nat}(g:Gh)(h:q≠p):u4 ι p g q=ι q:=by grind[u4]
theorem afN {p q:Nat}(h:isin q [p]=false):q≠p:=by
 intro e;simp_all[isin]
theorem aod {p d q:Nat}(h:isin q [p,d]=false):q≠p /\q≠d:=by
 refine⟨λe=>?_,λe=>?_⟩
 ·simp_all[isin]
 simp_all[isin]
theorem xG {α:Type}{d p:Nat}{x y:α}(h:aget [(d,x)] p=some y):p=d /\y=x:=by
 rw[yR]at h;split at h
 ·grind
 ·cases h
section
variable {P:Program}{F:Fr}{N:Nat}{ι:Nat ->Gh}{s:S}{a:Act}{w:World}{o:Oper}{K:S ->Prop}
theorem aa8 (U:Rel F N ι s a w)(g:List Nat)(new:List (Nat×Pl))(ι':Nat ->Gh)(w':World)
 (hι: ∀p,isin p g=false ->ι' p=ι p)
 (j: ∀b,b<w.heap.size ->(∀q y,isin q g=true ->aget s.pl q=some y ->y.live=true ->(ι q).b≠some b) ->w'.heap[b]? =w.heap[b]?)
 (l:w.heap.size<=w'.heap.size)
 (i: ∀p x b,aget new p=some x ->(ι' p).b=some b ->b<w'.heap.size /\(w.heap.size<=b\/ ∃q y,isin q g=true /\aget s.pl q=some y /\y.live=true /\(ι q).b=some b)):
 zR w w' (F.ok ι s.pl w) (F.ok ι' (s.redo g new).pl w'):=by
 intro b hb;obtain⟨h1,J,r⟩:=hb;refine⟨⟨h1,Nat.lt_of_lt_of_le J l,?_⟩,j b J (λq y _ hy P hq=>r ⟨q,y,hy,P,hq⟩)⟩;rintro⟨p,x,o,P,I⟩;rw[S.redo_pl]at o;cases R:aget new p with
 |some y=>
  rcases(i p y b R I).2 with h|⟨q,z,_,h4,h5,h6⟩
  ·omega
  ·exact r ⟨q,z,h4,h5,h6⟩
 |none=>
  simp only[R]at o;split at o
  ·rename_i hk;cases T:aget s.pl p with
   |none=>grind
   |some y=>
    rw[T]at o;simp at o;subst o;exact r ⟨p,y,T,by grind[Pl.live_kill],by grind⟩
  ·cases o
structure NewRow (w w':World)(cur:Array Value)(t:TypeId)(mk:Nat×Nat):Prop where
 heap:w'.heap=w.heap.push (.cells cur t mk)
 os:w'.os=w.os
 tape:w'.tape=w.tape
 output:Out w w'
theorem NewRow.old {w w':World}{g:Array Value}{t:TypeId}{mk:Nat×Nat}(h:NewRow w w' g t mk){b:Nat}(i:b<w.heap.size):w'.heap[b]? =w.heap[b]? :=by
 rw[h.heap,Array.getElem?_push,if_neg (by omega)]
theorem NewRow.ext {w w':World}{g:Array Value}{t:TypeId}{mk:Nat×Nat}(h:NewRow w w' g t mk):uN w w':=⟨by rw[h.heap];simp,λ_ i=>h.old i⟩
theorem NewRow.new {w w':World}{g:Array Value}{t:TypeId}{mk:Nat×Nat}(h:NewRow w w' g t mk):w'.heap[w.heap.size]? =some (.cells g t mk):=by
 rw[h.heap];simp
theorem NewRow.size {w w':World}{g:Array Value}{t:TypeId}{mk:Nat×Nat}(h:NewRow w w' g t mk):w'.heap.size=w.heap.size+1:=by
 rw[h.heap];simp
theorem NewRow.shapes {w w':World}{g:Array Value}{t:TypeId}{mk:Nat×Nat}(h:NewRow w w' g t mk):yp w w':=by
 intro b ty m j;have l:b<w.heap.size:=by
  rcases Nat.lt_or_ge b w.heap.size with i|i
  ·exact i
  ·simp[World.shape?,Array.getElem?_eq_none i]at j
 simp only[World.shape?,h.old l]at j⊢;exact j
theorem NewRow.cell {w w':World}{g:Array Value}{t:TypeId}{mk:Nat×Nat}(h:NewRow w w' g t mk)(j:Nat):w'.cell? ⟨w.heap.size,j,none⟩=g[j]? :=cell_of_row w' _ j g t mk h.new
theorem NewRow.alloc (w:World)(g:Array Value)(t:TypeId):NewRow w (w.alloc (.cells g t)) g t (0,0):=⟨rfl,rfl,rfl,Out.refl w⟩
theorem NewRow.draw (w:World)(g:Array Value)(t:TypeId)(mk:Nat×Nat):NewRow w (w.drew.alloc (.cells g t mk)) g t mk:=⟨rfl,rfl,rfl,⟨rfl,Nat.le_succ _⟩⟩
theorem YL (hr:Rel F N ι s a w){w':World}{j:Array Value}{t:TypeId}{mk:Nat×Nat}(l:NewRow w w' j t mk)(d:Nat)(x:Pl)(g:List Nat)(hk:isin d g=true)(n:Nat):
 zR w w' (F.ok ι s.pl w) (F.ok (u4 ι d ⟨some w.heap.size,n⟩) (s.redo g [(d,x)]).pl w'):=by
 refine aa8 hr g [(d,x)] _ w' (λp o=>jM ι _ ?_) (λb i _=>l.old i) (by rw[l.size];omega) ?_
 ·grind
 ·intro p y b o i;obtain⟨rfl,rfl⟩:=xG o;rw[ya]at i;cases i;exact⟨by rw[l.size];omega,.inl (Nat.le_refl _)⟩
theorem Rel.newRow (hr:Rel F N ι s a w){w':World}{l:Array Value}{t:TypeId}{mk:Nat×Nat}(i:NewRow w w' l t mk)(d:Nat)(x:Pl)(g:List Nat)(hk:isin d g=true)(n:Nat)(r:F.h d=none)
 (I:PR (u4 ι d ⟨some w.heap.size,n⟩) w' (F.ok (u4 ι d ⟨some w.heap.size,n⟩) (s.redo g [(d,x)]).pl w') d x):Rel F N (u4 ι d ⟨some w.heap.size,n⟩) (s.redo g [(d,x)]) a w':=by
 refine hr.redo g [(d,x)] _ w' (λp o=>jM ι _ ?_) (λb j _=>i.old j) i.shapes i.os i.tape i.output (by rw[i.size];omega) ?_ ?_ ?_ (λp y o=>by grind[xG])
 ·grind
 ·grind[xG]
 ·intro p y b o j;obtain⟨rfl,rfl⟩:=xG o;rw[ya]at j;cases j;exact⟨by rw[i.size];omega,.inl (Nat.le_refl _)⟩
 grind[xG]
theorem X0 {ok:Nat ->Prop}{x:W}{v:Value}(h:WR ι w ok x v)(hs:solid x.cells=true):CRs ι w ok x.cells v.cells.toList:=by
 cases x with
 |c c=>
  have i:c.isDead=false:=by
   grind[W.cells,solid]
  have g:=CR.one h i;have j:v.cells.toList=[v]:=by cases v<;>first|rfl|cases g
  rw[j];exact⟨h,trivial⟩
 |agg cs=>
  obtain⟨vs,rfl,h⟩:=h<;>grind[W.cells,Value.cells]
theorem amW (hr:Rel F N ι s a w){w':World}{g:Array Value}{t:TypeId}{mk:Nat×Nat}(i:NewRow w w' g t mk)(d:Nat)(x:Pl)(n:Nat){cs:List C}{vs:List Value}(h:CRs ι w (F.ok ι s.pl w) cs vs):
 CRs (u4 ι d ⟨some w.heap.size,n⟩) w' (F.ok (u4 ι d ⟨some w.heap.size,n⟩) (s.redo [d] [(d,x)]).pl w') (cs.map (C.kill [d])) vs:=
 CRs.kill (YL hr i d x [d] (by simp[isin]) n) i.shapes (λ_ j=>jM ι _ (afN j)) cs vs h
theorem ali (hr:Rel F N ι s a w){d:Nat}(g:o.dst=some d)(p:d<N){cs:List C}{v:Value}{t:TypeId}(l:CRs ι w (F.ok ι s.pl w) cs v.cells.toList)
 (i:(execOp a.eval o).run P w= .ok (.value (.pointer (some ⟨w.heap.size,0,none⟩))) (w.alloc (.cells v.cells t)))
 (h:K ((s.place d (.box (cs.map (C.kill [d])))).put (some d) (cV (.ptr d 0)))):uy P F N o a w K:=by
 have j:=NewRow.alloc w v.cells t;have hrel:=hr.newRow j d (.box (cs.map (C.kill [d]))) [d] (by simp[isin]) 0 (hr.h_slot p) ⟨w.heap.size,v.cells,by rw[ya],⟨t,j.new⟩,amW hr j d _ 0 l⟩;refine uy.of_value j.ext (ι':=u4 ι d ⟨some w.heap.size,0⟩) i ?_ h;rw[g];exact hrel.put (some d) (λk hk=>by grind) _ _ ⟨w.heap.size,by rw[ya],rfl⟩
theorem ahX: ∀(vs:List Value) (l:List Nat),(vs.map XK).map (C.kill l)=vs.map XK
 | [],_=>rfl
 |v::vs,l=>by
  simp only[List.map_cons,ahX vs l];congr 1
  unfold XK;split<;>rfl
theorem XV {v:Value}(h:solid (ofValue v).cells=true):(ofValue v).cells=v.cells.toList.map XK:=by
 unfold ofValue at h⊢;split
 ·rfl
 ·rename_i g;simp only[W.cells]at h⊢;cases v<;>first|rfl|grind|(simp[XK,solid,C.isDead]at h)
theorem afj (hr:Rel F N ι s a w)(p: ∀k,o.dst=some k ->k<N){t:TypeId}(r:o.op= .alloc t)(h:z8 P o.dst (.alloc (vP P t).cells) s K):uy P F N o a w K:=by
 simp only[z8]at h;split at h
 ·rename_i d g;cases hs:solid (vP P t).cells with
  |false=>grind
  |true=>
   rw[hs]at h;simp only[cond_true]at h;unfold vP at hs h;cases j:P.info? t with
   |none=>simp only[j]at hs;cases hs
   |some i=>
    simp only[j]at hs h;cases l:i.zero with
    |none=>simp only[l]at hs;cases hs
    |some v=>
     simp only[l]at hs h;rw[XV hs]at h;rw[<- ahX v.cells.toList [d]]at h;refine ali hr g (p d g) (t:=t) (YX ι w _ v.cells.toList) ?_ h;simp_all[execOp,Instr.alloc,zeroValue,typeInfo,newVar,newRow]
 grind
theorem apB (hr:Rel F N ι s a w)(j: ∀k,o.dst=some k ->k<N){t:TypeId}{x:Operand}(p:o.op= .box t x)(h:z8 P o.dst (.bx (cO x)) s K):uy P F N o a w K:=by
 simp only[z8]at h;split at h
 ·rename_i d y g l;cases hs:solid y.cells with
  |false=>grind
  |true=>
   rw[hs]at h;simp only[cond_true]at h;have i:=jg hr x;rw[l]at i;refine ali hr g (j d g) (v:=a.eval x) (t:=t) (X0 i hs) ?_ h;simp_all[execOp,Instr.box,newVar,newRow]
 grind
theorem yp.setRow (w:World)(g:Nat){old cs:Array Value}{t:TypeId}{j:Nat×Nat}(o:w.heap[g]? =some (.cells old t j))(hs:cs.size=old.size):yp w (w.setRow g cs):=by
 intro b ty m l;by_cases i:b=g
 ·subst i;simp only[World.shape?,o]at l;simp only[World.shape?,setRow_heap w b old cs t j o]
  grind
 ·simp only[World.shape?,setRow_other w g b cs i];exact l
theorem Rel.write (hr:Rel F N ι s a w)(p:Nat)(x y:Pl)(hp:aget s.pl p=some x)(hx:x.live=true)(hy:y.live=true){b:Nat}(hb:(ι p).b=some b){old o:Array Value}{t:TypeId}(hg:w.heap[b]? =some (.cells old t (0,0)))(hs:o.size=old.size)
 (ag:PR ι (w.setRow b o) (F.ok ι (yZ p y s.pl) (w.setRow b o)) p y):Rel F N ι (s.withPl (yZ p y s.pl)) a (w.setRow b o):=by
 have I: ∀c,Owns ι (yZ p y s.pl) c↔Owns ι s.pl c:=by
  intro c;constructor
  ·rintro⟨q,z,T,h2,h3⟩;rw[yJ]at T;split at T
   ·rename_i e;subst e;exact⟨p,x,hp,hx,h3⟩
   ·exact⟨q,z,T,h2,h3⟩
  ·rintro⟨q,z,T,h2,h3⟩;by_cases e:p=q
   ·subst e;exact⟨p,y,by simp_all[yJ],hy,h3⟩
   ·exact⟨q,z,by simp_all[yJ],h2,h3⟩
 have U:Owns ι s.pl b:=⟨p,x,hp,hx,hb⟩;have i:zR w (w.setRow b o) (F.ok ι s.pl w) (F.ok ι (yZ p y s.pl) (w.setRow b o)):=by
  intro c P;have aa:c≠b:=λe=>by subst e;exact P.2.2 U
  exact⟨⟨P.1,by simpa using P.2.1,λho=>P.2.2 ((I c).1 ho)⟩,setRow_other w b c o aa⟩
 have ab:=yp.setRow w b hg hs;refine⟨hr.room,λk v hv=>?_,λq z hz=>?_,λq r z u c hz hu ai hl ah=>?_,λc P=>?_,hr.defers,?_,hr.foreign,hr.handed,hr.few,hr.hdom,λq z g hz hg=>?_⟩
 rotate_left 5
 ·have l:aget (yZ p y s.pl) q=some z:=hz;rw[yJ]at l;split at l
  ·rename_i e;subst e;exact hr.hkeep p x g hp hg
  ·exact hr.hkeep q z g l hg
 ·obtain⟨v',R,e2⟩:=hr.slots k v hv;exact⟨v',R,VR.keep i ab v v' e2⟩
 ·have l:aget (yZ p y s.pl) q=some z:=hz;rw[yJ]at l;split at l
  ·rename_i e;subst e;cases l;exact ag
  ·rename_i af;have h:=hr.places q z l;have ae: ∀c,(ι q).b=some c ->c≠b:=λc P e=>by subst e;exact hr.inj p q x z c hp l af hx hb P
   cases z with
   |box cs=>obtain⟨c,J,R,⟨t',e2⟩,e3⟩:=h;exact⟨c,J,R,⟨t',by grind[setRow_other]⟩,CRs.keep i ab _ _ e3⟩
   |arr sz ac fz=>
    obtain⟨h0,hn,h|⟨c,R,e2,e3,e4⟩⟩:=h
    ·exact⟨h0,hn,.inl h⟩
    ·refine⟨h0,hn,.inr ⟨c,R,RDs.keep' i c sz ac 0 (λj _ _=>qv (setRow_other w b c o (ae c R)) j) e2,λhf=>(i c (e3 hf)).1,λhf=>?_⟩⟩;obtain⟨J,⟨t',e5⟩,e6⟩:=e4 hf;exact⟨J,⟨t',by grind[setRow_other]⟩,e6⟩
   |fbox ds=>obtain⟨c,R,e2,e3⟩:=h;exact⟨c,R,(i c e2).1,RDc.keep i c e2 _ _ e3⟩
   |gone=>exact h.elim
 ·have l:aget (yZ p y s.pl) q=some z:=hz;have aj:aget (yZ p y s.pl) r=some u:=hu;rw[yJ]at l aj;have T: ∃z',aget s.pl q=some z' /\z'.live=true:=by
   grind
  have h2: ∃u',aget s.pl r=some u':=by
   grind
  obtain⟨z',T,ad⟩:=T;obtain⟨u',h2⟩:=h2;exact hr.inj q r z' u' c T h2 ai ad ah
 ·have:=hr.mine c ((I c).1 P)<;>simp_all
 ·refine⟨hr.grows.os,hr.grows.tape,hr.grows.output,by simpa using hr.grows.size,λc P hm=>?_,λc t m h=>ab c t m (hr.grows.shapes c t m h)⟩;have aa:c≠b:=by
   intro e;subst e;rcases(hr.mine c U).1 with h|h<;>grind
  rw[setRow_other w b c o aa];exact hr.grows.block c P hm
theorem kN (o:Rel F N ι s a w)(p:Nat)(x y:Pl)(P:aget s.pl p=some x)(R:x.live=true){b:Nat}(J:(ι p).b=some b)(g:Array Value):
 zR w (w.setRow b g) (F.ok ι s.pl w) (F.ok ι (yZ p y s.pl) (w.setRow b g)):=by
 intro c i;have l:c≠b:=λe=>by subst e;exact i.2.2 ⟨p,x,P,R,J⟩
 refine⟨⟨i.1,by simpa using i.2.1,?_⟩,setRow_other w b c g l⟩;rintro⟨q,z,j,r,I⟩;rw[yJ]at j;split at j
 ·grind
 ·exact i.2.2 ⟨q,z,j,r,I⟩
theorem adc {t:TypeId}{i:TypeInfo}(o:P.info? t=some i){b off:Nat}{old:Array Value}{ty:TypeId}(l:w.heap[b]? =some (.cells old ty (0,0))){v:Value}(p:v.cells.toList.length=z0 P t)(g:off+v.cells.toList.length<=old.size)
 (j: ∀u∈v.cells.toList,u.oneCell'=true):(storeVar t ⟨b,off,none⟩ v).run P w= .ok () (w.setRow b (old.toList.take off++v.cells.toList++old.toList.drop (off+v.cells.toList.length)).toArray):=by
 have h:=run_storeCells_at P b off ty v.cells.toList 0 old w l (by grind) j;simp_all[storeVar,vM]
theorem Zb {ok:Nat ->Prop}: ∀{i:List D}{vs:List Value},CRs ι w ok (i.map .d) vs -> ∀v∈vs,v.oneCell'=true
 | [],[],_,_,j=>by cases j
 | [],_::_,h,_,_=>h.elim
 |_::_,[],h,_,_=>h.elim
 |d::i,v::vs,h,u,g=>by
  rcases List.mem_cons.1 g with rfl|g
  ·exact CR.one h.1 rfl
  ·exact Zb h.2 u g
theorem Z2 {g:List (Nat×Pl)}: ∀{cs:List C}{pl:List (Nat×Pl)}{j:List D},jj pl cs=some (j,g) ->solid cs=true:=by
 intro cs;induction cs with
 |nil=>intros;rfl
 |cons c cs I=>
  intro pl j h;simp only[jj]at h;split at h
  ·rename_i y o l;split at h
   ·rename_i ys i p;have e:i=g:=by grind
    subst e;unfold solid;have r:c.isDead=false:=by cases c<;>first|rfl|cases l
    grind
   ·cases h
  ·cases h
theorem QM {ok:Nat ->Prop}{b sz:Nat}: ∀{i:List (List D)}{off:Nat}{vs:List Value},(∀e∈i,e.length=sz) ->CRs ι w ok (i.flatten.map .d) vs ->(∀j v,vs[j]? =some v ->w.cell? ⟨b,off+j,none⟩=some v) ->RDs w ok b sz off i
 | [],_,_,_,_,_=>by grind[RDs]
 |e::r,off,vs,R,J,g=>by
  simp only[RDs];simp only[List.flatten_cons,List.map_append]at J;have P:e.length=sz:=R e (by simp);have o: ∀(e:List D) (rest:List C) (vs:List Value) (off:Nat),CRs ι w ok (e.map .d++rest) vs ->(∀j v,vs[j]? =some v ->w.cell? ⟨b,off+j,none⟩=some v) ->RDc w ok b off e /\CRs ι w ok rest (vs.drop e.length):=by
   intro e;induction e with
   |nil=>grind[RDc]
   |cons d e ih=>
    intro rest vs off h l;cases vs with
    |nil=>exact h.elim
    |cons v vs=>
     obtain⟨p,I⟩:=ih rest vs (off+1) h.2 (λj u hu=>by have:=l (j+1) u (by grind);grind);refine⟨?_,by grind⟩;simp only[RDc];exact⟨⟨v,by simpa using l 0 v rfl,h.1⟩,p⟩
  obtain⟨p,I⟩:=o e _ vs off J g;refine⟨P,p,QM (λx U=>R x (by simp[U])) I (λj v T=>?_)⟩;rw[List.getElem?_drop]at T;have:=g _ v T;rw[P]at this;rwa[show off+sz+j=off+(sz+j)by omega]
theorem RDs.vals {ok:Nat ->Prop}{b sz:Nat}: ∀{g:List (List D)}{off:Nat},RDs w ok b sz off g -> ∃vs,CRs ι w ok (g.flatten.map .d) vs /\vs.length=g.length*sz /\ ∀j v,vs[j]? =some v ->w.cell? ⟨b,off+j,none⟩=some v
 | [],off,_=>⟨[],trivial,by simp,λj v h=>by simp at h⟩
 |e::r,off,h=>by
  simp only[RDs]at h;obtain⟨R,I,J⟩:=h;obtain⟨i,p,P⟩:=RDc.vals (ι:=ι) I;obtain⟨l,g1,g2,g3⟩:=RDs.vals J;have o:i.length=sz:=by rw[<- p.length];grind
  refine⟨i++l,by grind[CRs.append],by grind,λj v T=>?_⟩
  grind
theorem azc (hr:Rel F N ι s a w){t:TypeId}{x y:Operand}(ho:o.op= .store t x y){i:TypeInfo}(hi:P.info? t=some i)
 (h:z8 P o.dst (.st (z0 P t) (cO x) (cO y)) s K):qk P F N o a w K:=by
 simp only[z8]at h;split at h
 case h_2=>grind
 rename_i ac;have hx:=qJ hr x;have hy:=ar0 hr y;generalize s.oc (cO x)=cx at*;generalize s.ow (cO y)=wy at*;unfold aSt at h;cases hl:Nat.beq wy.cells.length (z0 P t)with
 |false=>grind
 |true=>
  rw[hl]at h;simp only[cond_true]at h;have hl:=Nat.eq_of_beq_eq_true hl;split at h
  ·rename_i p off;split at h
   ·rename_i cs hp;cases hs:solid wy.cells&&Nat.ble (off+wy.cells.length) cs.length with
    |false=>grind
    |true=>
     rw[hs]at h;simp only[cond_true]at h;rw[Bool.and_eq_true]at hs;have aj:=Nat.le_of_ble_eq_true hs.2;obtain⟨b,h1,h2⟩:=hx;obtain⟨b',old,e1,⟨ty,e2⟩,e3⟩:=hr.places p _ hp;rw[h1]at e1;cases e1;have T:=X0 hy hs.1;have R:(a.eval y).cells.toList.length=wy.cells.length:=T.length.symm;have az:cs.length=old.size:=by simpa using e3.length
     have ad:=adc (P:=P) hi (b:=b) (off:=off) e2 (v:=a.eval y) (by grind) (by grind) (CRs.ones T hs.1);obtain⟨J,ah⟩: ∃J:Array Value,J=(old.toList.take off++(a.eval y).cells.toList++old.toList.drop (off+(a.eval y).cells.toList.length)).toArray:=⟨_,rfl⟩;rw[<- ah]at ad;have ab:J.size=old.size:=by
      grind
     have hk:=kN hr p (.box cs) (.box (zP cs off wy.cells)) hp rfl h1 J;have ag:=yp.setRow w b e2 ab;have I:=CRs.append (CRs.append (CRs.take off e3) T) (CRs.drop (off+wy.cells.length) e3);have an:J.toList=old.toList.take off++(a.eval y).cells.toList++old.toList.drop (off+wy.cells.length):=by grind
     rw[<- an]at I;have hrel:=hr.write p (.box cs) (.box (zP cs off wy.cells)) hp rfl rfl h1 e2 ab ⟨b,J,h1,⟨ty,setRow_heap w b old J ty (0,0) e2⟩,CRs.keep hk ag _ _ I⟩;refine qk.of_skip (ι':=ι) (w':=w.setRow b J) (by grind[execOp,Instr.storeAt,Instr.sureAddr,Sem.run_bind,Sem.run_pure,Result.andThen_ok]) ?_ h;rw[ac];exact hrel
   grind
  ·rename_i p z l k;split at h
   ·rename_i ds a2 ai;split at h
    ·rename_i z1 g hp;cases hz:Nat.beq z z1 with
     |false=>grind
     |true=>
      rw[hz]at h;have hz:=Nat.eq_of_beq_eq_true hz;subst hz;simp only[cond_true]at h;obtain⟨e,he,aj,h⟩:=h;have T:=X0 hy (Z2 ai);obtain⟨af,ax,ae⟩:=Wr hr T ai;have R:(a.eval y).cells.toList.length=wy.cells.length:=T.length.symm;have ao:ds.length=wy.cells.length:=by rw[<- R];simpa using ae.length
      obtain⟨b,h1,h2⟩:=hx;obtain⟨ar,hn,a0|⟨b',e1,e2,_,e4⟩⟩:=af.places p _ hp
      ·grind
      ·rw[h1]at e1;cases e1;obtain⟨old,⟨ty,hg⟩,aq⟩:=e4 rfl;have aa:l<g.length:=(List.getElem?_eq_some_iff.1 he).1;have av:e.length=z:=RDs.len e2 e (List.mem_of_getElem? he);have au:l*z+k+ds.length<=old.size:=by
        have:(l+1)*z<=g.length*z:=Nat.mul_le_mul_right _ aa;rw[Nat.add_mul,Nat.one_mul]at this;omega
       have ad:=adc (P:=P) hi (b:=b) (off:=l*z+k) hg (v:=a.eval y) (by grind) (by grind) (Zb ae);have ab:(old.toList.take (l*z+k)++(a.eval y).cells.toList++old.toList.drop (l*z+k+(a.eval y).cells.toList.length)).toArray.size=old.size:=by
        grind
       have hk:=kN af p (.arr z g false) (.arr z (g.set l (zP e k ds)) false) hp rfl h1 (old.toList.take (l*z+k)++(a.eval y).cells.toList++old.toList.drop (l*z+k+(a.eval y).cells.toList.length)).toArray;have ag:=yp.setRow w b hg ab;obtain⟨vs,g1,g2,g3⟩:=RDs.vals (ι:=ι) e2;have al:(g.set l (zP e k ds)).flatten=zP g.flatten (l*z+k) ds:=by
        have I:=RDs.len e2;have: ∀(g:List (List D)) (l:Nat),(∀x∈g,x.length=z) ->g[l]? =some e ->(g.set l (zP e k ds)).flatten=zP g.flatten (l*z+k) ds:=by
         intro g;induction g with
         |nil=>grind
         |cons x r ih=>
          intro l I he;have hx:x.length=z:=I x (by simp);cases l with
          |zero=>
           simp at he;subst he;simp only[List.set_cons_zero,List.flatten_cons,zP,Nat.zero_mul,Nat.zero_add]
           grind
          |succ l=>
           simp at he;simp only[List.set_cons_succ,List.flatten_cons];rw[ih l (λy hy=>I y (by simp[hy])) he];simp only[zP];rw[show(l+1)*z+k=x.length+(l*z+k)by grind,List.take_length_add_append,show x.length+(l*z+k)+ds.length=x.length+(l*z+k+ds.length)by omega,List.drop_length_add_append]
           grind
        grind
       have a1:vs.length=g.length*z:=g2;have hrel:=af.write p (.arr z g false) (.arr z (g.set l (zP e k ds)) false) hp rfl rfl h1 hg ab ⟨ar,by grind,.inr ⟨b,h1,by
        refine QM (ι:=ι) (vs:=zP vs (l*z+k) (a.eval y).cells.toList) ?_ ?_ ?_
        ·intro q hq;rcases List.mem_or_eq_of_mem_set hq with hq|rfl
         ·grind[RDs.len]
         grind[zP]
        ·rw[al];simp only[zP,List.map_append,List.map_take,List.map_drop];refine CRs.keep hk ag _ _ ?_;rw[R,<- ao];exact CRs.append (CRs.append (CRs.take _ g1) ae) (CRs.drop _ g1)
        ·intro j v U;rw[Nat.zero_add,cell_setRow_same w b _ old _ ty (0,0) hg];simp only[zP]at U;have ak: ∀j v,vs[j]? =some v ->old.toList[j]? =some v:=λj v U=>by
          have:=g3 j v U;rw[Nat.zero_add,cell_of_row w b j old ty (0,0) hg]at this;rw[Array.getElem?_toList];exact this
         have aw:j<vs.length:=by
          have:=(List.getElem?_eq_some_iff.1 U).1;simp only[List.length_append,List.length_take,List.length_drop,R]at this;have:(l+1)*z<=g.length*z:=Nat.mul_le_mul_right _ aa;rw[Nat.add_mul,Nat.one_mul]at this;omega
         have ay:vs.length<=old.toList.length:=by grind
         simp only[List.getElem?_toArray];rw[List.getElem?_append,List.getElem?_append]at U⊢;have t1:(vs.take (l*z+k)).length=l*z+k:=by
          rw[List.length_take];have:(l+1)*z<=g.length*z:=Nat.mul_le_mul_right _ aa;rw[Nat.add_mul,Nat.one_mul]at this;omega
         have t2:(old.toList.take (l*z+k)).length=l*z+k:=by
          rw[List.length_take,Array.length_toList];omega
         simp only[List.length_append,t1,t2]at U⊢;split at U
         ·rename_i c1;rw[if_pos c1];split at U
          ·rename_i c2;rw[if_pos c2];rw[List.getElem?_take]at U⊢;rw[if_pos c2]at U⊢
           grind
          ·rename_i c2;rw[if_neg c2];exact U
         ·rename_i c1;rw[if_neg c1];rw[List.getElem?_drop]at U⊢;exact ak _ v U,(λhf=>by cases hf),(λ_=>⟨_,⟨ty,setRow_heap w b old _ ty (0,0) hg⟩,by grind⟩)⟩⟩
       refine qk.of_skip (ι':=ι) (w':=w.setRow b (old.toList.take (l*z+k)++(a.eval y).cells.toList++old.toList.drop (l*z+k+(a.eval y).cells.toList.length)).toArray) (hr:=?_) (hk:=h) (h:=?_)
       ·grind[execOp,Instr.storeAt,Instr.sureAddr,Sem.run_bind,Sem.run_pure,Result.andThen_ok]
       ·rw[ac];exact hrel
    grind
   grind
  grind
end
section
variable {P:Program}{F:Fr}{N:Nat}{ι:Nat ->Gh}{s:S}{a:Act}{w:World}{o:Oper}{K:S ->Prop}
theorem akA (off:Nat): ∀(i:List Value) (k:Nat) (g:Array Value),off+k+i.length<=g.size ->
 (i.zipIdx k).foldl (λcs (x:Value×Nat)=>cs.setIfInBounds (off+x.2) x.1) g=(zP g.toList (off+k) i).toArray
 | [],k,g,_=>by simp[zP]
 |v::r,k,g,h=>by
  simp only[List.zipIdx_cons,List.foldl_cons];simp only[List.length_cons]at h;rw[akA off r (k+1) (g.setIfInBounds (off+k) v) (by grind)];congr 1
  simp only[zP,Array.toList_setIfInBounds,List.length_cons]
  grind[list_seg_step]
theorem aky (place:Nat ->Option (Nat×Nat))(g:Array Value)(i off sz:Nat)(v:Value)(rest:List (Nat×Value))(o:place i=some (off,sz))(I:v.cells.toList.length=sz)(l:off+sz<=g.size):
 Instr.fill place g ((i,v)::rest)=Instr.fill place (zP g.toList off v.cells.toList).toArray rest:=by
 have p:v.cells.size=sz:=by grind
 have j:=akA off v.cells.toList 0 g (by grind);simp only[Nat.add_zero]at j;have r:v.cells.zipIdx.foldl (λcs (x:Value×Nat)=>cs.setIfInBounds (off+x.2) x.1) g=(zP g.toList off v.cells.toList).toArray:=by
  rw[<- j,<- Array.foldl_toList];simp
 rw[Instr.fill];simp only[o];rw[if_neg (by grind)];congr 1
theorem acz: ∀(I:List Field),ahA P I=true -> ∃l,I.mapM (λf=>(P.info? f.type).map λi=>(f.offset,i.size))=some l /\ ∀(j:Nat) (f:Field),I[j]? =some f ->l[j]? =some (f.offset,z0 P f.type)
 | [],_=>⟨[],rfl,λj f h=>by simp at h⟩
 |f::r,h=>by
  unfold ahA at h;cases p:P.info? f.type with
  |none=>rw[p]at h;cases h
  |some i=>
   rw[p]at h;obtain⟨l,J,R⟩:=acz r h;refine⟨(f.offset,i.size)::l,by simp[List.mapM_cons,p,J],λj g o=>?_⟩;cases j with
   |zero=>simp at o;subst o;simp[z0,p]
   |succ j=>simp at o;simpa using R j g o
theorem aho (hr:Rel F N ι s a w){t:TypeId}{fs:Array Field}(hu:P.underlying t=some (.struct fs)){g:List (Nat×Nat)}(aa: ∀(j:Nat) (f:Field),fs.toList[j]? =some f ->g[j]? =some (f.offset,z0 P f.type)):
 ∀(parts:List (Nat×Operand)) (l:List (Nat×Nat×O)) (cs o:List C) (vs:List Value),aca P t parts=some l ->CRs ι w (F.ok ι s.pl w) cs vs ->UK s cs l=some o ->
  ∃p,Instr.fill (λx=>g[x]?) vs.toArray (parts.map λx=>(x.1,a.eval x.2))=some p.toArray /\CRs ι w (F.ok ι s.pl w) o p
 | [],l,cs,o,vs,r,U,I=>by cases r;cases I;exact⟨vs,rfl,U⟩
 |(i,x)::parts,l,cs,o,vs,r,U,I=>by
  unfold aca at r;split at r
  ·rename_i off J l' ht hl;cases r;unfold UK at I;cases hc:solid (s.ow (cO x)).cells&&Nat.beq (s.ow (cO x)).cells.length (z0 P J)&&Nat.ble (off+z0 P J) cs.length with
   |false=>grind
   |true=>
    rw[hc]at I;simp only[cond_true]at I;rw[Bool.and_eq_true,Bool.and_eq_true]at hc;obtain⟨⟨c1,T⟩,c3⟩:=hc;have T:=Nat.eq_of_beq_eq_true T;have c3:=Nat.le_of_ble_eq_true c3;obtain⟨ac,f,e1,e2,e3,e4⟩:=kJ ht;rw[hu]at e1;cases e1;have hp:g[i]? =some (off,z0 P J):=by grind
    have hx:=X0 (ar0 hr x) c1;have ab:(a.eval x).cells.toList.length=z0 P J:=by rw[<- hx.length,T]
    have ad:cs.length=vs.length:=U.length;have R:CRs ι w (F.ok ι s.pl w) (zP cs off (s.ow (cO x)).cells) (zP vs off (a.eval x).cells.toList):=by
     grind[zP,CRs.append,CRs.take,CRs.drop]
    obtain⟨p,g1,g2⟩:=aho hr hu aa parts l' _ o _ hl R I;refine⟨p,?_,g2⟩;rw[List.map_cons,aky _ vs.toArray i off (z0 P J) (a.eval x) _ hp ab (by simp;omega)];exact g1
  ·cases r
theorem afk (hr:Rel F N ι s a w)(hd: ∀k,o.dst=some k ->k<N){t:TypeId}{parts:Array (Nat×Operand)}(ho:o.op= .build t parts){J:Array Field}(hu:P.underlying t=some (.struct J)){l:List (Nat×Nat×O)}
 (hl:aca P t parts.toList=some l) (hi:ahA P J.toList=true) (j:solid (vP P t).cells=true) (h:z8 P o.dst (.build (vP P t).cells l) s K):zH P F N o a w (λ_=>True) K:=by
 simp only[z8]at h;split at h
 ·rename_i cs g;obtain⟨I,h1,T⟩:=acz J.toList hi;unfold vP at j g;cases p:P.info? t with
  |none=>simp only[p]at j;cases j
  |some it=>
   simp only[p]at j g;cases r:it.zero with
   |none=>simp only[r]at j;cases j
   |some z=>
    simp only[r]at j g;rw[XV j]at g;obtain⟨vs,g1,g2⟩:=aho hr hu T parts.toList l _ cs _ hl (YX ι w _ z.cells.toList) g;have U:P.built t (parts.map λ(i,x)=>(i,a.eval x)).toList=some vs.toArray:=by
     simp_all[Program.built]
    have R:=λ(w':World)=>run_build (P:=P) w' t (parts.map λ(i,x)=>(i,a.eval x)) vs.toArray U
    exact zH.put hr hd (λw' _=>by simp_all[execOp]) (show VR ι w _ (.w (.agg cs)) _ from⟨vs,rfl,g2⟩) h
 grind
theorem akx {sz:Nat}: ∀(j:List Value) (i:Nat) (g:Array Value),(∀v∈j,v.cells.toList.length=sz) ->(i+j.length)*sz=g.size -> ∀(parts:List (Nat×Value)),
 parts=(j.zipIdx i).map (λx=>(x.2,x.1)) ->Instr.fill (λi=>some (i*sz,sz)) g parts=some (g.toList.take (i*sz)++(j.map λv=>v.cells.toList).flatten).toArray
 | [],i,g,_,hs,parts,p=>by
   simp_all[Instr.fill,List.take_of_length_le]
 |v::r,i,g,I,hs,parts,p=>by
  subst p;have o:=I v (by simp);simp only[List.length_cons]at hs;have P:(i+(r.length+1))*sz=i*sz+sz+r.length*sz:=by rw[Nat.add_mul,Nat.add_mul,Nat.one_mul];omega
  simp only[List.zipIdx_cons,List.map_cons];rw[aky _ g i (i*sz) sz v _ rfl o (by omega)];have l:(zP g.toList (i*sz) v.cells.toList).length=g.size:=by
   grind[zP]
  rw[akx r (i+1) _ (λu J=>I u (by simp[J])) (by simp only[List.size_toArray,l];rw[<- hs];congr 1;omega) _ rfl];congr 2
  simp only[List.flatten_cons];rw[<- List.append_assoc];congr 1
  simp only[zP];rw[show(i+1)*sz=i*sz+sz by grind];have R:(g.toList.take (i*sz)).length=i*sz:=by grind
  grind
theorem ae2: ∀(parts:List (Nat×Operand)) (i:Nat),gi i parts=true ->(parts.map λx=>(x.1,a.eval x.2))=((parts.map λx=>a.eval x.2).zipIdx i).map λx=>(x.2,x.1)
 | [],_,_=>rfl
 |(j,x)::r,i,h=>by
  simp only[gi,Bool.and_eq_true]at h;have:=Nat.eq_of_beq_eq_true h.1;subst this;simp only[List.map_cons,List.zipIdx_cons,ae2 r (i+1) h.2]
theorem acS {sz:Nat}(I:S)(a:Act): ∀{parts:List Operand}{s:S}(_:Rel F N ι s a w) (_: ∀x∈parts,WR ι w (F.ok ι s.pl w) (I.ow (cO x)) (a.eval x)) {g:List (List D)}{i:List (Nat×Pl)}(_:ahZ I sz s.pl (parts.map cO)=some (g,i)),
 Rel F N ι (s.withPl i) a w /\(∀b,F.ok ι s.pl w b ->F.ok ι i w b)/\g.length=parts.length /\(∀e∈g,e.length=sz)/\(∀x∈parts,(a.eval x).cells.toList.length=sz)/\
  CRs ι w (F.ok ι i w) (g.flatten.map .d) ((parts.map λx=>(a.eval x).cells.toList).flatten)
 | [],s,hr,_,g,i,h=>by cases h;exact⟨hr,λ_ h=>h,rfl,λe P=>(by cases P),λx p=>(by cases p),trivial⟩
 |x::parts,s,hr,p,g,i,h=>by
  simp only[List.map_cons,ahZ]at h;cases j:Nat.beq (I.ow (cO x)).cells.length sz with
  |false=>grind
  |true=>
   rw[j]at h;have j:=Nat.eq_of_beq_eq_true j;simp only[cond_true]at h;split at h
   ·rename_i T o J;split at h
    ·rename_i es ab U;cases h;have l:=X0 (p x (by simp)) (Z2 J);obtain⟨g1,g2,g3⟩:=Wr hr l J;have hk:zR w w (F.ok ι s.pl w) (F.ok ι o w):=λb j=>⟨g2 b j,rfl⟩
     obtain⟨k1,R,k3,k4,k5,k6⟩:=acS I a (s:=s.withPl o) g1 (λy r=>WR.keep hk (yp.refl w) _ _ (p y (by simp[r]))) U;have aa:T.length=sz:=by rw[<- j,l.length];simpa using g3.length
     refine⟨k1,λb j=>R b (g2 b j),by simp[k3],λe P=>?_,λy r=>?_,?_⟩
     ·grind
     ·rcases List.mem_cons.1 r with rfl|r
      ·rw[<- l.length,j]
      grind
     ·simp only[List.flatten_cons,List.map_append,List.map_cons];exact CRs.append (CRs.keep (λb j=>⟨R b j,rfl⟩) (yp.refl w) _ _ g3) k6
    ·cases h
   ·cases h
theorem NewRow.shape {w w':World}{g:Array Value}{t:TypeId}{mk:Nat×Nat}(h:NewRow w w' g t mk):w'.shape? w.heap.size=some (t,g.size):=by
 simp[World.shape?,h.new]
theorem aiB (hr:Rel F N ι s a w)(hd: ∀k,o.dst=some k ->k<N){t e:TypeId}{n:Nat}{parts:Array (Nat×Operand)}(ho:o.op= .buildSlice t n parts)(ht:uk P t=some e)(J:Nat.blt 0 (z0 P e)=true)(hn:Nat.beq n parts.toList.length=true)
 (T:Nat.ble (n*z0 P e) 16777216=true) (ah:gi 0 parts.toList=true) (r:aje P e=true) (h:z8 P o.dst (.lits (z0 P e) (parts.toList.map λx=>cO x.2)) s K):uy P F N o a w K:=by
 simp only[z8]at h;have hu:=vO ht;have J:0<z0 P e:=Nat.le_of_ble_eq_true J;have hn:=Nat.eq_of_beq_eq_true hn;have T:=Nat.le_of_ble_eq_true T;unfold aje at r;cases hi:P.info? e with
 |none=>grind
 |some i=>
  simp only[hi]at r;cases hz:i.zero with
  |none=>rw[hz]at r;cases r
  |some z=>
   have aj:z0 P e=i.size:=by grind[z0]
   split at h
   ·rename_i d R ak ac aa;have ad:(parts.toList.map λx=>cO x.2)=(parts.toList.map (·.2)).map cO:=by simp
    rw[ad]at aa;obtain⟨g1,g2,g3,g4,g5,g6⟩:=acS s a hr (λx _=>ar0 hr x) aa;have g:=akx (sz:=z0 P e) (parts.toList.map λx=>a.eval x.2) 0 ((Array.range (n*z0 P e)).map ((if n*z0 P e=0 then #[]else z.cells)[· %(if n*z0 P e=0 then #[]else z.cells).size]!)) (λv hv=>by
     grind) (by simp[hn]) _ (ae2 parts.toList 0 ah)
    simp only[Nat.zero_mul,List.take_zero,List.nil_append]at g;obtain⟨p,U⟩: ∃p:Array Value,p=((parts.toList.map λx=>a.eval x.2).map λv=>v.cells.toList).flatten.toArray:=⟨_,rfl⟩;rw[<- U]at g;have ab:p.toList=((parts.toList.map (·.2)).map λx=>(a.eval x).cells.toList).flatten:=by rw[U,List.map_map,List.map_map];rfl
    have ag:p.size=n*z0 P e:=by
     have h1:p.size=p.toList.length:=by simp
     rw[h1,ab];have: ∀(l:List Operand),(∀x∈l,(a.eval x).cells.toList.length=z0 P e) ->((l.map λx=>(a.eval x).cells.toList).flatten).length=l.length*z0 P e:=by
      intro l;induction l<;>grind
     grind
    have af:(execOp a.eval o).run P w= .ok (.value (.slice (some ⟨w.heap.size,0,none⟩) n n)) (w.alloc (.cells p e)):=by
     have ae: ¬n*i.size>16777216:=by grind
     rw[aj]at g;have I:(parts.map λ(i,x)=>(i,a.eval x)).toList=parts.toList.map λx=>(x.1,a.eval x.2):=by simp
     by_cases h0:n*i.size=0
     ·rw[if_pos h0]at g;simp only[execOp,ho,Instr.buildSlice,Sem.run_bind,run_underlying hu,Result.andThen_ok,sizeOf,typeInfo,run_program,hi,Sem.run_pure,if_neg ae,if_pos h0,I,g,newRow,run_newObj];rfl
     ·rw[if_neg h0]at g;simp only[execOp,ho,Instr.buildSlice,Sem.run_bind,run_underlying hu,Result.andThen_ok,sizeOf,typeInfo,run_program,hi,Sem.run_pure,if_neg ae,if_neg h0,zeroValue,hz,I,g,newRow,run_newObj];rfl
    have hw:=NewRow.alloc w p e;have hrel:=Rel.newRow g1 hw d (.arr (z0 P e) R false) [d] (by simp[isin]) R.length (g1.h_slot (hd _ (by assumption))) ⟨J,by rw[ya],.inr ⟨w.heap.size,by rw[ya],by
     refine QM (ι:=ι) (vs:=p.toList) g4 ?_ (λj v hv=>by simp_all);rw[ab];exact CRs.keep (YL g1 hw d _ [d] (by simp[isin]) R.length) hw.shapes _ _ g6,(λhf=>by cases hf),(λ_=>⟨p,⟨e,hw.new⟩,by grind⟩)⟩⟩
    refine uy.of_value hw.ext (ι':=u4 ι d ⟨some w.heap.size,R.length⟩) af ?_ h;rw[ac];refine hrel.put (some d) (λk hk=>by grind) _ _ ?_;have ai:R.length=n:=by grind
    refine .inr ⟨w.heap.size,n,e,by rw[ya],by simp_all[ya],by rw[ai],by simp_all,?_,by rw[hw.shape,ag]⟩;have:n*1<=n*z0 P e:=Nat.mul_le_mul_left _ J
    grind[maxLen]
   grind
end
section
variable {P:Program}{F:Fr}{N:Nat}{ι:Nat ->Gh}{s:S}{a:Act}{w:World}{o:Oper}{K:S ->Prop}
theorem Vn {ok:Nat ->Prop}: ∀{cs:List C}{z:List D}{pl:List (Nat×Pl)}{vs:List Value},jj [] cs=some (z,pl) ->CRs ι w ok cs vs ->CRs ι w ok (z.map .d) vs
 | [],z,pl,vs,h,i=>by cases h;grind
 |_::_,_,_,[],_,i=>i.elim
 |c::cs,z,pl,v::vs,h,i=>by
  simp only[jj]at h;split at h
  ·rename_i y o g;have j:o=[]:=by
    cases c with
    |clo f l=>cases l<;>grind[WD]
    |_=>simp only[WD,aget]at g<;>cases g<;>rfl
   subst j;split at h
   ·rename_i ys r p;cases h;refine⟨?_,Vn p i.2⟩;cases c with
    |clo f l=>cases l with
     |nil=>
      simp only[WD]at g;cases g;obtain⟨I,g1,g2⟩:=i.1<;>simp_all[CR,RD,RDf]
     |cons _ _=>grind[WD]
    |d x=>simp only[WD]at g;cases g;exact i.1
    |nil=>
     simp only[WD]at g;cases g;have:=i.1;simp only[CR]at this;subst this;simp only[CR,RD];exact⟨none,0,0,rfl,rfl,Nat.le_refl _,Nat.zero_le _,.inl trivial⟩
    |_=>simp only[WD,aget]at g;cases g
   ·cases h
  ·cases h
theorem ub (l:List Value): ∀(n j:Nat) (v:Value),(List.replicate n l).flatten[j]? =some v ->j<n*l.length /\l[j%l.length]? =some v
 |0,j,v,h=>by simp at h
 |n+1,j,v,h=>by
  simp only[List.replicate_succ,List.flatten_cons,List.getElem?_append]at h;rw[Nat.add_mul,Nat.one_mul];split at h
  ·grind[Nat.mod_eq_of_lt]
  ·rename_i o;obtain⟨g,i⟩:=ub l n _ v h
   grind[Nat.mod_eq_sub_mod]
theorem XN {ok:Nat ->Prop}{z:List D}{vs:List Value}(h:CRs ι w ok (z.map .d) vs): ∀(n:Nat),CRs ι w ok ((List.replicate n z).flatten.map .d) (List.replicate n vs).flatten
 |0=>trivial
 |n+1=>by
  simp only[List.replicate_succ,List.flatten_cons,List.map_append];exact CRs.append h (XN h n)
theorem apF (hr:Rel F N ι s a w)(hd: ∀k,o.dst=some k ->k<N){t e:TypeId}{x y:Operand}(ho:o.op= .makeSlice t x y)(ht:uk P t=some e){z:List D}{ah:List (Nat×Pl)}(J:jj [] (vP P e).cells=some (z,ah))
 (p:Nat.blt 0 (z0 P e)=true) (l:Nat.beq z.length (z0 P e)=true) (h:z8 P o.dst (.mk (z0 P e) (uZ P e) z (cO x) (cO y)) s K):uy P F N o a w K:=by
 simp only[z8]at h;have hu:=vO ht;have p:0<z0 P e:=Nat.le_of_ble_eq_true p;have l:=Nat.eq_of_beq_eq_true l;split at h
 ·rename_i d n c U hn hc;obtain⟨k1,hx,_⟩:=Z8 hn (jg hr x);obtain⟨k2,hy,_⟩:=Z8 hc (jg hr y);obtain⟨g1,g2,g3,g4,h⟩:=h;unfold vP at J;cases hi:P.info? e with
  |none=>grind[z0]
  |some i=>
   simp only[hi]at J;cases R:i.zero with
   |none=>simp only[R]at J;cases J
   |some v=>
    simp only[R]at J;have ac:=Z2 J;rw[XV ac]at J;have aj:z0 P e=i.size:=by grind[z0]
    have ai:uZ P e=i.bytes:=by grind[uZ]
    have r:(i.bytes:Int)*c<=281474976710656:=by
     grind[zS]
    have ab:=run_make (P:=P) w t e i v hu hi R k1 k2 n c g1 g2 r g4;obtain⟨g,I⟩: ∃g,g=madeCells v.cells (c.toNat*i.size):=⟨_,rfl⟩;rw[<- I]at ab;have ae:g.size=c.toNat*z0 P e:=by grind[size_madeCells]
    have T:=NewRow.alloc w g e;have ad:=Vn J (YX ι w (F.ok ι s.pl w) v.cells.toList);have ag:v.cells.toList.length=z0 P e:=by rw[<- l];simpa using ad.length.symm
    have aa:n.toNat<=c.toNat:=by omega
    have hrel:=hr.newRow T d (.arr (z0 P e) (List.replicate n.toNat z) false) [d] (by simp[isin]) n.toNat (hr.h_slot (hd _ (by assumption))) ⟨p,by grind[ya],.inr ⟨w.heap.size,by rw[ya],by
     refine QM (ι:=ι) (vs:=(List.replicate n.toNat v.cells.toList).flatten) (λq hq=>by grind) ?_ ?_
     ·exact CRs.keep (YL hr T d _ [d] (by simp[isin]) n.toNat) T.shapes _ _ (XN ad n.toNat)
     ·intro j u hj;obtain⟨j1,j2⟩:=ub _ _ _ _ hj;rw[Nat.zero_add,T.cell,I];rw[ag]at j1 j2;have af:j<c.toNat*i.size:=by
       have:n.toNat*z0 P e<=c.toNat*z0 P e:=Nat.mul_le_mul_right _ aa
       grind
      have ak:v.cells.size=z0 P e:=by grind
      simp only[madeCells,Array.getElem?_map,Array.getElem?_range,af,if_true,Option.map_some,Option.some.injEq]
      grind,(λhf=>by cases hf),(λ_=>⟨g,⟨e,T.new⟩,by simp_all[Nat.mul_le_mul_right]⟩)⟩⟩
    refine uy.of_value T.ext (v:=.slice (some ⟨w.heap.size,0,none⟩) n.toNat c.toNat) (w':=w.alloc (.cells g e)) (ι':=u4 ι d ⟨some w.heap.size,n.toNat⟩) ?_ ?_ h
    ·grind[execOp,Sem.run_bind,Result.andThen_ok,Sem.run_pure]
    ·rw[U];refine hrel.put (some d) (λk hk=>by grind) _ _ ?_;exact .inr ⟨w.heap.size,c.toNat,e,by rw[ya],by simp_all[ya],rfl,aa,by grind[maxLen],by rw[T.shape,ae]⟩
 grind
theorem WF (hr:Rel F N ι s a w){x:Option Operand}{l:Option Int}(h:s.bnd (x.map cO)=some l):(x=none /\l=none)\/ ∃y k n,x=some y /\l=some n /\a.eval y= .int k n:=by
 cases x with
 |none=>cases h;grind
 |some y=>
  simp only[Option.map_some,S.bnd]at h;cases g:XH (s.o (cO y))with
  |none=>grind
  |some n=>
   rw[g]at h;cases h;obtain⟨k,i,_⟩:=Z8 g (jg hr y)
   grind
theorem Yo (k:IntKind)(i:Int)(y:Nat)(code:BoundsCode)(h0:0<=i)(g:i<=y):(Instr.sliceBound (.int k i) y code).run P w= .ok i.toNat w:=by
 simp_all[Instr.sliceBound,asIntOf]
theorem aid (b:Bool)(len cap:Nat)(j i:Option Value)(l h:Option Int)(I:(j=none /\l=none)\/ ∃k n,j=some (.int k n)/\l=some n)(r:(i=none /\h=none)\/ ∃k n,i=some (.int k n)/\h=some n)
 (h0:0<=yr l 0) (p:yr l 0<=yr h len) (o:yr h len<=cap):(Instr.sliceBounds b len cap j i none).run P w= .ok ((yr l 0).toNat,(yr h len).toNat,cap) w:=by
 rcases I with⟨rfl,rfl⟩|⟨k,n,rfl,rfl⟩<;>rcases r with⟨rfl,rfl⟩|⟨k',g,rfl,rfl⟩<;>simp only[yr]at h0 p o⊢
 ·simp[Instr.sliceBounds]
 ·simp_all[Instr.sliceBounds,Yo]
 ·simp_all[Instr.sliceBounds,Yo]
 ·have e:((g.toNat:Nat):Int)=g:=Int.toNat_of_nonneg (by omega);simp[Instr.sliceBounds,Yo k' g cap _ (by omega) o,Yo k n g.toNat _ h0 (by grind)]
theorem ad4 {x:Option Operand}{l:Option Int}(h:(x=none /\l=none)\/ ∃y k n,x=some y /\l=some n /\a.eval y= .int k n):(x.map a.eval=none /\l=none)\/ ∃k n,x.map a.eval=some (.int k n)/\l=some n:=by
 grind
theorem Z9 {t e:TypeId}(hu:P.underlying t=some (.slice e)){i:TypeInfo}(T:P.info? e=some i){x:Operand}{j g:Option Operand}(ho:o.op= .slice t x j g none){p:Option Addr}{len cap:Nat}(hx:a.eval x= .slice p len cap)
 {l h:Option Int}(U:(j=none /\l=none)\/ ∃y k n,j=some y /\l=some n /\a.eval y= .int k n) (R:(g=none /\h=none)\/ ∃y k n,g=some y /\h=some n /\a.eval y= .int k n)
 (h0:0<=yr l 0) (r:yr l 0<=yr h len) (I:yr h len<=cap):
 (execOp a.eval o).run P w= .ok (.value (.slice (if cap=(yr l 0).toNat then p else p.map (·.add ((yr l 0).toNat*z0 P e))) ((yr h len).toNat -(yr l 0).toNat) (cap -(yr l 0).toNat))) w:=by
 have J:=aid (P:=P) (w:=w) true len cap (j.map a.eval) (g.map a.eval) l h (ad4 U) (ad4 R) h0 r I;simp only[execOp,ho,Option.map_none,Instr.sliceAt,Instr.slice,hx,Sem.run_bind,run_underlying hu,Result.andThen_ok,J,vM T,Sem.run_pure]
theorem alr (hr:Rel F N ι s a w)(hd: ∀k,o.dst=some k ->k<N){t e:TypeId}{x:Operand}{lo hi:Option Operand}(ho:o.op= .slice t x lo hi none)(hu:P.underlying t=some (.slice e)){i:TypeInfo}(J:P.info? e=some i)
 (h:z8 P o.dst (.sli (z0 P e) (cO x) (lo.map cO) (hi.map cO)) s K):zH P F N o a w (λ_=>True) K:=by
 simp only[z8]at h;split at h
 case h_2=>grind
 rename_i lq r hl hh;have hl:=WF hr hl;have hh:=WF hr hh;have hx:=qJ hr x;generalize s.oc (cO x)=cx at*;unfold awx at h;split at h
 ·rename_i j;simp only[CR,RD]at hx;obtain⟨ad,m,c,e1,e2,e3,e4,e5⟩:=hx;cases lq with
  |none=>
   obtain⟨g1,g2,h⟩:=h;have g:=λ(w':World) (_:True)=>Z9 (o:=o) (w:=w') hu J ho e1 hl hh (by simp[yr]) (by grind[yr]) (by grind)
   simp only[yr,Int.toNat_zero,Nat.zero_mul,Nat.sub_zero]at g;have R:(if c=0 then ad else ad.map (·.add 0))=ad:=by
    simp_all[Addr.add]
   simp only[R]at g;refine zH.put hr hd g ?_ h;simp only[cV,VR,WR,CR,RD];have I:(j.take (yr r j.length).toNat).length=(yr r j.length).toNat:=by grind
   refine⟨ad,_,_,rfl,?_,?_,e4,?_⟩
   ·rw[I,e2];rfl
   ·grind[yr]
   ·rcases e5 with e5|⟨b,q,sz,f1,f2,f3⟩
    ·grind
    ·right;grind[RDs.take]
  |some l=>
   obtain⟨g0,g1,g2,g3,h⟩:=h;have g:=λ(w':World) (_:True)=>Z9 (o:=o) (w:=w') hu J ho e1 hl hh (by grind[yr]) (by grind[yr]) (by grind)
   simp only[yr]at g;refine zH.put hr hd g ?_ h;simp only[cV,VR,WR,CR,RD];have I:((j.take (yr r j.length).toNat).drop l.toNat).length=(yr r j.length).toNat - l.toNat:=by grind
   refine⟨_,_,_,rfl,?_,?_,by omega,?_⟩
   ·rw[I,e2];rfl
   ·grind[yr]
   ·by_cases ab:(j.take (yr r j.length).toNat).drop l.toNat=[]
    ·grind
    ·have ae:l.toNat<(yr r j.length).toNat:=by
      grind
     rcases e5 with e5|⟨b,q,sz,f1,f2,f3⟩
     ·grind
     ·right
      have aa:j≠ []:=λe=>by grind
      obtain⟨y,hy⟩: ∃y,y∈j:=List.exists_mem_of_ne_nil j aa;have af:sz=z0 P e:=by grind[RDs.len]
      refine⟨b,q+l.toNat*sz,sz,?_,f2,RDs.drop _ (RDs.take _ f3)⟩;refine Eq.trans (if_neg (by grind)) ?_
      grind[wJ]
 ·rename_i p z n;cases hz:Nat.beq z (z0 P e)with
  |false=>grind
  |true=>
   rw[hz]at h;have hz:=Nat.eq_of_beq_eq_true hz;simp only[cond_true]at h;cases lq with
   |none=>
    obtain⟨g1,g2,h⟩:=h;rcases hx with⟨f1,f2,f3⟩|⟨b,cap,ty,f1,f2,f3,f4,f5,f6⟩
    ·subst f2;have h0:yr r ((0:Nat):Int)=0:=by omega
     have g:=λ(w':World) (_:True)=>Z9 (o:=o) (w:=w') hu J ho f3 hl hh (by simp[yr]) (by grind[yr]) (by omega)
     simp only[h0]at g;rw[h0]at h;simp only[yr,Int.toNat_zero,Nat.zero_mul,Nat.sub_zero,if_true]at g;exact zH.put hr hd g (show VR ι w _ (cV (.own p z 0)) _ from .inl ⟨f1,rfl,rfl⟩) h
    ·have g:=λ(w':World) (_:True)=>Z9 (o:=o) (w:=w') hu J ho f3 hl hh (by simp[yr]) (by grind[yr]) (by omega)
     simp only[yr,Int.toNat_zero,Nat.zero_mul,Nat.sub_zero]at g;have R:(if cap=0 then some (⟨b,0,none⟩:Addr)else(some (⟨b,0,none⟩:Addr)).map (·.add 0))=some ⟨b,0,none⟩:=by
      grind[Addr.add]
     simp only[R]at g;refine zH.put hr hd g (show VR ι w _ (cV (.own p z (yr r n).toNat)) _ from .inr ⟨b,cap,ty,f1,by omega,rfl,by omega,f5,f6⟩) h
   |some l=>
    simp only[]at h;split at h
    ·rename_i z1 j fz hp;cases U:Nat.beq z z1 with
     |false=>grind
     |true=>
      rw[U]at h;have U:=Nat.eq_of_beq_eq_true U;simp only[cond_true]at h;obtain⟨g1,g2,g3,h⟩:=h;obtain⟨k1,k2|⟨b,cap,ty,f1,f3,f4,f5,f6,f7⟩⟩:=aoN hr hp U hx
      ·obtain⟨k2,k3,k4,k5⟩:=k2;subst k2;have h0:yr r ((0:Nat):Int)=0:=by omega
       have ac:l=0:=by omega
       subst ac;have g:=λ(w':World) (_:True)=>Z9 (o:=o) (w:=w') hu J ho k3 hl hh (by simp[yr]) (by grind[yr]) (by omega)
       simp only[h0]at g;rw[h0]at h;simp only[yr,Int.toNat_zero,Nat.zero_mul,Nat.sub_zero,if_true]at g;refine⟨_,ι,_,g,(hr.freeze p).put o.dst hd _ _ ?_,h⟩;simp only[cV,VR,WR,CR,RD,k5];exact⟨none,0,0,rfl,by simp,Nat.le_refl _,Nat.zero_le _,.inl (by simp)⟩
      ·have g:=λ(w':World) (_:True)=>Z9 (o:=o) (w:=w') hu J ho f3 hl hh (by grind[yr]) (by grind[yr]) (by omega)
       simp only[yr]at g;have I:((j.take (yr r n).toNat).drop l.toNat).length=(yr r n).toNat - l.toNat:=by grind
       refine⟨_,ι,_,g,(hr.freeze p).put o.dst hd _ _ ?_,h⟩;have T:=avt hr hp f1 (n:=(yr r n).toNat) (by omega) (cap:=cap) (by omega) f5;simp only[cV,VR,WR,CR];simp only[RD]at T⊢;obtain⟨ad,m,c,e1,e2,e3,e4,e5⟩:=T;cases e1;refine⟨_,_,_,rfl,by rw[I];rfl,by grind[yr],by omega,?_⟩;by_cases ab:(j.take (yr r n).toNat).drop l.toNat=[]
       ·grind
       ·have ae:l.toNat<(yr r n).toNat:=by
         grind
        rcases e5 with e5|⟨b',q,sz,q1,q2,q3⟩
        ·grind
        ·right
         cases q1;have aa:j.take (yr r n).toNat≠ []:=λe=>by grind
         obtain⟨y,hy⟩: ∃y,y∈j.take (yr r n).toNat:=List.exists_mem_of_ne_nil _ aa;have af:sz=z0 P e:=by
          rw[<- RDs.len q3 y hy,RDs.len f7 y (List.mem_of_mem_take hy),<- U,hz]
         refine⟨b,0+l.toNat*sz,sz,?_,q2,RDs.drop _ q3⟩;refine Eq.trans (if_neg (by grind)) ?_
         grind[wJ]
    grind
 ·have hx:a.eval x= .slice none 0 0:=hx;obtain⟨g1,g2,g3,h⟩:=h;have g:=λ(w':World) (_:True)=>Z9 (o:=o) (w:=w') hu J ho hx hl hh g1 g2 g3
  have e1:(yr lq 0).toNat=0:=by omega
  have e2:(yr r ((0:Nat):Int)).toNat=0:=by
   grind
  simp only[e1,e2,Nat.zero_mul,if_true,Nat.sub_zero]at g;exact zH.put hr hd g (show VR ι w _ (cV .nil) _ from rfl) h
 grind
theorem als (hr:Rel F N ι s a w)(R: ∀k,o.dst=some k ->k<N){t:TypeId}{x:Operand}{r i:Option Operand}(T:o.op= .slice t x r i none)(U:P.underlying t=some .string)
 (h:z8 P o.dst (.sls (cO x) (r.map cO) (i.map cO)) s K):zH P F N o a w (λ_=>True) K:=by
 simp only[z8]at h;split at h
 case h_2=>grind
 rename_i l I j g;have j:=WF hr j;have g:=WF hr g;have hx:=qJ hr x;generalize s.oc (cO x)=cx at*;unfold awy at h;split at h
 ·rename_i b;obtain⟨g1,g2,g3,h⟩:=h;have p:=xS hx;have J:=λ(w':World)=>aid (P:=P) (w:=w') false b.size b.size (r.map a.eval) (i.map a.eval) l I (ad4 j) (ad4 g) g1 g2 g3
  refine zH.put hr R (v:=.string (b.extract (yr l 0).toNat (yr I b.size).toNat)) ?_ (xB rfl) h;intro w' _;simp only[execOp,T,Option.map_none,Instr.sliceAt,Instr.slice,p,Sem.run_bind,run_underlying U,Result.andThen_ok,Sem.run_pure];simp_all
 grind
theorem abA {t:TypeId}(h:wo P t true=true):P.underlying t=some .string:=by
 grind[wo]
theorem acB {t:TypeId}(h:wo P t false=true): ∃e,P.underlying t=some (.slice e)/\P.underlying e=some (.int .u8):=by
 grind[wo]
theorem V5 (b:ByteArray):(x8 b).flatten=b.data.toList.map λx=>D.lit (.int .u8 x.toNat):=by
 unfold x8;induction b.data.toList<;>grind
theorem akk {ok:Nat ->Prop}: ∀(l:List UInt8) (vs:List Value),CRs ι w ok ((l.map λx=>D.lit (.int .u8 x.toNat)).map .d) vs ->vs=l.map λ(x:UInt8)=>Value.int .u8 x.toNat
 | [],[],_=>rfl
 | [],_::_,h=>h.elim
 |_::_,[],h=>h.elim
 |x::l,v::vs,h=>by
  have g:=xS h.1;simp only[List.map_cons,g,akk l vs h.2]
theorem Je {ok:Nat ->Prop}: ∀(l:List UInt8),CRs ι w ok ((l.map λx=>D.lit (.int .u8 x.toNat)).map .d) (l.map λ(x:UInt8)=>Value.int .u8 x.toNat)
 | []=>trivial
 |x::l=>⟨by simp only[CR,RD];exact⟨trivial,rfl⟩,Je l⟩
theorem JS (hr:Rel F N ι s a w){c:C}{v:Value}(r:CR ι w (F.ok ι s.pl w) c v){l:List (List D)}(h:W9 s.pl c=some l):
 ∃j cap,v= .slice j l.length cap /\(l=[]\/ ∃b q sz,j=some ⟨b,q,none⟩/\RDs w (F.ok ι s.pl w) b sz q l):=by
 cases c with
 |d x=>
  cases x with
  |lit u=>cases h
  |fn f l=>cases h
  |sl g=>
   cases h<;>grind[CR,RD]
 |nil=>cases h;exact⟨none,0,r,.inl rfl⟩
 |own p z n=>
  simp only[W9]at h;cases I:aget s.pl p with
  |none=>grind
  |some y=>
   cases y with
   |box cs=>grind
   |fbox cs=>grind
   |gone=>grind
   |arr sz g P=>
    simp only[I]at h;cases h;obtain⟨hn,h|⟨b,cap,t,R,T,U,h4,h5,J⟩⟩:=ac0 hr I r
    ·grind
    ·exact⟨some ⟨b,0,none⟩,cap,by grind,.inr ⟨b,0,sz,rfl,RDs.take n J⟩⟩
 |dead=>cases h
 |sub p z o n=>cases h
 |ptr p o=>cases h
 |eptr p z i k=>cases h
 |fp l=>cases h
 |clo f l=>cases h
theorem alf (hr:Rel F N ι s a w)(hd: ∀k,o.dst=some k ->k<N){t u:TypeId}{x:Operand}(ho:o.op= .convert t u x)(ht:wo P t false=true)(hu:wo P u true=true)
 (h:z8 P o.dst (.b2s (cO x)) s K):zH P F N o a w (uN w) K:=by
 simp only[z8]at h;obtain⟨e,h1,h2⟩:=acB ht;have h3:=abA hu;split at h
 ·rename_i l hl;obtain⟨b,rfl,h⟩:=h;obtain⟨T,cap,U,g⟩:=JS hr (qJ hr x) hl;refine zH.put hr hd (v:=.string b) ?_ (xB rfl) h;intro w' R;have I:(Conv.bytesToString (.slice T (x8 b).length cap)).run P w'= .ok (.string b) w':=by
   rcases g with he|⟨r,q,sz,rfl,g⟩
   ·have aa:b.data.toList=[]:=by grind[x8]
    have hb:b=ByteArray.empty:=by
     cases b with|mk d=>have:d= #[]:=Array.toList_inj.1 (by grind);subst this;rfl
    rw[he];cases T<;>simp_all[Conv.bytesToString,loadCells,loadCellsFrom]
   ·obtain⟨vs,g1,g2,g3⟩:=RDs.vals (ι:=ι) g;rw[V5]at g1;have ab:=akk _ _ g1;have p:vs.length=(x8 b).length:=by grind[x8]
    have i:=run_loadCells_list (P:=P) w' ⟨r,q,none⟩ vs (λj v U=>by rw[wJ];exact R.cell (g3 j v U));rw[p]at i;have J:vs=(b.data.toList.map λ(x:UInt8)=>(x.toNat:Int)).map (Value.int .u8):=by simp_all
    rw[J]at i;rw[run_bytesToString w' _ _ _ (b.data.toList.map λ(x:UInt8)=>(x.toNat:Int)) i,foldl_push_byteCells];congr 2
    cases b with|mk d=>simp[ByteArray.empty,ByteArray.emptyWithCapacity];rfl
  grind[execOp,Sem.run_bind,run_convert_bytes_string,Result.andThen_ok,Sem.run_pure]
 grind
theorem alp (hr:Rel F N ι s a w)(hd: ∀k,o.dst=some k ->k<N){t u:TypeId}{x:Operand}(ho:o.op= .convert t u x)(ht:wo P t true=true)(hu:wo P u false=true)
 (h:z8 P o.dst (.s2b (cO x)) s K):uy P F N o a w K:=by
 simp only[z8]at h;have h1:=abA ht;obtain⟨e,h2,h3⟩:=acB hu;split at h
 ·rename_i d b r hx;have J:=qJ hr x;rw[hx]at J;have ad:=xS J;obtain⟨ac,h⟩:=h;have I:=run_bytes_of_string (P:=P) w t u e b h1 h2 h3;obtain⟨g,l⟩: ∃g,g=bytesRow b (grownCap w b.size 0 e):=⟨_,rfl⟩;rw[<- l]at I;have U:=grownCap_ge w b.size 0 e;have aa:=grownCap_le_maxLen w b.size 0 e (by grind[maxLen]);have T:g.size=grownCap w b.size 0 e:=by
   simp_all[bytesRow]
  have R:=NewRow.draw w g e (g.size,g.size+1);have ab:(x8 b).length=b.size:=by simp[x8]
  have hrel:=hr.newRow R d (.arr 1 (x8 b) true) [d] (by simp[isin]) b.size (hr.h_slot (hd _ (by assumption))) ⟨by omega,by grind[ya],.inr ⟨w.heap.size,by rw[ya],by
   refine QM (ι:=ι) (vs:=b.data.toList.map λ(x:UInt8)=>Value.int .u8 x.toNat) (λq hq=>by
    grind[x8]) ?_ ?_
   ·grind[V5,Je]
   ·intro j v hv;rw[Nat.zero_add,R.cell,l,bytesRow]
    grind,(λ_=>⟨.inr (.inr hr.grows.size),by simp_all,by
     rintro⟨p,y,q1,q2,q3⟩;have i:aget (s.redo [d] [(d,Pl.arr 1 (x8 b) true)]).pl p=some y:=q1;rw[S.redo_pl]at i;cases hn:aget [(d,Pl.arr 1 (x8 b) true)] p with
     |some z=>simp only[hn]at i;cases i;obtain⟨_,rfl⟩:=xG hn;cases q2
     |none=>
      simp only[hn]at i;split at i
      ·rename_i hk;cases hp:aget s.pl p with
       |none=>grind
       |some z=>
        rw[hp]at i;simp at i;subst i;rw[jM ι _ (afN hk)]at q3;rw[Pl.live_kill]at q2;have:=(hr.mine _ ⟨p,z,hp,q2,q3⟩).2;omega
      grind⟩),(λhf=>by cases hf)⟩⟩
  refine uy.of_value R.ext (v:=.slice (some ⟨w.heap.size,0,none⟩) b.size (grownCap w b.size 0 e)) (w':=w.drew.alloc (.cells g e (g.size,g.size+1))) (ι':=u4 ι d ⟨some w.heap.size,b.size⟩) ?_ ?_ h
  ·grind[execOp,Sem.run_bind,Result.andThen_ok,Sem.run_pure]
  ·rw[r];refine hrel.put (some d) (λk hk=>by grind) _ _ ?_;exact .inr ⟨w.heap.size,_,e,by rw[ya],by simp_all[ya],rfl,U,aa,by rw[R.shape,T];simp⟩
 grind
end
section
variable {P:Program}{F:Fr}{N:Nat}{ι:Nat ->Gh}{s:S}{a:Act}{w:World}{o:Oper}{K:S ->Prop}
structure Src (P:Program)(w:World)(size n:Nat)(y:Value)(news:List Value):Prop where
 len: ∀w',(Builtin.lenOf y).run P w'= .ok n w'
 cells: ∀w',w'.heap=w.heap ->(Builtin.firstCells size n y).run P w'= .ok news.toArray w'
def aeg (P:Program)(u:TypeId):Prop:=P.underlying u=some .string\/ ∃e,P.underlying u=some (.slice e)
theorem aic {t u ty e:TypeId}{i:TypeInfo}(r:P.underlying t=some (.slice e))(j:aeg P u)(p:P.info? e=some i){y:Value}{g:List Value}(hs:Src P w i.size 0 y g):
 (Builtin.append_ #[t,u] ty #[.slice none 0 0,y]).run P w= .ok (.slice none 0 0) w:=by
 have l:=hs.len w;have o:=hs.cells w rfl;rcases j with j|⟨e',j⟩<;>simp[Builtin.append_,run_underlying r,run_underlying j,sizeOf,typeInfo,p,l,o]
theorem aib {t u ty e:TypeId}{i:TypeInfo}(ht:P.underlying t=some (.slice e))(R:aeg P u)(hi:P.info? e=some i){y:Value}{n:Nat}{l:List Value}(hs:Src P w i.size n y l)
 {g j p:Nat}{o:Array Value}{te:TypeId}(hg:w.heap[g]? =some (.cells o te (0,0))) (h1: ∀v∈l,v.oneCell'=true) (r:j+n<=p) (T:j*i.size+l.length<=o.size):
 (Builtin.append_ #[t,u] ty #[.slice (some ⟨g,0,none⟩) j p,y]).run P w=
  .ok (.slice (some ⟨g,0,none⟩) (j+n) p) (w.setRow g (o.toList.take (j*i.size)++l++o.toList.drop (j*i.size+l.length)).toArray):=by
 have U:=hs.len w;have e2:=hs.cells w rfl;have J:=run_storeCells_at P g (j*i.size) te l 0 o w hg (by grind) h1;simp only[Nat.add_zero]at J;have I:(⟨g,0,none⟩:Addr).add (j*i.size)=⟨g,j*i.size,none⟩:=by simp_all[wJ]
 rcases R with R|⟨e',R⟩<;>simp[Builtin.append_,run_underlying ht,run_underlying R,sizeOf,typeInfo,hi,U,e2,r,I,J]
theorem ajP {t u ty e:TypeId}{i:TypeInfo}{z:Value}(ht:P.underlying t=some (.slice e))(J:aeg P u)(hi:P.info? e=some i)(hz:i.zero=some z){y:Value}{n:Nat}{l:List Value}(hs:Src P w i.size n y l)
 {R:Option Addr}{g j:Nat}{o:List Value}(ho: ∀w',w'.heap=w.heap ->(Builtin.firstCells i.size g (.slice R g j)).run P w'= .ok o.toArray w') (hg:j<g+n) (aa:((g+n:Nat):Int)<=9223372036854775807)
 (p:(g+n)*i.bytes<=140737488355328):
 (Builtin.append_ #[t,u] ty #[.slice R g j,y]).run P w=
  .ok (.slice (some ⟨w.heap.size,0,none⟩) (g+n) (grownCap w (g+n) j e))
   (w.drew.alloc (.cells (o++l++(Builtin.zeroCells z.cells (grownCap w (g+n) j e -(g+n))).toList).toArray e)):=by
 have U:=hs.len w;have e2:=hs.cells w.drew rfl;have e3:=ho w.drew rfl;have hn: ¬(g+n<=j):=by omega
 have I: ¬(9223372036854775807<((g:Int)+(n:Int))):=by omega
 have T:=growslice_fits hg p;have r: ¬(281474976710656<Builtin.nextslicecap (g+n) j*i.bytes):=by omega
 have fin:(o.toArray++(l.toArray++Builtin.zeroCells z.cells (grownCap w (g+n) j e -(g+n))))=(o++(l++(Builtin.zeroCells z.cells (grownCap w (g+n) j e -(g+n))).toList)).toArray:=by
  grind
 rcases J with J|⟨e',J⟩<;>
 ·simp[Builtin.append_,run_underlying ht,run_underlying J,sizeOf,typeInfo,zeroValue,hi,hz,U,hn,I,r,Question.forced,e2,e3,newRow];simp only[grownCap]at fin⊢;rw[<- fin];exact⟨trivial,rfl⟩
theorem uI {α:Type}{sz:Nat}: ∀(l:List (List α)),(∀y∈l,y.length=sz) ->l.flatten.length=l.length*sz
 | [],_=>by simp
 |x::r,h=>by
  simp only[List.flatten_cons,List.length_append,List.length_cons,h x (by simp),uI r (λy g=>h y (by simp[g])),Nat.add_mul];omega
theorem aAW (hr:Rel F N ι s a w){c:C}{v:Value}(J:CR ι w (F.ok ι s.pl w) c v){l:List (List D)}(h:W9 s.pl c=some l){size:Nat}(T: ∀y∈l,y.length=size):
 ∃i,Src P w size l.length v i /\i.length=l.length*size /\CRs ι w (F.ok ι s.pl w) (l.flatten.map .d) i:=by
 obtain⟨I,cap,rfl,g⟩:=JS hr J h;have o: ∀w',(Builtin.lenOf (.slice I l.length cap)).run P w'= .ok l.length w':=λw'=>by simp[Builtin.lenOf]
 rcases g with rfl|⟨b,q,sz,rfl,g⟩
 ·refine⟨[],⟨o,λw' _=>?_⟩,by simp,trivial⟩;cases I<;>simp_all[Builtin.firstCells,loadCells,loadCellsFrom]
 ·obtain⟨vs,g1,g2,g3⟩:=RDs.vals (ι:=ι) g;have p:vs.length=l.length*size:=by
   have:=g1.length<;>grind[uI]
  refine⟨vs,⟨o,λw' r=>?_⟩,p,g1⟩;exact run_firstCells_some (P:=P) w' size l.length ⟨b,q,none⟩ l.length cap vs p (λj u R=>by
   rw[wJ];have:=g3 j u R;simpa[World.cell?,r]using this)
theorem atH (w:World)(ι:Nat ->Gh)(ok:Nat ->Prop)(b:ByteArray): ∃g,Src P w 1 (x8 b).length (.string b) g /\g.length=(x8 b).length*1 /\CRs ι w ok ((x8 b).flatten.map .d) g:=by
 have i:(x8 b).length=b.size:=by simp[x8]
 refine⟨b.data.toList.map λ(x:UInt8)=>Value.int .u8 x.toNat,⟨λw'=>by simp_all[Builtin.lenOf],λw' _=>?_⟩,by simp_all,by grind[V5,Je]⟩;rw[i];have j:(b.extract 0 b.size).data=b.data:=by
  grind[ByteArray.extract_zero_size]
 simp only[Builtin.firstCells,j,Sem.run_pure];congr 1
 grind
theorem alz {ok:Nat ->Prop}{g:List D}{vs:List Value}(h:CRs ι w ok (g.map .d) vs): ∀v∈vs,v.oneCell'=true:=Zb h
theorem aly {z:Value}{i:TypeInfo}(_:i.zero=some z)(n:Nat):(Builtin.zeroCells z.cells n).toList.length=n*z.cells.size:=by simp[Builtin.zeroCells]
theorem aag (hr:Rel F N ι s a w)(hd: ∀k,o.dst=some k ->k<N){d:Nat}(aj:o.dst=some d){t u e:TypeId}{i:TypeInfo}{z:Value}(ht:P.underlying t=some (.slice e))(hu:aeg P u)(hi:P.info? e=some i)(hz:i.zero=some z)
 (bo:z.cells.size=i.size) (ar:0<i.size) {x:C}{xv y:Value}(hx:CR ι w (F.ok ι s.pl w) x xv)
 (au: ∀v w',(Builtin.append_ #[t,u] o.type #[xv,y]).run P w= .ok v w' ->(execOp a.eval o).run P w= .ok (.value v) w')
 {l:List (List D)}(hl:(∀q∈l,q.length=i.size) -> ∃T,Src P w i.size l.length y T /\T.length=l.length*i.size /\CRs ι w (F.ok ι s.pl w) (l.flatten.map .d) T)
 (h:aiS d i.size i.bytes x (some l) s K):qk P F N o a w K:=by
 unfold aiS at h;simp only[]at h
 have al: ∀(I:List Nat) (hk:isin d I=true) (ad:Option Addr) (g ab:Nat) (R:List Value) (aa:List (List D)),aa.length=g ->(∀q∈aa,q.length=i.size) ->(∀q∈l,q.length=i.size) ->xv= .slice ad g ab ->
  R.length=g*i.size ->CRs ι w (F.ok ι s.pl w) (aa.flatten.map .d) R ->(∀w',w'.heap=w.heap ->(Builtin.firstCells i.size g (.slice ad g ab)).run P w'= .ok R.toArray w') ->
  ab<g+l.length ->g+l.length<=9223372036854775807 ->(g+l.length)*i.bytes<=140737488355328 ->
  K ((s.redo I [(d,.arr i.size (aa++l) false)]).put (some d) (cV (.own d i.size (g+l.length)))) ->qk P F N o a w K:=by
  intro I hk ad g ab R aa bs a2 bh a6 bk bi bj a7 bq bd hK;obtain⟨T,af,a4,ay⟩:=hl bh;subst a6;have ae:=ajP (ty:=o.type) ht hu hi hz af bj a7 (by omega) bd;obtain⟨U,aq⟩: ∃U:Array Value,U=(R++T++(Builtin.zeroCells z.cells (grownCap w (g+l.length) ab e -(g+l.length))).toList).toArray:=⟨_,rfl⟩;rw[<- aq]at ae;have hw:=NewRow.draw w U e (0,0);have bf:=grownCap_ge w (g+l.length) ab e;have bg:=grownCap_le_maxLen w (g+l.length) ab e (by grind[maxLen]);have an:U.size=grownCap w (g+l.length) ab e*i.size:=by
   rw[aq];simp only[List.size_toArray,List.length_append,bk,a4,aly hz,bo,<- Nat.add_mul];congr 1;omega
  have hrel:=hr.newRow hw d (.arr i.size (aa++l) false) I hk (g+l.length) (hr.h_slot (hd _ (by assumption))) ⟨ar,by grind[ya],.inr ⟨w.heap.size,by rw[ya],by
   refine QM (ι:=ι) (vs:=R++T) (λq hq=>?_) ?_ ?_
   ·grind
   ·simp only[List.flatten_append,List.map_append];exact CRs.keep (YL hr hw d _ I hk _) hw.shapes _ _ (CRs.append bi ay)
   ·intro j v hv;rw[Nat.zero_add,hw.cell,aq]
    grind,(λhf=>by cases hf),(λ_=>⟨U,⟨e,hw.new⟩,by
    simp_all[Nat.mul_le_mul_right]⟩)⟩⟩
  refine qk.of_value (ι':=u4 ι d ⟨some w.heap.size,g+l.length⟩) (au _ _ ae) ?_ hK;rw[aj];refine hrel.put (some d) (λk hk=>by grind) _ _ ?_;exact .inr ⟨w.heap.size,_,e,by rw[ya],by simp_all[ya],rfl,bf,bg,by rw[hw.shape,an]⟩
 have aw: ∀(I:List Nat) (hk:isin d I=true),l=[] ->xv= .slice none 0 0 ->K ((s.redo I [(d,.arr i.size [] false)]).put (some d) (cV (.own d i.size 0))) ->qk P F N o a w K:=by
  intro I hk ah a6 hK;subst ah a6;obtain⟨T,af,_,_⟩:=hl (λq hq=>by cases hq);have ae:=aic (ty:=o.type) ht hu hi af;have hrel:Rel F N (u4 ι d ⟨none,0⟩) (s.redo I [(d,.arr i.size [] false)]) a w:=by
   refine hr.redo I [(d,.arr i.size [] false)] _ w (λp hp=>jM ι _ (λe=>by grind)) (λ_ _ _=>rfl) (yp.refl w) rfl rfl (Out.refl w) (Nat.le_refl _) ?_ ?_ ?_ (λp x hp=>by obtain⟨rfl,_⟩:=xG hp;exact hr.h_slot (hd _ (by assumption)))
   ·intro p q hp;obtain⟨rfl,rfl⟩:=xG hp;exact⟨ar,by grind[ya],.inl ⟨by rw[ya],rfl⟩⟩
   ·grind[xG,ya]
   grind[xG]
  refine qk.of_value (ι':=u4 ι d ⟨none,0⟩) (au _ _ ae) ?_ hK;rw[aj];exact hrel.put (some d) (λk hk=>by grind) _ _ (.inl ⟨by rw[ya],rfl,rfl⟩)
 split at h
 ·obtain⟨g1,g2,g3,h⟩:=h;simp only[CR]at hx;by_cases ah:l=[]
  ·subst ah;exact aw [d] (by simp[isin]) rfl hx h
  ·have az:0<l.length:=List.length_pos_iff.2 ah;refine al [d] (by simp[isin]) none 0 0 [] [] rfl (λq hq=>by cases hq) g1 hx (by simp) trivial (λw' _=>by simp[Builtin.firstCells]) (by omega) (by omega) (by grind[zS]) ?_
   grind[S.place]
 ·rename_i p zz n;split at h
  ·rename_i z1 aa hp;cases a1:Nat.beq zz z1&&Nat.beq zz i.size with
   |false=>grind
   |true=>
    rw[a1]at h;rw[Bool.and_eq_true]at a1;have bc:=Nat.eq_of_beq_eq_true a1.1;have bn:=Nat.eq_of_beq_eq_true a1.2;simp only[cond_true]at h;obtain⟨g1,g2,g3,h⟩:=h;obtain⟨k1,k2|⟨b,cap,ty,f1,f3,f4,f5,f6,f7⟩⟩:=aoN hr hp bc hx
    ·obtain⟨k2,k3,k4,k5⟩:=k2;subst k2 k5;simp only[List.take_nil,List.nil_append,Nat.zero_add]at h;have ax:isin d [p,d]=true:=by
      unfold isin;cases Nat.beq p d<;>simp[isin]
     by_cases ah:l=[]
     ·subst ah;exact aw [p,d] ax rfl k3 h
     ·have az:0<l.length:=List.length_pos_iff.2 ah;refine al [p,d] ax none 0 0 [] [] rfl (λq hq=>by cases hq) g1 k3 (by simp) trivial (λw' _=>by simp[Builtin.firstCells]) (by omega) (by omega) (by simpa[zS]using g2) ?_;simpa using h
    ·have ax:isin d [p,d]=true:=by
      unfold isin;cases Nat.beq p d<;>simp[isin]
     have bp:z1=i.size:=by rw[<- bc,bn]
     subst bp;have a2: ∀q∈aa.take n,q.length=i.size:=λq hq=>RDs.len f7 q (List.mem_of_mem_take hq)
     have a0:(aa.take n).length=n:=by rw[List.length_take,Nat.min_eq_left k1]
     obtain⟨R,o1,o2,o3⟩:=RDs.vals (ι:=ι) (RDs.take n f7);rw[a0]at o2;by_cases ac:n+l.length<=cap
     ·
      obtain⟨T,af,a4,ay⟩:=hl g1;obtain⟨_,_,az|⟨b',e1,_,_,e4⟩⟩:=hr.places p _ hp
      ·rw[f1]at az;cases az.1
      ·rw[f1]at e1;cases e1;obtain⟨U,⟨te,hg⟩,_⟩:=e4 rfl;have an:U.size=cap*i.size:=by
        simp only[World.shape?,hg,Option.some.injEq,Prod.mk.injEq]at f6;exact f6.2
       have a8:n*i.size+T.length<=U.size:=by rw[a4,an,<- Nat.add_mul];exact Nat.mul_le_mul_right _ ac
       have ae:=aib (ty:=o.type) ht hu hi af hg (alz ay) ac a8;obtain⟨J,ag⟩: ∃J:Array Value,J=(U.toList.take (n*i.size)++T++U.toList.drop (n*i.size+T.length)).toArray:=⟨_,rfl⟩;rw[<- ag]at ae;rw[<- f3]at ae;have ao:J.size=U.size:=by
        rw[ag];simp only[List.size_toArray,List.length_append,List.length_take,List.length_drop,Array.length_toList];omega
       have a5:R=U.toList.take (n*i.size):=by
        apply List.ext_getElem?;intro j;by_cases hj:j<R.length
        ·have h1:=o3 j R[j] (List.getElem?_eq_getElem hj);rw[Nat.zero_add,cell_of_row w b j U te (0,0) hg]at h1;rw[List.getElem?_eq_getElem hj,List.getElem?_take,if_pos (by omega),Array.getElem?_toList,h1]
        ·rw[List.getElem?_eq_none (by omega),List.getElem?_eq_none (by rw[List.length_take,Array.length_toList];omega)]
       have bb:b<w.heap.size:=(Array.getElem?_eq_some_iff.1 hg).1;have hι: ∀q,isin q [p,d]=false ->u4 ι d ⟨some b,n+l.length⟩ q=ι q:=λq hq=>jM ι _ (aod hq).2
       have av: ∀c,c<w.heap.size ->(∀q y,isin q [p,d]=true ->aget s.pl q=some y ->y.live=true ->(ι q).b≠some c) ->(w.setRow b J).heap[c]? =w.heap[c]? :=λc _ hc=>by
        have be:c≠b:=λe=>by subst e;exact hc p _ (by unfold isin;simp) hp rfl f1
        exact setRow_other w b c J be
       have ba:w.heap.size<=(w.setRow b J).heap.size:=by simp
       have ak: ∀q x c,aget [(d,Pl.arr i.size (aa.take n++l) false)] q=some x ->(u4 ι d ⟨some b,n+l.length⟩ q).b=some c ->c<(w.setRow b J).heap.size /\(w.heap.size<=c\/ ∃r y,isin r [p,d]=true /\aget s.pl r=some y /\y.live=true /\(ι r).b=some c):=by
        intro q x c hq hc;obtain⟨rfl,rfl⟩:=xG hq;rw[ya]at hc;cases hc;exact⟨by simpa using bb,.inr ⟨p,_,by unfold isin;simp,hp,rfl,f1⟩⟩
       have a3:=aa8 hr [p,d] [(d,.arr i.size (aa.take n++l) false)] (u4 ι d ⟨some b,n+l.length⟩) (w.setRow b J) hι av ba ak;have a9:=yp.setRow w b hg ao;have hrel:=hr.redo [p,d] [(d,.arr i.size (aa.take n++l) false)] (u4 ι d ⟨some b,n+l.length⟩) (w.setRow b J) hι av a9 rfl rfl ⟨rfl,Nat.le_refl _⟩ ba (by
        intro q x hq;obtain⟨rfl,rfl⟩:=xG hq;refine⟨ar,by rw[ya];simp[a0],.inr ⟨b,by rw[ya],?_,(λhf=>by cases hf),(λ_=>⟨J,⟨te,setRow_heap w b U J te (0,0) hg⟩,by
         rw[ao,an];simp only[List.length_append,a0];exact Nat.mul_le_mul_right _ ac⟩)⟩⟩
        refine QM (ι:=ι) (vs:=R++T) (λr ai=>?_) ?_ ?_
        ·rcases List.mem_append.1 ai with ai|ai
         ·exact a2 r ai
         ·exact g1 r ai
        ·simp only[List.flatten_append,List.map_append];exact CRs.keep a3 a9 _ _ (CRs.append o1 ay)
        ·intro j v hv;rw[Nat.zero_add,cell_setRow_same w b j U J te (0,0) hg,ag];have hj:=(List.getElem?_eq_some_iff.1 hv).1;rw[List.getElem?_toArray,<- a5,List.getElem?_append_left hj];exact hv) ak (by
        intro q r x y c hq ai bl;obtain⟨rfl,rfl⟩:=xG hq;obtain⟨rfl,rfl⟩:=xG ai;exact absurd rfl bl) (λq x hq=>by obtain⟨rfl,_⟩:=xG hq;exact hr.h_slot (hd _ (by assumption)))
       refine qk.of_value (ι':=u4 ι d ⟨some b,n+l.length⟩) (au _ _ ae) ?_ h;rw[aj];refine hrel.put (some d) (λk hk=>by cases hk;exact hd d aj) _ _ ?_;exact .inr ⟨b,cap,te,by rw[ya],by rw[ya];exact Nat.le_refl _,rfl,ac,f5,by simp only[World.shape?,setRow_heap w b U J te (0,0) hg,ao,an]⟩
     ·refine al [p,d] ax (some ⟨b,0,none⟩) n cap R (aa.take n) a0 a2 g1 f3 o2 o1 (λw' bm=>?_) (by omega) (by omega) g2 h;exact run_firstCells_some (P:=P) w' i.size n ⟨b,0,none⟩ n cap R o2 (λj v hv=>by
       rw[wJ];have:=o3 j v hv;simpa[World.cell?,bm]using this)
  grind
 grind
theorem XY {e:TypeId}(h:u6 P e=true): ∃i z,P.info? e=some i /\i.zero=some z /\z.cells.size=i.size:=by
 grind[u6,Nat.eq_of_beq_eq_true]
theorem av2 (hr:Rel F N ι s a w)(hd: ∀k,o.dst=some k ->k<N){args:Array Operand}{U:Array TypeId}{x y:Operand}{t u e e':TypeId}(ho:o.op= .call {callee:=.builtin .append,args:=args,argTypes:=U})
 (I:args.toList=[x,y]) (ab:U.toList=[t,u]) (ht:uk P t=some e) (hu:P.underlying u=some (.slice e')) (g:Nat.blt 0 (z0 P e)=true) (j:u6 P e=true)
 (h:z8 P o.dst (.app (z0 P e) (uZ P e) (cO x) (cO y)) s K):qk P F N o a w K:=by
 simp only[z8]at h;have ha:args= #[x,y]:=Array.toList_inj.1 (by grind);have aa:U= #[t,u]:=Array.toList_inj.1 (by grind);obtain⟨i,z,hi,hz,T⟩:=XY j;have R:z0 P e=i.size:=by grind[z0]
 have J:uZ P e=i.bytes:=by grind[uZ]
 have g:0<i.size:=by simp_all
 split at h
 ·rename_i d r;cases hl:W9 s.pl (s.oc (cO y))with
  |none=>grind[aiS]
  |some l=>
   rw[hl,R,J]at h;refine aag hr hd r (vO ht) (.inr ⟨e',hu⟩) hi hz T g (qJ hr x) (y:=a.eval y) ?_ (λp=>aAW hr (qJ hr y) hl p) h;simp_all[execOp,resolve,invoke,builtin]
 grind
theorem atE (hr:Rel F N ι s a w)(hd: ∀k,o.dst=some k ->k<N){args:Array Operand}{U:Array TypeId}{x y:Operand}{t u e:TypeId}(ho:o.op= .call {callee:=.builtin .append,args:=args,argTypes:=U})
 (I:args.toList=[x,y]) (ac:U.toList=[t,u]) (ht:uk P t=some e) (hu:P.underlying u=some .string) (p:(Nat.beq (z0 P e) 1&&Nat.beq (uZ P e) 1)=true) (g:u6 P e=true)
 (h:z8 P o.dst (.apps (cO x) (cO y)) s K):qk P F N o a w K:=by
 simp only[z8]at h;have ha:args= #[x,y]:=Array.toList_inj.1 (by grind);have ab:U= #[t,u]:=Array.toList_inj.1 (by grind);obtain⟨i,z,hi,hz,T⟩:=XY g;rw[Bool.and_eq_true]at p;have J:i.size=1:=by grind[Nat.eq_of_beq_eq_true,z0]
 have aa:i.bytes=1:=by grind[Nat.eq_of_beq_eq_true,uZ]
 split at h
 ·rename_i d b j hy;have r:=qJ hr y;rw[hy]at r;have R:=xS r;refine aag hr hd j (vO ht) (.inl hu) hi hz T (by omega) (qJ hr x) (y:=a.eval y) ?_ (l:=x8 b) ?_ (by grind)
  ·simp_all[execOp,resolve,invoke,builtin]
  ·intro _;rw[R,J];exact atH w ι _ b
 grind
end
section
variable {P:Program}{F:Fr}{N:Nat}{ι:Nat ->Gh}{s:S}{a:Act}{w:World}{o:Oper}{K:S ->Prop}
theorem aiD (hr:Rel F N ι s a w)(J: ∀k,o.dst=some k ->k<N){args:Array Operand}{p:Array TypeId}{x:Operand}{t:TypeId}(R:o.op= .call {callee:=.builtin .len,args:=args,argTypes:=p})
 (j:args.toList=[x]) (T:p.toList=[t]) {z:AOp}(i:KD P t x=some z) (h:z8 P o.dst z s K):z= .slen (cO x)/\zH P F N o a w (λ_=>True) K:=by
 unfold KD at i;split at i
 ·rename_i U;cases i;refine⟨rfl,?_⟩;have r:args= #[x]:=Array.toList_inj.1 (by grind);have l:p= #[t]:=Array.toList_inj.1 (by grind);simp only[z8]at h;have g:=qJ hr x;split at h
  ·rename_i b I;rw[I]at g;have g:=xS g;refine zH.put hr J (v:=.int .i64 b.size) ?_ (xB rfl) h;intro w' _;simp[execOp,R,resolve,invoke,builtin,Builtin.len_,r,l,g,run_underlying U,goInt]
  grind
 ·cases i
theorem aiA (hr:Rel F N ι s a w)(p: ∀k,o.dst=some k ->k<N){i dst:TypeId}{x:Operand}(r:o.op= .convert i dst x){z:AOp}(g:Vz P i dst x=some z)(h:z8 P o.dst z s K):
 (∃k,z= .conv k (cO x))/\zH P F N o a w (λ_=>True) K:=by
 unfold Vz at g;split at g
 ·rename_i J hs;split at g
  ·rename_i k I;cases g;refine⟨⟨k,rfl⟩,?_⟩;simp only[z8]at h;have j:=qJ hr x;split at h
   ·rename_i k' n l;rw[l]at j;have j:=xS j;refine zH.put hr p (v:=.int k (k.wrap n)) ?_ (xB rfl) h;intro w' _;simp[execOp,r,j,convert,run_underlying hs,run_underlying I,Conv.intToInt]
   grind
  ·cases g
 ·cases g
theorem apI (hr:Rel F N ι s a w)(l: ∀k,o.dst=some k ->k<N){b:UnOp}{t:TypeId}{x:Operand}(p:o.op= .unOp b t x){z:AOp}(g:K5 P b t x=some z)(h:z8 P o.dst z s K):
 (z= .bnot (cO x)\/z= .ineg (cO x))/\zH P F N o a w (λ_=>True) K:=by
 unfold K5 at g;split at g
 ·cases g;refine⟨.inl rfl,?_⟩;simp only[z8]at h;split at h
  ·rename_i b j;have i:=We j (jg hr x);refine zH.put hr l (v:=.bool (!b)) ?_ (xB rfl) h;simp_all[execOp,Op.unary]
  grind
 ·split at g
  ·cases g;refine⟨.inr rfl,?_⟩;simp only[z8]at h;have i:=qJ hr x;split at h
   ·rename_i k n j;rw[j]at i;have i:=xS i;refine zH.put hr l (v:=.int k (k.wrap (0 - n))) ?_ (xB rfl) h;simp_all[execOp,Op.unary,Op.intArith]
   grind
  ·cases g
 ·cases g
theorem alg (hr:Rel F N ι s a w)(R: ∀k,o.dst=some k ->k<N){b:BinOp}{t u:TypeId}{x y:Operand}(T:o.op= .binOp b t x y u){z:AOp}(r:UG P b t x y=some z)(h:z8 P o.dst z s K):
 ((∃neg,z= .beq neg (cO x) (cO y))\/ ∃l,z= .shf l (cO x) (cO y))/\zH P F N o a w (λ_=>True) K:=by
 have J: ∀neg,z= .beq neg (cO x) (cO y) ->P.underlying t=some .bool ->(b= .eql /\neg=false\/b= .neq /\neg=true) ->zH P F N o a w (λ_=>True) K:=by
  intro neg r ht I;subst r;simp only[z8]at h;split at h
  ·rename_i p q hp hq;have g:=We hp (jg hr x);have i:=We hq (jg hr y);refine zH.put hr R (v:=.bool (bif neg then p !=q else p==q)) ?_ (xB rfl) h;intro w' _;have he:(Op.equal t (.bool p) (.bool q)).run P w'= .ok (p==q) w':=run_equalIn_bool' w' 9999 t p q ht;rcases I with⟨rfl,rfl⟩|⟨rfl,rfl⟩<;>simp_all[execOp,eqGuard,binOp,bne]
  grind
 have aa: ∀l,z= .shf l (cO x) (cO y) ->(b= .shl /\l=true\/b= .shr /\l=false) ->zH P F N o a w (λ_=>True) K:=by
  intro l r I;subst r;simp only[z8]at h;have g:=qJ hr x;have i:=qJ hr y;split at h
  ·rename_i k m k1 n U hn;rw[U]at g;rw[hn]at i;have g:=xS g;have i:=xS i;have j: ¬n<0:=by grind
   refine zH.put hr R (v:=.int k (VS l k m n)) ?_ (xB rfl) h.2;intro w' _;rcases I with⟨rfl,rfl⟩|⟨rfl,rfl⟩
   ·simp[execOp,T,g,i,eqGuard,binOp,Op.shift,j,VS]
   ·simp[execOp,T,g,i,eqGuard,binOp,Op.shift,j,VS]
  grind
 unfold UG at r<;>grind
theorem aaE {t:TypeId}{k:Nat}(h:adV P t=some k):(k=0 /\ ∃k',P.underlying t=some (.int k'))\/(k=1 /\P.underlying t=some .string)\/(k=2 /\P.underlying t=some .bool):=by
 grind[adV]
theorem asA {f:Field}{r:List Field}{i:Nat}{l:List Nat}(h:adU P i (f::r)=some l): ∃k j,l=k::j /\f.offset=i /\f.name≠ "_" /\adV P f.type=some k /\P.plainKey f.type=true /\adU P (i+1) r=some j:=by
 simp only[adU]at h;cases g:(Nat.beq f.offset i&& !(f.name== "_")&&P.plainKey f.type)
 ·grind
 ·rw[g]at h;simp only[cond_true]at h;simp only[Bool.and_eq_true,Bool.not_eq_true',beq_eq_false_iff_ne]at g
  grind[Nat.eq_of_beq_eq_true]
theorem atn {ok:Nat ->Prop}{k:Nat}{x y:C}{b:Bool}(h:anS k x y=some b){t:TypeId}(l:adV P t=some k){u v:Value}(o:CR ι w ok x u)(p:CR ι w ok y v)(d:Nat)(w':World):
 (Op.equalIn (d+1) t u v).run P w'= .ok b w':=by
 unfold anS at h;split at h
 ·rename_i r m I n;have i:=xS o;have j:=xS p;subst i;subst j;cases g:(Nat.beq k 0&&Zw r I)
  ·grind
  ·rw[g]at h;cases h;rw[Bool.and_eq_true]at g;have hk:=Nat.eq_of_beq_eq_true g.1;have:=ae5 g.2;subst this;subst hk;rcases aaE l with⟨_,k',i⟩|⟨h,_⟩|⟨h,_⟩
   ·grind[run_equalIn_int]
   ·cases h
   ·cases h
 ·rename_i m n;have i:=xS o;have j:=xS p;subst i;subst j;cases g:Nat.beq k 1
  ·grind
  ·rw[g]at h;cases h;have hk:=Nat.eq_of_beq_eq_true g;subst hk;rcases aaE l with⟨h,_⟩|⟨_,i⟩|⟨h,_⟩
   ·cases h
   ·exact run_equalIn_string w' d t m n i
   ·cases h
 ·grind[xS,Nat.eq_of_beq_eq_true,aaE,run_equalIn_bool']
 ·cases h
theorem Ux {ok:Nat ->Prop}(d:Nat)(X Y:Array Value)(w':World): ∀(p:List Field) (i:Nat) (g:List Nat),adU P i p=some g -> ∀(xs ys:List C) (b:Bool),CRs ι w ok xs (X.toList.drop i) ->CRs ι w ok ys (Y.toList.drop i) ->
 Y3 g xs ys=some b ->(Op.eqFields (d+1) X Y p).run P w'= .ok b w'
 | [],i,g,hf,xs,ys,b,_,_,j=>by
   cases hf;cases xs with
   |nil=>cases ys<;>simp_all[Op.eqFields,Y3]
   |cons x xs=>grind[Y3]
 |f::p,i,g,hf,xs,ys,b,l,o,j=>by
  obtain⟨k,g,rfl,h1,h2,h3,h4,h5⟩:=asA hf;cases xs with
  |nil=>grind[Y3]
  |cons x xs=>
   cases ys with
   |nil=>grind[Y3]
   |cons y ys=>
    simp only[Y3]at j;split at j
    case h_2=>cases j
    rename_i b1 b2 aa ab;cases j;cases r:X.toList.drop i with
    |nil=>rw[r]at l;exact l.elim
    |cons u us=>
     cases R:Y.toList.drop i with
     |nil=>rw[R]at o;exact o.elim
     |cons v vs=>
      rw[r]at l;rw[R]at o;have J:X[i]? =some u:=by
       have:(X.toList.drop i)[0]? =some u:=by grind
       grind
      have U:Y[i]? =some v:=by
       have:(Y.toList.drop i)[0]? =some v:=by grind
       grind
      have I:X.toList.drop (i+1)=us:=by rw[<- List.drop_drop,r];rfl
      have T:Y.toList.drop (i+1)=vs:=by rw[<- List.drop_drop,R];rfl
      have ih:=Ux d X Y w' p (i+1) g h5 xs ys b2 (by rw[I];exact l.2) (by rw[T];exact o.2) ab;have ac:=run_part_plain (w:=w') h4 J;have ad:=run_part_plain (w:=w') h4 U;have heq:=atn aa h3 l.1 o.1 d w';simp only[Op.eqFields,h1,h2,ne_eq,not_false_eq_true,if_true,Sem.run_bind,ac,ad,heq,Result.andThen_ok];cases b1<;>simp_all
theorem alj (hr:Rel F N ι s a w)(hd: ∀k,o.dst=some k ->k<N){b:BinOp}{t u:TypeId}{x y:Operand}(ho:o.op= .binOp b t x y u){z:AOp}(j:Kl P b t x y=some z)(h:z8 P o.dst z s K):
 (∃neg J,z= .eqa neg J (cO x) (cO y))/\zH P F N o a w (λ_=>True) K:=by
 unfold Kl at j;split at j
 case h_2=>cases j
 rename_i J g;have ab: ∀neg,z= .eqa neg J (cO x) (cO y) ->(b= .eql /\neg=false\/b= .neq /\neg=true) ->zH P F N o a w (λ_=>True) K:=by
  intro neg j hb;subst j;unfold azJ at g;split at g
  case h_2=>cases g
  rename_i fs hu;cases l:(!P.stoodInHeld t&& !P.eqGuardType P.depth t)
  ·grind
  ·rw[l]at g;simp only[cond_true]at g;simp only[Bool.and_eq_true,Bool.not_eq_true']at l;simp only[z8]at h;split at h
   case h_2=>grind
   rename_i xs ys U aa;split at h
   case h_2=>grind
   rename_i r i;have I:=jg hr x;have hy:=jg hr y;rw[U]at I;rw[aa]at hy;obtain⟨X,hX,I⟩:=I;obtain⟨Y,hY,hy⟩:=hy;have R:P.fieldsOf t=fs:=by grind[Program.fieldsOf]
   have T:P.underlying t=some (.struct (P.fieldsOf t)):=by grind
   refine zH.put hr hd (v:=.bool (bif neg then !r else r)) ?_ (xB rfl) h;intro w' _;have ac:(Op.equalIn 10000 t (.agg X.toArray) (.agg Y.toArray)).run P w'= .ok r w':=by
    rw[run_equalIn_agg w' 9999 t X.toArray Y.toArray T l.1,R];exact Ux 9998 X.toArray Y.toArray w' fs.toList 0 J g xs ys r (by simpa using I) (by grind) i
   have p:(eqGuard b t x y (.agg X.toArray) (.agg Y.toArray)).run P w'= .ok () w':=run_eqGuard_agg w' b t x y _ _ l.2;rcases hb with⟨rfl,rfl⟩|⟨rfl,rfl⟩<;>simp_all[execOp,run_eql_struct,run_neq_struct]
 grind
theorem aA4 {pl g:List (Nat×Pl)}{c:C}{x:D}(h:WD pl c=some (x,g)){p:Nat}{cs:List C}(i:aget pl p=some (.box cs)):aget g p=some (.box cs):=by
 cases c with
 |own q z n=>
  grind[WD,vS]
 |d _=>cases h;exact i
 |nil=>cases h;exact i
 |clo f l=>cases l with
  |nil=>cases h;exact i
  |cons _ _=>cases h
 |dead=>cases h
 |sub _ _ _ _=>cases h
 |ptr _ _=>cases h
 |eptr _ _ _ _=>cases h
 |fp _=>cases h
theorem apO: ∀{g:List C}{pl i:List (Nat×Pl)}{I:List D}(_:jj pl g=some (I,i)) {p:Nat}{cs:List C}(_:aget pl p=some (.box cs)),aget i p=some (.box cs)
 | [],_,_,_,h,_,_,o=>by cases h;exact o
 |c::g,pl,i,I,h,p,cs,o=>by
  unfold jj at h;cases j:WD pl c with
  |none=>rw[j]at h;cases h
  |some y=>
   obtain⟨x,r⟩:=y;rw[j]at h;simp only at h;cases l:jj r g with
   |none=>rw[l]at h;cases h
   |some z=>
    obtain⟨xs,J⟩:=z;rw[l]at h;cases h;exact apO l (aA4 j o)
theorem aiM {ok:Nat ->Prop}{b:Nat}: ∀{g:List D}{vs:List Value}{off:Nat},CRs ι w ok (g.map .d) vs ->(∀j v,vs[j]? =some v ->w.cell? ⟨b,off+j,none⟩=some v) ->RDc w ok b off g
 | [],_,_,_,_=>by grind[RDc]
 |d::g,[],_,h,_=>h.elim
 |d::g,v::vs,off,h,i=>by
  simp only[RDc];refine⟨⟨v,i 0 v rfl,h.1⟩,aiM h.2 λj u l=>?_⟩;rw[show off+1+j=off+(j+1)by omega];exact i (j+1) u (by simpa using l)
theorem aaI (U:S): ∀(R:List Operand) {s:S}(_:s.sl=U.sl) (_:Rel F N ι s a w) {l:List (List D)}{g:List (Nat×Pl)}(_:frz U s.pl (R.map cO)=some (l,g)),
 Rel F N ι (s.withPl g) a w /\(∀b,F.ok ι s.pl w b ->F.ok ι g w b)/\RDf w (F.ok ι g w) (R.map a.eval) l
 | [],s,hs,hr,l,g,h=>by cases h;exact⟨hr,λ_ h=>h,by simp[RDf]⟩
 |x::r,s,hs,hr,l,g,h=>by
  have hx:CR ι w (F.ok ι s.pl w) (U.oc (cO x)) (a.eval x):=by
   have:=qJ hr x;have e:s.oc (cO x)=U.oc (cO x):=by
    unfold S.oc S.o S.tmp;rw[hs]
   rwa[e]at this
  simp only[List.map_cons,frz]at h;split at h
  ·rename_i ds J;rw[J]at hx;obtain⟨b,o',T,h2,h3⟩:=hx;split at h
   ·rename_i l' P hl;cases h;obtain⟨g1,g2,g3⟩:=aaI U r hs hr hl;refine⟨g1,g2,?_⟩;simp only[List.map_cons,RDf];exact⟨b,o',_,by rw[T],g2 b h2,RDc.keep (λb i=>⟨g2 b i,rfl⟩) b h2 _ _ h3,g3⟩
   ·cases h
  ·rename_i p hp;rw[hp]at hx;obtain⟨b,T,h2⟩:=hx;split at h
   ·rename_i cs I;split at h
    case h_2=>cases h
    rename_i ds P J;split at h
    case h_2=>cases h
    rename_i l' ac hl;cases h;obtain⟨b',ab,e1,e2,e3⟩:=hr.places p _ I;rw[T]at e1;cases e1;obtain⟨g1,g2,g3⟩:=Wr hr e3 J;have aa:aget P p=some (.box cs):=apO J I;obtain⟨k1,k2,k3⟩:=Rel.still (y:=.fbox ds) g1 aa rfl rfl (λm n=>⟨b,T,n b T,aiM (CRs.keep (λb i=>⟨m b i,rfl⟩) (yp.refl w) _ _ g3) λj v hv=>by
     rw[e2.cell];simpa using hv⟩)
    obtain⟨q1,q2,q3⟩:=aaI U r (s:=s.withPl (yZ p (.fbox ds) P)) hs k1 hl;refine⟨q1,λb i=>q2 b (k2 b (g2 b i)),?_⟩;simp only[List.map_cons,RDf];refine⟨b,0,_,by rw[h2],q2 b (k3 b T),?_,q3⟩;exact aiM (CRs.keep (λb i=>⟨q2 b (k2 b i),rfl⟩) (yp.refl w) _ _ g3) λj v hv=>by rw[e2.cell];simpa using hv
   ·rename_i ds I;split at h
    case h_2=>cases h
    rename_i l' P hl;cases h;obtain⟨b',e1,e2,e3⟩:=hr.places p _ I;rw[T]at e1;cases e1;obtain⟨g1,g2,g3⟩:=aaI U r hs hr hl;refine⟨g1,g2,?_⟩;simp only[List.map_cons,RDf];exact⟨b,0,_,by rw[h2],g2 b e2,RDc.keep (λb i=>⟨g2 b i,rfl⟩) b e2 _ _ e3,g3⟩
   ·cases h
  ·cases h
theorem atG (hr:Rel F N ι s a w)(j: ∀k,o.dst=some k ->k<N){f:FuncId}{first g:Array Operand}(R:o.op= .makeFunc (.func f) first g)(J:first.toList.isEmpty=true)
 (h:z8 P o.dst (.clof f (g.toList.map cO)) s K):qk P F N o a w K:=by
 simp only[z8]at h;split at h
 ·rename_i l r p;have i:first= #[]:=by
   grind
  obtain⟨g1,g2,g3⟩:=aaI s g.toList rfl hr p;refine qk.put g1 j (v:=.func (.func f) #[] (g.toList.map a.eval).toArray) ?_ (show VR ι w _ (cV (.d (.fn f l))) _ from ?_) h
  ·have I:g.map a.eval=(g.toList.map a.eval).toArray:=by
    grind
   simp_all[execOp,Instr.makeFunc]
  ·simp only[cV,VR,WR,CR,RD];exact⟨_,rfl,g3⟩
 grind
end
theorem gc {α:Type}{z:Nat}: ∀(g:List (List α)) (off:Nat) (new:List (List α)),(∀x∈g,x.length=z) ->(∀x∈new,x.length=z) ->off+new.length<=g.length ->
 (zP g off new).flatten=zP g.flatten (off*z) new.flatten:=by
 intro g off new j J P;have p: ∀(l:List (List α)) (n:Nat),(∀x∈l,x.length=z) ->n<=l.length ->(l.take n).flatten=l.flatten.take (n*z):=by
  intro l;induction l with
  |nil=>grind
  |cons x r o=>
   intro n i R;cases n with
   |zero=>simp
   |succ n=>
    grind[Nat.add_mul]
 have I: ∀(l:List (List α)) (n:Nat),(∀x∈l,x.length=z) ->n<=l.length ->(l.drop n).flatten=l.flatten.drop (n*z):=by
  intro l;induction l with
  |nil=>grind
  |cons x r o=>
   intro n i R;cases n with
   |zero=>simp
   |succ n=>
    have U:x.length=z:=i x (by simp);simp only[List.drop_succ_cons,List.flatten_cons];rw[o n (λy T=>i y (by simp[T])) (by grind),show(n+1)*z=x.length+n*z by grind,List.drop_length_add_append]
 simp only[zP,List.flatten_append];rw[p g off j (by omega),I g _ j P,uI new J,Nat.add_mul]
theorem abQ {α:Type}(l:List α)(off:Nat)(new:List α)(h:off+new.length<=l.length):(zP l off new).length=l.length:=by
 grind[zP]
section
variable {P:Program}{F:Fr}{N:Nat}{ι:Nat ->Gh}{s:S}{a:Act}{w:World}{o:Oper}{K:S ->Prop}
theorem Rel.storeEls (hr:Rel F N ι s a w){p z:Nat}{i g:List (List D)}(U:aget s.pl p=some (.arr z i false)){b:Nat}(T:(ι p).b=some b)(hl:g.length=i.length)(ab: ∀e∈g,e.length=z)
 {q:Nat}{R:List D}{vs:List Value}(ae:g.flatten=zP i.flatten q R) (I:CRs ι w (F.ok ι s.pl w) (R.map .d) vs) (hq:q+R.length<=i.length*z):
 ∃w',(storeCells (⟨b,q,none⟩:Addr) vs 0).run P w= .ok () w' /\Rel F N ι (s.withPl (yZ p (.arr z g false) s.pl)) a w':=by
 obtain⟨ac,hn,af|⟨b',e1,e2,_,e4⟩⟩:=hr.places p _ U
 ·grind
 rw[T]at e1;cases e1;obtain⟨old,⟨ty,r⟩,aa⟩:=e4 rfl;have ah:vs.length=R.length:=by have:=I.length;grind
 have l:=run_storeCells_at P b q ty vs 0 old w r (by omega) (Zb I);simp only[Nat.add_zero]at l;refine⟨_,l,?_⟩;have J:(old.toList.take q++vs++old.toList.drop (q+vs.length)).toArray.size=old.size:=by
  grind
 have hk:=kN hr p (.arr z i false) (.arr z g false) U rfl T (old.toList.take q++vs++old.toList.drop (q+vs.length)).toArray;have ag:=yp.setRow w b r J;obtain⟨us,g1,g2,g3⟩:=RDs.vals (ι:=ι) e2;refine hr.write p (.arr z i false) (.arr z g false) U rfl rfl T r J ⟨ac,by grind,.inr ⟨b,T,?_,(λhf=>by cases hf),(λ_=>⟨_,⟨ty,setRow_heap w b old _ ty (0,0) r⟩,by grind⟩)⟩⟩;refine QM (ι:=ι) (vs:=zP us q vs) ab ?_ ?_
 ·grind[zP,List.map_take,List.map_drop,CRs.keep,CRs.append,CRs.take,CRs.drop]
 ·intro j v o;rw[Nat.zero_add,cell_setRow_same w b _ old _ ty (0,0) r];simp only[zP]at o;have ad: ∀j v,us[j]? =some v ->old.toList[j]? =some v:=λj v o=>by
   have:=g3 j v o;rw[Nat.zero_add,cell_of_row w b j old ty (0,0) r]at this;rw[Array.getElem?_toList];exact this
  simp only[List.getElem?_toArray];rw[List.getElem?_append,List.getElem?_append]at o⊢;have t1:(us.take q).length=q:=by grind
  have t2:(old.toList.take q).length=q:=by grind
  simp only[List.length_append,t1,t2]at o⊢;split at o
  ·rename_i c1;rw[if_pos c1];split at o
   ·rename_i c2;rw[if_pos c2];rw[List.getElem?_take]at o⊢;simp_all
   simp_all
  simp_all[if_neg]
theorem ah8 (hr:Rel F N ι s a w){c:C}{v:Value}(l:CR ι w (F.ok ι s.pl w) c v){p z off n:Nat}(h:range c=some (p,z,off,n)){U:Nat}{g:List (List D)}{r:Bool}(R:aget s.pl p=some (.arr U g r)):
 ∃i cap,v= .slice i n cap /\off+n<=g.length+(if n=0 then off else 0)/\(n=0\/ ∃b,(ι p).b=some b /\i=some ⟨b,off*z,none⟩):=by
 have hn:=(hr.places p _ R).2.1;cases c with
 |own q T m=>
  cases h;rcases l with⟨j,I,J⟩|⟨b,cap,t,j,I,J,P,h5,h6⟩
  ·grind
  grind
 |sub q T o m=>
  cases h;obtain⟨i,cp,j,_,_,P⟩:=l<;>grind
 |_=>cases h
theorem amo (hr:Rel F N ι s a w){c:C}{v:Value}(I:CR ι w (F.ok ι s.pl w) c v){l:List (List D)}(h:aa7 s.pl c=some l):
 ∃i cap,v= .slice i l.length cap /\ ∃ok:Nat ->Prop,(l=[]\/ ∃b q sz,i=some ⟨b,q,none⟩/\RDs w (F.ok ι s.pl w) b sz q l):=by
 cases c with
 |sub p z off n=>
  simp only[aa7]at h;split at h
  ·rename_i z1 R fz hp;cases g:Nat.beq z z1<;>rw[g]at h
   ·cases h
   have g:=Nat.eq_of_beq_eq_true g;subst g;cases h;obtain⟨i,cp,o,_,_,r⟩:=I;rcases r with r|⟨b,J,P,e3⟩
   ·grind
   ·obtain⟨ab,hn,aa|⟨b',j,T,_⟩⟩:=hr.places p _ hp
    ·grind
    ·rw[J]at j;cases j;refine⟨i,cp,by grind,λ_=>True,.inr ⟨b,off*z,z,P,?_⟩⟩;have:=RDs.take n (RDs.drop off T)<;>grind
  ·cases h
 |_=>obtain⟨i,cap,o,U⟩:=JS hr I h;exact⟨i,cap,o,λ_=>True,U⟩
theorem atL {t e:TypeId}(h:Nat.blt 0 (z0 P e)=true): ∃i,P.info? e=some i /\i.size=z0 P e /\0<z0 P e:=by
 have g:z0 P e≠0:=by have:=Nat.le_of_ble_eq_true h;omega
 grind[z0]
theorem av4 (hr:Rel F N ι s a w)(I: ∀k,o.dst=some k ->k<N){args:Array Operand}{U:Array TypeId}{x:Operand}{t e:TypeId}(ho:o.op= .call {callee:=.builtin .cap,args:=args,argTypes:=U})
 (R:args.toList=[x]) (aa:U.toList=[t]) (ht:uk P t=some e) (h:z8 P o.dst (.cap (cO x)) s K):zH P F N o a w (λ_=>True) K:=by
 simp only[z8]at h;have hu:=vO ht;have ha:args= #[x]:=Array.toList_inj.1 (by grind);have T:U= #[t]:=Array.toList_inj.1 (by grind);have g: ∀b m c,a.eval x= .slice b m c -> ∀w':World,True ->(execOp a.eval o).run P w'= .ok (.value (.int .i64 c)) w':=by
  intro b m c e1 w' _;simp[execOp,ho,resolve,invoke,builtin,Builtin.cap_,ha,T,e1,run_underlying hu,goInt]
 have i:=qJ hr x;split at h
 ·rename_i l j;rw[j]at i;simp only[CR,RD]at i;obtain⟨ad,m,c,h1,J,r,h4,_⟩:=i;exact zH.put hr I (g _ _ _ h1) (xB rfl) (h c (by omega) (by grind[maxLen]))
 ·rename_i j;rw[j]at i;exact zH.put hr I (g _ _ _ i) (xB rfl) h
 ·rename_i p z m j;rw[j]at i;rcases i with⟨_,J,r⟩|⟨b,cap,ty,h1,J,r,h4,h5,_⟩
  ·subst J;exact zH.put hr I (g _ _ _ r) (xB rfl) (h 0 (Nat.le_refl _) (by omega))
  ·exact zH.put hr I (g _ _ _ r) (xB rfl) (h cap h4 (by grind[maxLen]))
 grind
theorem av7 (hr:Rel F N ι s a w)(hd: ∀k,o.dst=some k ->k<N){args:Array Operand}{ts:Array TypeId}{x y:Operand}{t u e e':TypeId}(ho:o.op= .call {callee:=.builtin .copy,args:=args,argTypes:=ts})
 (ar:args.toList=[x,y]) (a7:ts.toList=[t,u]) (ht:uk P t=some e) (ac:Nat.blt 0 (z0 P e)=true) (h:z8 P o.dst (.cpy (z0 P e) (cO x) (cO y)) s K):qk P F N o a w K:=by
 simp only[z8]at h;have hu:=vO ht;obtain⟨i,hi,a5,ac⟩:=atL (t:=t) ac;have ha:args= #[x,y]:=Array.toList_inj.1 (by grind);have R:ts= #[t,u]:=Array.toList_inj.1 (by grind);have hx:=qJ hr x;have hy:=qJ hr y;generalize s.oc (cO x)=cx at*;cases I:aa7 s.pl (s.oc (cO y))with
 |none=>rw[I]at h;exact h.elim
 |some l=>
 rw[I]at h;obtain⟨ad,cap,T,_,r⟩:=amo hr hy I;unfold awv at h;simp only at h;split at h
 ·
  have hx:a.eval x= .slice none 0 0:=hx;refine(zH.put (C:=λ_=>True) hr hd (v:=.int .i64 0) ?_ (xB rfl) h).fine trivial;intro w' _;have av:(Builtin.firstCells (z0 P e) 0 (.slice ad l.length cap)).run P w'= .ok #[] w':=by
   cases ad<;>simp_all[Builtin.firstCells,loadCells,loadCellsFrom]
  simp[execOp,ho,resolve,invoke,builtin,Builtin.copy_,ha,R,hx,T,run_underlying hu,goInt,Builtin.lenOf,vM hi,av]
 ·split at h
  case h_2=>grind
  rename_i p z off n ay;split at h
  case h_2=>grind
  rename_i z1 g hp;cases U:(Nat.beq z z1&&Nat.beq z (z0 P e))<;>rw[U]at h
  ·grind
  simp only[cond_true]at h;rw[Bool.and_eq_true]at U;have e1:=Nat.eq_of_beq_eq_true U.1;have e2:=Nat.eq_of_beq_eq_true U.2;subst e1;obtain⟨hl,h⟩:=h;obtain⟨ai,a0,ag,au,ab⟩:=ah8 hr hx ay hp;have an:Nat.min l.length n=min l.length n:=rfl;have af: ∃j:List Value,j.length=(l.take n).length*z0 P e /\CRs ι w (F.ok ι s.pl w) ((l.take n).flatten.map .d) j /\(Builtin.firstCells (z0 P e) (min l.length n) (.slice ad l.length cap)).run P w= .ok j.toArray w:=by
   have a6:(l.take n).length=min l.length n:=by grind
   rcases r with rfl|⟨b,q,sz,rfl,r⟩
   ·refine⟨[],by simp,by simp[CRs],?_⟩;cases ad<;>simp_all[Builtin.firstCells,loadCells,loadCellsFrom]
   ·obtain⟨vs,g1,g2,g3⟩:=RDs.vals (ι:=ι) (RDs.take n r);have a8:vs.length=(l.take n).length*z0 P e:=by
     have:=g1.length<;>grind[uI]
    grind[run_firstCells_some,wJ]
  obtain⟨j,n1,n2,n3⟩:=af;have aj: ∀x∈g,x.length=z:=by
   obtain⟨_,_,a2|⟨b',_,f2,_⟩⟩:=hr.places p _ hp
   ·grind
   grind[RDs.len]
  by_cases ao:n=0
  ·subst ao;have ae:j=[]:=by
    simp_all
   subst ae;have ak:zP g off (l.take 0)=g:=by simp[zP]
   rw[ak]at h;have a4:{s with pl:=yZ p (.arr z g false) s.pl}={s with pl:=yZ p (.arr z g false) s.pl}:=rfl;have hrel:Rel F N ι (s.withPl (yZ p (.arr z g false) s.pl)) a w:=by
    refine hr.sub _ (λk v h=>h) (λq y hq=>?_);have ax:aget (yZ p (.arr z g false) s.pl) q=some y:=hq;rw[yJ]at ax;by_cases a3:p=q<;>simp_all
   refine qk.of_value (v:=.int .i64 (min l.length 0:Nat)) (w':=w) ?_ (Rel.put hrel o.dst hd _ _ (xB rfl)) h;have J: ∀ah,(storeCells ah ([]:List Value) 0).run P w= .ok () w:=λah=>by simp[storeCells]
   have aq:(Builtin.firstCells (z0 P e) 0 (.slice ad l.length cap)).run P w= .ok #[] w:=by grind
   cases ai with
   |none=>simp[execOp,ho,resolve,invoke,builtin,Builtin.copy_,ha,R,ag,T,run_underlying hu,goInt,Builtin.lenOf,vM hi,aq]
   |some ai=>simp[execOp,ho,resolve,invoke,builtin,Builtin.copy_,ha,R,ag,T,run_underlying hu,goInt,Builtin.lenOf,vM hi,aq,J]
  ·rcases ab with ab|⟨b,hb,rfl⟩
   ·grind
   rw[if_neg ao]at au;have a1:(l.take n).length<=n:=List.length_take_le n l;have al: ∀x∈l.take n,x.length=z:=λx hx=>by grind
   have aa:off+(l.take n).length<=g.length:=by omega
   have aw:=gc g off (l.take n) aj al aa;obtain⟨w',az,hrel⟩:=hr.storeEls (P:=P) hp hb (abQ g off (l.take n) aa) (λx hx=>by
    grind[zP]) aw n2 (by
     rw[uI (l.take n) al,<- Nat.add_mul];simp_all[Nat.mul_le_mul_right])
   refine qk.of_value (v:=.int .i64 (min l.length n:Nat)) (w':=w') ?_ (Rel.put hrel o.dst hd _ _ (xB rfl)) h;simp[execOp,ho,resolve,invoke,builtin,Builtin.copy_,ha,R,ag,T,run_underlying hu,goInt,Builtin.lenOf,vM hi,an,n3,az]
theorem av6 (hr:Rel F N ι s a w)(hd: ∀k,o.dst=some k ->k<N){args:Array Operand}{ts:Array TypeId}{x:Operand}{t e:TypeId}(ho:o.op= .call {callee:=.builtin .clear,args:=args,argTypes:=ts})
 (ai:args.toList=[x]) (a3:ts.toList=[t]) (ht:uk P t=some e) (az:Nat.blt 0 (z0 P e)=true) {z:List D}{aw:List (Nat×Pl)}(hz:jj [] (vP P e).cells=some (z,aw)) (ag:Nat.beq z.length (z0 P e)=true) (av:u6 P e=true)
 (h:z8 P o.dst (.clr (z0 P e) z (cO x)) s K):qk P F N o a w K:=by
 simp only[z8]at h;have hu:=vO ht;obtain⟨i,l,hi,a6,a5⟩:=XY av;have a2:i.size=z0 P e:=by grind[z0]
 have ag:=Nat.eq_of_beq_eq_true ag;have ha:args= #[x]:=Array.toList_inj.1 (by grind);have R:ts= #[t]:=Array.toList_inj.1 (by grind);have U:=qJ hr x;generalize s.oc (cO x)=cx at*;have T:(zeroValue e).run P w= .ok l w:=by simp_all[zeroValue,typeInfo]
 have a4:vP P e=ofValue l:=by grind[vP]
 have af:CRs ι w (F.ok ι s.pl w) (z.map .d) l.cells.toList:=by
  grind[Vn,UE,X0,Z2]
 have j: ∀{a':Act}{s':S}{w':World},Rel F N ι s' a' w' ->Rel F N ι (s'.put o.dst wx) (a'.put o.dst (.tuple #[])) w':=λao=>Rel.put ao o.dst hd _ _ ⟨[],rfl,trivial⟩
 unfold awu at h;split at h
 ·have U:a.eval x= .slice none 0 0:=U;refine qk.of_value (v:=.tuple #[]) (w':=w) ?_ (j hr) h;simp[execOp,ho,resolve,invoke,builtin,Builtin.clear_,ha,R,U,run_underlying hu]
 ·split at h
  case h_2=>grind
  rename_i p z1 off n aq;split at h
  case h_2=>grind
  rename_i z2 g hp;cases r:(Nat.beq z1 z2&&Nat.beq z1 (z0 P e))<;>rw[r]at h
  ·grind
  simp only[cond_true]at h;rw[Bool.and_eq_true]at r;have e1:=Nat.eq_of_beq_eq_true r.1;have e2:=Nat.eq_of_beq_eq_true r.2;subst e1;obtain⟨ah,ax,ae,aj,J⟩:=ah8 hr U aq hp;have aa: ∀x∈g,x.length=z1:=by
   obtain⟨_,_,a0|⟨b',_,f2,_⟩⟩:=hr.places p _ hp
   ·grind
   grind[RDs.len]
  by_cases ad:n=0
  ·subst ad;have ab:zP g off (List.replicate 0 z)=g:=by simp[zP]
   rw[ab]at h;have hrel:Rel F N ι (s.withPl (yZ p (.arr z1 g false) s.pl)) a w:=by
    refine hr.sub _ (λk v h=>h) (λq y hq=>?_);have an:aget (yZ p (.arr z1 g false) s.pl) q=some y:=hq;rw[yJ]at an;by_cases a1:p=q<;>simp_all
   refine qk.of_value (v:=.tuple #[]) (w':=w) ?_ (j hrel) h;cases ah<;>simp[execOp,ho,resolve,invoke,builtin,Builtin.clear_,ha,R,ae,run_underlying hu]
  ·rcases J with J|⟨b,hb,rfl⟩
   ·grind
   rw[if_neg ad]at aj;have ac: ∀x∈List.replicate n z,x.length=z1:=λx U=>by grind
   have I:off+(List.replicate n z).length<=g.length:=by grind
   have al:=gc g off (List.replicate n z) aa ac I;have ak:=XN af n;obtain⟨w',ar,hrel⟩:=hr.storeEls (P:=P) hp hb (abQ g off (List.replicate n z) I) (λx U=>by
    grind[zP]) al ak (by
     rw[uI (List.replicate n z) ac,<- Nat.add_mul];simp_all[Nat.mul_le_mul_right])
   refine qk.of_value (v:=.tuple #[]) (w':=w') ?_ (j hrel) h;have au:(Builtin.zeroCells l.cells n).toList=(List.replicate n l.cells.toList).flatten:=by
    have ay:(List.replicate n l.cells.toList).flatten.length=n*l.cells.size:=by
     simp_all
    have hA:(Builtin.zeroCells l.cells n).toList=(List.range (n*l.cells.size)).map (λi=>l.cells[i%l.cells.size]!):=by simp[Builtin.zeroCells]
    rw[hA];apply List.ext_getElem?
    grind[ub,Array.length_toList]
   obtain⟨m,rfl⟩: ∃m,n=m+1:=⟨n - 1,by omega⟩;simp[execOp,ho,resolve,invoke,builtin,Builtin.clear_,ha,R,ae,run_underlying hu,T,au,ar]
theorem av8 (hr:Rel F N ι s a w)(T: ∀k,o.dst=some k ->k<N){t e:TypeId}{x:Operand}{lo hi:Option Operand}(U:o.op= .slice t x lo hi none)(hu:P.underlying t=some (.slice e)){i:TypeInfo}(j:P.info? e=some i)
 (h:z8 P o.dst (.slw (z0 P e) (cO x) (lo.map cO) (hi.map cO)) s K):zH P F N o a w (λ_=>True) K:=by
 simp only[z8]at h;split at h
 case h_2=>grind
 rename_i lq hb r l;have r:=WF hr r;have l:=WF hr l;have J:=qJ hr x;generalize s.oc (cO x)=cx at*;unfold awz at h;split at h
 ·rename_i p z n;cases hz:Nat.beq z (z0 P e)with
  |false=>grind
  |true=>
   rw[hz]at h;have hz:=Nat.eq_of_beq_eq_true hz;simp only[cond_true]at h;obtain⟨I,g1,g2,h⟩:=h;have g3:yr lq 0<=(n:Int):=by omega
   rcases J with⟨f1,f2,R⟩|⟨b,cap,ty,f1,f2,R,f4,f5,f6⟩
   ·subst f2;have g:=λ(w':World) (_:True)=>Z9 (o:=o) (w:=w') hu j U R r l I (by grind) (by omega)
    refine zH.put hr T g ?_ h;refine⟨_,_,rfl,by omega,by grind,.inl (by omega)⟩
   ·have g:=λ(w':World) (_:True)=>Z9 (o:=o) (w:=w') hu j U R r l I g1 (by omega)
    refine zH.put hr T g ?_ h;refine⟨_,_,rfl,by omega,by omega,?_⟩;by_cases hn:(yr hb n).toNat -(yr lq 0).toNat=0
    ·grind
    ·refine .inr ⟨b,f1,?_,by omega⟩;refine Eq.trans (if_neg (by omega)) ?_
     grind[wJ]
 ·have J:a.eval x= .slice none 0 0:=J;obtain⟨I,g1,g2,h⟩:=h;have g:=λ(w':World) (_:True)=>Z9 (o:=o) (w:=w') hu j U J r l I (by grind) (by grind)
  have e1:(yr lq 0).toNat=0:=by omega
  have e2:(yr hb ((0:Nat):Int)).toNat=0:=by grind
  rw[e1,e2]at g;exact zH.put hr T g (show VR ι w _ (cV .nil) _ from by grind[cV,VR,WR]) h
 grind
theorem acX {α:Type}{c:Bool}{x y:α}(h:VJ c x=some y):c=true /\x=y:=by
 cases c
 ·cases h
 ·cases h;grind
theorem av3 (hr:Rel F N ι s a w)(r: ∀k,o.dst=some k ->k<N){b:Builtin}{args:Array Operand}{J:Array TypeId}(I:o.op= .call {callee:=.builtin b,args:=args,argTypes:=J}){z:AOp}(g:UJ P b args.toList J.toList=some z)
 (h:z8 P o.dst z s K):qk P F N o a w K:=by
 unfold UJ at g;split at g
 ·split at g
  ·rename_i x t i j;split at g
   ·rename_i e p;cases g;exact(av4 hr r I i j p h).fine trivial
   ·cases g
  ·cases g
 ·split at g
  ·rename_i x y t u i j;split at g
   ·rename_i e e' p U;obtain⟨l,rfl⟩:=acX g;rw[Bool.and_eq_true]at l;exact av7 (e':=e') hr r I i j p l.1 h
   ·cases g
  ·cases g
 ·split at g
  ·rename_i x t i j;split at g
   ·rename_i e p;split at g
    ·rename_i zz T R;obtain⟨l,rfl⟩:=acX g;simp only[Bool.and_eq_true]at l
     grind[av6]
    ·cases g
   ·cases g
  ·cases g
 ·cases g
theorem afy {b:Builtin}{l:List Operand}{i:List TypeId}{z:AOp}(g:UJ P b l i=some z):z.quiet=false /\YA z=false /\ ∀cs,z≠ .alloc cs:=by
 unfold UJ at g;repeat' split at g
 all_goals first
  |(cases g;done)
  |(obtain⟨_,rfl⟩:=acX g;exact⟨rfl,rfl,λ_ h=>by cases h⟩)
  |(cases g;exact⟨rfl,rfl,λ_ h=>by cases h⟩)
end
section
variable {P:Program}{F:Fr}{N:Nat}{ι:Nat ->Gh}{s:S}{a:Act}{w:World}{o:Oper}{K:S ->Prop}
theorem Rel.noRow (hr:Rel F N ι s a w){d sz:Nat}(g:List Nat)(hk:isin d g=true)(i:0<sz)(l:F.h d=none):Rel F N (u4 ι d ⟨none,0⟩) (s.redo g [(d,.arr sz [] false)]) a w:=by
 refine hr.redo g [(d,.arr sz [] false)] _ w (λp j=>jM ι _ (λe=>by grind)) (λ_ _ _=>rfl) (yp.refl w) rfl rfl (Out.refl w) (Nat.le_refl _) ?_ ?_ ?_ (λp x j=>by grind[xG])
 ·intro p q j;obtain⟨rfl,rfl⟩:=xG j;exact⟨i,by grind[ya],.inl ⟨by rw[ya],rfl⟩⟩
 ·grind[xG,ya]
 grind[xG]
def S.ownNil (s:S)(d p sz:Nat):S:=(s.redo [p] [(p,.arr sz [] false)]).put (some d) (cV (.own p sz 0))
theorem zu {s:S}(d p sz:Nat)(l:0<sz)(I:p<100000)(h:aget s.sl d=some (cV .nil)):WE s (s.ownNil d p sz):=by
 intro F N ι a w hr;have r:F.h p=none:=by
  cases e:F.h p with
  |none=>rfl
  |some g=>have:=hr.hdom p g e;omega
 have hrel:=hr.noRow (d:=p) [p] (by simp[isin]) l r;obtain⟨x,o,j⟩:=hr.slots d _ h;have j:x= .slice none 0 0:=j;refine⟨_,{hrel with slots:=λk v i=>?_}⟩;have i:aget (yZ d (cV (.own p sz 0)) (s.redo [p] [(p,.arr sz [] false)]).sl) k=some v:=i;rw[yJ]at i;by_cases e:d=k
 ·rw[if_pos e]at i;cases i;subst e;exact⟨x,o,.inl ⟨by rw[ya],rfl,j⟩⟩
 ·rw[if_neg e]at i;exact hrel.slots k v i
theorem ao4 {t u ty e:TypeId}{k:IntKind}{i:TypeInfo}{z:Value}(ht:P.underlying t=some (.slice e))(hu:P.underlying u=some (.int k))(U:P.info? e=some i)(hz:i.zero=some z){k':IntKind}{n:Nat}(r:0<n)(J:0<i.size)
 (T:((n:Nat):Int)<=9223372036854775807) (g:n*i.bytes<=140737488355328):
 (Builtin.append_ #[t,u] ty #[.slice none 0 0,.int k' n]).run P w=
  .ok (.slice (some ⟨w.heap.size,0,none⟩) n (grownCap w n 0 e))
   (w.drew.alloc (.cells ((Builtin.zeroCells z.cells n).toList++(Builtin.zeroCells z.cells (grownCap w n 0 e - n)).toList).toArray e)):=by
 have hn: ¬(n<=0):=by omega
 have hw:IntKind.i64.wrap (n:Int)=n:=by grind[IntKind.wrap_i64]
 have l: ¬(9223372036854775807<(n:Int)):=by omega
 have R:=growslice_fits (old:=0) (need:=n) (bytes:=i.bytes) (by omega) g;have o: ¬(281474976710656<(n:Int)*(i.bytes:Int)):=by
  grind
 have j: ¬(281474976710656<Builtin.nextslicecap n 0*i.bytes):=by omega
 have I: ¬(n*i.size=0):=by
  have:0<n*i.size:=Nat.mul_pos r J;omega
 have p: ¬((n:Int)<0):=by omega
 simp[Builtin.append_,run_underlying ht,run_underlying hu,sizeOf,typeInfo,zeroValue,U,hz,hw,l,o,j,I,p,Question.forced,newRow,asInt,asIntOf,Builtin.firstCells];rw[if_neg (by omega)];have fin:(Builtin.zeroCells z.cells n++Builtin.zeroCells z.cells (grownCap w n 0 e - n))=((Builtin.zeroCells z.cells n).toList++(Builtin.zeroCells z.cells (grownCap w n 0 e - n)).toList).toArray:=by
  grind
 rw[<- fin];rfl
theorem amp {t u ty e:TypeId}{k:IntKind}{i:TypeInfo}(j:P.underlying t=some (.slice e))(l:P.underlying u=some (.int k))(g:P.info? e=some i){k':IntKind}:
 (Builtin.append_ #[t,u] ty #[.slice none 0 0,.int k' 0]).run P w= .ok (.slice none 0 0) w:=by
 have o:IntKind.i64.wrap 0=0:=by grind[IntKind.wrap_i64]
 simp[Builtin.append_,run_underlying j,run_underlying l,sizeOf,typeInfo,g,o,asInt,asIntOf,Builtin.firstCells]
theorem akg (cs:Array Value)(n:Nat):(Builtin.zeroCells cs n).toList=(List.replicate n cs.toList).flatten:=by
 have g:(List.replicate n cs.toList).flatten.length=n*cs.size:=by
  simp_all
 have hA:(Builtin.zeroCells cs n).toList=(List.range (n*cs.size)).map (λi=>cs[i%cs.size]!):=by simp[Builtin.zeroCells]
 rw[hA];apply List.ext_getElem?
 grind[ub,Array.length_toList]
theorem atF (hr:Rel F N ι s a w)(hd: ∀k,o.dst=some k ->k<N){args:Array Operand}{ts:Array TypeId}{x y:Operand}{t u e:TypeId}{k:IntKind}(ho:o.op= .call {callee:=.builtin .append,args:=args,argTypes:=ts})
 (ac:args.toList=[x,y]) (au:ts.toList=[t,u]) (ht:uk P t=some e) (hu:P.underlying u=some (.int k)) (ar:Nat.blt 0 (z0 P e)=true) {z:List D}{aq:List (Nat×Pl)}(hz:jj [] (vP P e).cells=some (z,aq)) (aa:Nat.beq z.length (z0 P e)=true) (an:u6 P e=true)
 (h:z8 P o.dst (.appz (z0 P e) (uZ P e) z (cO x) (cO y)) s K):qk P F N o a w K:=by
 simp only[z8]at h;split at h
 case h_2=>grind
 rename_i d m g hx hm;obtain⟨g0,g1,g2,h⟩:=h;have T:=vO ht;obtain⟨i,zv,hi,ab,ao⟩:=XY an;have aj:i.size=z0 P e:=by grind[z0]
 have ad:i.bytes=uZ P e:=by grind[uZ]
 have aa:=Nat.eq_of_beq_eq_true aa;have ai:0<i.size:=by simp_all
 have ha:args= #[x,y]:=Array.toList_inj.1 (by grind);have ak:ts= #[t,u]:=Array.toList_inj.1 (by grind);have r:=qJ hr x;rw[hx]at r;have r:a.eval x= .slice none 0 0:=r;obtain⟨k',al,_⟩:=Z8 hm (jg hr y);obtain⟨n,rfl⟩: ∃n:Nat,m=n:=⟨m.toNat,by omega⟩;simp only[Int.toNat_natCast]at h g1;have I: ∀v w',(Builtin.append_ #[t,u] o.type #[.slice none 0 0,.int k' n]).run P w= .ok v w' ->(execOp a.eval o).run P w= .ok (.value v) w':=by
  intro v w' hv;simp[execOp,ho,resolve,invoke,builtin,ha,ak,r,al,hv]
 by_cases hn:n=0
 ·subst hn;have hrel:=hr.noRow (d:=d) (sz:=z0 P e) [d] (by simp[isin]) (by omega) (hr.h_slot (hd _ g));refine qk.of_value (ι':=u4 ι d ⟨none,0⟩) (I _ _ (by simpa using amp (ty:=o.type) T hu hi)) ?_ h;rw[g];exact hrel.put (some d) (λk hk=>by grind) _ _ (.inl ⟨by rw[ya],rfl,rfl⟩)
 ·have R:=ao4 (w:=w) (ty:=o.type) (k':=k') T hu hi ab (n:=n) (by omega) ai g2 (by rw[ad];exact g1);obtain⟨l,p⟩: ∃l:Array Value,l=((Builtin.zeroCells zv.cells n).toList++(Builtin.zeroCells zv.cells (grownCap w n 0 e - n)).toList).toArray:=⟨_,rfl⟩;rw[<- p]at R;have J:=NewRow.draw w l e (0,0);have af:=grownCap_ge w n 0 e;have ag:=grownCap_le_maxLen w n 0 e (by grind[maxLen]);have ae:l.size=grownCap w n 0 e*i.size:=by
   rw[p];simp only[List.size_toArray,List.length_append,aly ab,ao,<- Nat.add_mul];congr 1;omega
  have U:CRs ι w (F.ok ι s.pl w) (z.map .d) zv.cells.toList:=by
   grind[Vn,vP,X0,UE,Z2]
  have ah:=XN U n;have hrel:=hr.newRow J d (.arr (z0 P e) (List.replicate n z) false) [d] (by simp[isin]) n (hr.h_slot (hd _ g)) ⟨by omega,by grind[ya],.inr ⟨w.heap.size,by rw[ya],by
   refine QM (ι:=ι) (vs:=(List.replicate n zv.cells.toList).flatten) (λq hq=>?_) ?_ ?_
   ·grind
   ·exact CRs.keep (YL hr J d _ [d] (by simp[isin]) _) J.shapes _ _ ah
   ·intro j v hv;rw[Nat.zero_add,J.cell,p]
    grind[akg],(λhf=>by cases hf),(λ_=>⟨l,⟨e,J.new⟩,by
    simp_all[Nat.mul_le_mul_right]⟩)⟩⟩
  refine qk.of_value (ι':=u4 ι d ⟨some w.heap.size,n⟩) (I _ _ R) ?_ h;rw[g];refine hrel.put (some d) (λk hk=>by grind) _ _ ?_;exact .inr ⟨w.heap.size,_,e,by rw[ya],by simp_all[ya],rfl,af,ag,by rw[J.shape,ae,aj]⟩
end
theorem vQ: ∀(n i q:Nat),(yg i n)[q]? =if q<n then some (i+q)else none
 |0,i,q=>by simp[yg]
 |n+1,i,0=>by simp[yg]
 |n+1,i,q+1=>by
  simp only[yg,List.getElem?_cons_succ,vQ n (i+1) q];by_cases h:q<n
  ·rw[if_pos h,if_pos (by omega)];congr 1;omega
  simp_all[if_neg]
theorem aiJ: ∀(n i:Nat),(yg i n).length=n
 |0,_=>rfl
 |n+1,i=>by simp[yg,aiJ n]
def Pl.isGone:Pl ->Bool| .gone=>true|_=>false
theorem ae7 (n:Nat)(g:List Nat)(x:Pl)(xs:List Pl):YI (n::g) (x::xs)=(if x.isGone=true then none else some n)::YI g xs:=by
 grind[YI,Pl.isGone]
theorem jO (n:Nat)(g:List Nat)(x:Pl)(xs:List Pl):xy (n::g) (x::xs)=if x.isGone=true then xy g xs else(n,x)::xy g xs:=by
 grind[xy,Pl.isGone]
theorem avc (m n:Nat)(g:List Nat)(x:Pl)(xs:List Pl):W7 (m+1) (n::g) (x::xs)=if x.isGone=true then n::W7 m g xs else W7 m g xs:=by
 grind[W7,Pl.isGone]
theorem ahD (x:Pl)(l:List (Option Nat)):(x.ren l).isGone=x.isGone:=by cases x<;>rfl
theorem ax2 (x:Pl)(l:List (Option Nat)):(x.ren l).live=x.live:=by cases x<;>rfl
theorem XJ: ∀(L:List Nat) (g:List Pl) (q p:Nat),vZ (YI L g) q=some p↔ ∃x,L[q]? =some p /\g[q]? =some x /\x.isGone=false
 | [],g,q,p=>by grind[YI,vZ]
 |n::i,[],q,p=>by grind[YI,vZ]
 |n::i,x::xs,0,p=>by
  grind[ae7,vZ]
 |n::i,x::xs,q+1,p=>by
  rw[ae7];simp only[vZ,XJ i xs q p,List.getElem?_cons_succ]
theorem QD: ∀(L:List Nat) (g:List Pl) (p:Nat) (y:Pl),aget (xy L g) p=some y -> ∃q:Nat,L[q]? =some p /\g[q]? =some y /\y.isGone=false
 | [],g,p,y,h=>by grind[xy,aget]
 |n::r,[],p,y,h=>by grind[xy,aget]
 |n::r,x::xs,p,y,h=>by
  rw[jO]at h;cases o:x.isGone
  ·simp only[o,Bool.false_eq_true,if_false,yR]at h;split at h
   ·rename_i e;subst e;cases h;exact⟨0,rfl,rfl,o⟩
   ·obtain⟨q,i,j,l⟩:=QD r xs p y h;exact⟨q+1,by simpa using i,by simpa using j,l⟩
  ·simp only[o,if_true]at h;obtain⟨q,i,j,l⟩:=QD r xs p y h;exact⟨q+1,by simpa using i,by simpa using j,l⟩
theorem akh: ∀(L:List Nat) (g:List Pl) (q p:Nat) (y:Pl),L[q]? =some p ->g[q]? =some y ->y.isGone=false ->isin p (Ze (xy L g))=true
 | [],_,q,p,y,h,_,_=>by simp at h
 |_::_,[],q,p,y,_,h,_=>by simp at h
 |n::r,x::xs,0,p,y,j,l,o=>by
  simp_all[jO,Ze,isin]
 |n::r,x::xs,q+1,p,y,j,l,o=>by
  have i:=akh r xs q p y (by simpa using j) (by simpa using l) o;rw[jO];cases I:x.isGone
  ·rw[yk]at i⊢;simp[Ze,i]
  ·simpa using i
theorem apW: ∀(L:List Nat) (j:List Pl),uS (Ze (xy L j))=true -> ∀(q g p:Nat) (y o:Pl),L[q]? =some p ->j[q]? =some y ->y.isGone=false ->L[g]? =some p ->j[g]? =some o ->o.isGone=false ->q=g
 | [],_,_,q,_,_,_,_,h,_,_,_,_,_=>by simp at h
 |_::_,[],_,q,_,_,_,_,_,h,_,_,_,_=>by simp at h
 |n::l,x::xs,hd,q,g,p,y,o,r,I,R,J,P,T=>by
  have U:uS (Ze (xy l xs))=true:=by
   rw[jO]at hd;cases hg:x.isGone<;>simp_all[Ze,uS]
  have i:x.isGone=false ->isin n (Ze (xy l xs))=false:=λhg=>by
   simp_all[jO,Ze,uS]
  cases q with
  |zero=>cases g with
   |zero=>rfl
   |succ g=>
    simp at r I;subst r;subst I;have:=akh l xs g _ o (by simpa using J) (by simpa using P) T;rw[i R]at this;cases this
  |succ q=>cases g with
   |zero=>
    simp at J P;subst J;subst P;have:=akh l xs q _ y (by simpa using r) (by simpa using I) R;rw[i T]at this;cases this
   |succ g=>rw[apW l xs U q g p y o (by simpa using r) (by simpa using I) R (by simpa using J) (by simpa using P) T]
theorem K8: ∀(L:List Nat) (g:List Pl) (q p:Nat) (y:Pl),L[q]? =some p ->g[q]? =some y ->y.isGone=false ->aget (xy L g) p≠none
 | [],_,q,p,y,h,_,_=>by simp at h
 |_::_,[],q,p,y,_,h,_=>by simp at h
 |n::j,x::xs,0,p,y,l,o,i=>by
  grind[jO,yR]
 |n::j,x::xs,q+1,p,y,l,o,i=>by
  have I:=K8 j xs q p y (by grind) (by grind) i;rw[jO];cases r:x.isGone
  ·simp only[Bool.false_eq_true,if_false,yR]
   grind
  grind
theorem ad2: ∀(L:List Nat) (g:List Pl) (m p:Nat),isin p (W7 m L g)=true↔ ∃q x,L[q]? =some p /\g[q]? =some x /\(q<m ->x.isGone=true)
 | [],g,m,p=>by grind[W7,isin]
 |n::l,[],m,p=>by grind[W7,isin]
 |n::l,x::xs,0,p=>by
  simp only[W7,yk,List.mem_cons];rw[<- yk,ad2 l xs 0 p];constructor
  ·rintro(h|⟨q,y,i,j,o⟩)
   ·exact⟨0,x,by simp[h],rfl,λh=>by omega⟩
   ·exact⟨q+1,y,by simpa using i,by simpa using j,λh=>by omega⟩
  ·rintro⟨q,y,i,j,o⟩;cases q with
   |zero=>simp at i;exact .inl i.symm
   |succ q=>exact .inr ⟨q,y,by simpa using i,by simpa using j,λh=>by omega⟩
 |n::l,x::xs,m+1,p=>by
  rw[avc];have r:=ad2 l xs m p;cases I:x.isGone
  ·simp only[Bool.false_eq_true,if_false,r]
   grind
  ·simp only[if_true,yk,List.mem_cons];rw[<- yk,r];constructor
   ·rintro(h|⟨q,y,i,j,o⟩)
    ·exact⟨0,x,by simp[h],rfl,λ_=>I⟩
    grind
   grind
theorem aeX: ∀(n i:Nat) (g:List Pl),(∀p,isin p (Ze (xy (yg i n) g))=true ->i<=p)/\uS (Ze (xy (yg i n) g))=true
 |0,i,g=>by grind[yg,xy,Ze,isin,uS]
 |n+1,i,[]=>by grind[xy,Ze,isin,uS]
 |n+1,i,x::xs=>by
  obtain⟨l,o⟩:=aeX n (i+1) xs;simp only[yg,jO];cases x.isGone
  ·simp only[Bool.false_eq_true,if_false,Ze,uS,o,Bool.and_true,Bool.not_eq_true'];refine⟨λp j=>?_,?_⟩
   ·rw[yk,List.mem_cons]at j;rcases j with rfl|j
    ·simp_all
    ·have:=l p ((yk _ _).2 j);omega
   grind
  ·simp only[if_true]
   grind
theorem alC (l:List Pl): ∀(n p:Nat),aget (ZK n l) p=if n<=p then l[p - n]? else none:=by
 induction l with
 |nil=>grind[ZK,aget]
 |cons x r i=>
  intro n p;simp only[ZK,yR,i];by_cases h:n=p
  ·grind
  ·by_cases g:n<=p
   ·rw[if_neg h,if_pos (by omega),if_pos g,show p - n=(p -(n+1))+1 by omega];simp
   ·rw[if_neg h,if_neg (by omega),if_neg g]
section
variable {P:Program}{F:Fr}{N:Nat}{ι:Nat ->Gh}{s:S}{a:Act}{w:World}{o:Oper}{K:S ->Prop}
theorem Wi {f:FuncId}(h:qQ P f=true)(args:Array Value)(w:World):(callFunc f args).run P w= .ok (.enter f args) w:=by
 unfold qQ at h;cases g:P.funcs[f]? with
 |none=>grind
 |some fn=>
  simp only[g,Bool.and_eq_true,Bool.not_eq_true']at h;obtain⟨i,j⟩:=h;have l: ¬fn.body=none:=by grind
  simp_all[callFunc]
theorem yp.of_grows {w w':World}(h:Grows (λ_=>False) w w'):yp w w':=by
 intro b t m i;have j:b<w.heap.size:=by
  rcases Nat.lt_or_ge b w.heap.size with g|g
  ·exact g
  ·simp[World.shape?,Array.getElem?_eq_none g]at i
 simp only[World.shape?,h.block b j (λh=>h)]at i⊢;exact i
theorem Rel.grown (hr:Rel F N ι s a w){w':World}(i:Grows (λ_=>False) w w'):Rel F N ι s a w':=by
 have g:zR w w' (F.ok ι s.pl w) (F.ok ι s.pl w'):=λb l=>⟨⟨l.1,Nat.lt_of_lt_of_le l.2.1 i.size,l.2.2⟩,i.block b l.2.1 (λh=>h)⟩
 have aa:=yp.of_grows i;refine⟨hr.room,λk v hv=>?_,λp x hx=>?_,hr.inj,λb l=>⟨(hr.mine b l).1,Nat.lt_of_lt_of_le (hr.mine b l).2 i.size⟩,hr.defers,?_,hr.foreign,hr.handed,hr.few,hr.hdom,hr.hkeep⟩
 ·obtain⟨x,I,r⟩:=hr.slots k v hv<;>grind[VR.keep]
 ·have h:=hr.places p x hx;cases x with
  |fbox ds=>obtain⟨b,I,r,J⟩:=h;exact⟨b,I,(g b r).1,RDc.keep g b r _ _ J⟩
  |gone=>exact h.elim
  |box cs=>obtain⟨b,o,I,⟨t,r⟩,J⟩:=h;exact⟨b,o,I,⟨t,by rw[i.block b (RowAt.lt ⟨t,r⟩) (λh=>h)];exact r⟩,CRs.keep g aa _ _ J⟩
  |arr sz T fz=>
   obtain⟨h0,hn,h|⟨b,I,r,J,e4⟩⟩:=h
   ·exact⟨h0,hn,.inl h⟩
   ·have P:b<w.heap.size:=by
     cases fz
     ·obtain⟨o,R,_⟩:=e4 rfl;exact R.lt
     ·exact(J rfl).2.1
    refine⟨h0,hn,.inr ⟨b,I,RDs.keep' g b sz T 0 (λj _ _=>qv (i.block b P (λh=>h)) j) r,λU=>(g b (J U)).1,λU=>?_⟩⟩;obtain⟨o,⟨t,R⟩,e6⟩:=e4 U;exact⟨o,⟨t,by rw[i.block b P (λh=>h)];exact R⟩,e6⟩
 ·refine⟨i.os.trans hr.grows.os,i.tape.trans hr.grows.tape,i.output.trans hr.grows.output,Nat.le_trans hr.grows.size i.size,λb l hm=>?_,λb t m h=>i.shapes b t m (hr.grows.shapes b t m h)⟩;rw[i.block b (Nat.lt_of_lt_of_le l hr.grows.size) (λh=>h)];exact hr.grows.block b l hm
theorem akj {ι ι':Nat ->Gh}{w w':World}{ok ok':Nat ->Prop}{c:C}{v:Value}(hs:c.scalar=true)(h:CR ι w ok c v):CR ι' w' ok' c v:=by
 cases c with
 |d x=>cases x with
  |lit u=>grind[CR,RD]
  |sl l=>cases hs
  |fn f l=>cases hs
 |_=>cases hs
theorem akl {ι ι':Nat ->Gh}{w w':World}{ok ok':Nat ->Prop}{x:W}{v:Value}(hs:x.scalar=true)(h:WR ι w ok x v):WR ι' w' ok' x v:=by
 cases x with
 |c c=>exact akj hs h
 |agg cs=>
  obtain⟨vs,i,g⟩:=h;refine⟨vs,i,?_⟩;clear i;simp only[W.scalar]at hs;induction cs generalizing vs with
  |nil=>cases vs with|nil=>trivial|cons _ _=>exact g.elim
  |cons c cs j=>cases vs with
   |nil=>exact g.elim
   |cons v vs=>
    simp only[List.all_cons,Bool.and_eq_true]at hs;exact⟨akj hs.1 g.1,j hs.2 vs g.2⟩
theorem aub {ι ι':Nat ->Gh}{w w':World}{ok ok':Nat ->Prop}{x:V}{v:Value}(hs:x.scalar=true)(h:VR ι w ok x v):VR ι' w' ok' x v:=by
 cases x with
 |w x=>exact akl hs h
 |tup cs=>
  obtain⟨vs,i,g⟩:=h;refine⟨vs,i,?_⟩;clear i;simp only[V.scalar]at hs;induction cs generalizing vs with
  |nil=>cases vs with|nil=>trivial|cons _ _=>exact g.elim
  |cons c cs j=>cases vs with
   |nil=>exact g.elim
   |cons v vs=>
    simp only[List.all_cons,Bool.and_eq_true]at hs;exact⟨akl hs.1 g.1,j hs.2 vs g.2⟩
section ren
variable {ι ι':Nat ->Gh}{w w':World}{ok ok':Nat ->Prop}{l:List (Option Nat)}
theorem at6 (hk:zR w w ok ok')(j: ∀q p,vZ l q=some p ->ι' p=ι q){c:C}{v:Value}(h:CR ι w ok c v):CR ι' w ok' (c.ren l) v:=by
 cases c with
 |d x=>exact RD.keep hk _ _ h
 |nil=>exact h
 |own q sz k=>
  grind[C.ren,CR]
 |ptr q o=>
  grind[C.ren,CR]
 |eptr q z i k=>
  grind[C.ren,CR]
 |fp l=>exact CR.keep hk (yp.refl w) (.fp l) v h
 |clo f g=>cases g with
  |nil=>exact h
  |cons _ _=>trivial
 |dead=>trivial
 |sub _ _ _ _=>trivial
theorem aiN (hk:zR w w ok ok')(g: ∀q p,vZ l q=some p ->ι' p=ι q): ∀{cs:List C}{vs:List Value},CRs ι w ok cs vs ->CRs ι' w ok' (cs.map (C.ren l)) vs
 | [],[],_=>trivial
 | [],_::_,h=>h.elim
 |_::_,[],h=>h.elim
 |_::_,_::_,h=>⟨at6 hk g h.1,aiN hk g h.2⟩
theorem aud (hk:zR w w ok ok')(g: ∀q p,vZ l q=some p ->ι' p=ι q){x:W}{v:Value}(h:WR ι w ok x v):WR ι' w ok' (x.ren l) v:=by
 cases x with
 |c x=>exact at6 hk g h
 |agg cs=>obtain⟨vs,i,j⟩:=h;exact⟨vs,i,aiN hk g j⟩
theorem aiR (hk:zR w w ok ok')(g: ∀q p,vZ l q=some p ->ι' p=ι q): ∀{cs:List W}{vs:List Value},qK ι w ok cs vs ->qK ι' w ok' (cs.map (W.ren l)) vs
 | [],[],_=>trivial
 | [],_::_,h=>h.elim
 |_::_,[],h=>h.elim
 |_::_,_::_,h=>⟨aud hk g h.1,aiR hk g h.2⟩
theorem aBj (hk:zR w w ok ok')(g: ∀q p,vZ l q=some p ->ι' p=ι q){x:V}{v:Value}(h:VR ι w ok x v):VR ι' w ok' (x.ren l) v:=by
 cases x with
 |w x=>exact aud hk g h
 |tup cs=>obtain⟨vs,i,j⟩:=h;exact⟨vs,i,aiR hk g j⟩
theorem at7 (hk:zR w w ok ok')(P: ∀q p,vZ l q=some p ->ι' p=ι q){q p:Nat}(hp:ι' p=ι q){x:Pl}(h:PR ι w ok q x):PR ι' w ok' p (x.ren l):=by
 cases x with
 |box cs=>obtain⟨b,j,r,g,i⟩:=h;exact⟨b,j,by grind,g,aiN hk P i⟩
 |arr sz o T=>
  obtain⟨h0,U,h|⟨b,r,g,i,I⟩⟩:=h
  ·exact⟨h0,by grind,.inl (by grind)⟩
  ·exact⟨h0,by grind,.inr ⟨b,by grind,RDs.keep' hk b sz o 0 (λ_ _ _=>rfl) g,λJ=>(hk b (i J)).1,I⟩⟩
 |fbox R=>obtain⟨b,r,g,i⟩:=h;exact⟨b,by grind,(hk b g).1,RDc.keep hk b g _ _ i⟩
 |gone=>exact h.elim
end ren
theorem PR.lt {ι:Nat ->Gh}{w:World}{ok:Nat ->Prop}{p:Nat}{x:Pl}(h:PR ι w ok p x)(j:x.live=true){b:Nat}(o:(ι p).b=some b):b<w.heap.size:=by
 cases x with
 |box cs=>obtain⟨r,i,g,l,I⟩:=h;rw[o]at g;cases g;exact l.lt
 |arr sz R T=>
  cases T with
  |true=>cases j
  |false=>
   obtain⟨h0,hn,h|⟨r,g,l,I,J⟩⟩:=h
   ·grind
   ·rw[o]at g;cases g;obtain⟨i,P,_⟩:=J rfl;exact P.lt
 |fbox U=>cases j
 |gone=>cases j
theorem afb (hr:Rel F N ι s a w){dst:Option Tmp}(hd: ∀k,dst=some k ->k<N){U:List Nat}(hU: ∀p∈U,∃x,aget s.pl p=some x /\x.live=true){nb:Nat}(ao: ∀i,F.h (nb+i)=none){M:Nat ->Prop}(hM: ∀b,M b↔ ∃p∈U,(ι p).b=some b)
 {h0:Nat ->Option Gh}{w':World}{v:Value}{r:Res}(ak:amZ ⟨w,F.ok ι s.pl w,M,h0⟩ (λi=>ι (U.getD i 0)) U.length w' r v) (hg:Grows M w w') (aq:U8 U nb r=true):
 ∃ι',Rel F N ι' (aec s U nb dst r) (a.put dst v) w':=by
 obtain⟨hm,ιr,h1,h2,h3,h4,h5,h6⟩:=ak
 let L:List Nat:=U++yg nb (r.pl.length - U.length)
 let ls:=YI L r.pl
 let NP:=xy L (r.pl.map (Pl.ren ls))
 let KL:=W7 U.length L r.pl
 have av:uS (Ze (xy L r.pl))=true:=aq;have ag: ∀q,q<U.length ->L[q]? =U[q]? :=λq hq=>List.getElem?_append_left hq
 have af: ∀q p,U.length<=q ->L[q]? =some p ->p=nb+(q - U.length):=λq p hq hp=>by
  grind[vQ]
 have T: ∀q x,aget (xy (yg 0 r.pl.length) r.pl) q=some x↔r.pl[q]? =some x /\x.isGone=false:=λq x=>by
  constructor
  ·intro h;obtain⟨q',g1,g2,g3⟩:=QD _ _ _ _ h;rw[vQ]at g1;split at g1
   ·cases g1;rw[Nat.zero_add];grind
   ·cases g1
  ·rintro⟨g1,g2⟩;have ai:q<r.pl.length:=(List.getElem?_eq_some_iff.1 g1).1;have au:(yg 0 r.pl.length)[q]? =some q:=by rw[vQ,if_pos ai,Nat.zero_add]
   have:=K8 _ _ q q x au g1 g2;cases hz:aget (xy (yg 0 r.pl.length) r.pl) q with
   |none=>grind
   |some y=>
    obtain⟨q',g3,g4,g5⟩:=QD _ _ _ _ hz;rw[vQ]at g3;split at g3
    ·cases g3;rw[Nat.zero_add]at g1;grind
    ·cases g3
 let ι':Nat ->Gh:=λp=>open Classical in if h:isin p KL=true /\ ∃q,vZ ls q=some p then ιr h.2.choose else ι p
 have ar: ∀q q' p,vZ ls q=some p ->vZ ls q'=some p ->q=q':=λq q' p g1 g2=>by
  obtain⟨x,j,o,P⟩:=(XJ L r.pl q p).1 g1;obtain⟨y,e4,e5,e6⟩:=(XJ L r.pl q' p).1 g2
  grind[apW]
 have hι: ∀p,isin p KL=false ->ι' p=ι p:=λp hp=>by
  simp only[ι'];rw[dif_neg]
  grind
 have l: ∀q p,vZ ls q=some p ->ι' p=ιr q:=λq p hq=>by
  by_cases hk:isin p KL=true
  ·have an:isin p KL=true /\ ∃q,vZ ls q=some p:=⟨hk,q,hq⟩;simp only[ι'];rw[dif_pos an];congr 1
   grind
  grind[XJ,ad2]
 have R: ∀p y,aget NP p=some y -> ∃q x,vZ ls q=some p /\r.pl[q]? =some x /\x.isGone=false /\y=x.ren ls /\L[q]? =some p:=λp y hy=>by
  obtain⟨q,j,o,P⟩:=QD _ _ _ _ hy
  grind[ahD,XJ]
 have aw: ∀p,p∈U ->isin p KL=true\/aget NP p≠none:=λp hp=>by
  obtain⟨i,hi,az⟩:=List.getElem_of_mem hp;have ax:U[i]? =some p:=by grind
  have al:L[i]? =some p:=by grind
  have ai:i<r.pl.length:=by omega
  cases aa:(r.pl[i]).isGone
  ·right
   refine K8 L _ i p ((r.pl[i]).ren ls) al (by grind) (by grind[ahD])
  grind[ad2]
 have I: ∀b,M b -> ∃q y,(isin q KL=true\/aget NP q≠none)/\aget s.pl q=some y /\y.live=true /\(ι q).b=some b:=λb hb=>by
  grind
 have ad: ∀b,b<w.heap.size ->(∀q y,(isin q KL=true\/aget NP q≠none) ->aget s.pl q=some y ->y.live=true ->(ι q).b≠some b) ->w'.heap[b]? =w.heap[b]? :=λb hb h=>hg.block b hb λay=>by
  grind
 have ab:zR w' w' (Fr.ok ⟨w,F.ok ι s.pl w,M,h0⟩ ιr (xy (yg 0 r.pl.length) r.pl) w') (F.ok ι' (s.redo KL NP).pl w'):=by
  intro b hb;obtain⟨J,b2,b3⟩:=hb;refine⟨⟨?_,b2,?_⟩,rfl⟩
  ·rcases J with J|J|J
   ·exact J.1
   ·obtain⟨q,y,_,o,P,e4⟩:=I b J;rcases(hr.mine b ⟨q,y,o,P,e4⟩).1 with h|h
    ·grind
    grind
   ·exact .inr (.inr (Nat.le_trans hr.grows.size J))
  ·rintro⟨p,x,q1,q2,q3⟩;rw[S.redo_pl]at q1;cases hn:aget NP p with
   |some y=>
    simp only[hn]at q1;cases q1;obtain⟨q,z,j,o,P,rfl,_⟩:=R p _ hn;rw[l q p j]at q3;rw[ax2]at q2;exact b3 ⟨q,z,(T q z).2 ⟨o,P⟩,q2,q3⟩
   |none=>
    simp only[hn]at q1;split at q1
    ·rename_i hk;cases hp:aget s.pl p with
     |none=>rw[hp]at q1;cases q1
     |some y=>
      rw[hp]at q1;simp at q1;subst q1;rw[hι p hk]at q3;rw[Pl.live_kill]at q2;have ho:Owns ι s.pl b:=⟨p,y,hp,q2,q3⟩;rcases J with J|J|J
      ·exact J.2.2 ho
      ·obtain⟨q,z,j,o,P,e4⟩:=I b J
       have ac:p≠q:=λe=>by subst e;rcases j with j|j; ·rw[hk]at j;cases j
                           ·exact j hn
       exact hr.inj p q y z b hp o ac q2 q3 e4
      ·have h7:=(hr.mine b ho).2;have h8:w.heap.size<=b:=J;omega
    ·cases q1
 have hrel:=hr.redoG KL NP ι' w' hι ad hg.shapes hg.os hg.tape hg.output hg.size (by
  intro p y hy;obtain⟨q,x,j,o,P,rfl,_⟩:=R p y hy;exact at7 ab l (l q p j) (h2 q x ((T q x).2 ⟨o,P⟩))) (by
  intro p y b hy hb;obtain⟨q,x,j,o,P,rfl,_⟩:=R p y hy;rw[l q p j]at hb;have ae:=(T q x).2 ⟨o,P⟩;refine⟨(h2 q x ae).lt (h5 q x ae) hb,?_⟩;rcases h4 q x b ae hb with h|h
  ·exact .inr (I b h)
  ·exact .inl h) (by
  intro p q x y b hx hy ac hb hq;obtain⟨p',x',j,o,P,rfl,_⟩:=R p x hx;obtain⟨q',y',e4,e5,e6,rfl,_⟩:=R q y hy;rw[l p' p j]at hb;rw[l q' q e4]at hq;refine h3 p' q' x' y' b ((T p' x').2 ⟨o,P⟩) ((T q' y').2 ⟨e5,e6⟩) (λe=>ac ?_) hb hq;subst e;rw[j]at e4;cases e4;rfl) (by
  intro p y g hy aa;obtain⟨q,x,j,o,P,rfl,e4⟩:=R p y hy;have aj:q<U.length:=by
   rcases Nat.lt_or_ge q U.length with h|h
   ·exact h
   ·have:=af q p h e4;rw[this,ao]at aa;cases aa
  rw[l q p j,h6 q x aj ((T q x).2 ⟨o,P⟩)];have ah:U[q]? =some p:=by rw[<- ag q aj];exact e4
  obtain⟨z,e5,_⟩:=hU p (List.mem_of_getElem? ah);have:=hr.hkeep p z g e5 aa;simp only[List.getD,ah,Option.getD_some];exact this)
 exact⟨ι',hrel.put dst hd _ _ (aBj ab l h1)⟩
theorem atf (hr:Rel F N ι s a w)(hd: ∀k,o.dst=some k ->k<N){j:List (Nat×Pl)}(P:Rel F N ι (s.withPl j) a w){w':World}{v:Value}{r:Res}(g:aal ⟨w,F.ok ι j w,λ_=>False,λ_=>none⟩ w' r v)(J:Grows (λ_=>False) w w'):
 ∃ι',Rel F N ι' (ate s {s with pl:=j} o.dst r) (a.put o.dst v) w':=by
 cases l:o.dst with
 |none=>exact⟨ι,hr.grown J⟩
 |some d=>
  simp only[ate];cases hs:r.v.scalar
  ·simp only[cond_false];have aa:=hd d l;refine afb P (dst:=some d) (λk hk=>by grind) (U:=[]) (λp R=>by cases R) (nb:=xi d) (λi=>hr.h_big (by grind[xi])) (M:=λ_=>False) (λb=>by simp) (h0:=λ_=>none) ?_ J ?_
   ·obtain⟨_,ιr,I,T,h3,h4,h5,h6⟩:=g;exact⟨Nat.zero_le _,ιr,I,T,h3,h4,h5,λp x R=>by grind⟩
   ·exact(aeX _ _ _).2
  ·simp only[cond_true];obtain⟨_,ιr,I,_⟩:=g;exact⟨ι,(hr.grown J).put (some d) (λk hk=>by grind) _ _ (aub hs I)⟩
theorem Rel.glb (hr:Rel F N ι s a w):Glb (F.ok ι s.pl w) w:=λk hk=>by
 obtain⟨g,m,j⟩:=hr.handed.2 k hk;obtain⟨i,l⟩:=hr.foreign k g;refine⟨⟨.inl g,Nat.lt_of_lt_of_le i hr.grows.size,λo=>?_⟩,m,?_⟩
 ·rcases(hr.mine k o).1 with h|h<;>grind
 ·rw[qv (hr.grows.block k i l) 0];exact j
theorem kH (hr:Rel F N ι s a w)(U: ∀k,o.dst=some k ->k<N){f:FuncId}{ws:List W}{g:List Value}(J:qK ι w (F.ok ι s.pl w) ws g)(j:qQ P f=true ->(execOp a.eval o).run P w= .ok (.enter f g.toArray) w)
 (h:aam P o.dst f ws s K):uy P F N o a w K:=by
 unfold aam at h;split at h
 ·rename_i ds R p;obtain⟨T,h⟩:=h;obtain⟨g1,g2,g3⟩:=afo hr J p;intro next Q hn;unfold Oper.wp;rw[j T];rw[Oper.upon_enter];refine(h w (F.ok ι R w) g ⟨λb l=>l.2.1,g1.glb⟩ (g3 _)).mono ?_;rintro e w' ⟨v,r,rfl,hk,i,I⟩;obtain⟨ι',hrel⟩:=atf (o:=o) hr U g1 i I;exact hn ι' _ _ _ hrel hk ⟨I.size,λb l=>I.block b l (λh=>h)⟩
 grind
theorem adK {α β:Type}(f:α ->β)(xs:Array α):xs.map f=(xs.toList.map f).toArray:=by
 grind
theorem aiy (hr:Rel F N ι s a w)(g: ∀k,o.dst=some k ->k<N){f:FuncId}{args:Array Operand}{i:Array TypeId}(l:o.op= .call {callee:=.value (.func f),args:=args,argTypes:=i})
 (h:z8 P o.dst (.call f (args.toList.map cO)) s K):uy P F N o a w K:=by
 simp only[z8]at h;refine kH hr g (agV hr args.toList) (λj=>?_) h
 grind[execOp,resolve,Deferred.ofValue,Act.eval,invoke,Wi,adK]
theorem agU {ok:Nat ->Prop}: ∀{xs ys:List W}{g vs:List Value},qK ι w ok xs g ->qK ι w ok ys vs ->qK ι w ok (xs++ys) (g++vs)
 | [],_,[],_,_,h=>h
 | [],_,_::_,_,h,_=>h.elim
 |_::_,_,[],_,h,_=>h.elim
 |_::_,_,_::_,_,h,i=>⟨h.1,agU h.2 i⟩
theorem aqS {ok:Nat ->Prop}: ∀{g:List (List D)}{vs:List Value},RDf w ok vs g ->qK ι w ok (g.map λi=>W.c (.fp i)) vs
 | [],vs,h=>by simp only[RDf]at h;subst h;trivial
 |c::r,vs,h=>by
  simp only[RDf]at h;obtain⟨b,o,I,rfl,j,l,p⟩:=h;exact⟨⟨b,o,rfl,j,l⟩,aqS p⟩
theorem aiz (hr:Rel F N ι s a w)(r: ∀k,o.dst=some k ->k<N){x:Operand}{args:Array Operand}{T:Array TypeId}(U:o.op= .call {callee:=.value x,args:=args,argTypes:=T})
 (h:z8 P o.dst (.calv (cO x) (args.toList.map cO)) s K):uy P F N o a w K:=by
 simp only[z8]at h;have g:=qJ hr x;split at h
 ·rename_i f j;rw[j]at g;obtain⟨I,J,p⟩:=g;have i:I=[]:=by simp_all
  subst i;refine kH hr r (agV hr args.toList) (λR=>?_) h
  grind[execOp,resolve,Deferred.ofValue,invoke,Wi,adK]
 ·rename_i f l j;rw[j]at g;simp only[CR,RD]at g;obtain⟨vs,J,p⟩:=g;refine kH hr r (agU (agV hr args.toList) (aqS p)) (λR=>?_) h
  grind[execOp,resolve,Deferred.ofValue,invoke,Wi,adK]
 grind
theorem yV {α:Type}{c:Bool}{x y:α}(h:VJ c x=some y):c=true /\x=y:=by
 cases c
 ·cases h
 ·cases h;grind
theorem XF {α:Type}{x:Option α}(h:isSome x=true): ∃y,x=some y:=by
 cases x with
 |none=>cases h
 |some y=>grind
theorem ab6 (hr:Rel F N ι s a w)(r: ∀k,o.dst=some k ->k<N){x:AOp}(j:cOp P o.op o.type=some x)(h:z8 P o.dst x s K):qk P F N o a w K:=by
 unfold cOp at j;split at j
 ·rename_i y p;cases j;exact(K4 hr r (.inl p) h).fine trivial
 ·rename_i y p;cases j;exact(K4 hr r (.inr p) h).fine trivial
 ·rename_i c y z p;cases j;exact(aiC hr r p h).fine trivial
 ·rename_i t p;cases j;exact(afj hr r p h).fine
 ·rename_i t y p;cases j;exact(apB hr r p h).fine
 ·rename_i t parts p;split at j
  ·rename_i fs l U hl;obtain⟨I,rfl⟩:=yV j;rw[Bool.and_eq_true]at I;exact(afk hr r p U hl I.1 I.2 h).fine trivial
  ·cases j
 ·rename_i t n parts p;split at j
  ·rename_i e J;obtain⟨I,rfl⟩:=yV j;simp only[Bool.and_eq_true]at I;exact(aiB hr r p J I.1.1.1.1 I.1.1.1.2 I.1.1.2 I.1.2 I.2 h).fine
  ·cases j
 ·rename_i t y p;split at j
  ·rename_i g J;cases j;exact(apE hr r p J h).fine (uN.refl _)
  ·cases j
 ·rename_i t y z p;obtain⟨I,rfl⟩:=yV j;obtain⟨i,hi⟩:=XF I<;>grind[azc]
 ·rename_i y p;cases j;exact(apH hr r p h).fine trivial
 ·rename_i ab dst y p;cases h1:wo P ab false&&wo P dst true
  ·rw[h1]at j;cases h2:wo P ab true&&wo P dst false
   ·rw[h2]at j;simp only[cond_false]at j;cases T:Vz P ab dst y with
    |none=>simp only[T]at j;cases j;exact(vN hr r (by rw[p];rfl) h).fine trivial
    |some z=>simp only[T]at j;cases j;exact(aiA hr r p T h).2.fine trivial
   ·rw[h2]at j;cases j;rw[Bool.and_eq_true]at h2;exact(alp hr r p h2.1 h2.2 h).fine
  ·rw[h1]at j;cases j;rw[Bool.and_eq_true]at h1;exact(alf hr r p h1.1 h1.2 h).fine (uN.refl _)
 ·grind[yV,av5]
 ·rename_i t n c p;split at j
  ·rename_i e J;split at j
   ·rename_i z ae hz;obtain⟨I,rfl⟩:=yV j;rw[Bool.and_eq_true]at I;exact(apF hr r p J hz I.1 I.2 h).fine
   ·cases j
  ·cases j
 ·rename_i t y lo hi mx p;split at j
  ·rename_i U;cases j;exact(als hr r p U h).fine trivial
  ·rename_i e U;obtain⟨I,rfl⟩:=yV j;obtain⟨i,ac⟩:=XF I;exact(alr hr r p U ac h).fine trivial
  ·cases j
 ·rename_i t y f p;split at j
  ·rename_i off ft J;obtain⟨I,rfl⟩:=yV j;exact(apC hr r p J I h).fine trivial
  ·cases j
 ·rename_i t y f p;split at j
  ·rename_i off ft J;split at j
   ·rename_i g hg;cases j;exact(alm hr r p J hg h).fine trivial
   ·cases j
  ·cases j
 ·rename_i t y i p;split at j
  ·rename_i e J;obtain⟨I,rfl⟩:=yV j;exact(apD hr r p J I h).fine trivial
  ·cases j
 ·rename_i t y i p;split at j
  ·rename_i U;cases j;exact(alq hr r p U h).fine trivial
  ·cases j
 ·rename_i y i p;cases j;exact(alk hr r p h).fine trivial
 ·rename_i args ts p;split at j
  ·rename_i y t R aa;split at j
   ·rename_i e J;cases j;exact(alo hr r p R aa J h).fine trivial
   ·cases T:KD P t y with
    |none=>simp only[T]at j;cases j;exact(vN hr r (by rw[p];rfl) h).fine trivial
    |some z=>simp only[T]at j;cases j;exact(aiD hr r p R aa T h).2.fine trivial
  ·cases j
 ·rename_i args ts p;split at j
  ·rename_i y z t u R aa;split at j
   ·rename_i e e' J U;obtain⟨I,rfl⟩:=yV j;rw[Bool.and_eq_true]at I
    grind[av2]
   ·rename_i e k J U;split at j
    ·rename_i zz ae af;obtain⟨I,rfl⟩:=yV j;simp only[Bool.and_eq_true]at I
     grind[atF]
    ·cases j
   ·rename_i e J U;obtain⟨I,rfl⟩:=yV j;rw[Bool.and_eq_true]at I
    grind[atE]
   ·cases j
  ·cases j
 ·rename_i f args ts p;cases j;exact(aiy hr r p h).fine
 ·rename_i y args ts p ad;cases j;exact(aiz hr r ad h).fine
 ·rename_i b args ts h1 h2 p;cases hm:acT b args.toList with
  |some y=>simp only[hm]at j;cases j;exact(apG hr r p hm h).fine trivial
  |none=>
   simp only[hm]at j;cases hb:UJ P b args.toList ts.toList with
   |some y=>grind[av3]
   |none=>simp only[hb]at j;cases j;exact(vN hr r (by rw[p];rfl) h).fine trivial
 ·rename_i b t y z u p;cases hn:gO P b t z with
  |some neg=>simp only[hn]at j;cases j;exact(aln hr r p hn h).fine trivial
  |none=>
  simp only[hn]at j;cases T:Kl P b t y z with
  |some q=>simp only[T]at j;cases j;exact(alj hr r p T h).2.fine trivial
  |none=>
  simp only[T]at j;cases h4:UG P b t y z with
  |some q=>simp only[h4]at j;cases j;exact(alg hr r p h4 h).2.fine trivial
  |none=>
  simp only[h4]at j;cases h1:aa4 b&&adZ P t
  ·rw[h1]at j;cases j;exact(vN hr r (by rw[p];rfl) h).fine trivial
  ·rw[h1]at j;cases j;exact(alh hr r p h).fine trivial
 ·rename_i u t y p;cases h4:K5 P u t y with
  |some q=>simp only[h4]at j;cases j;exact(apI hr r p h4 h).2.fine trivial
  |none=>simp only[h4]at j;cases j;exact(vN hr r (by rw[p];rfl) h).fine trivial
 ·cases j
 ·cases j;exact h.elim
theorem Xv {pl:List (Nat×Pl)}: ∀(l U:List Nat),(U.Nodup /\ ∀p∈U,∃x,aget pl p=some x /\x.live=true) ->(wC pl U l).Nodup /\ ∀p∈wC pl U l,∃x,aget pl p=some x /\x.live=true
 | [],U,h=>h
 |p::r,U,h=>by
  have step: ∀x,aget pl p=some x ->x.live=true ->(bif isin p U then wC pl U r else wC pl (U++[p]) r).Nodup /\ ∀q∈(bif isin p U then wC pl U r else wC pl (U++[p]) r),∃x,aget pl q=some x /\x.live=true:=λx T P=>by
   cases o:isin p U
   ·have R:p∉U:=λh=>by rw[(yk p U).2 h]at o;cases o
    refine Xv r (U++[p]) ⟨?_,λq g=>?_⟩
    ·rw[List.nodup_append];exact⟨h.1,by simp,λa J b j=>by simp at j;subst j;exact λe=>R (e▸J)⟩
    ·rcases List.mem_append.1 g with g|g
     ·exact h.2 q g
     ·simp at g;subst g;exact⟨x,T,P⟩
   ·exact Xv r U h
  unfold wC;split
  ·rename_i cs i;exact step _ i rfl
  ·rename_i z I i;exact step _ i rfl
  ·exact Xv r U h
theorem aa6 {pl:List (Nat×Pl)}: ∀(n i:Nat) (U:List Nat),(U.Nodup /\ ∀p∈U,∃x,aget pl p=some x /\x.live=true) ->(UV pl n i U).Nodup /\ ∀p∈UV pl n i U,∃x,aget pl p=some x /\x.live=true
 |0,_,U,h=>h
 |n+1,i,U,h=>by
  unfold UV;split
  ·split
   ·exact aa6 n (i+1) _ (Xv _ U h)
   ·exact aa6 n (i+1) U h
  ·exact h
theorem afK: ∀{U:List Nat}{p k:Nat},idx p U=some k ->U[k]? =some p
 | [],p,k,h=>by grind[idx]
 |q::r,p,k,h=>by
  unfold idx at h;by_cases e:q=p
  ·grind[uq]
  ·rw[qD e]at h;simp only[cond_false]at h;split at h
   ·rename_i i g;cases h;simpa using afK g
   ·cases h
theorem akF: ∀{U:List Nat}{p k:Nat},U.Nodup ->U[k]? =some p ->idx p U=some k
 | [],p,k,_,h=>by simp at h
 |q::r,p,0,g,h=>by simp_all[idx]
 |q::r,p,k+1,g,h=>by
  rw[List.nodup_cons]at g;have hr:r[k]? =some p:=by simpa using h
  have i:q≠p:=λe=>by subst e;exact g.1 (List.mem_of_getElem? hr)
  unfold idx;rw[qD i,akF g.2 hr];rfl
theorem azw (hr:Rel F N ι s a w){ok':Nat ->Prop}(hk:zR w w (F.ok ι s.pl w) ok'){U:List Nat}{ι':Nat ->Gh}(hι: ∀k p,U[k]? =some p ->ι' k=ι p){c:C}{v:Value}(r:CR ι w (F.ok ι s.pl w) c v):CR ι' w ok' (c.pk s.pl U) v:=by
 cases c with
 |d x=>exact RD.keep hk _ _ r
 |nil=>exact r
 |fp l=>exact CR.keep (ι:=ι') hk (yp.refl w) (.fp l) v r
 |clo f g=>cases g<;>simp_all[C.pk,CR,RD,RDf]
 |dead=>trivial
 |sub _ _ _ _=>trivial
 |eptr p z i k=>trivial
 |ptr p o=>
  simp only[C.pk];split
  ·grind[CR,afK]
  ·rename_i ds R;obtain⟨b,I,T⟩:=r;obtain⟨b',J,e4,P⟩:=hr.places p _ R;rw[I]at J;cases J;have P:=RDc.drop o P;rw[Nat.zero_add]at P;exact⟨b,o,T,(hk b e4).1,RDc.keep hk b e4 _ _ P⟩
  ·trivial
 |own p sz n=>
  simp only[C.pk];split
  ·grind[CR,afK]
  ·rename_i z j R;obtain⟨hn,⟨h1,h2,h3,h4⟩|⟨b,cap,t,h1,h2,h3,h4,h5,h6⟩⟩:=ac0 hr R r
   ·subst h1;subst h2;subst h4;simp only[CR,RD];exact⟨none,0,0,rfl,rfl,Nat.le_refl _,Nat.zero_le _,.inl (by simp)⟩
   ·have aa:=hr.places p _ R;obtain⟨_,_,hf|⟨b',I,T,J,e4⟩⟩:=aa
    ·grind
    ·rw[h1]at I;cases I;have:RD w (F.ok ι s.pl w) (.sl (j.take n)) v:=by
      subst h2;simp only[RD];exact⟨_,_,_,rfl,by simp;omega,h3,h4,.inr ⟨b,0,z,rfl,J rfl,RDs.take n T⟩⟩
     exact CR.keep (ι:=ι') hk (yp.refl w) (.d (.sl (j.take n))) v this
  ·trivial
theorem amX (hr:Rel F N ι s a w){ok':Nat ->Prop}(hk:zR w w (F.ok ι s.pl w) ok'){U:List Nat}{ι':Nat ->Gh}(g: ∀k p,U[k]? =some p ->ι' k=ι p): ∀{cs:List C}{vs:List Value},CRs ι w (F.ok ι s.pl w) cs vs ->CRs ι' w ok' (cs.map (C.pk s.pl U)) vs
 | [],[],_=>trivial
 | [],_::_,h=>h.elim
 |_::_,[],h=>h.elim
 |_::_,_::_,h=>⟨azw hr hk g h.1,amX hr hk g h.2⟩
theorem azz (hr:Rel F N ι s a w){ok':Nat ->Prop}(hk:zR w w (F.ok ι s.pl w) ok'){U:List Nat}{ι':Nat ->Gh}(g: ∀k p,U[k]? =some p ->ι' k=ι p){x:W}{v:Value}(h:WR ι w (F.ok ι s.pl w) x v):WR ι' w ok' (x.pk s.pl U) v:=by
 cases x with
 |c x=>exact azw hr hk g h
 |agg cs=>obtain⟨vs,i,j⟩:=h;exact⟨vs,i,amX hr hk g j⟩
theorem am2 (hr:Rel F N ι s a w){ok':Nat ->Prop}(hk:zR w w (F.ok ι s.pl w) ok'){U:List Nat}{ι':Nat ->Gh}(g: ∀k p,U[k]? =some p ->ι' k=ι p): ∀{cs:List W}{vs:List Value},qK ι w (F.ok ι s.pl w) cs vs ->qK ι' w ok' (cs.map (W.pk s.pl U)) vs
 | [],[],_=>trivial
 | [],_::_,h=>h.elim
 |_::_,[],h=>h.elim
 |_::_,_::_,h=>⟨azz hr hk g h.1,am2 hr hk g h.2⟩
theorem aCm (hr:Rel F N ι s a w){ok':Nat ->Prop}(hk:zR w w (F.ok ι s.pl w) ok'){U:List Nat}{ι':Nat ->Gh}(g: ∀k p,U[k]? =some p ->ι' k=ι p){x:V}{v:Value}(h:VR ι w (F.ok ι s.pl w) x v):VR ι' w ok' (x.pk s.pl U) v:=by
 cases x with
 |w x=>exact azz hr hk g h
 |tup cs=>obtain⟨vs,i,j⟩:=h;exact⟨vs,i,am2 hr hk g j⟩
theorem KN (pl:List (Nat×Pl))(U:List Nat): ∀(l:List Nat) (k i:Nat),(Zg pl U k l)[i]? =(l[i]?).map λp=>kA pl U (k+i) p
 | [],k,i=>by simp[Zg]
 |p::r,k,0=>by simp[Zg]
 |p::r,k,i+1=>by
  simp only[Zg,List.getElem?_cons_succ,KN pl U r (k+1) i];rw[show k+1+i=k+(i+1)by omega]
theorem ac4 (pl:List (Nat×Pl))(U:List Nat): ∀(l:List Nat) (k:Nat),(Zg pl U k l).length=l.length
 | [],_=>rfl
 |_::r,k=>by simp[Zg,ac4 pl U r (k+1)]
theorem ac3 (hr:Rel F N ι s a w){ok':Nat ->Prop}(hk:zR w w (F.ok ι s.pl w) ok'){U:List Nat}{ι':Nat ->Gh}(hι: ∀k p,U[k]? =some p ->ι' k=ι p){k p:Nat}(hp:U[k]? =some p)(j:(kA s.pl U k p).isGone=false):
 idx p U=some k /\(∃x,aget s.pl p=some x /\x.live=true)/\PR ι' w ok' k (kA s.pl U k p)/\(kA s.pl U k p).live=true:=by
 unfold kA at j⊢;split at j
 case h_2=>cases j
 rename_i i T;cases J:Nat.beq i k
 ·rw[J]at j;cases j
 ·have P:=Nat.eq_of_beq_eq_true J;subst P;rw[J]at j;simp only[cond_true]at j;split at j
  ·rename_i cs g;refine⟨T,⟨_,g,rfl⟩,?_⟩;obtain⟨b,l,e1,o,r⟩:=hr.places p _ g;exact⟨⟨b,l,by grind,o,amX hr hk hι r⟩,rfl⟩
  ·rename_i z I g;refine⟨T,⟨_,g,rfl⟩,?_⟩;refine⟨?_,rfl⟩;obtain⟨h0,hn,R|⟨b,e1,o,r,e4⟩⟩:=hr.places p _ g
   ·exact⟨h0,by grind,.inl (by grind)⟩
   ·exact⟨h0,by grind,.inr ⟨b,by grind,RDs.keep' hk b z I 0 (λ_ _ _=>rfl) o,λR=>(hk b (r R)).1,e4⟩⟩
  ·cases j
theorem ayh (dst:Option Nat)(U:List Nat):600000<=XT dst U:=by
 unfold XT<;>grind[xi]
theorem aqL (hr:Rel F N ι s a w)(hd: ∀k,o.dst=some k ->k<N){f:FuncId}{args:Array Operand}{ts:Array TypeId}(ho:o.op= .call {callee:=.value (.func f),args:=args,argTypes:=ts})
 (h:z8 P o.dst (.callh f (args.toList.map cO)) s K):qk P F N o a w K:=by
 simp only[z8,agW]at h
 let U:=uM s.pl [] (YN ((args.toList.map cO).map s.ow))
 have hU:U.Nodup /\ ∀p∈U,∃x,aget s.pl p=some x /\x.live=true:=aa6 40 0 _ (Xv _ [] ⟨List.nodup_nil,λ_ h=>by cases h⟩)
 let ι0:Nat ->Gh:=λi=>ι (U.getD i 0)
 have aa: ∀k p,U[k]? =some p ->ι0 k=ι p:=λk p hp=>by grind
 have ad:zR w w (F.ok ι s.pl w) (F.ok ι s.pl w):=λb g=>⟨g,rfl⟩
 obtain⟨hc,h⟩:=h;have ai:=am2 hr ad aa (agV hr args.toList);have l: ∀i x,(Zg s.pl U 0 U)[i]? =some x -> ∃p,U[i]? =some p /\x=kA s.pl U i p /\x.isGone=false:=λi x T=>by
  rw[KN,Nat.zero_add]at T;cases hp:U[i]? with
  |none=>grind
  |some p=>
   rw[hp]at T;simp at T;refine⟨p,rfl,T.symm,?_⟩;subst T;obtain⟨y,e1,R⟩:=hU.2 p (List.mem_of_getElem? hp);have hi:=akF hU.1 hp;unfold kA;simp only[hi,uq,cond_true,e1];cases y with
   |box cs=>rfl
   |arr z aj fz=>cases fz<;>first|rfl|cases R
   |fbox ds=>cases R
   |gone=>cases R
 have hM: ∀b,QK ι0 (Zg s.pl U 0 U) b↔ ∃p∈U,(ι p).b=some b:=λb=>by
  constructor
  ·rintro⟨i,x,h1,h2⟩<;>grind
  ·rintro⟨p,hp,e⟩;obtain⟨i,hi,ak⟩:=List.getElem_of_mem hp;have af:U[i]? =some p:=by grind
   exact⟨i,kA s.pl U i p,by rw[KN,af,Nat.zero_add];rfl,by grind⟩
 have J: ∀b,QK ι0 (Zg s.pl U 0 U) b ->Owns ι s.pl b:=λb g=>by
  obtain⟨p,hp,e⟩:=(hM b).1 g;obtain⟨x,e1,R⟩:=hU.2 p hp;exact⟨p,x,e1,R,e⟩
 have ac:=h w (F.ok ι s.pl w) ι0 (args.toList.map a.eval) (λb g=>⟨g.2.1,λhh=>g.2.2 (J b hh)⟩) ⟨λb g=>(hr.mine b (J b g)).2,hr.glb⟩
  (λi x T=>by
   obtain⟨p,e1,R,e3⟩:=l i x T;subst R;obtain⟨_,_,g1,g2⟩:=ac3 hr ad aa e1 e3
   grind)
  (λi j x y b T hy ag g hj=>by
   obtain⟨p,e1,_,_⟩:=l i x T;obtain⟨q,R,_,_⟩:=l j y hy;rw[aa i p e1]at g;rw[aa j q R]at hj;obtain⟨x',e3,e4⟩:=hU.2 p (List.mem_of_getElem? e1);obtain⟨y',e5,e6⟩:=hU.2 q (List.mem_of_getElem? R);refine hr.inj p q x' y' b e3 e5 (λe=>ag ?_) e4 g hj
   grind[List.getElem_inj])
  ai
 intro next Q hn;unfold Oper.wp;have ae:(execOp a.eval o).run P w= .ok (.enter f (args.toList.map a.eval).toArray) w:=by
  grind[execOp,resolve,Deferred.ofValue,Act.eval,invoke,Wi,adK]
 rw[ae,Oper.upon_enter];refine ac.mono ?_;rintro e w' ⟨v,r,rfl,hk,ab,hg⟩;cases I:U8 U (XT o.dst U) r
 ·have hk:cond (U8 U (XT o.dst U) r) (K (aec s U (XT o.dst U) o.dst r)) False:=hk;rw[I]at hk;exact hk.elim
 ·have hk:cond (U8 U (XT o.dst U) r) (K (aec s U (XT o.dst U) o.dst r)) False:=hk;rw[I]at hk;have ah: ∀i,F.h (XT o.dst U+i)=none:=λi=>hr.h_big (Nat.le_trans (ayh o.dst U) (Nat.le_add_right _ _))
  rw[ac4]at ab;obtain⟨ι',hrel⟩:=afb hr hd hU.2 ah hM (h0:=λ_=>none) ab hg I;exact hn ι' _ _ _ hrel hk
def Cop (P:Program)(o:Oper)(x:AOp):Prop:= ∃b,QR P b o.op o.type=some x
theorem akt (hr:Rel F N ι s a w)(l: ∀k,o.dst=some k ->k<N){x:AOp}(J:Cop P o x)(h:z8 P o.dst x s K):qk P F N o a w K:=by
 obtain⟨b,g⟩:=J;cases b
 ·exact ab6 hr l g h
 ·simp only[QR,cond_true]at g;unfold awV at g;split at g
  ·grind[yV,atG]
  ·grind[aqL]
  ·rename_i t x T R r;split at g
   ·rename_i e I;obtain⟨p,rfl⟩:=yV g;obtain⟨i,j⟩:=XF p;exact(av8 hr l r I j h).fine trivial
   grind[ab6]
  grind[ab6]
end
theorem Act.put_same {a:Act}{d:Nat}{x:Value}(h:a.tmps[d]? =some x):a.put (some d) x=a:=by
 cases a with
 |mk tmps defers=>
  simp only[Act.put]at h⊢;congr 1
  grind
section
variable {P:Program}{F:Fr}{N:Nat}{ι:Nat ->Gh}{s:S}{a:Act}{w:World}{K:S ->Prop}
theorem Rel.drop (hr:Rel F N ι s a w)(l:List Nat):Rel F N ι (s.drop l) a w:=
 hr.sub _ (λ_ _ h=>(Jf _ _ _ _ h).1) (λ_ _ h=>h)
theorem Rel.norm (hr:Rel F N ι s a w)(g:List Nat):Rel F N ι (s.norm g) a w:=
 hr.sub _ (λ_ _ h=>(Jf _ _ _ _ h).1) (λ_ _ h=>(Jf _ _ _ _ h).1)
theorem Rel.look (hr:Rel F N ι s a w){d:Nat}{v:V}(h:s.tmp d=v)(i:v≠ass): ∃x,a.tmps[d]? =some x /\VR ι w (F.ok ι s.pl w) v x:=by
 unfold S.tmp at h;split at h
 ·rename_i v' g;subst h;exact hr.slots d _ g
 grind
theorem akp (hr:Rel F N ι s a w){d:Nat}{b:Bool}(h:s.tmp d=yd b):a.tmps[d]? =some (.bool b):=by
 obtain⟨x,g,i⟩:=hr.look h (by intro h;cases h);rw[g];exact congrArg some i.1
theorem ae6 {v:V}{b:Bool}(h:yY v=some b):v=yd b:=by
 unfold yY at h;split at h
 ·cases h;rfl
 ·cases h
theorem XM (hr:Rel F N ι s a w){dst:Option Nat}(l: ∀k,dst=some k ->k<N){g:Bool}(h:split g dst s K): ∃j,Rel F N ι j a w /\K j:=by
 unfold split at h;cases g with
 |false=>grind
 |true=>
  simp only[cond_true]at h;cases dst with
  |none=>grind
  |some d=>
   simp only at h;cases i:yY (s.tmp d)with
   |none=>grind
   |some b=>
    rw[i]at h;have i:=ae6 i;have p:=akp hr i;have o:=hr.put (some d) l (yd b) (.bool b) ⟨rfl,rfl⟩
    grind[Act.put_same]
theorem auI {o:Oper}(h:amM N o.dst=true): ∀k,o.dst=some k ->k<N:=by
 intro k hk;rw[hk]at h;exact Nat.le_of_ble_eq_true h
theorem at3 {ops:Array Oper}{j d:Nat}(h:amL ops.toList j=some d)(tmps:Array Value):yielded ops tmps j=match tmps[d]? with|some (.bool b)=>some b|_=>none:=by
 grind[amL,yielded]
theorem abg (hr:Rel F N ι s a w){ops:Array Oper}{o:Oper}{x:AOp}{g:Option (Nat×Bool)}(p:Yt ops.toList o.guard=some g)
 {r:Bool}{drop:List Nat}{rest:List AI}(h:yh P (.mk o.dst g r x drop::rest) s K):
 (Region.wanted o (yielded ops a.tmps)=true /\z8 P o.dst x s λs1=>split r o.dst s1 λs2=>yh P rest (s2.drop drop) K)\/
 (Region.wanted o (yielded ops a.tmps)=false /\yh P rest ((s.put o.dst wx).drop drop) K):=by
 cases i:o.guard with
 |none=>
  grind[Yt,yh,xJ,Region.wanted]
 |some jw=>
  obtain⟨j,I⟩:=jw;rw[i]at p;simp only[Yt]at p;cases l:amL ops.toList j with
  |none=>grind
  |some d=>
   rw[l]at p;simp only[Option.some.injEq]at p;subst p;have J:=at3 l a.tmps;simp only[yh]at h;split at h
   ·rename_i b R;have T:=akp hr R;rw[T]at J;simp only at J
    cases b<;>cases I<;>simp only[Bool.not_true,Bool.not_false,cond_true,cond_false,xJ]at h<;>
     first
      |exact .inl ⟨by simp[Region.wanted,i,J],h⟩
      |exact .inr ⟨by simp[Region.wanted,i,J],h⟩
   ·rename_i R;obtain⟨v,h1,U⟩:=hr.look R (by intro h;cases h);obtain⟨vs,h3,h4⟩:=U<;>grind[xJ,Region.wanted]
   grind
theorem afu (ι:Nat ->Gh)(w:World)(ok:Nat ->Prop):VR ι w ok wx undef:=⟨[],rfl,trivial⟩
theorem ano {ops:Array Oper}{hs gs:List Nat}{Q:Exit ->Act ->World ->Prop}(hQ: ∀ι s a w,Rel F N ι s a w ->K s ->Q .normal a w):
 ∀(l:List Nat) (xs:List AI),Xk P N hs ops.toList gs l=some (xs.map AI.erase) -> ∀(ι:Nat ->Gh) (s:S) (a:Act) (w:World),Rel F N ι s a w ->yh P xs s K ->wpOps P ops Q l a w:=by
 intro l;induction l with
 |nil=>
  intro xs j ι s a w hr h;cases xs with
  |nil=>exact hQ ι s a w hr h
  |cons x r=>grind[Xk]
 |cons i l ih=>
  intro xs j ι s a w hr h;simp only[Xk]at j;split at j
  case h_2=>cases j
  rename_i o ho;have T:ops[i]? =some o:=by grind
  cases hd:amM N o.dst with
  |false=>grind
  |true=>
   rw[hd]at j;simp only[cond_true]at j;split at j
   case h_2=>cases j
   rename_i x g ys ab hg I;cases xs with
   |nil=>grind
   |cons y rest=>
    cases y with
    |mk d1 g1 ac ad drop=>
     simp only[Option.some.injEq,List.map_cons,AI.erase,List.cons.injEq,AI.mk.injEq,and_true]at j;obtain⟨⟨rfl,rfl,rfl,rfl⟩,rfl⟩:=j;have p:=auI hd;simp only[wpOps,T];rcases abg hr hg h with⟨hw,J⟩|⟨hw,J⟩
     ·rw[if_pos hw];refine .inl (akt hr p ⟨_,ab⟩ J _ _ λι1 s1 a1 w1 U hk=>?_);obtain⟨s2,aa,R⟩:=XM U p hk;exact ih rest I ι1 _ a1 w1 (aa.drop drop) R
     ·rw[if_neg (by grind)];exact ih rest I ι _ _ w ((hr.put o.dst p wx undef (afu _ _ _)).drop drop) J
theorem VT (n:Nat): ∀i,yg i n=List.range' i n:=by
 induction n<;>grind[yg,List.range'_succ]
end
theorem at2 {P:Program}{Q:Exit ->Act ->World ->Prop}{a:Act}{w:World}{c:Code}{σ:Type}(I:σ ->Act ->World ->Prop)(μ:σ ->Nat)(x₀:σ)(h₀:I x₀ a w)
 (round: ∀x a w,I x a w ->c.wp P (Exit.then (λo w'=> ∃U,I U o w' /\μ U<μ x) Q) a w):(Code.loop c).wp P Q a w:=by
 intro b k cs
 have key: ∀n x a w,μ x=n ->I x a w ->
  ∃e o w',Q e o w' /\Arrives P (lone (b.at a (.code c:: .inLoop c::k)) cs w) b k cs e o w':=by
  intro n;induction n using Nat.strongRecOn with
  |_ n ih=>
   intro x a w hn hI;obtain⟨e,p,r,i,g⟩:=round x a w hI b (.inLoop c::k) cs;cases e with
   |normal=>
    obtain⟨x₁,J,R⟩:=i;obtain⟨e₂,a₂,w₂,T,j⟩:=ih (μ x₁) (hn▸R) x₁ p r rfl J;exact⟨e₂,a₂,w₂,T,.of_steps (Steps.trans g (.one step_inLoop)) j⟩
   |exit id=>exact⟨_,p,r,i,.pass (x:=.inLoop c) rfl (λ_ _=>.inl (by simp)) g⟩
   |goto l=>exact⟨_,p,r,i,.pass (x:=.inLoop c) rfl (λ_ _=>.inl (by simp)) g⟩
   |ret=>exact⟨_,p,r,i,.pass (x:=.inLoop c) rfl (λ_ _=>.inl (by simp)) g⟩
   |panic ch=>exact⟨_,p,r,i,.pass (x:=.inLoop c) rfl (λ_ _=>.inl (by simp)) g⟩
   |outgrown=>exact⟨_,p,r,i,.pass (x:=.inLoop c) rfl (λ_ _=>.inl (by simp)) g⟩
 obtain⟨e,o,w',i,g⟩:=key _ x₀ a w rfl h₀;exact⟨e,o,w',i,.of_steps (.one step_loop) g⟩
section
variable {P:Program}{F:Fr}{N:Nat}
def Vis (F:Fr)(N:Nat)(K:S ->Prop)(a:Act)(w:World):Prop:= ∃ι s,Rel F N ι s a w /\K s
def up (F:Fr)(N:Nat)(Q:E ->S ->Prop):Exit ->Act ->World ->Prop
 | .normal=>Vis F N (Q .normal)
 | .exit i=>Vis F N (Q (.exit i))
 | .ret=>Vis F N (Q .ret)
 |_=>λ_ _=>False
end
end Go.AM
