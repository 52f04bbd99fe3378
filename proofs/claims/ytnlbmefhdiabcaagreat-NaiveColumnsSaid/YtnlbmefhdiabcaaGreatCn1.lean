import Derived.Shelf.Strings.Search3
import Derived.Shelf.LaysM
import Derived.Ground.NamesProg
import Derived.Test.YtnlbmefhdiabcaaGreatProg
import Derived.Tactics2
import Derived.KernelRfl
import Derived.WalkKit
import Derived.Laws.StructEq
import Derived.ChangeKeysEq
set_option linter.unusedSimpArgs false
set_option linter.unusedVariables false
set_option maxRecDepth 100000
set_option maxHeartbeats 4000000
namespace Go.Proofs
open Go.Shelf
def Tryz.laysM144_ren:Go.Shelf.Ren:=⟨fun|144=>317|143=>325|219=>335|217=>235|225=>338|224=>339|267=>340|266=>275|314=>341|n=>n,fun|9=>9|4=>4|3=>3|5=>5|46=>147|146=>206|51=>205|n=>n,fun|1=>0|n=>n⟩
theorem Tryz.laysM144:Go.Proofs.LaysM.n144 Tryz.prog Tryz.laysM144_ren:={
 mixed:=by kernel_rfl
 f143:=Tryz.func325.trans (congrArg some (by kernel_rfl))
 f144:=Tryz.func317.trans (congrArg some (by kernel_rfl))
 f217:=Tryz.func235.trans (congrArg some (by kernel_rfl))
 f219:=Tryz.func335.trans (congrArg some (by kernel_rfl))
 f224:=Tryz.func339.trans (congrArg some (by kernel_rfl))
 f225:=Tryz.func338.trans (congrArg some (by kernel_rfl))
 f266:=Tryz.func275.trans (congrArg some (by kernel_rfl))
 f267:=Tryz.func340.trans (congrArg some (by kernel_rfl))
 f314:=Tryz.func341.trans (congrArg some (by kernel_rfl))
 t3:=Tryz.underlying3
 a3:=Tryz.isAgg3
 z3:=Tryz.sizeOf3
 v3:=Tryz.zeroValue3
 t4:=Tryz.underlying4
 a4:=Tryz.isAgg4
 z4:=Tryz.sizeOf4
 v4:=Tryz.zeroValue4
 t5:=Tryz.underlying5
 a5:=Tryz.isAgg5
 z5:=Tryz.sizeOf5
 v5:=Tryz.zeroValue5
 t9:=Tryz.underlying9
 a9:=Tryz.isAgg9
 z9:=Tryz.sizeOf9
 v9:=Tryz.zeroValue9
 t46:=Tryz.underlying147
 a46:=Tryz.isAgg147
 z46:=Tryz.sizeOf147
 v46:=Tryz.zeroValue147
 t51:=Tryz.underlying205
 a51:=Tryz.isAgg205
 z51:=Tryz.sizeOf205
 v51:=Tryz.zeroValue205
 t146:=Tryz.underlying206
 a146:=Tryz.isAgg206
 z146:=Tryz.sizeOf206
 v146:=Tryz.zeroValue206
 g1:=by kernel_rfl
 i3:=by kernel_rfl
 i4:=by kernel_rfl
 i5:=by kernel_rfl
 i9:=by kernel_rfl
 i46:=by kernel_rfl
 i51:=by kernel_rfl
 i146:=by kernel_rfl
 m1:=by kernel_rfl
 s1_3:=λw h=>Go.Proofs.cell_of_shapedOpen_int (zero:= #[.int .i64 0]) (t:=3) h (of_decide_eq_true (by kernel_rfl)) (by kernel_rfl) rfl (by kernel_rfl) (by kernel_rfl) Tryz.underlying3}
end Go.Proofs
namespace Go.AM
inductive D where
 |lit (v:Value)
 |sl (l:List (List D))
 |fn (f:FuncId) (caps:List (List D))
inductive C where
 |dead
 |d (x:D)
 |nil
 |ptr (p off:Nat)
 |eptr (p sz i k:Nat)
 |own (p sz len:Nat)
 |sub (p sz off n:Nat)
 |fp (cells:List D)
 |clo (f:FuncId) (caps:List Nat)
inductive W where
 |c (x:C)
 |agg (cs:List C)
inductive V where
 |w (x:W)
 |tup (xs:List W)
inductive Pl where
 |box (cells:List C)
 |arr (sz:Nat) (els:List (List D)) (fz:Bool)
 |fbox (ds:List D)
 |gone
structure S where
 sl:List (Nat×V)
 pl:List (Nat×Pl)
def aget {α:Type}:List (Nat×α) ->Nat ->Option α
 | [],_=>none
 |(k,v)::r,n=>bif Nat.beq k n then some v else aget r n
def yq {α:Type}(n:Nat)(v:α):List (Nat×α) ->List (Nat×α)
 | []=> [(n,v)]
 |(k,u)::r=>bif Nat.beq k n then(n,v)::r else bif Nat.blt n k then(n,v)::(k,u)::r else(k,u)::yq n v r
def isin (n:Nat):List Nat ->Bool
 | []=>false
 |k::r=>bif Nat.beq k n then true else isin n r
def Yx:Value ->C
 | .slice none 0 0=>.nil
 | .bool b=>.d (.lit (.bool b))
 | .int k n=>.d (.lit (.int k n))
 | .string x=>.d (.lit (.string x))
 | .pointer none=>.d (.lit (.pointer none))
 | .map none=>.d (.lit (.map none))
 | .nilFunc=>.d (.lit .nilFunc)
 | .nilIface=>.d (.lit .nilIface)
 |_=>.dead
def ofValue:Value ->W
 | .agg cs=>.agg (cs.toList.map Yx)
 |v=>.c (Yx v)
def apS:V:=.w (.c .dead)
def x9:V:=.tup []
def S.tmp (s:S)(t:Nat):V:=match aget s.sl t with|some v=>v|none=>apS
def S.put (s:S)(dst:Option Tmp)(v:V):S:=
 match dst with
 |some d=>{s with sl:=yq d v s.sl}
 |none=>s
def alM:C ->(C ->Prop) ->Prop
 | .dead,K=>K .dead
 | .d x,K=>K (.d x)
 | .nil,K=>K .nil
 | .ptr p o,K=>K (.ptr p o)
 | .eptr p z i k,K=>K (.eptr p z i k)
 | .own p z n,K=>K (.own p z n)
 | .sub p z o n,K=>K (.sub p z o n)
 | .fp l,K=>K (.fp l)
 | .clo f l,K=>K (.clo f l)
def KO:List C ->(List C ->Prop) ->Prop
 | [],K=>K []
 |x::r,K=>alM x λx=>KO r λr=>K (x::r)
def afM:W ->(W ->Prop) ->Prop
 | .c x,K=>alM x λx=>K (.c x)
 | .agg cs,K=>KO cs λcs=>K (.agg cs)
def acj:List W ->(List W ->Prop) ->Prop
 | [],K=>K []
 |x::r,K=>afM x λx=>acj r λr=>K (x::r)
def afL:V ->(V ->Prop) ->Prop
 | .w x,K=>afM x λx=>K (.w x)
 | .tup xs,K=>acj xs λxs=>K (.tup xs)
def ahH:Pl ->(Pl ->Prop) ->Prop
 | .box cs,K=>KO cs λcs=>K (.box cs)
 | .arr z els true,K=>K (.arr z els true)
 | .arr z els false,K=>K (.arr z els false)
 | .fbox ds,K=>K (.fbox ds)
 | .gone,K=>K .gone
def aci:List (Nat×V) ->(List (Nat×V) ->Prop) ->Prop
 | [],K=>K []
 |(k,v)::r,K=>afL v λv=>aci r λr=>K ((k,v)::r)
def gg:List (Nat×Pl) ->(List (Nat×Pl) ->Prop) ->Prop
 | [],K=>K []
 |(k,v)::r,K=>ahH v λv=>gg r λr=>K ((k,v)::r)
def yZ:S ->(S ->Prop) ->Prop
 |⟨sl,pl⟩,K=>aci sl λsl=>gg pl λpl=>K ⟨sl,pl⟩
theorem aiR (x:C)(K:C ->Prop):alM x K=K x:=by cases x<;>rfl
theorem gf: ∀(x:List C) (K:List C ->Prop),KO x K=K x
 | [],_=>rfl
 |x::r,K=>by simp only[KO,aiR,gf r]
theorem aiT (x:W)(K:W ->Prop):afM x K=K x:=by cases x<;>simp only[afM,aiR,gf]
theorem afN: ∀(x:List W) (K:List W ->Prop),acj x K=K x
 | [],_=>rfl
 |x::r,K=>by simp only[acj,aiT,afN r]
theorem abf (x:V)(K:V ->Prop):afL x K=K x:=by cases x<;>simp only[afL,aiT,afN]
theorem apY (x:Pl)(K:Pl ->Prop):ahH x K=K x:=by
 cases x with
 |box cs=>simp only[ahH,gf]
 |arr z els fz=>cases fz<;>rfl
 |fbox ds=>rfl
 |gone=>rfl
theorem afK: ∀(x:List (Nat×V)) (K:List (Nat×V) ->Prop),aci x K=K x
 | [],_=>rfl
 |(_,_)::r,K=>by simp only[aci,abf,afK r]
theorem adl: ∀(x:List (Nat×Pl)) (K:List (Nat×Pl) ->Prop),gg x K=K x
 | [],_=>rfl
 |(_,_)::r,K=>by simp only[gg,apY,adl r]
theorem yM (s:S)(K:S ->Prop):yZ s K=K s:=by cases s;simp only[yZ,afK,adl]
def aqc:C ->Option Value
 | .d (.lit v)=>some v
 | .nil=>some (.slice none 0 0)
 |_=>none
def akM:List C ->Option (List Value)
 | []=>some []
 |x::r=>match aqc x,akM r with
  |some v,some l=>some (v::l)
  |_,_=>none
def atI:W ->Option Value
 | .c x=>aqc x
 | .agg cs=>match akM cs with
   |some l=>some (.agg l.toArray)
   |none=>none
def al5:V ->Option Value
 | .w x=>atI x
 |_=>none
def kh {α:Type}(P:Program):Sem α ->Option α
 | .pure a=>some a
 | .program k=>kh P (k P)
 | .mark _ k=>kh P k
 |_=>none
def isSome {α:Type}:Option α ->Bool|some _=>true|none=>false
def W.cells:W ->List C
 | .c x=> [x]
 | .agg cs=>cs
def C.isDead:C ->Bool| .dead=>true|_=>false
def solid:List C ->Bool
 | []=>true
 |x::r=>bif x.isDead then false else solid r
def yb {α:Type}(l:List α)(off:Nat)(new:List α):List α:=l.take off++new++l.drop (off+new.length)
def C.kill (l:List Nat):C ->C
 | .ptr q o=>bif isin q l then .dead else .ptr q o
 | .eptr q sz i k=>bif isin q l then .dead else .eptr q sz i k
 | .own q sz n=>bif isin q l then .dead else .own q sz n
 | .sub q sz o n=>bif isin q l then .dead else .sub q sz o n
 | .clo f caps=>bif caps.any (λq=>isin q l)then .dead else .clo f caps
 |x=>x
def W.kill (l:List Nat):W ->W
 | .c x=>.c (x.kill l)
 | .agg cs=>.agg (cs.map (C.kill l))
def V.kill (l:List Nat):V ->V
 | .w x=>.w (x.kill l)
 | .tup xs=>.tup (xs.map (W.kill l))
def Pl.kill (l:List Nat):Pl ->Pl
 | .box cs=>.box (cs.map (C.kill l))
 |x=>x
def xp {α:Type}(f:Nat ->Bool):List (Nat×α) ->List (Nat×α)
 | []=> []
 |(k,v)::r=>bif f k then(k,v)::xp f r else xp f r
def ae6:List (Nat×Pl) ->List (Nat×Pl) ->List (Nat×Pl)
 | [],pl=>pl
 |(k,x)::r,pl=>yq k x (ae6 r pl)
def aha {α β:Type}(f:α ->β):List (Nat×α) ->List (Nat×β)
 | []=> []
 |(k,v)::r=>(k,f v)::aha f r
def S.redo (s:S)(kills:List Nat)(new:List (Nat×Pl)):S:=
 {sl:=aha (V.kill kills) s.sl,pl:=ae6 new (aha (Pl.kill kills) (xp (λk=>!isin k kills) s.pl))}
def S.place (s:S)(p:Nat)(x:Pl):S:=s.redo [p] [(p,x)]
def qJ (pl:List (Nat×Pl))(p:Nat):List (Nat×Pl):=
 match aget pl p with
 |some (.arr sz els _)=>yq p (.arr sz els true) pl
 |_=>pl
def Qi (pl:List (Nat×Pl)):C ->Option (D×List (Nat×Pl))
 | .d x=>some (x,pl)
 | .nil=>some (.sl [],pl)
 | .own p _ n=>match aget pl p with
   |some (.arr _ els _)=>some (.sl (els.take n),qJ pl p)
   |_=>none
 | .clo f []=>some (.fn f [],pl)
 |_=>none
def ua (pl:List (Nat×Pl)):List C ->Option (List D×List (Nat×Pl))
 | []=>some ([],pl)
 |x::r=>match Qi pl x with
  |some (y,pl1)=>match ua pl1 r with
   |some (ys,pl2)=>some (y::ys,pl2)
   |none=>none
  |none=>none
def aqW (pl:List (Nat×Pl)):W ->Option (W×List (Nat×Pl))
 | .c (.fp l)=>some (.c (.fp l),pl)
 | .c x=>match Qi pl x with
   |some (y,pl1)=>some (.c (.d y),pl1)
   |none=>none
 | .agg cs=>match ua pl cs with
   |some (ys,pl1)=>some (.agg (ys.map .d),pl1)
   |none=>none
def gZ (pl:List (Nat×Pl)):List W ->Option (List W×List (Nat×Pl))
 | []=>some ([],pl)
 |x::r=>match aqW pl x with
  |some (y,pl1)=>match gZ pl1 r with
   |some (ys,pl2)=>some (y::ys,pl2)
   |none=>none
  |none=>none
structure Res where
 v:V
 pl:List Pl
def C.scalar:C ->Bool| .d (.lit _)=>true|_=>false
def W.scalar:W ->Bool| .c x=>x.scalar| .agg cs=>cs.all C.scalar
def V.scalar:V ->Bool| .w x=>x.scalar| .tup xs=>xs.all W.scalar
def q0 {α:Type}:List (Option α) ->Nat ->Option α
 | [],_=>none
 |x::_,0=>x
 |_::r,n+1=>q0 r n
def C.ren (l:List (Option Nat)):C ->C
 | .ptr q o=>match q0 l q with|some p=>.ptr p o|none=>.dead
 | .eptr q sz i k=>match q0 l q with|some p=>.eptr p sz i k|none=>.dead
 | .own q sz k=>match q0 l q with|some p=>.own p sz k|none=>.dead
 | .sub _ _ _ _=>.dead
 | .clo f []=>.clo f []
 | .clo _ _=>.dead
 | .d x=>.d x
 | .nil=>.nil
 | .fp l=>.fp l
 | .dead=>.dead
def W.ren (l:List (Option Nat)):W ->W| .c x=>.c (x.ren l)| .agg cs=>.agg (cs.map (C.ren l))
def V.ren (l:List (Option Nat)):V ->V| .w x=>.w (x.ren l)| .tup xs=>.tup (xs.map (W.ren l))
def Pl.ren (l:List (Option Nat)):Pl ->Pl
 | .box cs=>.box (cs.map (C.ren l))
 | .arr z els fz=>.arr z els fz
 | .fbox ds=>.fbox ds
 | .gone=>.gone
def ji:Nat ->List Pl ->List (Nat×Pl)
 |_,[]=> []
 |n,x::r=>(n,x)::ji (n+1) r
def uq:List (Nat×Pl) ->List Nat
 | []=> []
 |(k,_)::r=>k::uq r
def yS (d:Nat):Nat:=600000+16*d
def zO:Nat ->Nat ->List Nat
 |_,0=> []
 |i,n+1=>i::zO (i+1) n
def Zy:List Nat ->List Pl ->List (Option Nat)
 |n::ns,.gone::xs=>none::Zy ns xs
 |n::ns,_::xs=>some n::Zy ns xs
 |_,_=> []
def yE:List Nat ->List Pl ->List (Nat×Pl)
 |_::ns,.gone::xs=>yE ns xs
 |n::ns,x::xs=>(n,x)::yE ns xs
 |_,_=> []
def Q0:Nat ->List Nat ->List Pl ->List Nat
 |m+1,n::ns,.gone::xs=>n::Q0 m ns xs
 |m+1,_::ns,_::xs=>Q0 m ns xs
 |0,n::ns,_::xs=>n::Q0 0 ns xs
 |_,_,_=> []
def vH:List Nat ->Bool
 | []=>true
 |x::r=>!isin x r&&vH r
def acv (s:S)(U:List Nat)(nb:Nat)(dst:Option Tmp)(r:Res):S:=
 (s.redo (Q0 U.length (U++zO nb (r.pl.length - U.length)) r.pl)
  (yE (U++zO nb (r.pl.length - U.length)) (r.pl.map (Pl.ren (Zy (U++zO nb (r.pl.length - U.length)) r.pl))))).put dst
  (r.v.ren (Zy (U++zO nb (r.pl.length - U.length)) r.pl))
def VS (U:List Nat)(nb:Nat)(r:Res):Bool:=vH (uq (yE (U++zO nb (r.pl.length - U.length)) r.pl))
def aqr (s s1:S)(dst:Option Tmp)(r:Res):S:=
 match dst with
 |some d=>bif r.v.scalar then s.put (some d) r.v
  else acv s1 [] (yS d) (some d) r
 |none=>s
def idx (p:Nat):List Nat ->Option Nat
 | []=>none
 |k::r=>bif Nat.beq k p then some 0 else match idx p r with|some i=>some (i+1)|none=>none
def C.pk (pl:List (Nat×Pl))(U:List Nat):C ->C
 | .own p z n=>match aget pl p with
   |some (.arr _ _ false)=>match idx p U with|some k=>.own k z n|none=>.dead
   |some (.arr _ els true)=>.d (.sl (els.take n))
   |_=>.dead
 | .ptr p o=>match aget pl p with
   |some (.box _)=>match idx p U with|some k=>.ptr k o|none=>.dead
   |some (.fbox ds)=>.fp (ds.drop o)
   |_=>.dead
 | .d x=>.d x
 | .nil=>.nil
 | .clo f []=>.d (.fn f [])
 | .fp l=>.fp l
 |_=>.dead
def W.pk (pl:List (Nat×Pl))(U:List Nat):W ->W| .c x=>.c (x.pk pl U)| .agg cs=>.agg (cs.map (C.pk pl U))
def V.pk (pl:List (Nat×Pl))(U:List Nat):V ->V| .w x=>.w (x.pk pl U)| .tup xs=>.tup (xs.map (W.pk pl U))
def Ke (pl:List (Nat×Pl))(U:List Nat)(k p:Nat):Pl:=
 match idx p U with
 |some i=>bif Nat.beq i k then
  match aget pl p with
  |some (.box cs)=>.box (cs.map (C.pk pl U))
  |some (.arr z els false)=>.arr z els false
  |_=>.gone
  else .gone
 |none=>.gone
def uO (pl:List (Nat×Pl))(U:List Nat):Nat ->List Nat ->List Pl
 |_,[]=> []
 |k,p::r=>Ke pl U k p::uO pl U (k+1) r
def C.refs:C ->List Nat
 | .ptr p _=> [p]
 | .eptr p _ _ _=> [p]
 | .own p _ _=> [p]
 | .sub p _ _ _=> [p]
 | .clo _ ps=>ps
 |_=> []
def ki:List C ->List Nat
 | []=> []
 |x::r=>x.refs++ki r
def W.refs:W ->List Nat
 | .c x=>x.refs
 | .agg cs=>ki cs
def ZC:List W ->List Nat
 | []=> []
 |x::r=>x.refs++ZC r
def V.refs:V ->List Nat
 | .w x=>x.refs
 | .tup xs=>ZC xs
def qg (pl:List (Nat×Pl)):List Nat ->List Nat ->List Nat
 |U,[]=>U
 |U,p::r=>match aget pl p with
  |some (.box _)=>bif isin p U then qg pl U r else qg pl (U++[p]) r
  |some (.arr _ _ false)=>bif isin p U then qg pl U r else qg pl (U++[p]) r
  |_=>qg pl U r
def at?:List Nat ->Nat ->Option Nat
 | [],_=>none
 |x::_,0=>some x
 |_::r,n+1=>at? r n
def VI (pl:List (Nat×Pl)):Nat ->Nat ->List Nat ->List Nat
 |0,_,U=>U
 |n+1,i,U=>match at? U i with
  |some p=>match aget pl p with
   |some (.box cs)=>VI pl n (i+1) (qg pl U (ki cs))
   |_=>VI pl n (i+1) U
  |none=>U
def vz (pl:List (Nat×Pl))(U l:List Nat):List Nat:=VI pl 40 0 (qg pl U l)
def awx (pl:List (Nat×Pl))(U:List Nat)(v:V):Res:=⟨v.pk pl U,uO pl U 0 U⟩
def auT (pl:List (Nat×Pl))(U:List Nat)(v:V):Res:=awx pl (vz pl U v.refs) v
end Go.AM
namespace Go.AM
mutual
def RD (w:World)(ok:Nat ->Prop):D ->Value ->Prop
 | .lit v,x=>x=v /\v.oneCell'=true
 | .sl l,x=> ∃a n c,x= .slice a n c /\n=l.length /\n<=c /\c<=maxLen /\(l=[]\/ ∃b o sz,a=some ⟨b,o,none⟩/\ok b /\RDs w ok b sz o l)
 | .fn f caps,x=> ∃vs:List Value,x= .func (.func f) #[] vs.toArray /\RDf w ok vs caps
def RDs (w:World)(ok:Nat ->Prop)(b sz:Nat):Nat ->List (List D) ->Prop
 |_,[]=>True
 |o,e::r=>e.length=sz /\RDc w ok b o e /\RDs w ok b sz (o+sz) r
def RDc (w:World)(ok:Nat ->Prop)(b:Nat):Nat ->List D ->Prop
 |_,[]=>True
 |o,d::r=>(∃v,w.cell? ⟨b,o,none⟩=some v /\RD w ok d v)/\RDc w ok b (o+1) r
def RDf (w:World)(ok:Nat ->Prop):List Value ->List (List D) ->Prop
 |vs,[]=>vs=[]
 |vs,c::r=> ∃b o vs',vs= .pointer (some ⟨b,o,none⟩)::vs' /\ok b /\RDc w ok b o c /\RDf w ok vs' r
end
structure Gh where
 b:Option Nat
 n:Nat
def CR (ι:Nat ->Gh)(w:World)(ok:Nat ->Prop):C ->Value ->Prop
 | .dead,_=>True
 | .d x,v=>RD w ok x v
 | .nil,v=>v= .slice none 0 0
 | .ptr p off,v=> ∃b,(ι p).b=some b /\v= .pointer (some ⟨b,off,none⟩)
 | .eptr p sz i k,v=> ∃b,(ι p).b=some b /\v= .pointer (some ⟨b,i*sz+k,none⟩)
 | .own p sz n,v=>((ι p).b=none /\n=0 /\v= .slice none 0 0)\/
  ∃b cap t,(ι p).b=some b /\n<=(ι p).n /\v= .slice (some ⟨b,0,none⟩) n cap /\n<=cap /\cap<=maxLen /\w.shape? b=some (t,cap*sz)
 | .sub p sz off n,v=> ∃ad c,v= .slice ad n c /\n<=c /\c<=maxLen /\(n=0\/ ∃b,(ι p).b=some b /\ad=some ⟨b,off*sz,none⟩/\off+n<=(ι p).n)
 | .fp cells,v=> ∃b o,v= .pointer (some ⟨b,o,none⟩)/\ok b /\RDc w ok b o cells
 | .clo f caps,v=> ∃bs:List Nat,caps.map (λp=>(ι p).b)=bs.map some /\v= .func (.func f) #[] (bs.map λb=>Value.pointer (some ⟨b,0,none⟩)).toArray
def CRs (ι:Nat ->Gh)(w:World)(ok:Nat ->Prop):List C ->List Value ->Prop
 | [],[]=>True
 |c::cs,v::vs=>CR ι w ok c v /\CRs ι w ok cs vs
 |_,_=>False
def WR (ι:Nat ->Gh)(w:World)(ok:Nat ->Prop):W ->Value ->Prop
 | .c x,v=>CR ι w ok x v
 | .agg cs,v=> ∃vs:List Value,v= .agg vs.toArray /\CRs ι w ok cs vs
def xW (ι:Nat ->Gh)(w:World)(ok:Nat ->Prop):List W ->List Value ->Prop
 | [],[]=>True
 |c::cs,v::vs=>WR ι w ok c v /\xW ι w ok cs vs
 |_,_=>False
def VR (ι:Nat ->Gh)(w:World)(ok:Nat ->Prop):V ->Value ->Prop
 | .w x,v=>WR ι w ok x v
 | .tup xs,v=> ∃vs:List Value,v= .tuple vs.toArray /\xW ι w ok xs vs
def RowAt (w:World)(b:Nat)(cur:Array Value):Prop:= ∃t,w.heap[b]? =some (.cells cur t (0,0))
def PR (ι:Nat ->Gh)(w:World)(ok:Nat ->Prop)(p:Nat):Pl ->Prop
 | .box cs=> ∃b cur,(ι p).b=some b /\RowAt w b cur /\CRs ι w ok cs cur.toList
 | .arr sz els fz=>0<sz /\els.length=(ι p).n /\(((ι p).b=none /\els=[])\/
  ∃b,(ι p).b=some b /\RDs w ok b sz 0 els /\(fz=true ->ok b)/\(fz=false -> ∃cur,RowAt w b cur /\els.length*sz<=cur.size))
 | .fbox ds=> ∃b,(ι p).b=some b /\ok b /\RDc w ok b 0 ds
 | .gone=>False
def Pl.live:Pl ->Bool
 | .box _=>true
 | .arr _ _ fz=>!fz
 | .fbox _=>false
 | .gone=>false
def Owns (ι:Nat ->Gh)(pl:List (Nat×Pl))(b:Nat):Prop:= ∃p x,aget pl p=some x /\x.live=true /\(ι p).b=some b
structure Fr where
 w0:World
 A:Nat ->Prop
 M:Nat ->Prop
 h:Nat ->Option Gh
def Fr.ok (F:Fr)(ι:Nat ->Gh)(pl:List (Nat×Pl))(w:World)(b:Nat):Prop:=
 (F.A b\/F.M b\/F.w0.heap.size<=b)/\b<w.heap.size /\ ¬Owns ι pl b
def Out (w w':World):Prop:=w'.output=w.output /\w.drawn<=w'.drawn
theorem Out.refl (w:World):Out w w:=⟨rfl,Nat.le_refl _⟩
theorem Out.trans {a b c:World}(k:Out b c)(h:Out a b):Out a c:=⟨k.1.trans h.1,Nat.le_trans h.2 k.2⟩
structure Grows (M:Nat ->Prop)(w w':World):Prop where
 os:w'.os=w.os
 tape:w'.tape=w.tape
 output:Out w w'
 size:w.heap.size<=w'.heap.size
 block: ∀b,b<w.heap.size -> ¬M b ->w'.heap[b]? =w.heap[b]?
 shapes: ∀b t m,w.shape? b=some (t,m) ->w'.shape? b=some (t,m)
def gl (k:Nat):Bool:=Nat.blt k 1
def Glb (A:Nat ->Prop)(w:World):Prop:= ∀k,gl k=true ->A k /\ ∃m,w.cell? ⟨k,0,none⟩=some (.int .i64 m)
structure Rel (F:Fr)(N:Nat)(ι:Nat ->Gh)(s:S)(a:Act)(w:World):Prop where
 room:N<=a.tmps.size
 slots: ∀k v,aget s.sl k=some v -> ∃x,a.tmps[k]? =some x /\VR ι w (F.ok ι s.pl w) v x
 places: ∀p x,aget s.pl p=some x ->PR ι w (F.ok ι s.pl w) p x
 inj: ∀p q x y b,aget s.pl p=some x ->aget s.pl q=some y ->p≠q ->x.live=true ->(ι p).b=some b ->(ι q).b≠some b
 mine: ∀b,Owns ι s.pl b ->(F.M b\/F.w0.heap.size<=b)/\b<w.heap.size
 defers:a.defers=[]
 grows:Grows F.M F.w0 w
 foreign: ∀b,F.A b ->b<F.w0.heap.size /\ ¬F.M b
 handed:(∀b,F.M b ->b<F.w0.heap.size)/\Glb F.A F.w0
 few:N<=5000
 hdom: ∀p g,F.h p=some g ->100000<=p /\p<600000
 hkeep: ∀p x g,aget s.pl p=some x ->F.h p=some g ->ι p=g
def QH (s t:S):Prop:= ∀(F:Fr) (N:Nat) (ι:Nat ->Gh) (a:Act) (w:World),Rel F N ι s a w -> ∃ι',Rel F N ι' t a w
theorem QH.refl (s:S):QH s s:=λ_ _ ι _ _ h=>⟨ι,h⟩
theorem QH.trans {s t u:S}(h:QH s t)(k:QH t u):QH s u:=λF N ι a w hr=>let⟨ι1,h1⟩:=h F N ι a w hr;k F N ι1 a w h1
def akX (F:Fr)(ι0:Nat ->Gh)(m:Nat)(w':World)(r:Res)(v:Value):Prop:=
 m<=r.pl.length /\ ∃ι:Nat ->Gh,
  let pl:=yE (zO 0 r.pl.length) r.pl
  let ok:=F.ok ι pl w'
  VR ι w' ok r.v v /\(∀p x,aget pl p=some x ->PR ι w' ok p x)/\(∀p q x y b,aget pl p=some x ->aget pl q=some y ->p≠q ->(ι p).b=some b ->(ι q).b≠some b)/\
  (∀p x b,aget pl p=some x ->(ι p).b=some b ->F.M b\/F.w0.heap.size<=b)/\(∀p x,aget pl p=some x ->x.live=true)/\(∀p x,p<m ->aget pl p=some x ->ι p=ι0 p)
def adH (F:Fr)(w':World)(r:Res)(v:Value):Prop:=akX F (λ_=>⟨none,0⟩) 0 w' r v
def qc (P:Program)(k:Nat):Bool:=
 match P.funcs[k]? with
 |some fn=>fn.body.isSome&& !(fn.name== "runtime.NumGoroutine")
 |none=>false
def Sat (P:Program)(k:Nat)(args:List W)(Q:Res ->Prop):Prop:=
 qc P k=true /\ ∀(w:World) (A:Nat ->Prop) (vals:List Value),((∀b,A b ->b<w.heap.size)/\Glb A w) ->xW (λ_=>⟨none,0⟩) w A args vals ->
  Calls P k vals.toArray w λe w'=> ∃v r,e= .returned v /\Q r /\adH ⟨w,A,λ_=>False,λ_=>none⟩ w' r v /\Grows (λ_=>False) w w'
theorem Sat.mono {P:Program}{k:Nat}{args:List W}{Q Q':Res ->Prop}(h:Sat P k args Q)(hq: ∀r,Q r ->Q' r):Sat P k args Q':=
 ⟨h.1,λw A vals h1 h2=>(h.2 w A vals h1 h2).mono λ_ _ ⟨v,r,he,h3,h4⟩=>⟨v,r,he,hq r h3,h4⟩⟩
def Xy (ι:Nat ->Gh)(hs:List Pl)(b:Nat):Prop:= ∃i x,hs[i]? =some x /\(ι i).b=some b
def zu (P:Program)(k:Nat)(args:List W)(hs:List Pl)(Q:Res ->Prop):Prop:=
 qc P k=true /\ ∀(w:World) (A:Nat ->Prop) (ι:Nat ->Gh) (vals:List Value),(∀b,A b ->b<w.heap.size /\ ¬Xy ι hs b) ->((∀b,Xy ι hs b ->b<w.heap.size)/\Glb A w) ->
  (∀i x,hs[i]? =some x ->PR ι w A i x /\x.live=true) ->(∀i j x y b,hs[i]? =some x ->hs[j]? =some y ->i≠j ->(ι i).b=some b ->(ι j).b≠some b) ->xW ι w A args vals ->
  Calls P k vals.toArray w λe w'=> ∃v r,e= .returned v /\Q r /\akX ⟨w,A,Xy ι hs,λ_=>none⟩ ι hs.length w' r v /\Grows (Xy ι hs) w w'
theorem zu.mono {P:Program}{k:Nat}{args:List W}{hs:List Pl}{Q Q':Res ->Prop}(h:zu P k args hs Q)(hq: ∀r,Q r ->Q' r):zu P k args hs Q':=
 ⟨h.1,λw A ι vals h1 h2 h3 h4 h5=>(h.2 w A ι vals h1 h2 h3 h4 h5).mono λ_ _ ⟨v,r,he,h6,h7⟩=>⟨v,r,he,hq r h6,h7⟩⟩
end Go.AM
namespace Go.AM
inductive O where
 |t (n:Nat)
 |k (v:V)
inductive AOp where
 |mov (x:O)
 |pick (c a b:O)
 |alloc (cs:List C)
 |bx (x:O)
 |build (zero:List C) (parts:List (Nat×Nat×O))
 |lits (sz:Nat) (parts:List O)
 |ld (agg:Bool) (sz:Nat) (x:O)
 |st (sz:Nat) (a x:O)
 |nc (x:O)
 |b2s (x:O)
 |s2b (x:O)
 |clo (f:Nat) (caps:List O)
 |clof (f:Nat) (caps:List O)
 |slen (x:O)
 |cap (x:O)
 |cpy (sz:Nat) (x y:O)
 |clr (sz:Nat) (z:List D) (x:O)
 |slw (sz:Nat) (x:O) (lo hi:Option O)
 |bnot (x:O)
 |ineg (x:O)
 |beq (neg:Bool) (x y:O)
 |shf (left:Bool) (x y:O)
 |stop
 |conv (k:IntKind) (x:O)
 |eqa (neg:Bool) (ks:List Nat) (x y:O)
 |callh (f:Nat) (args:List O)
 |mk (sz bytes:Nat) (z:List D) (n c:O)
 |sli (sz:Nat) (x:O) (lo hi:Option O)
 |sls (x:O) (lo hi:Option O)
 |fa (off:Nat) (x:O)
 |fld (agg:Bool) (sz off:Nat) (x:O)
 |ia (sz:Nat) (x i:O)
 |six (x i:O)
 |ext (x:O) (i:Nat)
 |len (x:O)
 |app (sz bytes:Nat) (x y:O)
 |apps (x y:O)
 |appz (sz bytes:Nat) (z:List D) (x n:O)
 |bin (o:BinOp) (x y:O)
 |isn (neg:Bool) (x:O)
 |mm (mx:Bool) (x y:O)
 |pure (o:Op) (ty:TypeId)
 |call (f:Nat) (args:List O)
 |calv (x:O) (args:List O)
inductive AI where
 |mk (dst:Option Nat) (g:Option (Nat×Bool)) (isG:Bool) (op:AOp) (drop:List Nat)
inductive ATr where
 |fin
 |run (ops:List AI) (t:ATr)
 |br (a b:ATr)
inductive ACode where
 |skip
 |reg (ops:List AI)
 |seq (a b:ACode)
 |cond (c:O) (a b:ACode)
 |block (id:Nat) (a:ACode)
 |loop (keep:List Nat) (a:ACode)
 |scope (a:ACode)
 |exit (id:Nat)
 |ret
 |tree (t:ATr)
inductive ARes where
 |tmp (t:Nat)
 |cell (a:Nat) (agg:Bool) (sz:Nat)
structure AFun where
 code:ACode
 res:List ARes
def zE (P:Program)(t:TypeId):Nat:=match P.info? t with|some i=>i.size|none=>0
def vN (P:Program)(t:TypeId):Nat:=match P.info? t with|some i=>i.bytes|none=>0
def Km (P:Program)(t:TypeId):Option Bool:=match P.underlying t with|some (.struct _)=>some true|some (.array _ _)=>some true|some _=>some false|none=>none
def qQ (P:Program)(t:TypeId):W:=match P.info? t with|some i=>(match i.zero with|some v=>ofValue v|none=>.c .dead)|none=>.c .dead
def wT (P:Program)(t:TypeId):Option TypeId:=match P.underlying t with|some (.slice e)=>some e|_=>none
def UM (P:Program)(t:TypeId)(f:Nat):Option (Nat×TypeId):=
 match P.underlying t with
 |some (.struct fs)=>match fs[f]? with|some x=>some (x.offset,x.type)|none=>none
 |_=>none
def xY (P:Program)(t:TypeId)(s:Bool):Bool:=
 match P.underlying t with
 |some .string=>s
 |some (.slice e)=>match P.underlying e with|some (.int .u8)=>!s|_=>false
 |_=>false
def afR (P:Program):List Field ->Bool
 | []=>true
 |f::r=>bif isSome (P.info? f.type)then afR P r else false
def ahI (P:Program)(t:TypeId):Bool:=match P.info? t with|some i=>isSome i.zero|none=>false
def vQ (P:Program)(t:TypeId):Bool:=match P.info? t with|some i=>(match i.zero with|some z=>Nat.beq z.cells.size i.size|none=>false)|none=>false
def ahL (P:Program)(t:TypeId):Bool:=
 match P.underlying t with
 |some (.int _)=>true
 |some .string=>true
 |_=>false
def aeI:BinOp ->Bool
 | .quo=>true| .rem=>true| .and=>true| .or=>true| .xor=>true| .andNot=>true
 | .add=>true| .sub=>true| .mul=>true| .eql=>true| .neq=>true| .lss=>true| .leq=>true| .gtr=>true| .geq=>true
 |_=>false
def abz (P:Program)(b:BinOp)(t:TypeId)(y:Operand):Option Bool:=
 match y with
 | .const (.slice none _ _)=>match P.underlying t with
   |some (.slice _)=>match b with
    | .eql=>some false
    | .neq=>some true
    |_=>none
   |_=>none
 |_=>none
def cO:Operand ->O
 | .tmp t=>.t t
 | .const v=>.k (.w (ofValue v))
 | .global _=>.k apS
 | .func f=>.k (.w (.c (.clo f [])))
def afJ (P:Program)(t:TypeId):Option Nat:=
 match P.underlying t with
 |some (.int _)=>some 0
 |some .string=>some 1
 |some .bool=>some 2
 |_=>none
def ach (P:Program):Nat ->List Field ->Option (List Nat)
 |_,[]=>some []
 |o,f::r=>bif Nat.beq f.offset o&& !(f.name== "_")&&P.plainKey f.type then
  match afJ P f.type,ach P (o+1) r with
  |some k,some l=>some (k::l)
  |_,_=>none
  else none
def auR (P:Program)(t:TypeId):Option (List Nat):=
 match P.underlying t with
 |some (.struct fs)=>bif !P.stoodInHeld t&& !P.eqGuardType P.depth t then ach P 0 fs.toList else none
 |_=>none
def Jh (P:Program)(b:BinOp)(t:TypeId)(x y:Operand):Option AOp:=
 match auR P t with
 |some n=>match b with
  | .eql=>some (.eqa false n (cO x) (cO y))
  | .neq=>some (.eqa true n (cO x) (cO y))
  |_=>none
 |none=>none
def JK (P:Program)(b:UnOp)(t:TypeId)(x:Operand):Option AOp:=
 match b with
 | .not=>some (.bnot (cO x))
 | .neg=>match P.underlying t with|some (.int _)=>some (.ineg (cO x))|_=>none
 |_=>none
def U7 (P:Program)(b:BinOp)(t:TypeId)(x y:Operand):Option AOp:=
 match b with
 | .eql=>match P.underlying t with|some .bool=>some (.beq false (cO x) (cO y))|_=>none
 | .neq=>match P.underlying t with|some .bool=>some (.beq true (cO x) (cO y))|_=>none
 | .shl=>match P.underlying t with|some (.int _)=>some (.shf true (cO x) (cO y))|_=>none
 | .shr=>match P.underlying t with|some (.int _)=>some (.shf false (cO x) (cO y))|_=>none
 |_=>none
def Wx (P:Program)(src dst:TypeId)(x:Operand):Option AOp:=
 match P.underlying src with
 |some (.int _)=>match P.underlying dst with
  |some (.int k)=>some (.conv k (cO x))
  |_=>none
 |_=>none
def Jq (P:Program)(t:TypeId)(x:Operand):Option AOp:=
 match P.underlying t with
 |some .string=>some (.slen (cO x))
 |_=>none
def WJ {α:Type}(c:Bool)(x:α):Option α:=bif c then some x else none
def aaQ (P:Program)(t:TypeId):List (Nat×Operand) ->Option (List (Nat×Nat×O))
 | []=>some []
 |(i,x)::r=>match UM P t i,aaQ P t r with
  |some (off,ft),some l=>some ((off,zE P ft,cO x)::l)
  |_,_=>none
def KR:Nat ->List (Nat×Operand) ->Bool
 |_,[]=>true
 |i,(j,_)::r=>Nat.beq i j&&KR (i+1) r
def abt (b:Builtin)(l:List Operand):Option AOp:=
 match b with
 | .min=>match l with| [x,y]=>some (.mm false (cO x) (cO y))|_=>none
 | .max=>match l with| [x,y]=>some (.mm true (cO x) (cO y))|_=>none
 |_=>none
def Vr (P:Program)(b:Builtin)(l:List Operand)(ts:List TypeId):Option AOp:=
 match b with
 | .cap=>match l,ts with
   | [x],[t]=>match wT P t with
     |some _=>some (.cap (cO x))
     |none=>none
   |_,_=>none
 | .copy=>match l,ts with
   | [x,y],[t,u]=>match wT P t,P.underlying u with
     |some e,some (.slice _)=>WJ (Nat.blt 0 (zE P e)&&vQ P e) (.cpy (zE P e) (cO x) (cO y))
     |_,_=>none
   |_,_=>none
 | .clear=>match l,ts with
   | [x],[t]=>match wT P t with
     |some e=>match ua [] (qQ P e).cells with
      |some (z,_)=>WJ (Nat.blt 0 (zE P e)&&Nat.beq z.length (zE P e)&&vQ P e) (.clr (zE P e) z (cO x))
      |none=>none
     |none=>none
   |_,_=>none
 |_=>none
def cOp (P:Program)(op:Op)(ty:TypeId):Option AOp:=
 match op with
 | .move x=>some (.mov (cO x))
 | .assign x=>some (.mov (cO x))
 | .pick c a b=>some (.pick (cO c) (cO a) (cO b))
 | .alloc t=>some (.alloc (qQ P t).cells)
 | .box _ x=>some (.bx (cO x))
 | .build t parts=>match P.underlying t,aaQ P t parts.toList with
   |some (.struct fs),some l=>WJ (afR P fs.toList&&solid (qQ P t).cells) (.build (qQ P t).cells l)
   |_,_=>none
 | .buildSlice t n parts=>match wT P t with
   |some e=>WJ (Nat.blt 0 (zE P e)&&Nat.beq n parts.toList.length&&Nat.ble (n*zE P e) 16777216&&KR 0 parts.toList&&ahI P e) (.lits (zE P e) (parts.toList.map λx=>cO x.2))
   |none=>none
 | .load t a=>match Km P t with|some g=>some (.ld g (zE P t) (cO a))|none=>none
 | .store t a x=>WJ (isSome (P.info? t)) (.st (zE P t) (cO a) (cO x))
 | .nilCheck x=>some (.nc (cO x))
 | .convert src dst x=>bif xY P src false&&xY P dst true then some (.b2s (cO x))else bif xY P src true&&xY P dst false then some (.s2b (cO x))else match Wx P src dst x with
   |some z=>some z
   |none=>some (.pure op ty)
 | .makeFunc (.func f) first caps=>WJ first.toList.isEmpty (.clo f (caps.toList.map cO))
 | .makeSlice t n c=>match wT P t with
   |some e=>match ua [] (qQ P e).cells with
    |some (z,_)=>WJ (Nat.blt 0 (zE P e)&&Nat.beq z.length (zE P e)) (.mk (zE P e) (vN P e) z (cO n) (cO c))
    |none=>none
   |none=>none
 | .slice t x lo hi mx=>match mx,P.underlying t with
   |none,some .string=>some (.sls (cO x) (lo.map cO) (hi.map cO))
   |none,some (.slice e)=>WJ (isSome (P.info? e)) (.sli (zE P e) (cO x) (lo.map cO) (hi.map cO))
   |_,_=>none
 | .fieldAddr t x f=>match UM P t f with
   |some (off,ft)=>WJ (Nat.blt 0 (zE P ft)) (.fa off (cO x))
   |none=>none
 | .field t x f=>match UM P t f with
   |some (off,ft)=>match Km P ft with|some g=>some (.fld g (zE P ft) off (cO x))|none=>none
   |none=>none
 | .indexAddr t x i=>match wT P t with
   |some e=>WJ (Nat.blt 0 (zE P e)) (.ia (zE P e) (cO x) (cO i))
   |none=>none
 | .index t x i=>match P.underlying t with
   |some .string=>some (.six (cO x) (cO i))
   |_=>none
 | .extract x i=>some (.ext (cO x) i)
 | .call {callee:=.builtin .len,args,argTypes}=>match args.toList,argTypes.toList with
   | [x],[t]=>match wT P t with
     |some _=>some (.len (cO x))
     |none=>match Jq P t x with
      |some z=>some z
      |none=>some (.pure op ty)
   |_,_=>none
 | .call {callee:=.builtin .append,args,argTypes}=>match args.toList,argTypes.toList with
   | [x,y],[t,u]=>match wT P t,P.underlying u with
     |some e,some (.slice _)=>WJ (Nat.blt 0 (zE P e)&&vQ P e) (.app (zE P e) (vN P e) (cO x) (cO y))
     |some e,some (.int _)=>match ua [] (qQ P e).cells with
      |some (z,_)=>WJ (Nat.blt 0 (zE P e)&&Nat.beq z.length (zE P e)&&vQ P e) (.appz (zE P e) (vN P e) z (cO x) (cO y))
      |none=>none
     |some e,some .string=>WJ (Nat.beq (zE P e) 1&&Nat.beq (vN P e) 1&&vQ P e) (.apps (cO x) (cO y))
     |_,_=>none
   |_,_=>none
 | .call {callee:=.value (.func f),args,argTypes:=_}=>some (.call f (args.toList.map cO))
 | .call {callee:=.value x,args,argTypes:=_}=>some (.calv (cO x) (args.toList.map cO))
 | .call {callee:=.builtin b,args,argTypes}=>match abt b args.toList with
   |some x=>some x
   |none=>match Vr P b args.toList argTypes.toList with
    |some x=>some x
    |none=>some (.pure op ty)
 | .binOp b t x y _=>match abz P b t y with
   |some neg=>some (.isn neg (cO x))
   |none=>match Jh P b t x y with
    |some z=>some z
    |none=>match U7 P b t x y with
    |some z=>some z
    |none=>bif aeI b&&ahL P t then some (.bin b (cO x) (cO y))else some (.pure op ty)
 | .unOp b t x=>match JK P b t x with
   |some z=>some z
   |none=>some (.pure op ty)
 | .select _ _=>none
 |_=>some .stop
def ZR:List Oper ->List Nat
 | []=> []
 |o::r=>match o.guard with
  |some (j,_)=>bif isin j (ZR r)then ZR r else j::ZR r
  |none=>ZR r
def akK (ops:List Oper)(j:Nat):Option Tmp:=match ops[j]? with|some o=>o.dst|none=>none
def Yn (all:List Oper)(g:Option (Nat×Bool)):Option (Option (Nat×Bool)):=
 match g with
 |none=>some none
 |some (j,w)=>match akK all j with
  |some d=>some (some (d,w))
  |none=>none
def akL (N:Nat):Option Tmp ->Bool
 |some d=>Nat.blt d N
 |none=>true
def awe (P:Program)(op:Op)(ty:TypeId):Option AOp:=
 match op with
 | .makeFunc (.func f) first caps=>WJ first.toList.isEmpty (.clof f (caps.toList.map cO))
 | .call {callee:=.value (.func f),args,argTypes:=_}=>some (.callh f (args.toList.map cO))
 | .slice t x lo hi none=>match P.underlying t with
   |some (.slice e)=>WJ (isSome (P.info? e)) (.slw (zE P e) (cO x) (lo.map cO) (hi.map cO))
   |_=>cOp P op ty
 |op=>cOp P op ty
def XG (P:Program)(b:Bool)(op:Op)(ty:TypeId):Option AOp:=bif b then awe P op ty else cOp P op ty
def Z4 (P:Program)(N:Nat)(hs:List Nat)(all:List Oper)(gs:List Nat):List Nat ->Option (List AI)
 | []=>some []
 |i::r=>match all[i]? with
  |some o=>bif akL N o.dst then
   match XG P (isin i hs) o.op o.type,Yn all o.guard,Z4 P N hs all gs r with
   |some x,some g,some l=>some (.mk o.dst g (isin i gs) x []::l)
   |_,_,_=>none
   else none
  |none=>none
def AOp.quiet:AOp ->Bool
 | .mov _=>true| .pick _ _ _=>true| .ld _ _ _=>true| .nc _=>true| .b2s _=>true| .sli _ _ _ _=>true| .sls _ _ _=>true| .fa _ _=>true| .fld _ _ _ _=>true
 | .ia _ _ _=>true| .six _ _=>true| .ext _ _=>true| .len _=>true| .bin _ _ _=>true| .pure _ _=>true| .build _ _=>true| .isn _ _=>true| .mm _ _ _=>true
 | .slen _=>true| .bnot _=>true| .ineg _=>true| .beq _ _ _=>true| .shf _ _ _=>true| .conv _ _=>true| .eqa _ _ _ _=>true
 |_=>false
def AOp.reads:AOp ->Bool
 | .ld _ _ _=>true| .b2s _=>true
 |_=>false
def un:AOp ->Bool
 | .call _ _=>true| .calv _ _=>true| .bx _=>true| .lits _ _=>true| .mk _ _ _ _ _=>true| .s2b _=>true
 |_=>false
def Xe (o:Oper):AOp ->Bool
 | .alloc cs=>solid cs&& !isSome o.guard&&isSome o.dst
 |_=>false
def Un (P:Program)(o:Oper):Nat:=
 match cOp P o.op o.type with
 |some x=>bif x.quiet then(bif x.reads then 2 else 1)else bif un x then 3 else bif Xe o x then 4 else 0
 |none=>0
def clsAt (P:Program)(hs:List Nat)(ops:Array Oper)(j:Nat):Nat:=bif isin j hs then 0 else match ops[j]? with|some o=>bif Nat.beq (Un P o) 4&&isin 999999 hs then 3 else Un P o|none=>0
def ahb {α:Type}(f:α ->Bool):List α ->Bool| []=>false|x::r=>bif f x then true else ahb f r
def jc {α:Type}(f:α ->Bool):List α ->Bool| []=>true|x::r=>bif f x then jc f r else false
def aqJ (ops:Array Oper)(d:Option Tmp)(o:Oper):Bool:=
 match d with
 |some t=>!isin t (o.looksAt ops)&&(match o.dst with|some e=>!Nat.beq e t|none=>true)
 |none=>true
def ak7 (ops:Array Oper)(x y:Oper):Bool:=aqJ ops x.dst y&&(match y.dst with|some e=>!isin e (x.looksAt ops)|none=>true)
def waitsFor (ops:Array Oper)(j:Nat)(f:Nat ->Bool):Bool:=match ops[j]? with|some o=>ahb (λe=>Region.binds .any e&&f e.on) o.after.toList|none=>true
def dstOf (ops:Array Oper)(j:Nat):Option Tmp:=match ops[j]? with|some o=>o.dst|none=>none
def aoz (P:Program)(hs:List Nat)(ops:Array Oper)(o:Oper)(c j:Nat):Bool:=match ops[j]? with|some y=>ak7 ops o y&&(Nat.beq c 1||Nat.ble 1 (clsAt P hs ops j))|none=>false
def depsL (P:Program)(hs:List Nat)(ops:Array Oper)(i:Nat):List Nat ->List Nat ->List Nat
 | [],T=>T
 |j::r,T=>depsL P hs ops i r (bif !Nat.beq (clsAt P hs ops j) 4&&waitsFor ops j (λn=>Nat.beq n i||isin n T)then j::T else T)
def VC (P:Program)(hs:List Nat)(ops:Array Oper)(i:Nat)(r:List Nat):Bool:=
 match ops[i]? with
 |none=>false
 |some o=>
  !isin i r&&jc (λe=>!Region.binds .any e||(Nat.blt e.on ops.size&& !isin e.on (i::r))) o.after.toList&&
  jc (λj=>!Nat.beq (clsAt P hs ops j) 4||aqJ ops (dstOf ops j) o) r&&
  (bif Nat.beq (clsAt P hs ops i) 1||Nat.beq (clsAt P hs ops i) 2 then jc (λj=>isin j (depsL P hs ops i r [])||aoz P hs ops o (clsAt P hs ops i) j) r
   else jc (λj=>Nat.beq (clsAt P hs ops j) 4||waitsFor ops j (λn=>isin n (i::r)&&(Nat.beq n i|| !Nat.beq (clsAt P hs ops n) 4))) r)
def gF (P:Program)(hs:List Nat)(ops:Array Oper):List Nat ->Bool
 | []=>true
 |i::r=>bif VC P hs ops i r then gF P hs ops r else false
def Wz (P:Program)(hs:List Nat)(ops:Array Oper):List Nat ->Bool
 | []=>true
 |i::r=>bif Nat.beq (clsAt P hs ops i) 4 then jc (λj=>!Nat.beq (clsAt P hs ops j) 4) r else Wz P hs ops r
def agq (P:Program)(hs:List Nat)(ops:Array Oper)(ord:List Nat):Bool:=
 P.follows .mixedOrders&&jc (λi=>isin i ord) (zO 0 ops.size)&&Nat.ble ord.length ops.size&&Wz P hs ops ord&&gF P hs ops ord
def uo (ords:List (Nat×List Nat))(id:Nat):List Nat:=match aget ords (1000000+id)with|some l=>l|none=> []
inductive Tr where
 |fin
 |run (l:List Nat) (t:Tr)
 |br (a b:Tr)
def auW:Nat ->List Nat ->List Nat
 |n+1,x::r=>x::auW n r
 |_,_=> []
def auQ:Nat ->List Nat ->List Nat
 |n+1,_::r=>auQ n r
 |_,l=>l
def apT:Nat ->List Nat ->Option (Tr×List Nat)
 |0,_=>none
 |_+1,[]=>none
 |n+1,c::r=>match c with
  |0=>some (.fin,r)
  |1=>match r with
   |k::r1=>match apT n (auQ k r1)with
    |some (t,r2)=>some (.run (auW k r1) t,r2)
    |none=>none
   | []=>none
  |_=>match apT n r with
   |some (a,r1)=>match apT n r1 with
    |some (b,r2)=>some (.br a b,r2)
    |none=>none
   |none=>none
def Yy (i:Nat):List Nat ->List Nat
 | []=> []
 |x::r=>bif Nat.beq x i then Yy i r else x::Yy i r
def awo:List Nat ->Bool| []=>true|_::_=>false
def gG (P:Program)(hs:List Nat)(ops:Array Oper):List Nat ->List Nat ->(List Nat ->Bool) ->Bool
 | [],rest,f=>f rest
 |i::l,rest,f=>bif isin i rest&&VC P hs ops i (Yy i rest)then gG P hs ops l (Yy i rest) f else false
def abP (ops:Array Oper)(rest:List Nat)(j:Nat):Bool:=match ops[j]? with|some o=>jc (λe=>!Region.binds .any e||(Nat.blt e.on ops.size&& !isin e.on rest)) o.after.toList|none=>false
def Wj:Tr ->List Nat
 | .run (j::_) _=> [j]
 | .br a b=>Wj a++Wj b
 |_=> []
def Yi (P:Program)(hs:List Nat)(ops:Array Oper):Bool ->Tr ->List Nat ->Bool
 |false,.fin,rest=>awo rest
 |true,.fin,_=>false
 |false,.run l t,rest=>gG P hs ops l rest (Yi P hs ops false t)
 |true,.run l t,rest=>match l with
  |j::l=>isin j rest&&gG P hs ops l (Yy j rest) (Yi P hs ops false t)
  | []=>false
 |b,.br x y,rest=>Yi P hs ops true x rest&&Yi P hs ops true y rest&&(b||(ahb (abP ops rest) rest&&jc (λj=>!abP ops rest j||isin j (Wj x++Wj y)) rest))
def aib (P:Program)(hs:List Nat)(ops:Array Oper)(t:Tr):Bool:=
 P.follows .mixedOrders&&jc (λj=>!Nat.beq (clsAt P hs ops j) 4) (zO 0 ops.size)&&Yi P hs ops false t (zO 0 ops.size)
def Wh (P:Program)(N:Nat)(hs:List Nat)(all:List Oper)(gs:List Nat):Tr ->Option ATr
 | .fin=>some .fin
 | .run l t=>match Z4 P N hs all gs l,Wh P N hs all gs t with
   |some x,some y=>some (.run x y)
   |_,_=>none
 | .br a b=>match Wh P N hs all gs a,Wh P N hs all gs b with
   |some x,some y=>some (.br x y)
   |_,_=>none
def XH (P:Program)(N:Nat)(ords:List (Nat×List Nat))(id:Nat)(ops:Array Oper):Bool ->Option ACode
 |false=>(Z4 P N (uo ords id) ops.toList (ZR ops.toList) (zO 0 ops.toList.length)).map .reg
 |true=>match aget ords (2000000+id)with
  |some l=>match apT 300 l with
   |some (t,_)=>bif aib P (uo ords id) ops t then(Wh P N (uo ords id) ops.toList (ZR ops.toList) t).map .tree else none
   |none=>none
  |none=>match aget ords id with
   |some ord=>bif agq P (uo ords id) ops ord then(Z4 P N (uo ords id) ops.toList (ZR ops.toList) ord).map .reg else none
   |none=>none
def ql (P:Program)(N:Nat)(ords:List (Nat×List Nat)):Code ->Option ACode
 | .skip=>some .skip
 | .region id ops d=>XH P N ords id ops d
 | .seq a b=>match ql P N ords a,ql P N ords b with
   |some x,some y=>some (.seq x y)
   |_,_=>none
 | .cond c a b=>match ql P N ords a,ql P N ords b with
   |some x,some y=>some (.cond (cO c) x y)
   |_,_=>none
 | .block i a=>(ql P N ords a).map (.block i)
 | .loop a=>(ql P N ords a).map (.loop [])
 | .scope a=>(ql P N ords a).map .scope
 | .label _=>some .skip
 | .exit i=>some (.exit i)
 | .ret=>some .ret
 |_=>none
def adQ (P:Program):List ResultVar ->Option (List ARes)
 | []=>some []
 | .tmp t::r=>(adQ P r).map (.tmp t:: ·)
 | .cell a t::r=>match Km P t,adQ P r with
   |some g,some l=>some (.cell a g (zE P t)::l)
   |_,_=>none
def zt (P:Program)(ords:List (Nat×List Nat))(k:Nat):Option AFun:=
 match P.funcs[k]? with
 |some fn=>match fn.body with
  |some c=>match ql P fn.ntmps ords c,adQ P fn.results.toList with
   |some x,some r=>bif Nat.ble fn.ntmps 5000 then some ⟨x,r⟩else none
   |_,_=>none
  |none=>none
 |none=>none
def AI.erase:AI ->AI
 | .mk d g i o _=>.mk d g i o []
def ATr.erase:ATr ->ATr
 | .fin=>.fin
 | .run ops t=>.run (ops.map AI.erase) t.erase
 | .br a b=>.br a.erase b.erase
def ACode.erase:ACode ->ACode
 | .skip=>.skip
 | .reg ops=>.reg (ops.map AI.erase)
 | .seq a b=>.seq a.erase b.erase
 | .cond c a b=>.cond c a.erase b.erase
 | .block i a=>.block i a.erase
 | .loop _ a=>.loop [] a.erase
 | .scope a=>.scope a.erase
 | .exit i=>.exit i
 | .ret=>.ret
 | .tree t=>.tree t.erase
def AFun.erase (F:AFun):AFun:=⟨F.code.erase,F.res⟩
def Yv:V ->Option Int
 | .w (.c (.d (.lit (.int _ n))))=>some n
 |_=>none
def yo:V ->Option Bool
 | .w (.c (.d (.lit (.bool b))))=>some b
 |_=>none
def cOf:V ->C
 | .w (.c x)=>x
 |_=>.dead
def wOf:V ->W
 | .w x=>x
 |_=>.c .dead
def cV (x:C):V:=.w (.c x)
def zf (n:Int):V:=cV (.d (.lit (.int .i64 n)))
def zD (b:Bool):V:=cV (.d (.lit (.bool b)))
def yT (b:ByteArray):List (List D):=b.data.toList.map λx=> [D.lit (.int .u8 x.toNat)]
def S.o (s:S):O ->V
 | .t n=>s.tmp n
 | .k v=>v
def S.oc (s:S)(x:O):C:=cOf (s.o x)
def S.ow (s:S)(x:O):W:=wOf (s.o x)
def Jt (agg:Bool)(sz:Nat)(cells:List C):Option W:=
 bif agg then(bif Nat.ble sz cells.length then some (.agg (cells.take sz))else none)
 else match cells with|x::_=>some (.c x)| []=>none
def ye (n bytes:Nat):Prop:=n*bytes<=140737488355328
def aLd (dst:Option Nat)(agg:Bool)(sz:Nat)(x:C)(s:S)(K:S ->Prop):Prop:=
 match x with
 | .ptr p off=>match aget s.pl p with
   |some (.box cs)=>match Jt agg sz (cs.drop off)with
    |some w=>K (s.put dst (.w w))
    |none=>False
   |some (.fbox ds)=>match Jt agg sz ((ds.drop off).map .d)with
    |some w=>K (s.put dst (.w w))
    |none=>False
   |_=>False
 | .fp cells=>match Jt agg sz (cells.map .d)with
   |some w=>K (s.put dst (.w w))
   |none=>False
 | .eptr p z i k=>match aget s.pl p with
   |some (.arr z1 els _)=>bif Nat.beq z z1 then
    ∃e,els[i]? =some e /\(match Jt agg sz ((e.drop k).map .d)with
     |some w=>K (s.put dst (.w w))
     |none=>False)
    else False
   |_=>False
 |_=>False
def aSt (sz:Nat)(x:C)(v:W)(s:S)(K:S ->Prop):Prop:=
 bif Nat.beq v.cells.length sz then
  match x with
  | .ptr p off=>match aget s.pl p with
    |some (.box cs)=>
     bif solid v.cells&&Nat.ble (off+v.cells.length) cs.length then
      K {s with pl:=yq p (.box (yb cs off v.cells)) s.pl}
     else False
    |_=>False
  | .eptr p z i k=>match ua s.pl v.cells with
    |some (ds,pl1)=>match aget pl1 p with
     |some (.arr z1 els false)=>bif Nat.beq z z1 then
      ∃e,els[i]? =some e /\k+ds.length<=e.length /\K {s with pl:=yq p (.arr z1 (els.set i (yb e k ds)) false) pl1}
      else False
     |_=>False
    |none=>False
  |_=>False
 else False
def Vs (s:S):List C ->List (Nat×Nat×O) ->Option (List C)
 |cs,[]=>some cs
 |cs,(off,sz,x)::r=>bif solid (s.ow x).cells&&Nat.beq (s.ow x).cells.length sz&&Nat.ble (off+sz) cs.length then Vs s (yb cs off (s.ow x).cells) r else none
def af6 (s:S)(sz:Nat)(pl:List (Nat×Pl)):List O ->Option (List (List D)×List (Nat×Pl))
 | []=>some ([],pl)
 |x::r=>bif Nat.beq (s.ow x).cells.length sz then
   match ua pl (s.ow x).cells with
   |some (ds,pl1)=>match af6 s sz pl1 r with
    |some (es,pl2)=>some (ds::es,pl2)
    |none=>none
   |none=>none
  else none
def zT (o:Option Int)(n:Int):Int:=match o with|some m=>m|none=>n
def S.bnd (s:S):Option O ->Option (Option Int)
 |none=>some none
 |some x=>match Yv (s.o x)with|some n=>some (some n)|none=>none
def as3 (dst:Option Nat)(sz:Nat)(x:C)(lo hi:Option Int)(s:S)(K:S ->Prop):Prop:=
 match x with
 | .d (.sl els)=>match lo with
   |none=>0<=zT hi els.length /\zT hi els.length<=els.length /\K (s.put dst (cV (.d (.sl (els.take (zT hi els.length).toNat)))))
   |some l=>(∀y∈els,y.length=sz)/\0<=l /\l<=zT hi els.length /\zT hi els.length<=els.length /\
    K (s.put dst (cV (.d (.sl ((els.take (zT hi els.length).toNat).drop l.toNat)))))
 | .own p z n=>bif Nat.beq z sz then
  match lo with
  |none=>0<=zT hi n /\zT hi n<=n /\K (s.put dst (cV (.own p z (zT hi n).toNat)))
  |some l=>match aget s.pl p with
   |some (.arr z1 els _)=>bif Nat.beq z z1 then 0<=l /\l<=zT hi n /\zT hi n<=n /\
    K ({s with pl:=qJ s.pl p}.put dst (cV (.d (.sl ((els.take (zT hi n).toNat).drop l.toNat)))))
    else False
   |_=>False
   else False
 | .nil=>0<=zT lo 0 /\zT lo 0<=zT hi 0 /\zT hi 0<=0 /\K (s.put dst (cV .nil))
 |_=>False
def as4 (dst:Option Nat)(x:C)(lo hi:Option Int)(s:S)(K:S ->Prop):Prop:=
 match x with
 | .d (.lit (.string b))=>0<=zT lo 0 /\zT lo 0<=zT hi b.size /\zT hi b.size<=b.size /\
  K (s.put dst (cV (.d (.lit (.string (b.extract (zT lo 0).toNat (zT hi b.size).toNat))))))
 |_=>False
def as5 (dst:Option Nat)(sz:Nat)(x:C)(lo hi:Option Int)(s:S)(K:S ->Prop):Prop:=
 match x with
 | .own p z n=>bif Nat.beq z sz then 0<=zT lo 0 /\zT lo 0<=zT hi n /\zT hi n<=n /\K (s.put dst (cV (.sub p z (zT lo 0).toNat ((zT hi n).toNat -(zT lo 0).toNat))))else False
 | .nil=>0<=zT lo 0 /\zT lo 0<=zT hi 0 /\zT hi 0<=0 /\K (s.put dst (cV .nil))
 |_=>False
def range:C ->Option (Nat×Nat×Nat×Nat)
 | .own p z n=>some (p,z,0,n)
 | .sub p z off n=>some (p,z,off,n)
 |_=>none
def Q8 (pl:List (Nat×Pl)):C ->Option (List (List D))
 | .d (.sl l)=>some l
 | .nil=>some []
 | .own p _ n=>match aget pl p with
   |some (.arr _ els _)=>some (els.take n)
   |_=>none
 |_=>none
def gM (pl:List (Nat×Pl)):C ->Option (List (List D))
 | .sub p z off n=>match aget pl p with
   |some (.arr z1 els _)=>bif Nat.beq z z1 then some ((els.drop off).take n)else none
   |_=>none
 |x=>Q8 pl x
def as1 (dst:Option Nat)(sz:Nat)(x:C)(src:Option (List (List D)))(s:S)(K:S ->Prop):Prop:=
 match src with
 |some l=>match x with
  | .nil=>K (s.put dst (zf 0))
  |x=>match range x with
   |some (p,z,off,n)=>match aget s.pl p with
    |some (.arr z1 els false)=>bif Nat.beq z z1&&Nat.beq z sz then(∀y∈l,y.length=sz)/\
     K ({s with pl:=yq p (.arr z1 (yb els off (l.take n)) false) s.pl}.put dst (zf (min l.length n:Nat)))
     else False
    |_=>False
   |none=>False
 |none=>False
def as0 (dst:Option Nat)(sz:Nat)(zr:List D)(x:C)(s:S)(K:S ->Prop):Prop:=
 match x with
 | .nil=>K (s.put dst x9)
 |x=>match range x with
  |some (p,z,off,n)=>match aget s.pl p with
   |some (.arr z1 els false)=>bif Nat.beq z z1&&Nat.beq z sz then K ({s with pl:=yq p (.arr z1 (yb els off (List.replicate n zr)) false) s.pl}.put dst x9)else False
   |_=>False
  |none=>False
def ag9 (d:Nat)(sz bytes:Nat)(x:C)(new:Option (List (List D)))(s:S)(K:S ->Prop):Prop:=
 match new with
 |some l=>
  match x with
  | .nil=>(∀y∈l,y.length=sz)/\ye l.length bytes /\l.length<=9223372036854775807 /\
   K ((s.place d (.arr sz l false)).put (some d) (cV (.own d sz l.length)))
  | .own p z n=>match aget s.pl p with
    |some (.arr z1 els false)=>bif Nat.beq z z1&&Nat.beq z sz then
     (∀y∈l,y.length=sz)/\ye (n+l.length) bytes /\n+l.length<=9223372036854775807 /\
      K ((s.redo [p,d] [(d,.arr sz (els.take n++l) false)]).put (some d) (cV (.own d sz (n+l.length))))
     else False
    |_=>False
  |_=>False
 |_=>False
def frz (s:S)(pl:List (Nat×Pl)):List O ->Option (List (List D)×List (Nat×Pl))
 | []=>some ([],pl)
 |x::r=>match s.oc x with
  | .fp ds=>match frz s pl r with
    |some (l,pl2)=>some (ds::l,pl2)
    |none=>none
  | .ptr p 0=>match aget pl p with
    |some (.box cs)=>match ua pl cs with
     |some (ds,pl1)=>match frz s (yq p (.fbox ds) pl1) r with
      |some (l,pl2)=>some (ds::l,pl2)
      |none=>none
     |none=>none
    |some (.fbox ds)=>match frz s pl r with
     |some (l,pl2)=>some (ds::l,pl2)
     |none=>none
    |_=>none
  |_=>none
def amw (s:S):List O ->Option (List Nat)
 | []=>some []
 |x::r=>match s.oc x,amw s r with
  | .ptr p 0,some l=>some (p::l)
  |_,_=>none
def kB (P:Program)(dst:Option Nat)(f:FuncId)(args:List W)(s:S)(K:S ->Prop):Prop:=
 match gZ s.pl args with
 |some (ds,pl1)=>Sat P f ds λr=>K (aqr s {s with pl:=pl1} dst r)
 |none=>False
def YE (dst:Option Nat)(U:List Nat):Nat:=
 match dst with
 |some d=>yS d
 |none=>match U with
  |p::_=>10000000+16*p
  | []=>10000000
def ae5 (P:Program)(dst:Option Nat)(f:FuncId)(args:List W)(s:S)(K:S ->Prop):Prop:=
 zu P f (args.map (W.pk s.pl (vz s.pl [] (ZC args)))) (uO s.pl (vz s.pl [] (ZC args)) 0 (vz s.pl [] (ZC args))) λr=>
  cond (VS (vz s.pl [] (ZC args)) (YE dst (vz s.pl [] (ZC args))) r)
   (K (acv s (vz s.pl [] (ZC args)) (YE dst (vz s.pl [] (ZC args))) dst r)) False
def aaO (s:S):List Operand ->Bool
 | []=>true
 |x::r=>match al5 (s.o (cO x))with
  |some _=>aaO s r
  |none=>false
def rho (s:S)(x:Operand):Value:=match al5 (s.o (cO x))with|some v=>v|none=>undef
def amx (op:Op)(ty:TypeId):Oper:={dst:=none,op,type:=ty,pos:= "",after:= #[],guard:=none}
def apz (P:Program)(dst:Option Nat)(op:Op)(ty:TypeId)(s:S)(K:S ->Prop):Prop:=
 bif aaO s op.operands.toList then
  match kh P (execOp (rho s) (amx op ty))with
  |some (.value v)=>K (s.put dst (.w (ofValue v)))
  |_=>False
 else False
def JR (b:BinOp)(k:IntKind)(x y:Int):Int:=
 match b with
 | .and=>k.wrap (BitVec.ofInt k.bits x&&&BitVec.ofInt k.bits y).toNat
 | .or=>k.wrap (BitVec.ofInt k.bits x|||BitVec.ofInt k.bits y).toNat
 | .xor=>k.wrap (BitVec.ofInt k.bits x^^^BitVec.ofInt k.bits y).toNat
 |_=>k.wrap (BitVec.ofInt k.bits x&&& ~~~(BitVec.ofInt k.bits y)).toNat
def JI (left:Bool)(k:IntKind)(x y:Int):Int:=bif left then k.wrap (x*2^min y.toNat k.bits)else x.fdiv (2^min y.toNat k.bits)
def zl (x y:ByteArray):Bool:=x.toList==y.toList
def jx (x y:ByteArray):Bool:=Op.bytesLess x.toList y.toList
def ahf (b:BinOp)(k:IntKind)(x y:Int):Option Value:=
 match b with
 | .and=>some (.int k (JR .and k x y))
 | .or=>some (.int k (JR .or k x y))
 | .xor=>some (.int k (JR .xor k x y))
 | .andNot=>some (.int k (JR .andNot k x y))
 | .add=>some (.int k (k.wrap (x+y)))
 | .sub=>some (.int k (k.wrap (x - y)))
 | .mul=>some (.int k (k.wrap (x*y)))
 | .eql=>some (.bool (x==y))
 | .neq=>some (.bool (x !=y))
 | .lss=>some (.bool (decide (x<y)))
 | .leq=>some (.bool (decide (x<=y)))
 | .gtr=>some (.bool (decide (x>y)))
 | .geq=>some (.bool (decide (x>=y)))
 |_=>none
def ahg (b:BinOp)(x y:ByteArray):Option Value:=
 match b with
 | .eql=>some (.bool (zl x y))
 | .neq=>some (.bool (!zl x y))
 | .lss=>some (.bool (jx x y))
 | .leq=>some (.bool (jx x y||zl x y))
 | .gtr=>some (.bool (!(jx x y||zl x y)))
 | .geq=>some (.bool (!jx x y))
 |_=>none
def u4:IntKind ->IntKind ->Bool
 | .i8,.i8=>true| .i16,.i16=>true| .i32,.i32=>true| .i64,.i64=>true
 | .u8,.u8=>true| .u16,.u16=>true| .u32,.u32=>true| .u64,.u64=>true
 |_,_=>false
def apy (dst:Option Nat)(b:BinOp)(x y:C)(s:S)(K:S ->Prop):Prop:=
 match x,y with
 | .d (.lit (.int k m)),.d (.lit (.int k1 n))=>bif u4 k k1 then
  match ahf b k m n with
  |some v=>K (s.put dst (cV (.d (.lit v))))
  |none=>match b with
   | .quo=>n≠0 /\K (s.put dst (cV (.d (.lit (.int k (k.wrap (m.tdiv n)))))))
   | .rem=>n≠0 /\K (s.put dst (cV (.d (.lit (.int k (m.tmod n))))))
   |_=>False
   else False
 | .d (.lit (.string m)),.d (.lit (.string n))=>match ahg b m n with
   |some v=>K (s.put dst (cV (.d (.lit v))))
   |none=>match b with
    | .add=>m.size+n.size<=9223372036854775807 /\K (s.put dst (cV (.d (.lit (.string (m++n))))))
    |_=>False
 |_,_=>False
def yP (mx:Bool)(m n:Int):Int:=bif mx then(if n>m then n else m)else(if n<m then n else m)
def aMm (dst:Option Nat)(mx:Bool)(x y:C)(s:S)(K:S ->Prop):Prop:=
 match x,y with
 | .d (.lit (.int k m)),.d (.lit (.int k1 n))=>bif u4 k k1 then K (s.put dst (cV (.d (.lit (.int k (yP mx m n))))))else False
 |_,_=>False
def alF (k:Nat)(x y:C):Option Bool:=
 match x,y with
 | .d (.lit (.int k1 m)),.d (.lit (.int k2 n))=>bif Nat.beq k 0&&u4 k1 k2 then some (m==n)else none
 | .d (.lit (.string m)),.d (.lit (.string n))=>bif Nat.beq k 1 then some (zl m n)else none
 | .d (.lit (.bool m)),.d (.lit (.bool n))=>bif Nat.beq k 2 then some (m==n)else none
 |_,_=>none
def ZQ:List Nat ->List C ->List C ->Option Bool
 | [],[],[]=>some true
 |k::ks,x::xs,y::ys=>match alF k x y,ZQ ks xs ys with
  |some a,some b=>some (a&&b)
  |_,_=>none
 |_,_,_=>none
def as2 (dst:Option Nat)(neg:Bool)(x:C)(s:S)(K:S ->Prop):Prop:=
 match x with
 | .nil=>K (s.put dst (zD (!neg)))
 | .d (.sl l)=>(l=[] ->K (s.put dst (zD (!neg))))/\K (s.put dst (zD neg))
 | .own _ _ n=>(n=0 ->K (s.put dst (zD (!neg))))/\K (s.put dst (zD neg))
 |_=>False
def zJ (P:Program)(dst:Option Nat)(op:AOp)(s:S)(K:S ->Prop):Prop:=
 match op with
 | .mov x=>K (s.put dst (s.o x))
 | .pick c a b=>match yo (s.o c)with
   |some t=>cond t (K (s.put dst (s.o a))) (K (s.put dst (s.o b)))
   |none=>False
 | .alloc cs=>match dst with
   |some d=>bif solid cs then K ((s.place d (.box cs)).put (some d) (cV (.ptr d 0)))else False
   |none=>False
 | .bx x=>match dst,s.o x with
   |some d,.w w=>bif solid w.cells then K ((s.place d (.box (w.cells.map (C.kill [d])))).put (some d) (cV (.ptr d 0)))else False
   |_,_=>False
 | .build zero parts=>match Vs s zero parts with
   |some cs=>K (s.put dst (.w (.agg cs)))
   |none=>False
 | .lits sz parts=>match dst,af6 s sz s.pl parts with
   |some d,some (els,pl1)=>K (({s with pl:=pl1}.place d (.arr sz els false)).put (some d) (cV (.own d sz els.length)))
   |_,_=>False
 | .ld g sz x=>aLd dst g sz (s.oc x) s K
 | .st sz a x=>match dst with
   |none=>aSt sz (s.oc a) (s.ow x) s K
   |some _=>False
 | .nc x=>match s.oc x with
   | .ptr p k=>K (s.put dst (cV (.ptr p k)))
   | .eptr p z i k=>K (s.put dst (cV (.eptr p z i k)))
   | .fp l=>K (s.put dst (cV (.fp l)))
   |_=>False
 | .b2s x=>match Q8 s.pl (s.oc x)with
   |some l=> ∃b:ByteArray,l=yT b /\K (s.put dst (cV (.d (.lit (.string b)))))
   |none=>False
 | .s2b x=>match dst,s.oc x with
   |some d,.d (.lit (.string b))=>b.size<=9223372036854775807 /\K ((s.place d (.arr 1 (yT b) true)).put (some d) (cV (.own d 1 b.size)))
   |_,_=>False
 | .clo f caps=>match amw s caps with
   |some ps=>K (s.put dst (cV (.clo f ps)))
   |none=>False
 | .clof f caps=>match frz s s.pl caps with
   |some (l,pl1)=>K ({s with pl:=pl1}.put dst (cV (.d (.fn f l))))
   |none=>False
 | .slen x=>match s.oc x with
   | .d (.lit (.string b))=>K (s.put dst (zf b.size))
   |_=>False
 | .cap x=>match s.oc x with
   | .d (.sl l)=> ∀c:Nat,l.length<=c ->c<=9223372036854775807 ->K (s.put dst (zf c))
   | .nil=>K (s.put dst (zf 0))
   | .own _ _ n=> ∀c:Nat,n<=c ->c<=9223372036854775807 ->K (s.put dst (zf c))
   |_=>False
 | .cpy sz x y=>as1 dst sz (s.oc x) (gM s.pl (s.oc y)) s K
 | .clr sz z x=>as0 dst sz z (s.oc x) s K
 | .slw sz x lo hi=>match s.bnd lo,s.bnd hi with
   |some l,some h=>as5 dst sz (s.oc x) l h s K
   |_,_=>False
 | .bnot x=>match yo (s.o x)with
   |some b=>K (s.put dst (zD (!b)))
   |none=>False
 | .ineg x=>match s.oc x with
   | .d (.lit (.int k n))=>K (s.put dst (cV (.d (.lit (.int k (k.wrap (0 - n)))))))
   |_=>False
 | .beq neg x y=>match yo (s.o x),yo (s.o y)with
   |some a,some b=>K (s.put dst (zD (bif neg then a !=b else a==b)))
   |_,_=>False
 | .shf left x y=>match s.oc x,s.oc y with
   | .d (.lit (.int k m)),.d (.lit (.int _ n))=>0<=n /\K (s.put dst (cV (.d (.lit (.int k (JI left k m n))))))
   |_,_=>False
 | .stop=>False
 | .conv k x=>match s.oc x with
   | .d (.lit (.int _ n))=>K (s.put dst (cV (.d (.lit (.int k (k.wrap n))))))
   |_=>False
 | .eqa neg ks x y=>match s.o x,s.o y with
   | .w (.agg xs),.w (.agg ys)=>match ZQ ks xs ys with
     |some b=>K (s.put dst (zD (bif neg then !b else b)))
     |none=>False
   |_,_=>False
 | .callh f args=>ae5 P dst f (args.map s.ow) s K
 | .mk sz bytes z n c=>match dst,Yv (s.o n),Yv (s.o c)with
   |some d,some n,some c=>0<=n /\n<=c /\ye c.toNat bytes /\c<=9223372036854775807 /\
    K ((s.place d (.arr sz (List.replicate n.toNat z) false)).put (some d) (cV (.own d sz n.toNat)))
   |_,_,_=>False
 | .sli sz x lo hi=>match s.bnd lo,s.bnd hi with
   |some l,some h=>as3 dst sz (s.oc x) l h s K
   |_,_=>False
 | .sls x lo hi=>match s.bnd lo,s.bnd hi with
   |some l,some h=>as4 dst (s.oc x) l h s K
   |_,_=>False
 | .fa off x=>match s.oc x with
   | .ptr p o=>K (s.put dst (cV (.ptr p (o+off))))
   | .eptr p z i k=>K (s.put dst (cV (.eptr p z i (k+off))))
   | .fp cells=>K (s.put dst (cV (.fp (cells.drop off))))
   |_=>False
 | .fld g sz off x=>match s.o x with
   | .w (.agg cs)=>match Jt g sz (cs.drop off)with
     |some w=>K (s.put dst (.w w))
     |none=>False
   |_=>False
 | .ia sz x i=>match Yv (s.o i)with
   |some n=>match s.oc x with
    | .d (.sl l)=>0<=n /\ ∃y,l[n.toNat]? =some y /\y.length=sz /\K (s.put dst (cV (.fp y)))
    | .own p z m=>bif Nat.beq z sz then 0<=n /\n<m /\K (s.put dst (cV (.eptr p z n.toNat 0)))else False
    |_=>False
   |none=>False
 | .six x i=>match s.oc x,Yv (s.o i)with
   | .d (.lit (.string b)),some n=>0<=n /\n<b.size /\K (s.put dst (cV (.d (.lit (.int .u8 (b.data.toList.getD n.toNat 0).toNat)))))
   |_,_=>False
 | .ext x i=>match s.o x with
   | .tup xs=>match xs[i]? with
     |some w=>K (s.put dst (.w w))
     |none=>False
   |_=>False
 | .len x=>match s.oc x with
   | .d (.sl l)=>K (s.put dst (zf l.length))
   | .nil=>K (s.put dst (zf 0))
   | .own _ _ n=>K (s.put dst (zf n))
   |_=>False
 | .app sz bytes x y=>match dst with
   |some d=>ag9 d sz bytes (s.oc x) (Q8 s.pl (s.oc y)) s K
   |none=>False
 | .appz sz bytes z x n=>match dst,s.oc x,Yv (s.o n)with
   |some d,.nil,some m=>0<=m /\ye m.toNat bytes /\m<=9223372036854775807 /\K ((s.place d (.arr sz (List.replicate m.toNat z) false)).put (some d) (cV (.own d sz m.toNat)))
   |_,_,_=>False
 | .apps x y=>match dst,s.oc y with
   |some d,.d (.lit (.string b))=>ag9 d 1 1 (s.oc x) (some (yT b)) s K
   |_,_=>False
 | .bin b x y=>apy dst b (s.oc x) (s.oc y) s K
 | .isn neg x=>as2 dst neg (s.oc x) s K
 | .mm mx x y=>aMm dst mx (s.oc x) (s.oc y) s K
 | .pure op ty=>apz P dst op ty s K
 | .call f args=>kB P dst f (args.map s.ow) s K
 | .calv x args=>match s.oc x with
   | .clo f []=>kB P dst f (args.map s.ow) s K
   | .d (.fn f caps)=>kB P dst f (args.map s.ow++caps.map λds=>W.c (.fp ds)) s K
   |_=>False
def split (isG:Bool)(dst:Option Nat)(s:S)(K:S ->Prop):Prop:=
 bif isG then
  match dst with
  |some d=>match yo (s.tmp d)with
   |some b=>cond b (K (s.put dst (zD true))) (K (s.put dst (zD false)))
   |none=>K s
  |none=>K s
 else K s
def S.drop (s:S)(l:List Nat):S:={s with sl:=xp (λk=>!isin k l) s.sl}
def zR (P:Program):List AI ->S ->(S ->Prop) ->Prop
 | [],s,K=>K s
 | .mk dst g isG op drop::rest,s,K=>
   match g with
   |none=>zJ P dst op s λs1=>split isG dst s1 λs2=>yZ (s2.drop drop) λs2=>zR P rest s2 K
   |some (d,want)=>match s.tmp d with
    | .w (.c (.d (.lit (.bool b))))=>
      bif (bif b then want else !want)then zJ P dst op s λs1=>split isG dst s1 λs2=>yZ (s2.drop drop) λs2=>zR P rest s2 K
      else yZ ((s.put dst x9).drop drop) λs=>zR P rest s K
    | .tup []=>yZ ((s.put dst x9).drop drop) λs=>zR P rest s K
    |_=>False
inductive E where
 |normal
 |exit (id:Nat)
 |ret
def kj:List (Nat×V) ->List Nat
 | []=> []
 |(_,v)::r=>v.refs++kj r
def WK:List Nat ->List (Nat×Pl) ->List Nat
 |_,[]=> []
 |live,(p,.box cs)::r=>bif isin p live then ki cs++WK live r else WK live r
 |live,_::r=>WK live r
def jt:List Nat ->List Nat ->List Nat
 | [],l=>l
 |x::r,l=>bif isin x l then jt r l else jt r (x::l)
def S.norm (s:S)(keep:List Nat):S:=
 {sl:=xp (λk=>isin k keep) s.sl,
  pl:=xp (λk=>isin k (jt (WK (jt (WK (jt (kj (xp (λk=>isin k keep) s.sl)) []) s.pl) (jt (kj (xp (λk=>isin k keep) s.sl)) [])) s.pl)
   (jt (WK (jt (kj (xp (λk=>isin k keep) s.sl)) []) s.pl) (jt (kj (xp (λk=>isin k keep) s.sl)) [])))) s.pl}
def KP:List Nat ->(List Nat ->Prop) ->Prop
 | [],K=>K []
 |x::r,K=>KP r λr=>K (x::r)
theorem Jj: ∀(l:List Nat) (K:List Nat ->Prop),KP l K=K l
 | [],_=>rfl
 |x::r,K=>by simp only[KP,Jj r]
def Jx (s:S)(keep:List Nat)(K:S ->Prop):Prop:=
 KP (jt (kj (xp (λk=>isin k keep) s.sl)) []) λl0=>KP (jt (WK l0 s.pl) l0) λl1=>KP (jt (WK l1 s.pl) l1) λl2=>
  yZ ⟨xp (λk=>isin k keep) s.sl,xp (λk=>isin k l2) s.pl⟩ K
theorem Q3 (s:S)(keep:List Nat)(K:S ->Prop):Jx s keep K=K (s.norm keep):=by
 unfold Jx;rw[Jj,Jj,Jj,yM];rfl
def xD (s:S)(keep:List Nat)(K:S ->Prop):Prop:= ∃t,QH s t /\Jx t keep K
theorem ze {s:S}{keep:List Nat}{K:S ->Prop}(h:Jx s keep K):xD s keep K:=⟨s,QH.refl s,h⟩
def atr (P:Program):ATr ->S ->(S ->Prop) ->Prop
 | .fin,s,K=>K s
 | .run ops t,s,K=>zR P ops s λs1=>atr P t s1 K
 | .br a b,s,K=>atr P a s K /\atr P b s K
def Qu (P:Program):ACode ->(E ->S ->Prop) ->S ->Prop
 | .skip,Q,s=>Q .normal s
 | .reg ops,Q,s=>zR P ops s (Q .normal)
 | .seq a b,Q,s=>Qu P a (λe s1=>match e with| .normal=>Qu P b Q s1| .exit i=>Q (.exit i) s1| .ret=>Q .ret s1) s
 | .cond c a b,Q,s=>match yo (s.o c)with
   |some t=>cond t (Qu P a Q s) (Qu P b Q s)
   |none=>False
 | .block id a,Q,s=>Qu P a (λe s1=>match e with| .normal=>Q .normal s1| .exit i=>bif Nat.beq i id then Q .normal s1 else Q (.exit i) s1| .ret=>Q .ret s1) s
 | .loop keep body,Q,s=> ∃(I:S ->Prop) (μ:S ->Nat),xD s keep I /\ ∀s1,I s1 ->
  Qu P body (λe s2=>match e with| .normal=>xD s2 keep λs2=>I s2 /\μ s2<μ s1| .exit i=>Q (.exit i) s2| .ret=>Q .ret s2) s1
 | .scope a,Q,s=>Qu P a Q s
 | .exit i,Q,s=>Q (.exit i) s
 | .ret,Q,s=>Q .ret s
 | .tree t,Q,s=>atr P t s (Q .normal)
def at9 (s:S):ARes ->Option W
 | .tmp t=>match s.tmp t with| .w w=>some w|_=>none
 | .cell a g sz=>match cOf (s.tmp a)with
   | .ptr p off=>match aget s.pl p with
     |some (.box cs)=>Jt g sz (cs.drop off)
     |some (.fbox ds)=>Jt g sz ((ds.drop off).map .d)
     |_=>none
   |_=>none
def acw (s:S):List ARes ->Option (List W)
 | []=>some []
 |x::r=>match at9 s x,acw s r with
  |some w,some l=>some (w::l)
  |_,_=>none
def at8 (s:S)(l:List ARes):Option V:=
 match acw s l with
 |some [w]=>some (.w w)
 |some ws=>some (.tup ws)
 |none=>none
def Zu:Nat ->List W ->List (Nat×V)
 |_,[]=> []
 |i,w::r=>(i,.w w)::Zu (i+1) r
def Kg (res:List ARes)(U:List Nat)(Q:Res ->Prop)(s:S):Prop:=
 match at8 s res with
 |some v=>Q (auT s.pl U v)
 |none=>False
def atf (P:Program)(F:AFun)(args:List W)(Q:Res ->Prop):Prop:=
 yZ ⟨Zu 0 args,[]⟩ λs=>Qu P F.code (λe s=>match e with| .exit _=>False| .normal=>Kg F.res [] Q s| .ret=>Kg F.res [] Q s) s
def ul (n0:Nat)(hs:List Pl):List Nat:=zO n0 hs.length
def acd (n0:Nat)(P:Program)(F:AFun)(args:List W)(hs:List Pl)(Q:Res ->Prop):Prop:=
 yZ ⟨Zu 0 (args.map (W.ren ((ul n0 hs).map some))),ji n0 (hs.map (Pl.ren ((ul n0 hs).map some)))⟩ λs=>
  Qu P F.code (λe s=>match e with| .exit _=>False| .normal=>Kg F.res (ul n0 hs) Q s| .ret=>Kg F.res (ul n0 hs) Q s) s
def auO (P:Program)(F:AFun)(args:List W)(hs:List Pl)(Q:Res ->Prop):Prop:=acd 100000 P F args hs Q
end Go.AM
namespace Go.AM
section
variable {α β:Type}
theorem yC {m n:Nat}(h:m≠n):Nat.beq m n=false:=by
 cases e:Nat.beq m n
 ·rfl
 ·exact absurd (Nat.eq_of_beq_eq_true e) h
theorem xK (n:Nat):Nat.beq n n=true:=Nat.beq_refl n
theorem yj (k:Nat)(v:α)(r:List (Nat×α))(n:Nat):aget ((k,v)::r) n=if k=n then some v else aget r n:=by
 by_cases h:k=n
 ·subst h;simp[aget]
 ·simp[aget,yC h,h]
theorem yi (l:List (Nat×α))(n m:Nat)(v:α):aget (yq n v l) m=if n=m then some v else aget l m:=by
 induction l with
 |nil=>simp[yq,yj]
 |cons x r ih=>
  obtain⟨k,u⟩:=x;unfold yq;by_cases h:k=n
  ·subst h;simp only[xK,cond_true,yj];by_cases h2:k=m<;>simp[h2]
  ·rw[yC h];cases hb:Nat.blt n k
   ·simp only[cond_false,yj,ih];by_cases h2:k=m
    ·subst h2;simp[Ne.symm h]
    ·simp[h2]
   ·simp only[cond_false,cond_true,yj]
theorem ak3 (l:List (Nat×α))(f:α ->β)(m:Nat):aget (aha f l) m=(aget l m).map f:=by
 induction l with
 |nil=>simp[aget,aha]
 |cons x r ih=>
  obtain⟨k,u⟩:=x;simp only[aha,yj,ih];by_cases h:k=m<;>simp[h]
theorem jX (l:List (Nat×α))(f:Nat ->Bool)(m:Nat):aget (xp f l) m=if f m=true then aget l m else none:=by
 induction l with
 |nil=>simp[xp,aget]
 |cons x r ih=>
  obtain⟨k,u⟩:=x;unfold xp;cases hf:f k
  ·simp only[cond_false,ih,yj];by_cases hk:k=m
   ·subst hk;simp[hf]
   ·simp[hk]
  ·simp only[cond_true,yj,ih];by_cases hk:k=m
   ·subst hk;simp[hf]
   ·simp[hk]
theorem VY (l:List (Nat×α))(f:Nat ->Bool)(m:Nat)(v:α)(h:aget (xp f l) m=some v):aget l m=some v /\f m=true:=by
 rw[jX]at h;split at h
 ·exact⟨h,by assumption⟩
 ·cases h
end
theorem zN (n:Nat)(l:List Nat):isin n l=true↔n∈l:=by
 induction l with
 |nil=>simp[isin]
 |cons k r ih=>
  unfold isin;by_cases h:k=n
  ·subst h;simp
  ·rw[yC h];simp[ih,Ne.symm h]
theorem anv (new pl:List (Nat×Pl))(m:Nat):aget (ae6 new pl) m=match aget new m with|some x=>some x|none=>aget pl m:=by
 induction new with
 |nil=>rfl
 |cons x r ih=>
  obtain⟨k,u⟩:=x;simp only[ae6,yi,ih,yj];by_cases h:k=m<;>simp[h]
def zZ (w w':World)(ok ok':Nat ->Prop):Prop:= ∀b,ok b ->ok' b /\w'.heap[b]? =w.heap[b]?
theorem uW {w w':World}{b:Nat}(h:w'.heap[b]? =w.heap[b]?)(o:Nat):w'.cell? ⟨b,o,none⟩=w.cell? ⟨b,o,none⟩:=by
 simp[World.cell?,h]
mutual
theorem RD.keep {w w':World}{ok ok':Nat ->Prop}(h:zZ w w' ok ok'): ∀(d:D) (v:Value),RD w ok d v ->RD w' ok' d v
 | .lit x,v,hd=>by simp only[RD]at hd⊢;exact hd
 | .sl l,v,hd=>by
   simp only[RD]at hd⊢;obtain⟨a,n,c,h1,h2,h3,h4,h5⟩:=hd;refine⟨a,n,c,h1,h2,h3,h4,?_⟩;rcases h5 with h5|⟨b,o,sz,e1,e2,e3⟩
   ·exact .inl h5
   ·exact .inr ⟨b,o,sz,e1,(h b e2).1,RDs.keep h b e2 sz l o e3⟩
 | .fn f caps,v,hd=>by
   simp only[RD]at hd⊢;obtain⟨bs,h1,h2⟩:=hd;exact⟨bs,h1,RDf.keep h caps bs h2⟩
theorem RDs.keep {w w':World}{ok ok':Nat ->Prop}(h:zZ w w' ok ok')(b:Nat)(hb:ok b)(sz:Nat): ∀(l:List (List D)) (o:Nat),RDs w ok b sz o l ->RDs w' ok' b sz o l
 | [],o,_=>by simp only[RDs]
 |e::r,o,hd=>by
  simp only[RDs]at hd⊢;exact⟨hd.1,RDc.keep h b hb e o hd.2.1,RDs.keep h b hb sz r (o+sz) hd.2.2⟩
theorem RDc.keep {w w':World}{ok ok':Nat ->Prop}(h:zZ w w' ok ok')(b:Nat)(hb:ok b): ∀(l:List D) (o:Nat),RDc w ok b o l ->RDc w' ok' b o l
 | [],o,_=>by simp only[RDc]
 |d::r,o,hd=>by
  simp only[RDc]at hd⊢;obtain⟨⟨v,h1,h2⟩,h3⟩:=hd;exact⟨⟨v,by rw[uW (h b hb).2];exact h1,RD.keep h d v h2⟩,RDc.keep h b hb r (o+1) h3⟩
theorem RDf.keep {w w':World}{ok ok':Nat ->Prop}(h:zZ w w' ok ok'): ∀(l:List (List D)) (bs:List Value),RDf w ok bs l ->RDf w' ok' bs l
 | [],bs,hd=>by simp only[RDf]at hd⊢;exact hd
 |c::r,bs,hd=>by
  simp only[RDf]at hd⊢;obtain⟨b,o,bs',h1,h2,h3,h4⟩:=hd;exact⟨b,o,bs',h1,(h b h2).1,RDc.keep h b h2 c o h3,RDf.keep h r bs' h4⟩
end
theorem RDc.keep' {w w':World}{ok ok':Nat ->Prop}(h:zZ w w' ok ok')(b:Nat): ∀(l:List D) (o:Nat),(∀j,o<=j ->j<o+l.length ->w'.cell? ⟨b,j,none⟩=w.cell? ⟨b,j,none⟩) ->RDc w ok b o l ->RDc w' ok' b o l
 | [],o,_,_=>by simp only[RDc]
 |d::r,o,hc,hd=>by
  simp only[RDc]at hd⊢;obtain⟨⟨v,h1,h2⟩,h3⟩:=hd;refine⟨⟨v,by rw[hc o (Nat.le_refl _) (by simp)];exact h1,RD.keep h d v h2⟩,RDc.keep' h b r (o+1) (λj h1 h2=>hc j (by omega) (by simp at h2⊢;omega)) h3⟩
theorem RDs.keep' {w w':World}{ok ok':Nat ->Prop}(h:zZ w w' ok ok')(b sz:Nat): ∀(l:List (List D)) (o:Nat),(∀j,o<=j ->j<o+l.length*sz ->w'.cell? ⟨b,j,none⟩=w.cell? ⟨b,j,none⟩) ->RDs w ok b sz o l ->RDs w' ok' b sz o l
 | [],o,_,_=>by simp only[RDs]
 |e::r,o,hc,hd=>by
  simp only[RDs]at hd⊢;refine⟨hd.1,RDc.keep' h b e o (λj h1 h2=>hc j h1 ?_) hd.2.1,RDs.keep' h b sz r (o+sz) (λj h1 h2=>hc j (by omega) ?_) hd.2.2⟩
  ·rw[hd.1]at h2;simp only[List.length_cons,Nat.add_mul,Nat.one_mul];omega
  ·simp only[List.length_cons,Nat.add_mul,Nat.one_mul];omega
theorem RDs.len {w:World}{ok:Nat ->Prop}{b sz:Nat}: ∀{l:List (List D)}{o:Nat},RDs w ok b sz o l -> ∀e∈l,e.length=sz
 | [],_,_,e,he=>by cases he
 |x::r,o,hd,e,he=>by
  simp only[RDs]at hd;rcases List.mem_cons.1 he with rfl|he
  ·exact hd.1
  ·exact RDs.len hd.2.2 e he
theorem RDs.get {w:World}{ok:Nat ->Prop}{b sz:Nat}: ∀{l:List (List D)}{o i:Nat}{e:List D},RDs w ok b sz o l ->l[i]? =some e ->RDc w ok b (o+i*sz) e
 | [],_,i,e,_,he=>by simp at he
 |x::r,o,0,e,hd,he=>by
  simp only[RDs]at hd;simp at he;subst he;simpa using hd.2.1
 |x::r,o,i+1,e,hd,he=>by
  simp only[RDs]at hd;simp at he;have:=RDs.get hd.2.2 he;rwa[show o+(i+1)*sz=o+sz+i*sz by rw[Nat.add_mul];omega]
theorem RDs.take {w:World}{ok:Nat ->Prop}{b sz:Nat}: ∀{l:List (List D)}{o:Nat}(n:Nat),RDs w ok b sz o l ->RDs w ok b sz o (l.take n)
 | [],_,n,_=>by simp[RDs]
 |x::r,o,0,hd=>by simp[RDs]
 |x::r,o,n+1,hd=>by
  simp only[RDs,List.take_succ_cons]at hd⊢;exact⟨hd.1,hd.2.1,RDs.take n hd.2.2⟩
theorem RDs.drop {w:World}{ok:Nat ->Prop}{b sz:Nat}: ∀{l:List (List D)}{o:Nat}(n:Nat),RDs w ok b sz o l ->RDs w ok b sz (o+n*sz) (l.drop n)
 | [],_,n,_=>by simp[RDs]
 |x::r,o,0,hd=>by simpa using hd
 |x::r,o,n+1,hd=>by
  simp only[List.drop_succ_cons];simp only[RDs]at hd;have:=RDs.drop n hd.2.2;rwa[show o+(n+1)*sz=o+sz+n*sz by rw[Nat.add_mul];omega]
theorem RDc.drop {w:World}{ok:Nat ->Prop}{b:Nat}: ∀{l:List D}{o:Nat}(n:Nat),RDc w ok b o l ->RDc w ok b (o+n) (l.drop n)
 | [],_,n,_=>by simp[RDc]
 |x::r,o,0,hd=>by simpa using hd
 |x::r,o,n+1,hd=>by
  simp only[List.drop_succ_cons];simp only[RDc]at hd;have:=RDc.drop n hd.2;rwa[show o+(n+1)=o+1+n by omega]
end Go.AM
namespace Go.AM
def zX (w w':World):Prop:= ∀b t m,w.shape? b=some (t,m) ->w'.shape? b=some (t,m)
theorem zX.refl (w:World):zX w w:=λ_ _ _ h=>h
section
variable {ι ι':Nat ->Gh}{w w':World}{ok ok':Nat ->Prop}{l:List Nat}
theorem CR.kill (hk:zZ w w' ok ok')(hs:zX w w')(hι: ∀p,isin p l=false ->ι' p=ι p)(c:C)(v:Value)(h:CR ι w ok c v):CR ι' w' ok' (c.kill l) v:=by
 cases c with
 |dead=>trivial
 |d x=>exact RD.keep hk x v h
 |nil=>exact h
 |ptr p o=>
  simp only[C.kill];cases hp:isin p l
  ·obtain⟨b,h1,h2⟩:=h;exact⟨b,by rw[hι p hp];exact h1,h2⟩
  ·trivial
 |eptr p z i k=>
  simp only[C.kill];cases hp:isin p l
  ·obtain⟨b,h1,h2⟩:=h;exact⟨b,by rw[hι p hp];exact h1,h2⟩
  ·trivial
 |own p z n=>
  simp only[C.kill];cases hp:isin p l
  ·rcases h with⟨h1,h2,h3⟩|⟨b,cap,t,h1,h2,h3,h4,h5,h6⟩
   ·exact .inl ⟨by rw[hι p hp];exact h1,h2,h3⟩
   ·exact .inr ⟨b,cap,t,by rw[hι p hp];exact h1,by rw[hι p hp];exact h2,h3,h4,h5,hs _ _ _ h6⟩
  ·trivial
 |sub p z o n=>
  simp only[C.kill];cases hp:isin p l
  ·simp only[CR]at h;simp only[CR,cond_false];rw[hι p hp];exact h
  ·trivial
 |fp cells=>
  obtain⟨b,o,h1,h2,h3⟩:=h;exact⟨b,o,h1,(hk b h2).1,RDc.keep hk b h2 _ _ h3⟩
 |clo f caps=>
  simp only[C.kill];cases hp:caps.any (λq=>isin q l)
  ·obtain⟨bs,h1,h2⟩:=h;refine⟨bs,?_,h2⟩;rw[<- h1];apply List.map_congr_left;intro q hq;apply congrArg Gh.b;apply hι;have:=List.any_eq_false.1 hp q hq;simpa using this
  ·trivial
theorem CR.keep (hk:zZ w w' ok ok')(hs:zX w w')(c:C)(v:Value)(h:CR ι w ok c v):CR ι w' ok' c v:=by
 cases c with
 |dead=>trivial
 |d x=>exact RD.keep hk x v h
 |nil=>exact h
 |ptr p o=>exact h
 |eptr p z i k=>exact h
 |own p z n=>
  rcases h with h|⟨b,cap,t,h1,h2,h3,h4,h5,h6⟩
  ·exact .inl h
  ·exact .inr ⟨b,cap,t,h1,h2,h3,h4,h5,hs _ _ _ h6⟩
 |sub p z o n=>exact h
 |fp cells=>
  obtain⟨b,o,h1,h2,h3⟩:=h;exact⟨b,o,h1,(hk b h2).1,RDc.keep hk b h2 _ _ h3⟩
 |clo f caps=>exact h
theorem CRs.kill (hk:zZ w w' ok ok')(hs:zX w w')(hι: ∀p,isin p l=false ->ι' p=ι p): ∀(cs:List C) (vs:List Value),CRs ι w ok cs vs ->CRs ι' w' ok' (cs.map (C.kill l)) vs
 | [],[],_=>trivial
 | [],_::_,h=>h
 |_::_,[],h=>h
 |c::cs,v::vs,h=>⟨CR.kill hk hs hι c v h.1,CRs.kill hk hs hι cs vs h.2⟩
theorem CRs.keep (hk:zZ w w' ok ok')(hs:zX w w'): ∀(cs:List C) (vs:List Value),CRs ι w ok cs vs ->CRs ι w' ok' cs vs
 | [],[],_=>trivial
 | [],_::_,h=>h
 |_::_,[],h=>h
 |c::cs,v::vs,h=>⟨CR.keep hk hs c v h.1,CRs.keep hk hs cs vs h.2⟩
theorem WR.kill (hk:zZ w w' ok ok')(hs:zX w w')(hι: ∀p,isin p l=false ->ι' p=ι p)(x:W)(v:Value)(h:WR ι w ok x v):WR ι' w' ok' (x.kill l) v:=by
 cases x with
 |c x=>exact CR.kill hk hs hι x v h
 |agg cs=>obtain⟨vs,h1,h2⟩:=h;exact⟨vs,h1,CRs.kill hk hs hι cs vs h2⟩
theorem WR.keep (hk:zZ w w' ok ok')(hs:zX w w')(x:W)(v:Value)(h:WR ι w ok x v):WR ι w' ok' x v:=by
 cases x with
 |c x=>exact CR.keep hk hs x v h
 |agg cs=>obtain⟨vs,h1,h2⟩:=h;exact⟨vs,h1,CRs.keep hk hs cs vs h2⟩
theorem xW.kill (hk:zZ w w' ok ok')(hs:zX w w')(hι: ∀p,isin p l=false ->ι' p=ι p): ∀(cs:List W) (vs:List Value),xW ι w ok cs vs ->xW ι' w' ok' (cs.map (W.kill l)) vs
 | [],[],_=>trivial
 | [],_::_,h=>h
 |_::_,[],h=>h
 |c::cs,v::vs,h=>⟨WR.kill hk hs hι c v h.1,xW.kill hk hs hι cs vs h.2⟩
theorem xW.keep (hk:zZ w w' ok ok')(hs:zX w w'): ∀(cs:List W) (vs:List Value),xW ι w ok cs vs ->xW ι w' ok' cs vs
 | [],[],_=>trivial
 | [],_::_,h=>h
 |_::_,[],h=>h
 |c::cs,v::vs,h=>⟨WR.keep hk hs c v h.1,xW.keep hk hs cs vs h.2⟩
theorem VR.kill (hk:zZ w w' ok ok')(hs:zX w w')(hι: ∀p,isin p l=false ->ι' p=ι p)(x:V)(v:Value)(h:VR ι w ok x v):VR ι' w' ok' (x.kill l) v:=by
 cases x with
 |w x=>exact WR.kill hk hs hι x v h
 |tup cs=>obtain⟨vs,h1,h2⟩:=h;exact⟨vs,h1,xW.kill hk hs hι cs vs h2⟩
theorem VR.keep (hk:zZ w w' ok ok')(hs:zX w w')(x:V)(v:Value)(h:VR ι w ok x v):VR ι w' ok' x v:=by
 cases x with
 |w x=>exact WR.keep hk hs x v h
 |tup cs=>obtain⟨vs,h1,h2⟩:=h;exact⟨vs,h1,xW.keep hk hs cs vs h2⟩
end
theorem CRs.length {ι:Nat ->Gh}{w:World}{ok:Nat ->Prop}: ∀{cs:List C}{vs:List Value},CRs ι w ok cs vs ->cs.length=vs.length
 | [],[],_=>rfl
 | [],_::_,h=>h.elim
 |_::_,[],h=>h.elim
 |_::_,_::_,h=>by simp[CRs.length h.2]
theorem CRs.take {ι:Nat ->Gh}{w:World}{ok:Nat ->Prop}: ∀{cs:List C}{vs:List Value}(n:Nat),CRs ι w ok cs vs ->CRs ι w ok (cs.take n) (vs.take n)
 | [],[],n,_=>by simp[CRs]
 | [],_::_,_,h=>h.elim
 |_::_,[],_,h=>h.elim
 |_::_,_::_,0,_=>by simp[CRs]
 |_::_,_::_,n+1,h=>⟨h.1,CRs.take n h.2⟩
theorem CRs.drop {ι:Nat ->Gh}{w:World}{ok:Nat ->Prop}: ∀{cs:List C}{vs:List Value}(n:Nat),CRs ι w ok cs vs ->CRs ι w ok (cs.drop n) (vs.drop n)
 | [],[],n,_=>by simp[CRs]
 | [],_::_,_,h=>h.elim
 |_::_,[],_,h=>h.elim
 |_::_,_::_,0,h=>h
 |_::_,_::_,n+1,h=>CRs.drop n h.2
theorem CRs.append {ι:Nat ->Gh}{w:World}{ok:Nat ->Prop}: ∀{cs ds:List C}{vs us:List Value},CRs ι w ok cs vs ->CRs ι w ok ds us ->CRs ι w ok (cs++ds) (vs++us)
 | [],_,[],_,_,h2=>h2
 | [],_,_::_,_,h,_=>h.elim
 |_::_,_,[],_,h,_=>h.elim
 |_::_,_,_::_,_,h,h2=>⟨h.1,CRs.append h.2 h2⟩
theorem CR.one {ι:Nat ->Gh}{w:World}{ok:Nat ->Prop}{c:C}{v:Value}(h:CR ι w ok c v)(hd:c.isDead=false):v.oneCell'=true:=by
 cases c with
 |dead=>cases hd
 |d x=>cases x with
  |lit u=>simp only[CR,RD]at h;obtain⟨rfl,h⟩:=h;exact h
  |sl l=>simp only[CR,RD]at h;obtain⟨_,_,_,rfl,_⟩:=h;rfl
  |fn f l=>simp only[CR,RD]at h;obtain⟨_,rfl,_⟩:=h;rfl
 |nil=>simp only[CR]at h;subst h;rfl
 |ptr p o=>obtain⟨_,_,rfl⟩:=h;rfl
 |eptr p z i k=>obtain⟨_,_,rfl⟩:=h;rfl
 |own p z n=>rcases h with⟨_,_,rfl⟩|⟨_,_,_,_,_,rfl,_⟩<;>rfl
 |sub p z o n=>obtain⟨_,_,rfl,_⟩:=h;rfl
 |fp cells=>obtain⟨_,_,rfl,_⟩:=h;rfl
 |clo f caps=>obtain⟨_,_,rfl⟩:=h;rfl
theorem CRs.ones {ι:Nat ->Gh}{w:World}{ok:Nat ->Prop}: ∀{cs:List C}{vs:List Value},CRs ι w ok cs vs ->solid cs=true -> ∀v∈vs,v.oneCell'=true
 | [],[],_,_,_,hv=>by cases hv
 | [],_::_,h,_,_,_=>h.elim
 |_::_,[],h,_,_,_=>h.elim
 |c::cs,v::vs,h,hs,u,hu=>by
  unfold solid at hs;cases hd:c.isDead
  ·rw[hd]at hs;rcases List.mem_cons.1 hu with rfl|hu
   ·exact CR.one h.1 hd
   ·exact CRs.ones h.2 hs u hu
  ·rw[hd]at hs;cases hs
theorem Pl.live_kill (x:Pl)(l:List Nat):(x.kill l).live=x.live:=by cases x<;>rfl
theorem RowAt.cell {w:World}{b:Nat}{cur:Array Value}(h:RowAt w b cur)(j:Nat):w.cell? ⟨b,j,none⟩=cur[j]? :=by
 obtain⟨t,h⟩:=h;exact cell_of_row w b j cur t (0,0) h
theorem RowAt.lt {w:World}{b:Nat}{cur:Array Value}(h:RowAt w b cur):b<w.heap.size:=by
 obtain⟨t,h⟩:=h;exact(Array.getElem?_eq_some_iff.1 h).1
theorem PR.kill {ι ι':Nat ->Gh}{w w':World}{ok ok':Nat ->Prop}{l:List Nat}(hk:zZ w w' ok ok')(hs:zX w w')(hι: ∀p,isin p l=false ->ι' p=ι p)(p:Nat)(hp:isin p l=false)(x:Pl)
 (hb:x.live=true -> ∀b,(ι p).b=some b ->w'.heap[b]? =w.heap[b]?) (h:PR ι w ok p x):PR ι' w' ok' p (x.kill l):=by
 cases x with
 |box cs=>
  obtain⟨b,cur,h1,⟨t,h2⟩,h3⟩:=h;exact⟨b,cur,by rw[hι p hp];exact h1,⟨t,by rw[hb rfl b h1];exact h2⟩,CRs.kill hk hs hι cs _ h3⟩
 |arr sz els fz=>
  obtain⟨h0,hn,h⟩:=h;refine⟨h0,by rw[hι p hp];exact hn,?_⟩;rcases h with⟨h1,h2⟩|⟨b,h1,h2,h3,h4⟩
  ·exact .inl ⟨by rw[hι p hp];exact h1,h2⟩
  ·refine .inr ⟨b,by rw[hι p hp];exact h1,?_,λhf=>(hk b (h3 hf)).1,λhf=>?_⟩
   ·have hsame:w'.heap[b]? =w.heap[b]? :=by
     cases fz
     ·exact hb rfl b h1
     ·exact(hk b (h3 rfl)).2
    exact RDs.keep' hk b sz els 0 (λj _ _=>uW hsame j) h2
   ·obtain⟨cur,⟨t,h5⟩,h6⟩:=h4 hf;subst hf;exact⟨cur,⟨t,by rw[hb rfl b h1];exact h5⟩,h6⟩
 |fbox ds=>
  obtain⟨b,h1,h2,h3⟩:=h;exact⟨b,by rw[hι p hp];exact h1,(hk b h2).1,RDc.keep hk b h2 _ _ h3⟩
 |gone=>exact h.elim
theorem Grows.refl (M:Nat ->Prop)(w:World):Grows M w w:=⟨rfl,rfl,Out.refl w,Nat.le_refl _,λ_ _ _=>rfl,λ_ _ _ h=>h⟩
section
variable {F:Fr}{N:Nat}{ι:Nat ->Gh}{s:S}{a:Act}{w:World}
theorem S.redo_sl (s:S)(kills:List Nat)(new:List (Nat×Pl))(k:Nat):aget (s.redo kills new).sl k=(aget s.sl k).map (V.kill kills):=by
 simp only[S.redo];exact ak3 s.sl (V.kill kills) k
theorem S.redo_pl (s:S)(kills:List Nat)(new:List (Nat×Pl))(p:Nat):
 aget (s.redo kills new).pl p=match aget new p with|some x=>some x|none=>if isin p kills=false then(aget s.pl p).map (Pl.kill kills)else none:=by
 simp only[S.redo,anv];cases aget new p with
 |some x=>rfl
 |none=>
  simp only[];rw[ak3 (xp (λk=>!isin k kills) s.pl) (Pl.kill kills) p,jX];cases isin p kills<;>simp
theorem Rel.redoG (hr:Rel F N ι s a w)(kills:List Nat)(new:List (Nat×Pl))(ι':Nat ->Gh)(w':World)
 (hι: ∀p,isin p kills=false ->ι' p=ι p)
 (hsame: ∀b,b<w.heap.size ->(∀q y,(isin q kills=true\/aget new q≠none) ->aget s.pl q=some y ->y.live=true ->(ι q).b≠some b) ->w'.heap[b]? =w.heap[b]?)
 (hs:zX w w') (hos:w'.os=w.os) (htape:w'.tape=w.tape) (hout:Out w w') (hsize:w.heap.size<=w'.heap.size)
 (hpl: ∀p x,aget new p=some x ->PR ι' w' (F.ok ι' (s.redo kills new).pl w') p x)
 (hfresh: ∀p x b,aget new p=some x ->(ι' p).b=some b ->b<w'.heap.size /\(w.heap.size<=b\/ ∃q y,(isin q kills=true\/aget new q≠none)/\aget s.pl q=some y /\y.live=true /\(ι q).b=some b))
 (hinj: ∀p q x y b,aget new p=some x ->aget new q=some y ->p≠q ->(ι' p).b=some b ->(ι' q).b≠some b)
 (hh: ∀p x g,aget new p=some x ->F.h p=some g ->ι' p=g):
 Rel F N ι' (s.redo kills new) a w':=by
 have hownOld: ∀b,Owns ι' (s.redo kills new).pl b ->(w.heap.size<=b\/Owns ι s.pl b)/\b<w'.heap.size:=by
  rintro b ⟨p,x,hx,hl,hb⟩;rw[S.redo_pl]at hx;cases hn:aget new p with
  |some y=>
   simp only[hn]at hx;obtain⟨h1,h2⟩:=hfresh p y b hn hb;refine⟨?_,h1⟩;rcases h2 with h2|⟨q,z,_,h4,h5,h6⟩
   ·exact .inl h2
   ·exact .inr ⟨q,z,h4,h5,h6⟩
  |none=>
   simp only[hn]at hx;split at hx
   ·rename_i hk;cases hp:aget s.pl p with
    |none=>rw[hp]at hx;cases hx
    |some y=>
     rw[hp]at hx;simp at hx;subst hx;have ho:Owns ι s.pl b:=⟨p,y,hp,by rw[<- Pl.live_kill y kills];exact hl,by rw[<- hι p hk];exact hb⟩;exact⟨.inr ho,Nat.lt_of_lt_of_le (hr.mine b ho).2 hsize⟩
   ·cases hx
 have hkeep:zZ w w' (F.ok ι s.pl w) (F.ok ι' (s.redo kills new).pl w'):=by
  intro b hb;obtain⟨h1,h2,h3⟩:=hb;refine⟨⟨h1,Nat.lt_of_lt_of_le h2 hsize,λho=>?_⟩,hsame b h2 (λq y _ hy hl hq=>h3 ⟨q,y,hy,hl,hq⟩)⟩;rcases(hownOld b ho).1 with h|h
  ·omega
  ·exact h3 h
 refine⟨hr.room,?_,?_,?_,?_,hr.defers,?_,hr.foreign,hr.handed,hr.few,hr.hdom,?_⟩
 rotate_left 5
 ·intro p x g hx hg;rw[S.redo_pl]at hx;cases hn:aget new p with
  |some y=>exact hh p y g hn hg
  |none=>
   simp only[hn]at hx;split at hx
   ·rename_i hk;cases hp:aget s.pl p with
    |none=>rw[hp]at hx;cases hx
    |some y=>rw[hι p hk];exact hr.hkeep p y g hp hg
   ·cases hx
 ·intro k v hv;rw[S.redo_sl]at hv;cases hk:aget s.sl k with
  |none=>rw[hk]at hv;cases hv
  |some u=>
   rw[hk]at hv;simp at hv;subst hv;obtain⟨x,h1,h2⟩:=hr.slots k u hk;exact⟨x,h1,VR.kill hkeep hs hι u x h2⟩
 ·intro p x hx;rw[S.redo_pl]at hx;cases hn:aget new p with
  |some y=>simp only[hn]at hx;cases hx;exact hpl p _ hn
  |none=>
   simp only[hn]at hx;split at hx
   ·rename_i hk;cases hp:aget s.pl p with
    |none=>rw[hp]at hx;cases hx
    |some y=>
     rw[hp]at hx;simp at hx;subst hx;refine PR.kill hkeep hs hι p hk y (λhl b hb=>?_) (hr.places p y hp);refine hsame b (hr.mine b ⟨p,y,hp,hl,hb⟩).2 (λq z hq hz hlz hqb=>?_)
     have hpq:p≠q:=λe=>by subst e;rcases hq with hq|hq;·rw[hk]at hq;cases hq
                          ·exact hq hn
     exact hr.inj p q y z b hp hz hpq hl hb hqb
   ·cases hx
 ·intro p q x y b hx hy hpq hl hb hq;rw[S.redo_pl]at hx hy;cases hn:aget new p with
  |some x'=>
   simp only[hn]at hx;cases hx;cases hm:aget new q with
   |some y'=>exact hinj p q _ _ b hn hm hpq hb hq
   |none=>
    simp only[hm]at hy;split at hy
    ·rename_i hk;cases hq':aget s.pl q with
     |none=>rw[hq']at hy;cases hy
     |some z=>
      rw[hq']at hy;simp at hy;rw[hι q hk]at hq;obtain⟨_,h2⟩:=hfresh p _ b hn hb;have hlt:b<w.heap.size:=by
       have hz:=hr.places q z hq';cases z with
       |box cs=>obtain⟨b',cur,e1,e2,_⟩:=hz;rw[hq]at e1;cases e1;exact e2.lt
       |arr sz els fz=>
        obtain⟨_,_,hz|⟨b',e1,e2,e3,e4⟩⟩:=hz
        ·rw[hq]at hz;cases hz.1
        ·rw[hq]at e1;cases e1;cases fz
         ·obtain⟨cur,e5,_⟩:=e4 rfl;exact e5.lt
         ·exact(e3 rfl).2.1
       |fbox ds=>obtain⟨b',e1,e2,_⟩:=hz;rw[hq]at e1;cases e1;exact e2.2.1
       |gone=>exact hz.elim
      rcases h2 with h2|⟨r,u,h3,h4,h5,h6⟩
      ·omega
      ·have hrq:r≠q:=λe=>by subst e;rcases h3 with h3|h3;·rw[hk]at h3;cases h3
                            ·exact h3 hm
       exact hr.inj r q u z b h4 hq' hrq h5 h6 hq
    ·cases hy
  |none=>
   simp only[hn]at hx;split at hx
   ·rename_i hk;cases hp:aget s.pl p with
    |none=>rw[hp]at hx;cases hx
    |some x'=>
     rw[hp]at hx;simp at hx;subst hx;rw[Pl.live_kill]at hl;rw[hι p hk]at hb;cases hm:aget new q with
     |some y'=>
      obtain⟨_,h2⟩:=hfresh q y' b hm hq;rcases h2 with h2|⟨r,u,h3,h4,h5,h6⟩
      ·have:=(hr.mine b ⟨p,x',hp,hl,hb⟩).2;omega
      ·have hpr:p≠r:=λe=>by subst e;rcases h3 with h3|h3;·rw[hk]at h3;cases h3
                            ·exact h3 hn
       exact hr.inj p r x' u b hp h4 hpr hl hb h6
     |none=>
      simp only[hm]at hy;split at hy
      ·rename_i hk2;cases hq':aget s.pl q with
       |none=>rw[hq']at hy;cases hy
       |some z=>
        rw[hι q hk2]at hq;exact hr.inj p q x' z b hp hq' hpq hl hb hq
      ·cases hy
   ·cases hx
 ·intro b hb;obtain⟨h1,h2⟩:=hownOld b hb;refine⟨?_,h2⟩;rcases h1 with h1|h1
  ·exact .inr (Nat.le_trans hr.grows.size h1)
  ·exact(hr.mine b h1).1
 ·refine⟨hos.trans hr.grows.os,htape.trans hr.grows.tape,hout.trans hr.grows.output,Nat.le_trans hr.grows.size hsize,λb hb hm=>?_,λb t m h=>hs b t m (hr.grows.shapes b t m h)⟩;rw[hsame b (Nat.lt_of_lt_of_le hb hr.grows.size) ?_]
  ·exact hr.grows.block b hb hm
  ·intro q y _ hy hl hq;rcases(hr.mine b ⟨q,y,hy,hl,hq⟩).1 with h|h
   ·exact hm h
   ·omega
theorem Rel.redo (hr:Rel F N ι s a w)(kills:List Nat)(new:List (Nat×Pl))(ι':Nat ->Gh)(w':World)
 (hι: ∀p,isin p kills=false ->ι' p=ι p)
 (hsame: ∀b,b<w.heap.size ->(∀q y,isin q kills=true ->aget s.pl q=some y ->y.live=true ->(ι q).b≠some b) ->w'.heap[b]? =w.heap[b]?)
 (hs:zX w w') (hos:w'.os=w.os) (htape:w'.tape=w.tape) (hout:Out w w') (hsize:w.heap.size<=w'.heap.size)
 (hpl: ∀p x,aget new p=some x ->PR ι' w' (F.ok ι' (s.redo kills new).pl w') p x)
 (hfresh: ∀p x b,aget new p=some x ->(ι' p).b=some b ->b<w'.heap.size /\(w.heap.size<=b\/ ∃q y,isin q kills=true /\aget s.pl q=some y /\y.live=true /\(ι q).b=some b))
 (hinj: ∀p q x y b,aget new p=some x ->aget new q=some y ->p≠q ->(ι' p).b=some b ->(ι' q).b≠some b)
 (hh: ∀p x,aget new p=some x ->F.h p=none):
 Rel F N ι' (s.redo kills new) a w':=
 hr.redoG kills new ι' w' hι (λb hb h=>hsame b hb λq y hq=>h q y (.inl hq)) hs hos htape hout hsize hpl
  (λp x b hx hb=>⟨(hfresh p x b hx hb).1,(hfresh p x b hx hb).2.imp id λ⟨q,y,h,r⟩=>⟨q,y,.inl h,r⟩⟩) hinj (λp x g hx hg=>by rw[hh p x hx]at hg;cases hg)
theorem Rel.h_slot (hr:Rel F N ι s a w){d:Nat}(hd:d<N):F.h d=none:=by
 cases h:F.h d with
 |none=>rfl
 |some g=>have:=hr.hdom d g h;have:=hr.few;omega
theorem Rel.h_big (hr:Rel F N ι s a w){i:Nat}(hi:600000<=i):F.h i=none:=by
 cases h:F.h i with
 |none=>rfl
 |some g=>have:=hr.hdom i g h;omega
theorem PR.keep {ι:Nat ->Gh}{w:World}{ok ok':Nat ->Prop}(hk:zZ w w ok ok'){p:Nat}{x:Pl}(h:PR ι w ok p x):PR ι w ok' p x:=by
 cases x with
 |box cs=>obtain⟨b,cur,e1,e2,e3⟩:=h;exact⟨b,cur,e1,e2,CRs.keep hk (zX.refl w) _ _ e3⟩
 |arr sz els fz=>
  obtain⟨h0,hn,h|⟨b,e1,e2,e3,e4⟩⟩:=h
  ·exact⟨h0,hn,.inl h⟩
  ·exact⟨h0,hn,.inr ⟨b,e1,RDs.keep' hk b sz els 0 (λ_ _ _=>rfl) e2,λhf=>(hk b (e3 hf)).1,e4⟩⟩
 |fbox ds=>obtain⟨b,e1,e2,e3⟩:=h;exact⟨b,e1,(hk b e2).1,RDc.keep hk b e2 _ _ e3⟩
 |gone=>exact h.elim
theorem Rel.sub (hr:Rel F N ι s a w)(t:S)(h1: ∀k v,aget t.sl k=some v ->aget s.sl k=some v)(h2: ∀p x,aget t.pl p=some x ->aget s.pl p=some x):Rel F N ι t a w:=by
 have hown: ∀b,Owns ι t.pl b ->Owns ι s.pl b:=λb ⟨p,x,e1,e2,e3⟩=>⟨p,x,h2 p x e1,e2,e3⟩
 have hkeep:zZ w w (F.ok ι s.pl w) (F.ok ι t.pl w):=λb hb=>⟨⟨hb.1,hb.2.1,λh=>hb.2.2 (hown b h)⟩,rfl⟩
 refine⟨hr.room,λk v hv=>?_,λp x hx=>?_,λp q x y b hx hy=>hr.inj p q x y b (h2 p x hx) (h2 q y hy),λb hb=>hr.mine b (hown b hb),hr.defers,hr.grows,hr.foreign,hr.handed,hr.few,hr.hdom,λp x g hx hg=>hr.hkeep p x g (h2 p x hx) hg⟩
 ·obtain⟨x,e1,e2⟩:=hr.slots k v (h1 k v hv);exact⟨x,e1,VR.keep hkeep (zX.refl w) v x e2⟩
 ·have h:=hr.places p x (h2 p x hx);cases x with
  |box cs=>obtain⟨b,cur,e1,e2,e3⟩:=h;exact⟨b,cur,e1,e2,CRs.keep hkeep (zX.refl w) _ _ e3⟩
  |arr sz els fz=>
   obtain⟨h0,hn,h|⟨b,e1,e2,e3,e4⟩⟩:=h
   ·exact⟨h0,hn,.inl h⟩
   ·exact⟨h0,hn,.inr ⟨b,e1,RDs.keep' hkeep b sz els 0 (λ_ _ _=>rfl) e2,λhf=>(hkeep b (e3 hf)).1,e4⟩⟩
  |fbox ds=>obtain⟨b,e1,e2,e3⟩:=h;exact⟨b,e1,(hkeep b e2).1,RDc.keep hkeep b e2 _ _ e3⟩
  |gone=>exact h.elim
theorem Act.put_size (a:Act)(d:Option Tmp)(v:Value):(a.put d v).tmps.size=a.tmps.size:=by
 cases d<;>simp[Act.put]
theorem Act.put_defers (a:Act)(d:Option Tmp)(v:Value):(a.put d v).defers=a.defers:=by
 cases d<;>simp[Act.put]
theorem Rel.put (hr:Rel F N ι s a w)(d:Option Tmp)(hd: ∀k,d=some k ->k<N)(v:V)(x:Value)(hv:VR ι w (F.ok ι s.pl w) v x):Rel F N ι (s.put d v) (a.put d x) w:=by
 cases d with
 |none=>exact hr
 |some d=>
  have hlt:d<a.tmps.size:=Nat.lt_of_lt_of_le (hd d rfl) hr.room;refine⟨by rw[Act.put_size];exact hr.room,λk u hu=>?_,hr.places,hr.inj,hr.mine,by rw[Act.put_defers];exact hr.defers,hr.grows,hr.foreign,hr.handed,hr.few,hr.hdom,hr.hkeep⟩;simp only[S.put,yi]at hu;simp only[Act.put];by_cases hk:d=k
  ·subst hk;simp only[if_true]at hu;cases hu;exact⟨x,by simp[hlt],hv⟩
  ·rw[if_neg hk]at hu;obtain⟨y,e1,e2⟩:=hr.slots k u hu;exact⟨y,by rw[Array.getElem?_setIfInBounds,if_neg hk];exact e1,e2⟩
end
end Go.AM
namespace Go.AM
section
variable {F:Fr}{N:Nat}{ι:Nat ->Gh}{s:S}{a:Act}{w:World}
def S.withPl (s:S)(pl:List (Nat×Pl)):S:={s with pl:=pl}
theorem ww (pl:List (Nat×Pl))(p q:Nat):aget (qJ pl p) q=if p=q then(match aget pl p with|some (.arr z els _)=>some (.arr z els true)|x=>x)else aget pl q:=by
 unfold qJ;cases h:aget pl p with
 |none=>by_cases e:p=q<;>simp[e];subst e;exact h
 |some x=>
  cases x with
  |arr z els fz=>simp only[yi]
  |_=>by_cases e:p=q<;>simp[e];subst e;exact h
theorem Rel.freeze (hr:Rel F N ι s a w)(p:Nat):Rel F N ι (s.withPl (qJ s.pl p)) a w:=by
 have hown: ∀b,Owns ι (qJ s.pl p) b ->Owns ι s.pl b:=by
  rintro b ⟨q,x,h1,h2,h3⟩;rw[ww]at h1;split at h1
  ·rename_i e;subst e;cases hp:aget s.pl p with
   |none=>rw[hp]at h1;cases h1
   |some y=>
    rw[hp]at h1;cases y with
    |arr z els fz=>cases h1;cases h2
    |_=>cases h1;exact⟨p,_,hp,h2,h3⟩
  ·exact⟨q,x,h1,h2,h3⟩
 have hkeep:zZ w w (F.ok ι s.pl w) (F.ok ι (qJ s.pl p) w):=λb hb=>⟨⟨hb.1,hb.2.1,λh=>hb.2.2 (hown b h)⟩,rfl⟩
 refine⟨hr.room,λk v hv=>?_,λq x hx=>?_,λq r x y b hx hy hqr hl hb hrb=>?_,λb hb=>hr.mine b (hown b hb),hr.defers,hr.grows,hr.foreign,hr.handed,hr.few,hr.hdom,λq x g hx hg=>?_⟩
 rotate_left 3
 ·have hx':aget (qJ s.pl p) q=some x:=hx;rw[ww]at hx';split at hx'
  ·rename_i e;subst e;cases hp:aget s.pl p with
   |none=>rw[hp]at hx';cases hx'
   |some y=>exact hr.hkeep p y g hp hg
  ·exact hr.hkeep q x g hx' hg
 ·obtain⟨x,e1,e2⟩:=hr.slots k v hv;exact⟨x,e1,VR.keep hkeep (zX.refl w) v x e2⟩
 ·have hx':aget (qJ s.pl p) q=some x:=hx;rw[ww]at hx';split at hx'
  ·rename_i e;subst e;cases hp:aget s.pl p with
   |none=>rw[hp]at hx';cases hx'
   |some y=>
    have h:=hr.places p y hp;rw[hp]at hx';cases y with
    |box cs=>cases hx';obtain⟨b,cur,e1,e2,e3⟩:=h;exact⟨b,cur,e1,e2,CRs.keep hkeep (zX.refl w) _ _ e3⟩
    |fbox ds=>cases hx';obtain⟨b,e1,e2,e3⟩:=h;exact⟨b,e1,(hkeep b e2).1,RDc.keep hkeep b e2 _ _ e3⟩
    |gone=>exact h.elim
    |arr z els fz=>
     cases hx';obtain⟨h0,hn,h|⟨b,e1,e2,e3,e4⟩⟩:=h
     ·exact⟨h0,hn,.inl h⟩
     ·refine⟨h0,hn,.inr ⟨b,e1,RDs.keep' hkeep b z els 0 (λ_ _ _=>rfl) e2,λ_=>?_,λhf=>by cases hf⟩⟩;cases fz
      ·have ho:Owns ι s.pl b:=⟨p,_,hp,rfl,e1⟩;refine⟨?_,(hr.mine b ho).2,?_⟩
       ·rcases(hr.mine b ho).1 with h|h
        ·exact .inr (.inl h)
        ·exact .inr (.inr h)
       ·rintro⟨q,x,h1,h2,h3⟩;have h1':aget (qJ s.pl p) q=some x:=h1;rw[ww]at h1';split at h1'
        ·rename_i e;subst e;rw[hp]at h1';cases h1';cases h2
        ·rename_i hne;exact hr.inj p q _ x b hp h1' hne rfl e1 h3
      ·exact(hkeep b (e3 rfl)).1
  ·have h:=hr.places q x hx';cases x with
   |box cs=>obtain⟨b,cur,e1,e2,e3⟩:=h;exact⟨b,cur,e1,e2,CRs.keep hkeep (zX.refl w) _ _ e3⟩
   |fbox ds=>obtain⟨b,e1,e2,e3⟩:=h;exact⟨b,e1,(hkeep b e2).1,RDc.keep hkeep b e2 _ _ e3⟩
   |gone=>exact h.elim
   |arr sz els fz=>
    obtain⟨h0,hn,h|⟨b,e1,e2,e3,e4⟩⟩:=h
    ·exact⟨h0,hn,.inl h⟩
    ·exact⟨h0,hn,.inr ⟨b,e1,RDs.keep' hkeep b sz els 0 (λ_ _ _=>rfl) e2,λhf=>(hkeep b (e3 hf)).1,e4⟩⟩
 ·have hx':aget (qJ s.pl p) q=some x:=hx;have hy':aget (qJ s.pl p) r=some y:=hy;rw[ww]at hx' hy';have h1: ∃x',aget s.pl q=some x' /\x'.live=true:=by
   split at hx'
   ·rename_i e;subst e;cases hp:aget s.pl p with
    |none=>rw[hp]at hx';cases hx'
    |some z=>
     rw[hp]at hx';cases z with
     |arr z els fz=>cases hx';cases hl
     |_=>cases hx';exact⟨_,rfl,hl⟩
   ·exact⟨x,hx',hl⟩
  have h2: ∃y',aget s.pl r=some y':=by
   split at hy'
   ·rename_i e;subst e;cases hp:aget s.pl p with
    |none=>rw[hp]at hy';cases hy'
    |some z=>exact⟨z,rfl⟩
   ·exact⟨y,hy'⟩
  obtain⟨x',h1,h1'⟩:=h1;obtain⟨y',h2⟩:=h2;exact hr.inj q r x' y' b h1 h2 hqr h1' hb hrb
theorem ar8 (p b:Nat)(h:F.ok ι s.pl w b):F.ok ι (qJ s.pl p) w b:=by
 refine⟨h.1,h.2.1,λho=>h.2.2 ?_⟩;obtain⟨q,x,h1,h2,h3⟩:=ho;rw[ww]at h1;split at h1
 ·rename_i e;subst e;cases hp:aget s.pl p with
  |none=>rw[hp]at h1;cases h1
  |some y=>
   rw[hp]at h1;cases y with
   |arr z els fz=>cases h1;cases h2
   |_=>cases h1;exact⟨p,_,hp,h2,h3⟩
 ·exact⟨q,x,h1,h2,h3⟩
theorem Rel.still (hr:Rel F N ι s a w){p:Nat}{x y:Pl}(hp:aget s.pl p=some x)(hx:x.live=true)(hy:y.live=false)
 (hpr:(∀b,F.ok ι s.pl w b ->F.ok ι (yq p y s.pl) w b) ->(∀b,(ι p).b=some b ->F.ok ι (yq p y s.pl) w b) ->PR ι w (F.ok ι (yq p y s.pl) w) p y):
 Rel F N ι (s.withPl (yq p y s.pl)) a w /\(∀b,F.ok ι s.pl w b ->F.ok ι (yq p y s.pl) w b)/\(∀b,(ι p).b=some b ->F.ok ι (yq p y s.pl) w b):=by
 have hown: ∀b,Owns ι (yq p y s.pl) b ->Owns ι s.pl b /\(ι p).b≠some b:=by
  rintro b ⟨q,z,h1,h2,h3⟩;rw[yi]at h1;split at h1
  ·cases h1;rw[hy]at h2;cases h2
  ·rename_i hne;exact⟨⟨q,z,h1,h2,h3⟩,λe=>hr.inj p q x z b hp h1 hne hx e h3⟩
 have hmono: ∀b,F.ok ι s.pl w b ->F.ok ι (yq p y s.pl) w b:=λb hb=>⟨hb.1,hb.2.1,λh=>hb.2.2 (hown b h).1⟩
 have hkeep:zZ w w (F.ok ι s.pl w) (F.ok ι (yq p y s.pl) w):=λb hb=>⟨hmono b hb,rfl⟩
 have hnew: ∀b,(ι p).b=some b ->F.ok ι (yq p y s.pl) w b:=λb hb=>by
  have ho:Owns ι s.pl b:=⟨p,x,hp,hx,hb⟩;refine⟨?_,(hr.mine b ho).2,λh=>(hown b h).2 hb⟩;rcases(hr.mine b ho).1 with h|h
  ·exact .inr (.inl h)
  ·exact .inr (.inr h)
 refine⟨⟨hr.room,λk v hv=>?_,λq z hz=>?_,λq r z u b hz hu hqr hl hb hrb=>?_,λb hb=>hr.mine b (hown b hb).1,hr.defers,hr.grows,hr.foreign,hr.handed,hr.few,hr.hdom,λq z g hz hg=>?_⟩,hmono,hnew⟩
 ·obtain⟨u,e1,e2⟩:=hr.slots k v hv;exact⟨u,e1,VR.keep hkeep (zX.refl w) v u e2⟩
 ·have hz':aget (yq p y s.pl) q=some z:=hz;rw[yi]at hz';split at hz'
  ·rename_i e;subst e;cases hz';exact hpr hmono hnew
  ·exact PR.keep hkeep (hr.places q z hz')
 ·have hz':aget (yq p y s.pl) q=some z:=hz;have hu':aget (yq p y s.pl) r=some u:=hu;rw[yi]at hz' hu';split at hz'
  ·cases hz';rw[hy]at hl;cases hl
  ·split at hu'
   ·rename_i e;subst e;exact hr.inj q p z x b hz' hp hqr hl hb hrb
   ·exact hr.inj q r z u b hz' hu' hqr hl hb hrb
 ·have hz':aget (yq p y s.pl) q=some z:=hz;rw[yi]at hz';split at hz'
  ·rename_i e;subst e;exact hr.hkeep p x g hp hg
  ·exact hr.hkeep q z g hz' hg
theorem amu (hr:Rel F N ι s a w){p z n:Nat}{v:Value}{sz:Nat}{els:List (List D)}{fz:Bool}(hp:aget s.pl p=some (.arr sz els fz))(hz:z=sz)
 (h:CR ι w (F.ok ι s.pl w) (.own p z n) v):n<=els.length /\((n=0 /\v= .slice none 0 0 /\(ι p).b=none /\els=[])\/
  ∃b cap t,(ι p).b=some b /\v= .slice (some ⟨b,0,none⟩) n cap /\n<=cap /\cap<=maxLen /\w.shape? b=some (t,cap*sz)/\RDs w (F.ok ι s.pl w) b sz 0 els):=by
 subst hz;obtain⟨h0,hn,hpl⟩:=hr.places p _ hp;rcases h with⟨h1,h2,h3⟩|⟨b,cap,t,h1,h2,h3,h4,h5,h6⟩
 ·subst h2;refine⟨Nat.zero_le _,.inl ⟨rfl,h3,h1,?_⟩⟩;rcases hpl with⟨_,e⟩|⟨b,e,_⟩
  ·exact e
  ·rw[h1]at e;cases e
 ·refine⟨by rw[hn];exact h2,.inr ⟨b,cap,t,h1,h3,h4,h5,h6,?_⟩⟩;rcases hpl with⟨e,_⟩|⟨b',e,e2,_⟩
  ·rw[h1]at e;cases e
  ·rw[h1]at e;cases e;exact e2
theorem abJ (hr:Rel F N ι s a w){p z n:Nat}{v:Value}{sz:Nat}{els:List (List D)}{fz:Bool}(hp:aget s.pl p=some (.arr sz els fz))
 (h:CR ι w (F.ok ι s.pl w) (.own p z n) v):n<=els.length /\((n=0 /\v= .slice none 0 0 /\(ι p).b=none /\els=[])\/
  ∃b cap t,(ι p).b=some b /\v= .slice (some ⟨b,0,none⟩) n cap /\n<=cap /\cap<=maxLen /\w.shape? b=some (t,cap*z)/\RDs w (F.ok ι s.pl w) b sz 0 els):=by
 obtain⟨h0,hn,hpl⟩:=hr.places p _ hp;rcases h with⟨h1,h2,h3⟩|⟨b,cap,t,h1,h2,h3,h4,h5,h6⟩
 ·subst h2;refine⟨Nat.zero_le _,.inl ⟨rfl,h3,h1,?_⟩⟩;rcases hpl with⟨_,e⟩|⟨b,e,_⟩
  ·exact e
  ·rw[h1]at e;cases e
 ·refine⟨by rw[hn];exact h2,.inr ⟨b,cap,t,h1,h3,h4,h5,h6,?_⟩⟩;rcases hpl with⟨e,_⟩|⟨b',e,e2,_⟩
  ·rw[h1]at e;cases e
  ·rw[h1]at e;cases e;exact e2
theorem asb (hr:Rel F N ι s a w){p sz n:Nat}{els:List (List D)}{fz:Bool}(hp:aget s.pl p=some (.arr sz els fz)){b cap:Nat}(h1:(ι p).b=some b)(hn:n<=els.length)
 (hnc:n<=cap) (hcm:cap<=maxLen):
 RD w (F.ok ι (qJ s.pl p) w) (.sl (els.take n)) (.slice (some ⟨b,0,none⟩) n cap):=by
 simp only[RD];refine⟨_,_,_,rfl,by simp;omega,hnc,hcm,?_⟩;have hf:=(hr.freeze p).places p (.arr sz els true) (by show aget (qJ s.pl p) p=_;rw[ww,if_pos rfl,hp]);obtain⟨_,_,hf|⟨b',e1,e2,e3,e4⟩⟩:=hf
 ·rw[h1]at hf;cases hf.1
 ·rw[h1]at e1;cases e1;exact .inr ⟨b,0,sz,rfl,e3 rfl,RDs.take n e2⟩
theorem ab8 (hr:Rel F N ι s a w){c:C}{v:Value}(hc:CR ι w (F.ok ι s.pl w) c v){x:D}{pl1:List (Nat×Pl)}(h:Qi s.pl c=some (x,pl1)):
 Rel F N ι (s.withPl pl1) a w /\(∀b,F.ok ι s.pl w b ->F.ok ι pl1 w b)/\RD w (F.ok ι pl1 w) x v:=by
 cases c with
 |d y=>cases h;exact⟨hr,λ_ h=>h,hc⟩
 |nil=>cases h;exact⟨hr,λ_ h=>h,by simp only[CR]at hc;subst hc;simp only[RD];exact⟨none,0,0,rfl,rfl,Nat.le_refl _,Nat.zero_le _,.inl trivial⟩⟩
 |own p z n=>
  simp only[Qi]at h;cases hp:aget s.pl p with
  |none=>simp only[hp]at h;cases h
  |some y=>
   cases y with
   |box cs=>simp only[hp]at h;cases h
   |fbox ds=>simp only[hp]at h;cases h
   |gone=>simp only[hp]at h;cases h
   |arr sz els fz=>
    simp only[hp]at h;cases h;refine⟨hr.freeze p,λb=>ar8 p b,?_⟩;obtain⟨hn,h|⟨b,cap,t,h1,h2,h3,h4,h5,h6⟩⟩:=abJ hr hp hc
    ·obtain⟨rfl,rfl,_,_⟩:=h;simp only[RD,List.take_zero];exact⟨none,0,0,rfl,rfl,Nat.le_refl _,Nat.zero_le _,.inl trivial⟩
    ·subst h2;exact asb hr hp h1 hn h3 h4
 |dead=>cases h
 |sub p z o n=>cases h
 |ptr p o=>cases h
 |eptr p z i k=>cases h
 |fp l=>cases h
 |clo f l=>
  cases l with
  |cons _ _=>cases h
  |nil=>
   cases h;refine⟨hr,λ_ h=>h,?_⟩;obtain⟨bs,h1,h2⟩:=hc;have hbs:bs=[]:=by simpa using h1.symm
   subst hbs;simp only[RD,RDf];exact⟨[],h2,rfl⟩
theorem Qj: ∀{cs:List C}{vs:List Value}{s:S}(_:Rel F N ι s a w) (_:CRs ι w (F.ok ι s.pl w) cs vs) {ds:List D}{pl1:List (Nat×Pl)}(_:ua s.pl cs=some (ds,pl1)),
 Rel F N ι (s.withPl pl1) a w /\(∀b,F.ok ι s.pl w b ->F.ok ι pl1 w b)/\CRs ι w (F.ok ι pl1 w) (ds.map .d) vs
 | [],[],s,hr,_,ds,pl1,h=>by cases h;exact⟨hr,λ_ h=>h,trivial⟩
 | [],_::_,_,_,hc,_,_,_=>hc.elim
 |_::_,[],_,_,hc,_,_,_=>hc.elim
 |c::cs,v::vs,s,hr,hc,ds,pl1,h=>by
  unfold ua at h;cases h1:Qi s.pl c with
  |none=>rw[h1]at h;cases h
  |some y=>
   obtain⟨y,pl2⟩:=y;rw[h1]at h;simp only[]at h;obtain⟨g1,g2,g3⟩:=ab8 hr hc.1 h1;cases h2:ua pl2 cs with
   |none=>rw[h2]at h;cases h
   |some z=>
    obtain⟨z,pl3⟩:=z;rw[h2]at h;cases h;have hk:zZ w w (F.ok ι s.pl w) (F.ok ι pl2 w):=λb hb=>⟨g2 b hb,rfl⟩
    obtain⟨k1,k2,k3⟩:=Qj (s:=s.withPl pl2) g1 (CRs.keep hk (zX.refl w) _ _ hc.2) h2;exact⟨k1,λb hb=>k2 b (g2 b hb),RD.keep (λb hb=>⟨k2 b hb,rfl⟩) _ _ g3,k3⟩
theorem aqX (hr:Rel F N ι s a w){c:W}{v:Value}(hc:WR ι w (F.ok ι s.pl w) c v){x:W}{pl1:List (Nat×Pl)}(h:aqW s.pl c=some (x,pl1)):
 Rel F N ι (s.withPl pl1) a w /\(∀b,F.ok ι s.pl w b ->F.ok ι pl1 w b)/\(∀ι',WR ι' w (F.ok ι pl1 w) x v):=by
 cases c with
 |c c=>
  by_cases hfp: ∃l,c= .fp l
  ·obtain⟨l,rfl⟩:=hfp;cases h;exact⟨hr,λ_ h=>h,λ_=>hc⟩
  ·have h':(match Qi s.pl c with|some (y,pl1)=>some (W.c (.d y),pl1)|none=>none)=some (x,pl1):=by
    rw[<- h];cases c with
    |fp l=>exact absurd ⟨l,rfl⟩ hfp
    |_=>rfl
   cases h1:Qi s.pl c with
   |none=>simp only[h1]at h';cases h'
   |some y=>
    simp only[h1]at h';cases h';obtain⟨g1,g2,g3⟩:=ab8 hr hc h1;exact⟨g1,g2,λ_=>g3⟩
 |agg cs=>
  simp only[aqW]at h;cases h1:ua s.pl cs with
  |none=>simp only[h1]at h;cases h
  |some y=>
   simp only[h1]at h;cases h;obtain⟨vs,rfl,hc⟩:=hc;obtain⟨g1,g2,g3⟩:=Qj hr hc h1;refine⟨g1,g2,λι'=>⟨vs,rfl,?_⟩⟩;clear h1 hc;generalize y.1=ds at*;induction ds generalizing vs with
   |nil=>cases vs<;>exact g3
   |cons d ds ih=>cases vs with
    |nil=>exact g3
    |cons v vs=>exact⟨g3.1,ih vs g3.2⟩
theorem adF: ∀{cs:List W}{vs:List Value}{s:S}(_:Rel F N ι s a w) (_:xW ι w (F.ok ι s.pl w) cs vs) {ds:List W}{pl1:List (Nat×Pl)}(_:gZ s.pl cs=some (ds,pl1)),
 Rel F N ι (s.withPl pl1) a w /\(∀b,F.ok ι s.pl w b ->F.ok ι pl1 w b)/\(∀ι',xW ι' w (F.ok ι pl1 w) ds vs)
 | [],[],s,hr,_,ds,pl1,h=>by cases h;exact⟨hr,λ_ h=>h,λ_=>trivial⟩
 | [],_::_,_,_,hc,_,_,_=>hc.elim
 |_::_,[],_,_,hc,_,_,_=>hc.elim
 |c::cs,v::vs,s,hr,hc,ds,pl1,h=>by
  unfold gZ at h;cases h1:aqW s.pl c with
  |none=>rw[h1]at h;cases h
  |some y=>
   obtain⟨y,pl2⟩:=y;rw[h1]at h;simp only[]at h;obtain⟨g1,g2,g3⟩:=aqX hr hc.1 h1;cases h2:gZ pl2 cs with
   |none=>rw[h2]at h;cases h
   |some z=>
    obtain⟨z,pl3⟩:=z;rw[h2]at h;cases h;have hk:zZ w w (F.ok ι s.pl w) (F.ok ι pl2 w):=λb hb=>⟨g2 b hb,rfl⟩
    obtain⟨k1,k2,k3⟩:=adF (s:=s.withPl pl2) g1 (xW.keep hk (zX.refl w) _ _ hc.2) h2;exact⟨k1,λb hb=>k2 b (g2 b hb),λι'=>⟨WR.keep (λb hb=>⟨k2 b hb,rfl⟩) (zX.refl w) _ _ (g3 ι'),k3 ι'⟩⟩
end
theorem aiC (ι:Nat ->Gh)(w:World)(ok:Nat ->Prop)(v:Value):CR ι w ok (Yx v) v:=by
 unfold Yx
 split<;>first
  |trivial
  |rfl
  |(simp only[CR,RD];exact⟨rfl,rfl⟩)
theorem ZJ (ι:Nat ->Gh)(w:World)(ok:Nat ->Prop): ∀(vs:List Value),CRs ι w ok (vs.map Yx) vs
 | []=>trivial
 |v::vs=>⟨aiC ι w ok v,ZJ ι w ok vs⟩
theorem Vq (ι:Nat ->Gh)(w:World)(ok:Nat ->Prop)(v:Value):WR ι w ok (ofValue v) v:=by
 unfold ofValue;split
 ·exact⟨_,by simp,ZJ ι w ok _⟩
 ·exact aiC ι w ok _
section
variable {F:Fr}{N:Nat}{ι:Nat ->Gh}{s:S}{a:Act}{w:World}
theorem ard (hr:Rel F N ι s a w)(t:Nat):VR ι w (F.ok ι s.pl w) (s.tmp t) (a.tmps.getD t undef):=by
 unfold S.tmp;cases h:aget s.sl t with
 |none=>trivial
 |some v=>
  obtain⟨x,h1,h2⟩:=hr.slots t v h;simp only[Array.getD_eq_getD_getElem?,h1,Option.getD_some];exact h2
theorem v6 (hr:Rel F N ι s a w)(x:Operand):VR ι w (F.ok ι s.pl w) (s.o (cO x)) (a.eval x):=by
 cases x with
 |tmp t=>exact ard hr t
 |const v=>exact Vq ι w _ v
 |global g=>trivial
 |func f=>exact⟨[],rfl,rfl⟩
theorem xE (hr:Rel F N ι s a w)(x:Operand):CR ι w (F.ok ι s.pl w) (s.oc (cO x)) (a.eval x):=by
 have h:=v6 hr x;unfold S.oc cOf;cases e:s.o (cO x)with
 |w y=>rw[e]at h;cases y with
  |c z=>exact h
  |agg cs=>trivial
 |tup xs=>trivial
theorem apx (hr:Rel F N ι s a w)(x:Operand):WR ι w (F.ok ι s.pl w) (s.ow (cO x)) (a.eval x):=by
 have h:=v6 hr x;unfold S.ow wOf;cases e:s.o (cO x)with
 |w y=>rw[e]at h;exact h
 |tup xs=>trivial
theorem ae4 (hr:Rel F N ι s a w): ∀(l:List Operand),xW ι w (F.ok ι s.pl w) ((l.map cO).map s.ow) (l.map a.eval)
 | []=>trivial
 |x::r=>⟨apx hr x,ae4 hr r⟩
end
end Go.AM
namespace Go.AM
def xd (P:Program)(F:Fr)(N:Nat)(o:Oper)(a:Act)(w:World)(K:S ->Prop):Prop:=
 ∀(next:Act ->World ->Prop) (Q:Exit ->Act ->World ->Prop),(∀ι s a' w',Rel F N ι s a' w' ->K s ->next a' w') ->o.wp P a w next Q
section
variable {P:Program}{F:Fr}{N:Nat}{ι:Nat ->Gh}{s:S}{a:Act}{w:World}{o:Oper}{K:S ->Prop}
theorem xd.of_value {v:Value}{w':World}{ι':Nat ->Gh}{s':S}(h:(execOp a.eval o).run P w= .ok (.value v) w')(hr:Rel F N ι' s' (a.put o.dst v) w')(hk:K s'):xd P F N o a w K:=by
 intro next Q hn;unfold Oper.wp;rw[h];exact hn ι' s' _ _ hr hk
theorem xd.of_skip {w':World}{ι':Nat ->Gh}{s':S}(h:(execOp a.eval o).run P w= .ok .skip w')(hr:Rel F N ι' s' (a.put o.dst undef) w')(hk:K s'):xd P F N o a w K:=by
 intro next Q hn;unfold Oper.wp;rw[h];exact hn ι' s' _ _ hr hk
theorem xd.put (hr:Rel F N ι s a w)(hd: ∀k,o.dst=some k ->k<N){v:Value}{x:V}(h:(execOp a.eval o).run P w= .ok (.value v) w)(hv:VR ι w (F.ok ι s.pl w) x v)(hk:K (s.put o.dst x)):xd P F N o a w K:=
 xd.of_value h (hr.put o.dst hd x v hv) hk
def zy (P:Program)(F:Fr)(N:Nat)(o:Oper)(a:Act)(w:World)(C:World ->Prop)(K:S ->Prop):Prop:=
 ∃v ι' s',(∀w',C w' ->(execOp a.eval o).run P w'= .ok (.value v) w')/\Rel F N ι' s' (a.put o.dst v) w /\K s'
theorem zy.fine {C:World ->Prop}(hC:C w)(h:zy P F N o a w C K):xd P F N o a w K:=
 let⟨_,_,_,h1,h2,h3⟩:=h
 xd.of_value (h1 w hC) h2 h3
theorem zy.put {C:World ->Prop}(hr:Rel F N ι s a w)(hd: ∀k,o.dst=some k ->k<N){v:Value}{x:V}(h: ∀w',C w' ->(execOp a.eval o).run P w'= .ok (.value v) w')(hv:VR ι w (F.ok ι s.pl w) x v)(hk:K (s.put o.dst x)):zy P F N o a w C K:=
 ⟨v,ι,_,h,hr.put o.dst hd x v hv,hk⟩
def vA (w w':World):Prop:=w.heap.size<=w'.heap.size /\ ∀b,b<w.heap.size ->w'.heap[b]? =w.heap[b]?
theorem vA.refl (w:World):vA w w:=⟨Nat.le_refl _,λ_ _=>rfl⟩
theorem vA.trans {w w' w'':World}(h:vA w w')(k:vA w' w''):vA w w'':=
 ⟨Nat.le_trans h.1 k.1,λb hb=>(k.2 b (Nat.lt_of_lt_of_le hb h.1)).trans (h.2 b hb)⟩
theorem vA.cell {w w':World}(h:vA w w'){b q:Nat}{v:Value}(hc:w.cell? ⟨b,q,none⟩=some v):w'.cell? ⟨b,q,none⟩=some v:=by
 have hb:b<w.heap.size:=by
  rcases Nat.lt_or_ge b w.heap.size with h'|h'
  ·exact h'
  ·simp[World.cell?,Array.getElem?_eq_none h']at hc
 simp only[World.cell?,h.2 b hb]at hc⊢;exact hc
def vd (P:Program)(F:Fr)(N:Nat)(o:Oper)(a:Act)(w:World)(K:S ->Prop):Prop:=
 ∀(next:Act ->World ->Prop) (Q:Exit ->Act ->World ->Prop),(∀ι s a' w',Rel F N ι s a' w' ->K s ->vA w w' ->next a' w') ->o.wp P a w next Q
theorem vd.fine (h:vd P F N o a w K):xd P F N o a w K:=λnext Q hn=>h next Q λι s a' w' hr hk _=>hn ι s a' w' hr hk
theorem vd.of_value {v:Value}{w':World}{ι':Nat ->Gh}{s':S}(he:vA w w')(h:(execOp a.eval o).run P w= .ok (.value v) w')(hr:Rel F N ι' s' (a.put o.dst v) w')(hk:K s'):vd P F N o a w K:=by
 intro next Q hn;unfold Oper.wp;rw[h];exact hn ι' s' _ _ hr hk he
theorem qT (b o j:Nat):(⟨b,o,none⟩:Addr).add j=⟨b,o+j,none⟩:=by
 unfold Addr.add;split<;>simp_all
theorem abh {t:TypeId}{d:TypeDesc}(h:P.underlying t=some d): ∃i,P.info? t=some i:=by
 unfold Program.underlying at h;cases hi:P.info? t with
 |none=>rw[hi]at h;cases h
 |some i=>exact⟨i,rfl⟩
theorem wl {t:TypeId}{i:TypeInfo}(h:P.info? t=some i)(w:World):(sizeOf t).run P w= .ok (zE P t) w:=by
 simp[sizeOf,typeInfo,h,zE]
theorem ab6 {t:TypeId}{g:Bool}(h:Km P t=some g): ∃i,P.info? t=some i /\ ∀w,(isAgg t).run P w= .ok g w:=by
 unfold Km at h;cases hu:P.underlying t with
 |none=>rw[hu]at h;cases h
 |some d=>
  obtain⟨i,hi⟩:=abh hu;refine⟨i,hi,λw=>?_⟩;rw[hu]at h;cases d<;>cases h<;>simp[isAgg,run_underlying hu]
theorem wt {t e:TypeId}(h:wT P t=some e):P.underlying t=some (.slice e):=by
 unfold wT at h;cases hu:P.underlying t with
 |none=>rw[hu]at h;cases h
 |some d=>rw[hu]at h;cases d<;>cases h;rfl
theorem Kn {t:TypeId}{f off:Nat}{ft:TypeId}(h:UM P t f=some (off,ft)): ∃fs x,P.underlying t=some (.struct fs)/\fs[f]? =some x /\x.offset=off /\x.type=ft:=by
 unfold UM at h;cases hu:P.underlying t with
 |none=>rw[hu]at h;cases h
 |some d=>
  rw[hu]at h;cases d<;>try (cases h;done)
  case struct fs=>
   cases hx:fs[f]? with
   |none=>simp only[hx]at h;cases h
   |some x=>simp only[hx]at h;cases h;exact⟨fs,x,rfl,hx,rfl,rfl⟩
theorem jQ {v:V}{n:Int}{x:Value}{ok:Nat ->Prop}(h:Yv v=some n)(hv:VR ι w ok v x): ∃k,x= .int k n /\v= .w (.c (.d (.lit (.int k n)))):=by
 unfold Yv at h;split at h
 ·rename_i k m;cases h;simp only[VR,WR,CR,RD]at hv;exact⟨k,hv.1,rfl⟩
 ·cases h
theorem X2 {v:V}{b:Bool}{x:Value}{ok:Nat ->Prop}(h:yo v=some b)(hv:VR ι w ok v x):x= .bool b:=by
 unfold yo at h;split at h
 ·cases h;simp only[VR,WR,CR,RD]at hv;exact hv.1
 ·cases h
theorem yO {ok:Nat ->Prop}{v x:Value}:CR ι w ok (.d (.lit v)) x ->x=v:=by
 intro h;simp only[CR,RD]at h;exact h.1
theorem yH {ok:Nat ->Prop}{v:Value}(h:v.oneCell'=true):VR ι w ok (cV (.d (.lit v))) v:=by
 simp only[cV,VR,WR,CR,RD];exact⟨trivial,h⟩
theorem JJ (hr:Rel F N ι s a w)(hd: ∀k,o.dst=some k ->k<N){x:Operand}(ho:o.op= .move x\/o.op= .assign x)(h:K (s.put o.dst (s.o (cO x)))):zy P F N o a w (λ_=>True) K:=by
 refine zy.put hr hd ?_ (v6 hr x) h;intro w' _;rcases ho with ho|ho<;>simp[execOp,ho]
theorem agV (hr:Rel F N ι s a w)(hd: ∀k,o.dst=some k ->k<N){c x y:Operand}(ho:o.op= .pick c x y)
 (h:match yo (s.o (cO c))with|some t=>cond t (K (s.put o.dst (s.o (cO x)))) (K (s.put o.dst (s.o (cO y))))|none=>False):zy P F N o a w (λ_=>True) K:=by
 cases hb:yo (s.o (cO c))with
 |none=>simp only[hb]at h
 |some t=>
  simp only[hb]at h;have hc:=X2 hb (v6 hr c);cases t
  ·exact zy.put hr hd (λw' _=>by simp[execOp,ho,hc,asBool]) (v6 hr y) h
  ·exact zy.put hr hd (λw' _=>by simp[execOp,ho,hc,asBool]) (v6 hr x) h
theorem ajl (hr:Rel F N ι s a w)(hd: ∀k,o.dst=some k ->k<N){x:Operand}{i:Nat}(ho:o.op= .extract x i)
 (h:zJ P o.dst (.ext (cO x) i) s K):zy P F N o a w (λ_=>True) K:=by
 simp only[zJ]at h;have hx:=v6 hr x;cases e:s.o (cO x)with
 |w y=>simp only[e]at h
 |tup xs=>
  simp only[e]at h;rw[e]at hx;obtain⟨vs,hv,hvs⟩:=hx;cases ei:xs[i]? with
  |none=>simp only[ei]at h
  |some y=>
   simp only[ei]at h;have: ∀(xs:List W) (vs:List Value) (i:Nat) (y:W),xW ι w (F.ok ι s.pl w) xs vs ->xs[i]? =some y -> ∃v,vs[i]? =some v /\WR ι w (F.ok ι s.pl w) y v:=by
    intro xs;induction xs with
    |nil=>intro vs i y _ he;simp at he
    |cons z zs ih=>
     intro vs i y hh he;cases vs with
     |nil=>exact hh.elim
     |cons v vs=>cases i with
      |zero=>simp at he;subst he;exact⟨v,rfl,hh.1⟩
      |succ i=>simp at he;simpa using ih vs i y hh.2 he
   obtain⟨v,h1,h2⟩:=this xs vs i y hvs ei;refine zy.put hr hd ?_ (show VR ι w _ (.w y) v from h2) h;intro w' _;simp[execOp,ho,hv,Instr.extract,h1]
theorem ang (hr:Rel F N ι s a w)(hd: ∀k,o.dst=some k ->k<N){x:Operand}(ho:o.op= .nilCheck x)
 (h:zJ P o.dst (.nc (cO x)) s K):zy P F N o a w (λ_=>True) K:=by
 simp only[zJ]at h;have hx:=xE hr x;cases e:s.oc (cO x)<;>simp only[e]at h<;>rw[e]at hx
 case ptr p k=>
  obtain⟨b,h1,h2⟩:=hx;exact zy.put hr hd (v:=a.eval x) (λw' _=>by simp[execOp,ho,h2]) (show VR ι w _ (cV (.ptr p k)) _ from⟨b,h1,h2⟩) h
 case eptr p z i k=>
  obtain⟨b,h1,h2⟩:=hx;exact zy.put hr hd (v:=a.eval x) (λw' _=>by simp[execOp,ho,h2]) (show VR ι w _ (cV (.eptr p z i k)) _ from⟨b,h1,h2⟩) h
 case fp l=>
  obtain⟨b,q,h1,h2⟩:=hx;exact zy.put hr hd (v:=a.eval x) (λw' _=>by simp[execOp,ho,h1]) (show VR ι w _ (cV (.fp l)) _ from⟨b,q,h1,h2⟩) h
theorem ai3 (hr:Rel F N ι s a w): ∀(caps:List Operand) (ps:List Nat),amw s (caps.map cO)=some ps -> ∃bs:List Nat,ps.map (λp=>(ι p).b)=bs.map some /\caps.map a.eval=bs.map λb=>Value.pointer (some ⟨b,0,none⟩)
 | [],ps,h=>by cases h;exact⟨[],rfl,rfl⟩
 |x::r,ps,h=>by
  simp only[List.map_cons,amw]at h;have hx:=xE hr x;split at h
  ·rename_i p l h1 h2;cases h;rw[h1]at hx;obtain⟨b,e1,e2⟩:=hx;obtain⟨bs,e3,e4⟩:=ai3 hr r l h2;exact⟨b::bs,by simp[e1,e3],by simp[e2,e4]⟩
  ·cases h
theorem asF (hr:Rel F N ι s a w)(hd: ∀k,o.dst=some k ->k<N){f:FuncId}{first caps:Array Operand}(ho:o.op= .makeFunc (.func f) first caps)(hf:first.toList.isEmpty=true)
 (h:zJ P o.dst (.clo f (caps.toList.map cO)) s K):xd P F N o a w K:=by
 simp only[zJ]at h;cases e:amw s (caps.toList.map cO)with
 |none=>simp only[e]at h
 |some ps=>
  simp only[e]at h;obtain⟨bs,h1,h2⟩:=ai3 hr caps.toList ps e;have hfirst:first= #[]:=by
   apply Array.toList_inj.1;simpa using hf
  refine xd.put hr hd (v:=.func (.func f) #[] (bs.map λb=>Value.pointer (some ⟨b,0,none⟩)).toArray) ?_ (show VR ι w _ (cV (.clo f ps)) _ from⟨bs,h1,rfl⟩) h;have hc:caps.map a.eval=(bs.map λb=>Value.pointer (some ⟨b,0,none⟩)).toArray:=by
   apply Array.toList_inj.1;simpa using h2
  simp[execOp,ho,Instr.makeFunc,hfirst,hc]
theorem amy {α:Type}: ∀(e:Sem α) (v:α),kh P e=some v -> ∀w,e.run P w= .ok v w:=by
 intro e;induction e with
 |pure x=>intro v h w;simp only[kh,Option.some.injEq]at h;subst h;rfl
 |program k ih=>intro v h w;exact ih P v h w
 |mark m k ih=>intro v h w;exact ih v h w
 |_=>intro v h w;cases h
theorem af5 {ok:Nat ->Prop}: ∀(cs:List C) (l vs:List Value),akM cs=some l ->CRs ι w ok cs vs ->vs=l
 | [],_,[],h,_=>by cases h;rfl
 | [],_,_::_,_,h=>h.elim
 |_::_,_,[],_,h=>h.elim
 |c::cs,l,v::vs,h,hc=>by
  simp only[akM]at h;split at h
  ·rename_i u m h1 h2;cases h;have:=af5 cs m vs h2 hc.2;subst this;have hv:=hc.1;unfold aqc at h1;split at h1
   ·cases h1;rw[yO hv]
   ·cases h1;simp only[CR]at hv;rw[hv]
   ·cases h1
  ·cases h
theorem ar1 {ok:Nat ->Prop}{v:V}{u x:Value}(h:al5 v=some u)(hv:VR ι w ok v x):x=u:=by
 cases v with
 |tup xs=>cases h
 |w y=>
  cases y with
  |c c=>
   simp only[al5,atI]at h;unfold aqc at h;split at h
   ·cases h;exact yO (ι:=ι) (w:=w) (ok:=ok) hv
   ·cases h;exact hv
   ·cases h
  |agg cs=>
   simp only[al5,atI]at h;obtain⟨vs,h1,h2⟩:=hv;split at h
   ·rename_i l hl;cases h;rw[h1,af5 cs l vs hl h2]
   ·cases h
theorem amA (hr:Rel F N ι s a w): ∀(l:List Operand),aaO s l=true -> ∀x∈l,rho s x=a.eval x
 | [],_,_,hx=>by cases hx
 |y::r,h,x,hx=>by
  simp only[aaO]at h;split at h
  ·rename_i u hu;rcases List.mem_cons.1 hx with rfl|hx
   ·unfold rho;rw[hu];exact(ar1 hu (v6 hr x)).symm
   ·exact amA hr r h x hx
  ·cases h
def ao5:Op ->Bool
 | .convert _ _ _| .binOp _ _ _ _ _| .unOp _ _ _=>true
 | .call {callee:=.builtin _,args:=_,argTypes:=_}=>true
 |_=>false
theorem apW {ρ ρ':Operand ->Value}{o o':Oper}(hp:ao5 o.op=true)(h1:o'.op=o.op)(h2:o'.type=o.type)(h: ∀x∈o.op.operands.toList,ρ x=ρ' x):execOp ρ' o'=execOp ρ o:=by
 unfold execOp;rw[h1,h2];cases ho:o.op<;>rw[ho]at hp h<;>try (cases hp;done)
 case convert src dst x=>simp[Op.operands]at h;simp[h]
 case binOp b t x y u=>simp[Op.operands]at h;simp[h.1,h.2]
 case unOp u t x=>simp[Op.operands]at h;simp[h]
 case call c=>
  obtain⟨callee,args,ts⟩:=c;cases callee<;>try (cases hp;done)
  case builtin b=>
   have hargs:args.map ρ'=args.map ρ:=by
    apply Array.map_congr_left;intro x hx;exact(h x (by simp[Op.operands,Call.operands];exact hx)).symm
   simp[resolve,hargs]
theorem wo (hr:Rel F N ι s a w)(hd: ∀k,o.dst=some k ->k<N)(hp:ao5 o.op=true)(h:zJ P o.dst (.pure o.op o.type) s K):zy P F N o a w (λ_=>True) K:=by
 simp only[zJ,apz]at h;cases hl:aaO s o.op.operands.toList with
 |false=>rw[hl]at h;exact h.elim
 |true=>
  rw[hl]at h;simp only[cond_true]at h;split at h
  ·rename_i v hv;have he:execOp a.eval o=execOp (rho s) (amx o.op o.type):=apW (o:=amx o.op o.type) hp rfl rfl (amA hr _ hl);exact zy.put hr hd (v:=v) (x:=.w (ofValue v)) (λw' _=>by rw[he];exact amy _ _ hv w') (Vq ι w (F.ok ι s.pl w) v) h
  ·exact h.elim
theorem adp {k k':IntKind}(h:u4 k k'=true):k=k':=by
 cases k<;>cases k'<;>first|rfl|cases h
theorem ati {b:BinOp}{k:IntKind}{m n:Int}{v:Value}(h:ahf b k m n=some v):v.oneCell'=true:=by
 unfold ahf at h;split at h<;>cases h<;>rfl
theorem atj {b:BinOp}{m n:ByteArray}{v:Value}(h:ahg b m n=some v):v.oneCell'=true:=by
 unfold ahg at h;split at h<;>cases h<;>rfl
theorem aub {b:BinOp}{k:IntKind}{m n:Int}{v:Value}(h:ahf b k m n=some v)(t:TypeId)(w:World):(binOp b t (.int k m) (.int k n)).run P w= .ok v w:=by
 unfold ahf at h;split at h<;>cases h<;>simp[binOp,Op.intArith,Op.intCmp,Op.intBits,JR]
theorem auc {b:BinOp}{m n:ByteArray}{v:Value}(h:ahg b m n=some v)(t:TypeId)(w:World):(binOp b t (.string m) (.string n)).run P w= .ok v w:=by
 unfold ahg at h;split at h<;>cases h<;>simp[binOp,Op.stringOp,zl,jx]
theorem ut (b:BinOp)(t:TypeId)(x y:Operand){u v:Value}(hu:(∃k n,u= .int k n)\/ ∃m,u= .string m)(w:World):(eqGuard b t x y u v).run P w= .ok () w:=by
 rcases hu with⟨k,n,rfl⟩|⟨m,rfl⟩<;>(unfold eqGuard;cases b<;>simp)
theorem aji (hr:Rel F N ι s a w)(hd: ∀k,o.dst=some k ->k<N){b:BinOp}{t u:TypeId}{x y:Operand}(ho:o.op= .binOp b t x y u)
 (h:zJ P o.dst (.bin b (cO x) (cO y)) s K):zy P F N o a w (λ_=>True) K:=by
 simp only[zJ]at h;have hx:=xE hr x;have hy:=xE hr y;generalize s.oc (cO x)=cx at*;generalize s.oc (cO y)=cy at*;unfold apy at h;split at h
 ·rename_i k m k1 n;cases hk:u4 k k1 with
  |false=>rw[hk]at h;exact h.elim
  |true=>
   rw[hk]at h;have:=adp hk;subst this;simp only[cond_true]at h;split at h
   ·rename_i v hv;refine zy.put hr hd (v:=v) ?_ (yH (ati hv)) h;intro w' _;simp[execOp,ho,yO hx,yO hy,ut b t x y (.inl ⟨k,m,rfl⟩),aub hv]
   ·cases b<;>simp only[]at h
    case quo=>
     refine zy.put hr hd (v:=.int k (k.wrap (m.tdiv n))) ?_ (yH rfl) h.2;intro w' _;simp[execOp,ho,yO hx,yO hy,ut .quo t x y (.inl ⟨k,m,rfl⟩),binOp,Op.intDiv,h.1]
    case rem=>
     refine zy.put hr hd (v:=.int k (m.tmod n)) ?_ (yH rfl) h.2;intro w' _;simp[execOp,ho,yO hx,yO hy,ut .rem t x y (.inl ⟨k,m,rfl⟩),binOp,Op.intDiv,h.1]
 ·rename_i m n;split at h
  ·rename_i v hv;refine zy.put hr hd (v:=v) ?_ (yH (atj hv)) h;intro w' _;simp[execOp,ho,yO hx,yO hy,ut b t x y (.inr ⟨m,rfl⟩),auc hv]
  ·cases b<;>simp only[]at h
   case add=>
    refine zy.put hr hd (v:=.string (m++n)) ?_ (yH rfl) h.2;intro w' _;have h63: ¬((m.size+n.size:Nat):Int)>IntKind.i64.max:=by
     have:=h.1;have e:IntKind.i64.max=9223372036854775807:=by decide
     rw[e];omega
    simp[execOp,ho,yO hx,yO hy,ut .add t x y (.inr ⟨m,rfl⟩),binOp,Op.stringOp];simp at h63;simp[h63]
 ·exact h.elim
theorem agB {t:TypeId}(h:Km P t=some true){b off:Nat}{vs:List Value}(hl:vs.length=zE P t)(hc: ∀j v,vs[j]? =some v ->w.cell? ⟨b,off+j,none⟩=some v):
 (loadVar t ⟨b,off,none⟩).run P w= .ok (.agg vs.toArray) w:=by
 obtain⟨i,hi,hag⟩:=ab6 h;have hcs:=run_loadCells_list (P:=P) w ⟨b,off,none⟩ vs (λj v hv=>by rw[qT];exact hc j v hv);rw[hl]at hcs;simp[loadVar,hag,wl hi,hcs]
theorem agC {t:TypeId}(h:Km P t=some false){b off:Nat}{v:Value}(hc:w.cell? ⟨b,off,none⟩=some v):
 (loadVar t ⟨b,off,none⟩).run P w= .ok v w:=by
 obtain⟨i,hi,hag⟩:=ab6 h;simp[loadVar,hag,hc]
theorem ZS {ok:Nat ->Prop}{t:TypeId}{g:Bool}(ht:Km P t=some g){cs:List C}{vs:List Value}(hcs:CRs ι w ok cs vs){b off:Nat}(hc: ∀j v,vs[j]? =some v ->w.cell? ⟨b,off+j,none⟩=some v)
 {x:W}(hm:Jt g (zE P t) cs=some x): ∃v,(∀w',vA w w' ->(loadVar t ⟨b,off,none⟩).run P w'= .ok v w')/\WR ι w ok x v:=by
 unfold Jt at hm;cases g
 ·simp only[cond_false]at hm;cases cs with
  |nil=>cases hm
  |cons c cs=>
   cases hm;cases vs with
   |nil=>exact hcs.elim
   |cons v vs=>exact⟨v,λw' hw'=>agC ht (hw'.cell (by simpa using hc 0 v rfl)),hcs.1⟩
 ·simp only[cond_true]at hm;cases hle:Nat.ble (zE P t) cs.length with
  |false=>rw[hle]at hm;cases hm
  |true=>
   rw[hle]at hm;cases hm;have hle:=Nat.le_of_ble_eq_true hle;refine⟨.agg (vs.take (zE P t)).toArray,λw' hw'=>agB ht ?_ (λj v hv=>hw'.cell ?_),_,rfl,CRs.take _ hcs⟩
   ·rw[List.length_take,<- hcs.length];omega
   ·rw[List.getElem?_take]at hv;split at hv
    ·exact hc j v hv
    ·cases hv
theorem RDc.vals {ok:Nat ->Prop}{b:Nat}: ∀{l:List D}{off:Nat},RDc w ok b off l -> ∃vs,CRs ι w ok (l.map .d) vs /\ ∀j v,vs[j]? =some v ->w.cell? ⟨b,off+j,none⟩=some v
 | [],off,_=>⟨[],trivial,λj v h=>by simp at h⟩
 |d::r,off,h=>by
  simp only[RDc]at h;obtain⟨⟨v,h1,h2⟩,h3⟩:=h;obtain⟨vs,h4,h5⟩:=RDc.vals h3;refine⟨v::vs,⟨h2,h4⟩,λj u hu=>?_⟩;cases j with
  |zero=>simp at hu;subst hu;exact h1
  |succ j=>simp at hu;rw[show off+(j+1)=off+1+j by omega];exact h5 j u hu
theorem anc (hr:Rel F N ι s a w)(hd: ∀k,o.dst=some k ->k<N){t:TypeId}{x:Operand}(ho:o.op= .load t x){g:Bool}(ht:Km P t=some g)
 (h:zJ P o.dst (.ld g (zE P t) (cO x)) s K):zy P F N o a w (vA w) K:=by
 simp only[zJ]at h;have hx:=xE hr x;generalize s.oc (cO x)=cx at*;unfold aLd at h;split at h
 ·rename_i p off;obtain⟨b,h1,h2⟩:=hx;split at h
  ·rename_i cs hp;split at h
   ·rename_i y hy;obtain⟨b',cur,e1,e2,e3⟩:=hr.places p _ hp;rw[h1]at e1;cases e1;obtain⟨v,hv,hw⟩:=ZS (b:=b) (off:=off) ht (CRs.drop off e3) (λj v hv=>by
     rw[e2.cell];rw[List.getElem?_drop]at hv;simpa using hv) hy
    exact zy.put hr hd (λw' hw'=>by simp[execOp,ho,h2,Instr.loadAt,Instr.sureAddr,hv w' hw']) (show VR ι w _ (.w y) v from hw) h
   ·exact h.elim
  ·rename_i ds hp;split at h
   ·rename_i y hy;obtain⟨b',e1,e2,e3⟩:=hr.places p _ hp;rw[h1]at e1;cases e1;have e3:=RDc.drop off e3;rw[Nat.zero_add]at e3;obtain⟨vs,h4,h5⟩:=RDc.vals (ι:=ι) e3;obtain⟨v,hv,hw⟩:=ZS (b:=b) (off:=off) ht h4 h5 hy;exact zy.put hr hd (λw' hw'=>by simp[execOp,ho,h2,Instr.loadAt,Instr.sureAddr,hv w' hw']) (show VR ι w _ (.w y) v from hw) h
   ·exact h.elim
  ·exact h.elim
 ·rename_i cells;obtain⟨b,off,h1,h2,h3⟩:=hx;split at h
  ·rename_i y hy;obtain⟨vs,h4,h5⟩:=RDc.vals (ι:=ι) h3;obtain⟨v,hv,hw⟩:=ZS (b:=b) (off:=off) ht h4 h5 hy;exact zy.put hr hd (λw' hw'=>by simp[execOp,ho,h1,Instr.loadAt,Instr.sureAddr,hv w' hw']) (show VR ι w _ (.w y) v from hw) h
  ·exact h.elim
 ·rename_i p z i k;obtain⟨b,h1,h2⟩:=hx;split at h
  ·rename_i z1 els fz hp;cases hz:Nat.beq z z1 with
   |false=>rw[hz]at h;exact h.elim
   |true=>
    rw[hz]at h;have hz:=Nat.eq_of_beq_eq_true hz;subst hz;simp only[cond_true]at h;obtain⟨e,he,h⟩:=h;split at h
    ·rename_i y hy;obtain⟨_,_,hpl|⟨b',e1,e2,_⟩⟩:=hr.places p _ hp
     ·rw[hpl.2]at he;simp at he
     ·rw[h1]at e1;cases e1;have h3:=RDc.drop k (RDs.get e2 he);rw[Nat.zero_add]at h3;obtain⟨vs,h4,h5⟩:=RDc.vals (ι:=ι) h3;obtain⟨v,hv,hw⟩:=ZS (b:=b) (off:=i*z+k) ht h4 h5 hy;exact zy.put hr hd (λw' hw'=>by simp[execOp,ho,h2,Instr.loadAt,Instr.sureAddr,hv w' hw']) (show VR ι w _ (.w y) v from hw) h
    ·exact h.elim
  ·exact h.elim
 ·exact h.elim
theorem ana (hr:Rel F N ι s a w)(hd: ∀k,o.dst=some k ->k<N){t:TypeId}{x:Operand}{f off:Nat}{ft:TypeId}(ho:o.op= .fieldAddr t x f)(ht:UM P t f=some (off,ft))(hz:Nat.blt 0 (zE P ft)=true)
 (h:zJ P o.dst (.fa off (cO x)) s K):zy P F N o a w (λ_=>True) K:=by
 simp only[zJ]at h;obtain⟨fs,y,hu,hy,hoff,htype⟩:=Kn ht;have hpos:zE P ft≠0:=by have:=Nat.le_of_ble_eq_true hz;omega
 have hinfo: ∃i,P.info? ft=some i:=by
  cases hi:P.info? ft with
  |none=>simp[zE,hi]at hpos
  |some i=>exact⟨i,rfl⟩
 obtain⟨i,hi⟩:=hinfo;have hrun: ∀b q,a.eval x= .pointer (some ⟨b,q,none⟩) -> ∀w':World,True ->(execOp a.eval o).run P w'= .ok (.value (.pointer (some ⟨b,q+off,none⟩))) w':=by
  intro b q e w' _;simp[execOp,ho,e,Instr.fieldAt,run_underlying hu,hy,Instr.sureAddr,fieldPlace,htype,wl hi,hpos,hoff,qT]
 have hx:=xE hr x;cases e:s.oc (cO x)<;>simp only[e]at h<;>rw[e]at hx
 case ptr p k=>
  obtain⟨b,h1,h2⟩:=hx;exact zy.put hr hd (hrun b k h2) (show VR ι w _ (cV (.ptr p (k+off))) _ from⟨b,h1,rfl⟩) h
 case eptr p z i k=>
  obtain⟨b,h1,h2⟩:=hx;exact zy.put hr hd (hrun b _ h2) (show VR ι w _ (cV (.eptr p z i (k+off))) _ from⟨b,h1,by rw[Nat.add_assoc]⟩) h
 case fp l=>
  obtain⟨b,q,h1,h2,h3⟩:=hx;exact zy.put hr hd (hrun b _ h1) (show VR ι w _ (cV (.fp (l.drop off))) _ from⟨b,q+off,rfl,h2,RDc.drop off h3⟩) h
theorem ajm (hr:Rel F N ι s a w)(hd: ∀k,o.dst=some k ->k<N){t:TypeId}{x:Operand}{f off:Nat}{ft:TypeId}{g:Bool}(ho:o.op= .field t x f)(ht:UM P t f=some (off,ft))(hg:Km P ft=some g)
 (h:zJ P o.dst (.fld g (zE P ft) off (cO x)) s K):zy P F N o a w (λ_=>True) K:=by
 simp only[zJ]at h;obtain⟨fs,y,hu,hy,hoff,htype⟩:=Kn ht;obtain⟨i,hi,hag⟩:=ab6 hg;have hx:=v6 hr x;cases e:s.o (cO x)with
 |tup xs=>simp only[e]at h
 |w z=>
  cases z with
  |c c=>simp only[e]at h
  |agg cs=>
   simp only[e]at h;rw[e]at hx;obtain⟨vs,h1,h2⟩:=hx;split at h
   ·rename_i q hq;unfold Jt at hq;cases g
    ·simp only[cond_false]at hq;split at hq
     ·rename_i c r hdrop;cases hq;have:=CRs.drop off h2;rw[hdrop]at this;cases hvd:vs.drop off with
      |nil=>rw[hvd]at this;exact this.elim
      |cons v vr=>
       rw[hvd]at this;have hv:vs[off]? =some v:=by
        have:(vs.drop off)[0]? =some v:=by rw[hvd];rfl
        simpa using this
       exact zy.put hr hd (v:=v) (λw' _=>by simp[execOp,ho,h1,Instr.field,run_underlying hu,hy,asAgg,part,htype,hag,hoff,hv]) (show VR ι w _ (.w (.c c)) v from this.1) h
     ·cases hq
    ·simp only[cond_true]at hq;cases hle:Nat.ble (zE P ft) (cs.drop off).length with
     |false=>rw[hle]at hq;cases hq
     |true=>
      rw[hle]at hq;cases hq;have hx2:WR ι w (F.ok ι s.pl w) (.agg ((cs.drop off).take (zE P ft))) (.agg ((vs.drop off).take (zE P ft)).toArray):=⟨_,rfl,CRs.take _ (CRs.drop off h2)⟩;refine zy.put hr hd (v:=.agg ((vs.drop off).take (zE P ft)).toArray) ?_ (show VR ι w _ (.w (.agg ((cs.drop off).take (zE P ft)))) _ from hx2) h;intro w' _;have hex:vs.toArray.extract off (off+zE P ft)=((vs.drop off).take (zE P ft)).toArray:=by
       apply Array.toList_inj.1;simp[List.extract_eq_take_drop]
      simp only[execOp,ho,h1,Instr.field,Sem.run_bind,run_underlying hu,Result.andThen_ok,hy,asAgg,Sem.run_pure,part,htype,hag,hoff,wl hi,if_true,hex]
   ·exact h.elim
theorem anb (hr:Rel F N ι s a w)(hd: ∀k,o.dst=some k ->k<N){t e:TypeId}{x y:Operand}(ho:o.op= .indexAddr t x y)(ht:wT P t=some e)(hz:Nat.blt 0 (zE P e)=true)
 (h:zJ P o.dst (.ia (zE P e) (cO x) (cO y)) s K):zy P F N o a w (λ_=>True) K:=by
 simp only[zJ]at h;have hu:=wt ht;have hpos:zE P e≠0:=by have:=Nat.le_of_ble_eq_true hz;omega
 have hinfo: ∃i,P.info? e=some i:=by
  cases hi:P.info? e with
  |none=>simp[zE,hi]at hpos
  |some i=>exact⟨i,rfl⟩
 obtain⟨i,hi⟩:=hinfo;split at h
 ·rename_i n hn;obtain⟨k,hy,_⟩:=jQ hn (v6 hr y);have hrun: ∀b q m c,a.eval x= .slice (some ⟨b,q,none⟩) m c ->0<=n ->n<m -> ∀w':World,True ->(execOp a.eval o).run P w'= .ok (.value (.pointer (some ⟨b,q+n.toNat*zE P e,none⟩))) w':=by
   intro b q m c e1 e2 e3 w' _;simp[execOp,ho,e1,hy,Instr.indexAt,run_underlying hu,asIntOf,e2,e3,wl hi,qT]
  have hx:=xE hr x;split at h
  ·rename_i l hl;rw[hl]at hx;simp only[CR,RD]at hx;obtain⟨ad,m,c,h1,h2,h3,h4,h5⟩:=hx;obtain⟨g1,y',g2,g3,g4⟩:=h;rcases h5 with h5|⟨b,q,sz,e1,e2,e3⟩
   ·rw[h5]at g2;simp at g2
   ·subst e1;have hlt:n.toNat<l.length:=(List.getElem?_eq_some_iff.1 g2).1;have hsz:y'.length=sz:=RDs.len e3 y' (List.mem_of_getElem? g2);refine zy.put hr hd (hrun b q m c h1 g1 (by rw[h2];omega)) (show VR ι w _ (cV (.fp y')) _ from⟨b,_,rfl,e2,?_⟩) g4;rw[<- g3,hsz];exact RDs.get e3 g2
  ·rename_i p z m hl;rw[hl]at hx;cases hzz:Nat.beq z (zE P e)with
   |false=>rw[hzz]at h;exact h.elim
   |true=>
    rw[hzz]at h;have hzz:=Nat.eq_of_beq_eq_true hzz;simp only[cond_true]at h;obtain⟨g1,g2,g3⟩:=h;rcases hx with⟨_,h2,_⟩|⟨b,cap,ty,h1,h2,h3,h4,h5,h6⟩
    ·subst h2;omega
    ·refine zy.put hr hd (hrun b 0 m cap h3 g1 g2) (show VR ι w _ (cV (.eptr p z n.toNat 0)) _ from⟨b,h1,?_⟩) g3;rw[hzz];simp
  ·exact h.elim
 ·exact h.elim
theorem ajq (hr:Rel F N ι s a w)(hd: ∀k,o.dst=some k ->k<N){t:TypeId}{x y:Operand}(ho:o.op= .index t x y)(hu:P.underlying t=some .string)
 (h:zJ P o.dst (.six (cO x) (cO y)) s K):zy P F N o a w (λ_=>True) K:=by
 simp only[zJ]at h;split at h
 ·rename_i b n hx hn;obtain⟨k,hy,_⟩:=jQ hn (v6 hr y);have hx':=xE hr x;rw[hx]at hx';have hx':=yO hx';obtain⟨g1,g2,g3⟩:=h;have hlt:n.toNat<b.size:=by omega
  have hget:b[n.toNat]? =some (b.data.toList.getD n.toNat 0):=by
   have h1:b[n.toNat]? =some b[n.toNat]:=getElem?_pos b n.toNat hlt;rw[h1];have h2:n.toNat<b.data.toList.length:=by simpa using hlt
   simp only[List.getD,List.getElem?_eq_getElem h2,Option.getD_some];rfl
  refine zy.put hr hd (v:=.int .u8 (b.data.toList.getD n.toNat 0).toNat) ?_ (yH rfl) g3;intro w' _;simp only[execOp,ho,hx',hy,Instr.index,Sem.run_bind,run_underlying hu,asIntOf,Sem.run_pure,Result.andThen_ok,g1,if_true,hget]
 ·exact h.elim
theorem ajo (hr:Rel F N ι s a w)(hd: ∀k,o.dst=some k ->k<N){args:Array Operand}{ts:Array TypeId}{x:Operand}{t e:TypeId}(ho:o.op= .call {callee:=.builtin .len,args:=args,argTypes:=ts})
 (hargs:args.toList=[x]) (hts:ts.toList=[t]) (ht:wT P t=some e) (h:zJ P o.dst (.len (cO x)) s K):zy P F N o a w (λ_=>True) K:=by
 simp only[zJ]at h;have hu:=wt ht;have ha:args= #[x]:=Array.toList_inj.1 (by simpa using hargs);have hta:ts= #[t]:=Array.toList_inj.1 (by simpa using hts);have hrun: ∀b m c,a.eval x= .slice b m c -> ∀w':World,True ->(execOp a.eval o).run P w'= .ok (.value (.int .i64 m)) w':=by
  intro b m c e1 w' _;simp[execOp,ho,resolve,invoke,builtin,Builtin.len_,ha,hta,e1,run_underlying hu,goInt]
 have hx:=xE hr x;split at h
 ·rename_i l hl;rw[hl]at hx;simp only[CR,RD]at hx;obtain⟨ad,m,c,h1,h2,_⟩:=hx;subst h2;exact zy.put hr hd (hrun _ _ _ h1) (yH rfl) h
 ·rename_i hl;rw[hl]at hx;exact zy.put hr hd (hrun _ _ _ hx) (yH rfl) h
 ·rename_i p z m hl;rw[hl]at hx;rcases hx with⟨_,h2,h3⟩|⟨b,cap,ty,h1,h2,h3,_⟩
  ·subst h2;exact zy.put hr hd (hrun _ _ _ h3) (yH rfl) h
  ·exact zy.put hr hd (hrun _ _ _ h3) (yH rfl) h
 ·exact h.elim
theorem ajn (hr:Rel F N ι s a w)(hd: ∀k,o.dst=some k ->k<N){b:BinOp}{t u:TypeId}{x y:Operand}(ho:o.op= .binOp b t x y u){neg:Bool}(hn:abz P b t y=some neg)
 (h:zJ P o.dst (.isn neg (cO x)) s K):zy P F N o a w (λ_=>True) K:=by
 have hy: ∃n c e,y= .const (.slice none n c)/\P.underlying t=some (.slice e)/\((b= .eql /\neg=false)\/(b= .neq /\neg=true)):=by
  unfold abz at hn;split at hn
  ·rename_i n c;split at hn
   ·rename_i e he;split at hn
    ·cases hn;exact⟨n,c,e,rfl,he,.inl ⟨rfl,rfl⟩⟩
    ·cases hn;exact⟨n,c,e,rfl,he,.inr ⟨rfl,rfl⟩⟩
    ·cases hn
   ·cases hn
  ·cases hn
 obtain⟨n',c',e,rfl,hu,hb⟩:=hy;have hrun: ∀ad m c,a.eval x= .slice ad m c -> ∀w':World,True ->(execOp a.eval o).run P w'= .ok (.value (.bool (if ad.isNone then !neg else neg))) w':=by
  intro ad m c hx w' _;have hyv:a.eval (.const (.slice none n' c'))= .slice none n' c':=rfl;have heq:(Op.equal t (.slice ad m c) (.slice none n' c')).run P w'= .ok ad.isNone w':=by
   obtain⟨d,hd⟩: ∃d,Op.maxDepth=d+1:=⟨_,rfl⟩;rw[Op.equal,hd,Op.equalIn];simp only[Sem.run_bind,run_underlying hu,Result.andThen_ok];cases ad<;>rfl
  have hg: ∀b,(eqGuard b t x (.const (.slice none n' c')) (.slice ad m c) (.slice none n' c')).run P w'= .ok () w':=by
   intro b;unfold eqGuard;cases b<;>simp
  rcases hb with⟨rfl,rfl⟩|⟨rfl,rfl⟩
  ·have hbin:binOp .eql t (.slice ad m c) (.slice none n' c')=(do pure (.bool (<- Op.equal t (.slice ad m c) (.slice none n' c')))):=rfl;simp only[execOp,ho,hx,hyv,hbin,Sem.run_bind,hg,heq,Result.andThen_ok,Sem.run_pure];cases ad<;>rfl
  ·have hbin:binOp .neq t (.slice ad m c) (.slice none n' c')=(do pure (.bool (!(<- Op.equal t (.slice ad m c) (.slice none n' c'))))):=rfl;simp only[execOp,ho,hx,hyv,hbin,Sem.run_bind,hg,heq,Result.andThen_ok,Sem.run_pure];cases ad<;>rfl
 have hx:=xE hr x;simp only[zJ]at h;generalize s.oc (cO x)=cx at*;unfold as2 at h;split at h
 ·have hx:a.eval x= .slice none 0 0:=hx;exact zy.put hr hd (hrun _ _ _ hx) (yH rfl) h
 ·rename_i l;simp only[CR,RD]at hx;obtain⟨ad,m,c,h1,h2,h3,h4,h5⟩:=hx;cases ad with
  |none=>
   rcases h5 with h5|⟨b',q,sz,e1,_⟩
   ·exact zy.put hr hd (hrun _ _ _ h1) (yH rfl) (h.1 h5)
   ·cases e1
  |some ad=>exact zy.put hr hd (hrun _ _ _ h1) (yH rfl) h.2
 ·rename_i p z m;rcases hx with⟨_,h2,h3⟩|⟨b',cap,ty,h1,h2,h3,_⟩
  ·exact zy.put hr hd (hrun _ _ _ h3) (yH rfl) (h.1 h2)
  ·exact zy.put hr hd (hrun _ _ _ h3) (yH rfl) h.2
 ·exact h.elim
theorem abu {b:Builtin}{l:List Operand}{z:AOp}(h:abt b l=some z): ∃x y,l=[x,y]/\((b= .min /\z= .mm false (cO x) (cO y))\/(b= .max /\z= .mm true (cO x) (cO y))):=by
 unfold abt at h;split at h
 ·split at h
  ·rename_i x y;cases h;exact⟨x,y,rfl,.inl ⟨rfl,rfl⟩⟩
  ·cases h
 ·split at h
  ·rename_i x y;cases h;exact⟨x,y,rfl,.inr ⟨rfl,rfl⟩⟩
  ·cases h
 ·cases h
theorem anf (hr:Rel F N ι s a w)(hd: ∀k,o.dst=some k ->k<N){b:Builtin}{args:Array Operand}{ts:Array TypeId}(ho:o.op= .call {callee:=.builtin b,args:=args,argTypes:=ts})
 {z:AOp}(hz:abt b args.toList=some z) (h:zJ P o.dst z s K):zy P F N o a w (λ_=>True) K:=by
 obtain⟨x,y,hargs,hb⟩:=abu hz;have ha:args= #[x,y]:=Array.toList_inj.1 (by simpa using hargs);have key: ∀(mx:Bool),(b= .min /\mx=false\/b= .max /\mx=true) ->aMm o.dst mx (s.oc (cO x)) (s.oc (cO y)) s K ->zy P F N o a w (λ_=>True) K:=by
  intro mx hmx h;have hx:=xE hr x;have hy:=xE hr y;generalize s.oc (cO x)=cx at*;generalize s.oc (cO y)=cy at*;unfold aMm at h;split at h
  ·rename_i k m k1 n;cases hk:u4 k k1 with
   |false=>rw[hk]at h;exact h.elim
   |true=>
    rw[hk]at h;simp only[cond_true]at h;have hx:=yO hx;have hy:=yO hy;refine zy.put hr hd (v:=.int k (yP mx m n)) ?_ (yH rfl) h;intro w' _;rcases hmx with⟨rfl,rfl⟩|⟨rfl,rfl⟩
    ·simp[execOp,ho,resolve,invoke,builtin,Builtin.min_,Builtin.min2,ha,hx,hy,yP]
    ·simp[execOp,ho,resolve,invoke,builtin,Builtin.max_,Builtin.max2,ha,hx,hy,yP]
  ·exact h.elim
 rcases hb with⟨rfl,rfl⟩|⟨rfl,rfl⟩
 ·exact key false (.inl ⟨rfl,rfl⟩) h
 ·exact key true (.inr ⟨rfl,rfl⟩) h
end
end Go.AM
namespace Go.AM
def vP (ι:Nat ->Gh)(p:Nat)(g:Gh):Nat ->Gh:=λq=>if q=p then g else ι q
theorem zH (ι:Nat ->Gh)(p:Nat)(g:Gh):vP ι p g p=g:=by simp[vP]
theorem ux (ι:Nat ->Gh){p q:Nat}(g:Gh)(h:q≠p):vP ι p g q=ι q:=by simp[vP,h]
theorem aem {p q:Nat}(h:isin q [p]=false):q≠p:=by
 intro e;subst e;simp[isin]at h
theorem alU {p d q:Nat}(h:isin q [p,d]=false):q≠p /\q≠d:=by
 refine⟨λe=>?_,λe=>?_⟩
 ·subst e;simp[isin]at h
 ·subst e;unfold isin at h;cases hb:Nat.beq p q<;>rw[hb]at h
  ·simp[isin]at h
  ·cases h
theorem yA {α:Type}{d p:Nat}{x y:α}(h:aget [(d,x)] p=some y):p=d /\y=x:=by
 rw[yj]at h;split at h
 ·cases h;exact⟨by omega,rfl⟩
 ·cases h
section
variable {P:Program}{F:Fr}{N:Nat}{ι:Nat ->Gh}{s:S}{a:Act}{w:World}{o:Oper}{K:S ->Prop}
theorem gN (_hr:Rel F N ι s a w)(kills:List Nat)(new:List (Nat×Pl))(ι':Nat ->Gh)(w':World)
 (hι: ∀p,isin p kills=false ->ι' p=ι p)
 (hsame: ∀b,b<w.heap.size ->(∀q y,isin q kills=true ->aget s.pl q=some y ->y.live=true ->(ι q).b≠some b) ->w'.heap[b]? =w.heap[b]?)
 (hsize:w.heap.size<=w'.heap.size)
 (hfresh: ∀p x b,aget new p=some x ->(ι' p).b=some b ->b<w'.heap.size /\(w.heap.size<=b\/ ∃q y,isin q kills=true /\aget s.pl q=some y /\y.live=true /\(ι q).b=some b)):
 zZ w w' (F.ok ι s.pl w) (F.ok ι' (s.redo kills new).pl w'):=by
 intro b hb;obtain⟨h1,h2,h3⟩:=hb;refine⟨⟨h1,Nat.lt_of_lt_of_le h2 hsize,?_⟩,hsame b h2 (λq y _ hy hl hq=>h3 ⟨q,y,hy,hl,hq⟩)⟩;rintro⟨p,x,hx,hl,hpb⟩;rw[S.redo_pl]at hx;cases hn:aget new p with
 |some y=>
  rcases(hfresh p y b hn hpb).2 with h|⟨q,z,_,h4,h5,h6⟩
  ·omega
  ·exact h3 ⟨q,z,h4,h5,h6⟩
 |none=>
  simp only[hn]at hx;split at hx
  ·rename_i hk;cases hp:aget s.pl p with
   |none=>rw[hp]at hx;cases hx
   |some y=>
    rw[hp]at hx;simp at hx;subst hx;exact h3 ⟨p,y,hp,by rw[<- Pl.live_kill y kills];exact hl,by rw[<- hι p hk];exact hpb⟩
  ·cases hx
structure NewRow (w w':World)(cur:Array Value)(t:TypeId)(mk:Nat×Nat):Prop where
 heap:w'.heap=w.heap.push (.cells cur t mk)
 os:w'.os=w.os
 tape:w'.tape=w.tape
 output:Out w w'
theorem NewRow.old {w w':World}{cur:Array Value}{t:TypeId}{mk:Nat×Nat}(h:NewRow w w' cur t mk){b:Nat}(hb:b<w.heap.size):w'.heap[b]? =w.heap[b]? :=by
 rw[h.heap,Array.getElem?_push,if_neg (by omega)]
theorem NewRow.ext {w w':World}{cur:Array Value}{t:TypeId}{mk:Nat×Nat}(h:NewRow w w' cur t mk):vA w w':=⟨by rw[h.heap];simp,λ_ hb=>h.old hb⟩
theorem NewRow.new {w w':World}{cur:Array Value}{t:TypeId}{mk:Nat×Nat}(h:NewRow w w' cur t mk):w'.heap[w.heap.size]? =some (.cells cur t mk):=by
 rw[h.heap];simp
theorem NewRow.size {w w':World}{cur:Array Value}{t:TypeId}{mk:Nat×Nat}(h:NewRow w w' cur t mk):w'.heap.size=w.heap.size+1:=by
 rw[h.heap];simp
theorem NewRow.shapes {w w':World}{cur:Array Value}{t:TypeId}{mk:Nat×Nat}(h:NewRow w w' cur t mk):zX w w':=by
 intro b ty m hb;have hlt:b<w.heap.size:=by
  rcases Nat.lt_or_ge b w.heap.size with h'|h'
  ·exact h'
  ·simp[World.shape?,Array.getElem?_eq_none h']at hb
 simp only[World.shape?,h.old hlt]at hb⊢;exact hb
theorem NewRow.cell {w w':World}{cur:Array Value}{t:TypeId}{mk:Nat×Nat}(h:NewRow w w' cur t mk)(j:Nat):w'.cell? ⟨w.heap.size,j,none⟩=cur[j]? :=cell_of_row w' _ j cur t mk h.new
theorem NewRow.alloc (w:World)(cur:Array Value)(t:TypeId):NewRow w (w.alloc (.cells cur t)) cur t (0,0):=⟨rfl,rfl,rfl,Out.refl w⟩
theorem NewRow.draw (w:World)(cur:Array Value)(t:TypeId)(mk:Nat×Nat):NewRow w (w.drew.alloc (.cells cur t mk)) cur t mk:=⟨rfl,rfl,rfl,⟨rfl,Nat.le_succ _⟩⟩
theorem ZA (hr:Rel F N ι s a w){w':World}{cur:Array Value}{t:TypeId}{mk:Nat×Nat}(hw:NewRow w w' cur t mk)(d:Nat)(x:Pl)(kills:List Nat)(hk:isin d kills=true)(n:Nat):
 zZ w w' (F.ok ι s.pl w) (F.ok (vP ι d ⟨some w.heap.size,n⟩) (s.redo kills [(d,x)]).pl w'):=by
 refine gN hr kills [(d,x)] _ w' (λp hp=>ux ι _ ?_) (λb hb _=>hw.old hb) (by rw[hw.size];omega) ?_
 ·intro e;subst e;rw[hk]at hp;cases hp
 ·intro p y b hp hb;obtain⟨rfl,rfl⟩:=yA hp;rw[zH]at hb;cases hb;exact⟨by rw[hw.size];omega,.inl (Nat.le_refl _)⟩
theorem Rel.newRow (hr:Rel F N ι s a w){w':World}{cur:Array Value}{t:TypeId}{mk:Nat×Nat}(hw:NewRow w w' cur t mk)(d:Nat)(x:Pl)(kills:List Nat)(hk:isin d kills=true)(n:Nat)(hfd:F.h d=none)
 (hx:PR (vP ι d ⟨some w.heap.size,n⟩) w' (F.ok (vP ι d ⟨some w.heap.size,n⟩) (s.redo kills [(d,x)]).pl w') d x):Rel F N (vP ι d ⟨some w.heap.size,n⟩) (s.redo kills [(d,x)]) a w':=by
 refine hr.redo kills [(d,x)] _ w' (λp hp=>ux ι _ ?_) (λb hb _=>hw.old hb) hw.shapes hw.os hw.tape hw.output (by rw[hw.size];omega) ?_ ?_ ?_ (λp y hp=>by obtain⟨rfl,_⟩:=yA hp;exact hfd)
 ·intro e;subst e;rw[hk]at hp;cases hp
 ·intro p y hp;obtain⟨rfl,rfl⟩:=yA hp;exact hx
 ·intro p y b hp hb;obtain⟨rfl,rfl⟩:=yA hp;rw[zH]at hb;cases hb;exact⟨by rw[hw.size];omega,.inl (Nat.le_refl _)⟩
 ·intro p q y z b hp hq hpq;obtain⟨rfl,rfl⟩:=yA hp;obtain⟨rfl,rfl⟩:=yA hq;exact absurd rfl hpq
theorem YI {ok:Nat ->Prop}{x:W}{v:Value}(h:WR ι w ok x v)(hs:solid x.cells=true):CRs ι w ok x.cells v.cells.toList:=by
 cases x with
 |c c=>
  have hd:c.isDead=false:=by
   unfold W.cells solid at hs;cases hd:c.isDead<;>rw[hd]at hs<;>first|rfl|cases hs
  have h1:=CR.one h hd;have hv:v.cells.toList=[v]:=by cases v<;>first|rfl|cases h1
  rw[hv];exact⟨h,trivial⟩
 |agg cs=>
  obtain⟨vs,rfl,h⟩:=h;simpa[W.cells,Value.cells]using h
theorem akU (hr:Rel F N ι s a w){w':World}{cur:Array Value}{t:TypeId}{mk:Nat×Nat}(hw:NewRow w w' cur t mk)(d:Nat)(x:Pl)(n:Nat){cs:List C}{vs:List Value}(h:CRs ι w (F.ok ι s.pl w) cs vs):
 CRs (vP ι d ⟨some w.heap.size,n⟩) w' (F.ok (vP ι d ⟨some w.heap.size,n⟩) (s.redo [d] [(d,x)]).pl w') (cs.map (C.kill [d])) vs:=
 CRs.kill (ZA hr hw d x [d] (by simp[isin]) n) hw.shapes (λ_ hp=>ux ι _ (aem hp)) cs vs h
theorem ajj (hr:Rel F N ι s a w){d:Nat}(hdst:o.dst=some d)(hd:d<N){cs:List C}{v:Value}{t:TypeId}(hcs:CRs ι w (F.ok ι s.pl w) cs v.cells.toList)
 (hrun:(execOp a.eval o).run P w= .ok (.value (.pointer (some ⟨w.heap.size,0,none⟩))) (w.alloc (.cells v.cells t)))
 (h:K ((s.place d (.box (cs.map (C.kill [d])))).put (some d) (cV (.ptr d 0)))):vd P F N o a w K:=by
 have hw:=NewRow.alloc w v.cells t;have hrel:=hr.newRow hw d (.box (cs.map (C.kill [d]))) [d] (by simp[isin]) 0 (hr.h_slot hd) ⟨w.heap.size,v.cells,by rw[zH],⟨t,hw.new⟩,akU hr hw d _ 0 hcs⟩;refine vd.of_value hw.ext (ι':=vP ι d ⟨some w.heap.size,0⟩) hrun ?_ h;rw[hdst];exact hrel.put (some d) (λk hk=>by cases hk;exact hd) _ _ ⟨w.heap.size,by rw[zH],rfl⟩
theorem af4: ∀(vs:List Value) (l:List Nat),(vs.map Yx).map (C.kill l)=vs.map Yx
 | [],_=>rfl
 |v::vs,l=>by
  simp only[List.map_cons,af4 vs l];congr 1
  unfold Yx;split<;>rfl
theorem YF {v:Value}(h:solid (ofValue v).cells=true):(ofValue v).cells=v.cells.toList.map Yx:=by
 unfold ofValue at h⊢;split
 ·rfl
 ·rename_i hne;simp only[W.cells]at h⊢;cases v<;>first|rfl|(exact absurd rfl (hne _))|(simp[Yx,solid,C.isDead]at h)
theorem adB (hr:Rel F N ι s a w)(hd: ∀k,o.dst=some k ->k<N){t:TypeId}(ho:o.op= .alloc t)(h:zJ P o.dst (.alloc (qQ P t).cells) s K):vd P F N o a w K:=by
 simp only[zJ]at h;split at h
 ·rename_i d hdst;cases hs:solid (qQ P t).cells with
  |false=>rw[hs]at h;exact h.elim
  |true=>
   rw[hs]at h;simp only[cond_true]at h;unfold qQ at hs h;cases hi:P.info? t with
   |none=>simp only[hi]at hs;cases hs
   |some i=>
    simp only[hi]at hs h;cases hz:i.zero with
    |none=>simp only[hz]at hs;cases hs
    |some v=>
     simp only[hz]at hs h;rw[YF hs]at h;rw[<- af4 v.cells.toList [d]]at h;refine ajj hr hdst (hd d hdst) (t:=t) (ZJ ι w _ v.cells.toList) ?_ h;simp[execOp,ho,Instr.alloc,zeroValue,typeInfo,hi,hz,newVar,newRow]
 ·exact h.elim
theorem am9 (hr:Rel F N ι s a w)(hd: ∀k,o.dst=some k ->k<N){t:TypeId}{x:Operand}(ho:o.op= .box t x)(h:zJ P o.dst (.bx (cO x)) s K):vd P F N o a w K:=by
 simp only[zJ]at h;split at h
 ·rename_i d y hdst hy;cases hs:solid y.cells with
  |false=>rw[hs]at h;exact h.elim
  |true=>
   rw[hs]at h;simp only[cond_true]at h;have hx:=v6 hr x;rw[hy]at hx;refine ajj hr hdst (hd d hdst) (v:=a.eval x) (t:=t) (YI hx hs) ?_ h;simp[execOp,ho,Instr.box,newVar,newRow]
 ·exact h.elim
theorem zX.setRow (w:World)(g:Nat){old cs:Array Value}{t:TypeId}{fr:Nat×Nat}(hg:w.heap[g]? =some (.cells old t fr))(hs:cs.size=old.size):zX w (w.setRow g cs):=by
 intro b ty m hb;by_cases hbg:b=g
 ·subst hbg;simp only[World.shape?,hg]at hb;simp only[World.shape?,setRow_heap w b old cs t fr hg];cases hb;rw[hs]
 ·simp only[World.shape?,setRow_other w g b cs hbg];exact hb
theorem Rel.write (hr:Rel F N ι s a w)(p:Nat)(x y:Pl)(hp:aget s.pl p=some x)(hx:x.live=true)(hy:y.live=true){b:Nat}(hb:(ι p).b=some b){old cur:Array Value}{t:TypeId}(hg:w.heap[b]? =some (.cells old t (0,0)))(hs:cur.size=old.size)
 (hpr:PR ι (w.setRow b cur) (F.ok ι (yq p y s.pl) (w.setRow b cur)) p y):Rel F N ι (s.withPl (yq p y s.pl)) a (w.setRow b cur):=by
 have hownEq: ∀c,Owns ι (yq p y s.pl) c↔Owns ι s.pl c:=by
  intro c;constructor
  ·rintro⟨q,z,h1,h2,h3⟩;rw[yi]at h1;split at h1
   ·rename_i e;subst e;exact⟨p,x,hp,hx,h3⟩
   ·exact⟨q,z,h1,h2,h3⟩
  ·rintro⟨q,z,h1,h2,h3⟩;by_cases e:p=q
   ·subst e;exact⟨p,y,by rw[yi,if_pos rfl],hy,h3⟩
   ·exact⟨q,z,by rw[yi,if_neg e];exact h1,h2,h3⟩
 have hown:Owns ι s.pl b:=⟨p,x,hp,hx,hb⟩;have hkeep:zZ w (w.setRow b cur) (F.ok ι s.pl w) (F.ok ι (yq p y s.pl) (w.setRow b cur)):=by
  intro c hc;have hcb:c≠b:=λe=>by subst e;exact hc.2.2 hown
  exact⟨⟨hc.1,by simpa using hc.2.1,λho=>hc.2.2 ((hownEq c).1 ho)⟩,setRow_other w b c cur hcb⟩
 have hsh:=zX.setRow w b hg hs;refine⟨hr.room,λk v hv=>?_,λq z hz=>?_,λq r z u c hz hu hqr hl hqc=>?_,λc hc=>?_,hr.defers,?_,hr.foreign,hr.handed,hr.few,hr.hdom,λq z g hz hg=>?_⟩
 rotate_left 5
 ·have hz':aget (yq p y s.pl) q=some z:=hz;rw[yi]at hz';split at hz'
  ·rename_i e;subst e;exact hr.hkeep p x g hp hg
  ·exact hr.hkeep q z g hz' hg
 ·obtain⟨v',e1,e2⟩:=hr.slots k v hv;exact⟨v',e1,VR.keep hkeep hsh v v' e2⟩
 ·have hz':aget (yq p y s.pl) q=some z:=hz;rw[yi]at hz';split at hz'
  ·rename_i e;subst e;cases hz';exact hpr
  ·rename_i hpq;have h:=hr.places q z hz';have hne: ∀c,(ι q).b=some c ->c≠b:=λc hc e=>by subst e;exact hr.inj p q x z c hp hz' hpq hx hb hc
   cases z with
   |box cs=>obtain⟨c,cur',e1,⟨t',e2⟩,e3⟩:=h;exact⟨c,cur',e1,⟨t',by rw[setRow_other w b c cur (hne c e1)];exact e2⟩,CRs.keep hkeep hsh _ _ e3⟩
   |arr sz els fz=>
    obtain⟨h0,hn,h|⟨c,e1,e2,e3,e4⟩⟩:=h
    ·exact⟨h0,hn,.inl h⟩
    ·refine⟨h0,hn,.inr ⟨c,e1,RDs.keep' hkeep c sz els 0 (λj _ _=>uW (setRow_other w b c cur (hne c e1)) j) e2,λhf=>(hkeep c (e3 hf)).1,λhf=>?_⟩⟩;obtain⟨cur',⟨t',e5⟩,e6⟩:=e4 hf;exact⟨cur',⟨t',by rw[setRow_other w b c cur (hne c e1)];exact e5⟩,e6⟩
   |fbox ds=>obtain⟨c,e1,e2,e3⟩:=h;exact⟨c,e1,(hkeep c e2).1,RDc.keep hkeep c e2 _ _ e3⟩
   |gone=>exact h.elim
 ·have hz':aget (yq p y s.pl) q=some z:=hz;have hu':aget (yq p y s.pl) r=some u:=hu;rw[yi]at hz' hu';have h1: ∃z',aget s.pl q=some z' /\z'.live=true:=by
   split at hz'
   ·rename_i e;subst e;exact⟨x,hp,hx⟩
   ·exact⟨z,hz',hl⟩
  have h2: ∃u',aget s.pl r=some u':=by
   split at hu'
   ·rename_i e;subst e;exact⟨x,hp⟩
   ·exact⟨u,hu'⟩
  obtain⟨z',h1,h1'⟩:=h1;obtain⟨u',h2⟩:=h2;exact hr.inj q r z' u' c h1 h2 hqr h1' hqc
 ·have:=hr.mine c ((hownEq c).1 hc);exact⟨this.1,by simpa using this.2⟩
 ·refine⟨hr.grows.os,hr.grows.tape,hr.grows.output,by simpa using hr.grows.size,λc hc hm=>?_,λc t m h=>hsh c t m (hr.grows.shapes c t m h)⟩;have hcb:c≠b:=by
   intro e;subst e;rcases(hr.mine c hown).1 with h|h
   ·exact hm h
   ·omega
  rw[setRow_other w b c cur hcb];exact hr.grows.block c hc hm
theorem Kr (_hr:Rel F N ι s a w)(p:Nat)(x y:Pl)(hp:aget s.pl p=some x)(hx:x.live=true){b:Nat}(hb:(ι p).b=some b)(cur:Array Value):
 zZ w (w.setRow b cur) (F.ok ι s.pl w) (F.ok ι (yq p y s.pl) (w.setRow b cur)):=by
 intro c hc;have hcb:c≠b:=λe=>by subst e;exact hc.2.2 ⟨p,x,hp,hx,hb⟩
 refine⟨⟨hc.1,by simpa using hc.2.1,?_⟩,setRow_other w b c cur hcb⟩;rintro⟨q,z,h1,h2,h3⟩;rw[yi]at h1;split at h1
 ·rename_i e;subst e;exact hc.2.2 ⟨p,x,hp,hx,h3⟩
 ·exact hc.2.2 ⟨q,z,h1,h2,h3⟩
theorem abS {t:TypeId}{i:TypeInfo}(hi:P.info? t=some i){b off:Nat}{old:Array Value}{ty:TypeId}(hg:w.heap[b]? =some (.cells old ty (0,0))){v:Value}(hl:v.cells.toList.length=zE P t)(hfit:off+v.cells.toList.length<=old.size)
 (h1: ∀u∈v.cells.toList,u.oneCell'=true):(storeVar t ⟨b,off,none⟩ v).run P w= .ok () (w.setRow b (old.toList.take off++v.cells.toList++old.toList.drop (off+v.cells.toList.length)).toArray):=by
 have h:=run_storeCells_at P b off ty v.cells.toList 0 old w hg (by simpa using hfit) h1;simp only[Nat.add_zero]at h;have hne:v.cells.size=zE P t:=by simpa using hl
 simp[storeVar,wl hi,hne,h]
theorem uL {ok:Nat ->Prop}: ∀{ds:List D}{vs:List Value},CRs ι w ok (ds.map .d) vs -> ∀v∈vs,v.oneCell'=true
 | [],[],_,_,hv=>by cases hv
 | [],_::_,h,_,_=>h.elim
 |_::_,[],h,_,_=>h.elim
 |d::ds,v::vs,h,u,hu=>by
  rcases List.mem_cons.1 hu with rfl|hu
  ·exact CR.one h.1 rfl
  ·exact uL h.2 u hu
theorem jK {pl1:List (Nat×Pl)}: ∀{cs:List C}{pl:List (Nat×Pl)}{ds:List D},ua pl cs=some (ds,pl1) ->solid cs=true:=by
 intro cs;induction cs with
 |nil=>intros;rfl
 |cons c cs ih=>
  intro pl ds h;simp only[ua]at h;split at h
  ·rename_i y pl2 h1;split at h
   ·rename_i ys pl3 h2;have e:pl3=pl1:=by cases h;rfl
    subst e;unfold solid;have hd:c.isDead=false:=by cases c<;>first|rfl|cases h1
    rw[hd];exact ih h2
   ·cases h
  ·cases h
theorem Xz {ok:Nat ->Prop}{b sz:Nat}: ∀{els:List (List D)}{off:Nat}{vs:List Value},(∀e∈els,e.length=sz) ->CRs ι w ok (els.flatten.map .d) vs ->(∀j v,vs[j]? =some v ->w.cell? ⟨b,off+j,none⟩=some v) ->RDs w ok b sz off els
 | [],_,_,_,_,_=>by simp only[RDs]
 |e::r,off,vs,hl,hc,hcell=>by
  simp only[RDs];simp only[List.flatten_cons,List.map_append]at hc;have he:e.length=sz:=hl e (by simp);have hspl: ∀(e:List D) (rest:List C) (vs:List Value) (off:Nat),CRs ι w ok (e.map .d++rest) vs ->(∀j v,vs[j]? =some v ->w.cell? ⟨b,off+j,none⟩=some v) ->RDc w ok b off e /\CRs ι w ok rest (vs.drop e.length):=by
   intro e;induction e with
   |nil=>intro rest vs off h _;exact⟨by simp only[RDc],by simpa using h⟩
   |cons d e ih=>
    intro rest vs off h hcl;cases vs with
    |nil=>exact h.elim
    |cons v vs=>
     obtain⟨h1,h2⟩:=ih rest vs (off+1) h.2 (λj u hu=>by have:=hcl (j+1) u (by simpa using hu);rwa[show off+(j+1)=off+1+j by omega]at this);refine⟨?_,by simpa using h2⟩;simp only[RDc];exact⟨⟨v,by simpa using hcl 0 v rfl,h.1⟩,h1⟩
  obtain⟨h1,h2⟩:=hspl e _ vs off hc hcell;refine⟨he,h1,Xz (λx hx=>hl x (by simp[hx])) h2 (λj v hv=>?_)⟩;rw[List.getElem?_drop]at hv;have:=hcell _ v hv;rw[he]at this;rwa[show off+sz+j=off+(sz+j)by omega]
theorem RDs.vals {ok:Nat ->Prop}{b sz:Nat}: ∀{els:List (List D)}{off:Nat},RDs w ok b sz off els -> ∃vs,CRs ι w ok (els.flatten.map .d) vs /\vs.length=els.length*sz /\ ∀j v,vs[j]? =some v ->w.cell? ⟨b,off+j,none⟩=some v
 | [],off,_=>⟨[],trivial,by simp,λj v h=>by simp at h⟩
 |e::r,off,h=>by
  simp only[RDs]at h;obtain⟨h1,h2,h3⟩:=h;obtain⟨vs1,e1,e2⟩:=RDc.vals (ι:=ι) h2;obtain⟨vs2,g1,g2,g3⟩:=RDs.vals h3;have hlen:vs1.length=sz:=by rw[<- e1.length];simpa using h1
  refine⟨vs1++vs2,by simp only[List.flatten_cons,List.map_append];exact CRs.append e1 g1,by simp only[List.length_append,List.length_cons,hlen,g2,Nat.add_mul];omega,λj v hv=>?_⟩;rw[List.getElem?_append]at hv;split at hv
  ·exact e2 j v hv
  ·rename_i hge;have:=g3 _ v hv;rw[hlen]at this hge;rwa[show off+sz+(j - sz)=off+j by omega]at this
theorem auz (hr:Rel F N ι s a w){t:TypeId}{x y:Operand}(ho:o.op= .store t x y){i:TypeInfo}(hi:P.info? t=some i)
 (h:zJ P o.dst (.st (zE P t) (cO x) (cO y)) s K):xd P F N o a w K:=by
 simp only[zJ]at h;split at h
 case h_2=>exact h.elim
 rename_i hdst;have hx:=xE hr x;have hy:=apx hr y;generalize s.oc (cO x)=cx at*;generalize s.ow (cO y)=wy at*;unfold aSt at h;cases hl:Nat.beq wy.cells.length (zE P t)with
 |false=>rw[hl]at h;exact h.elim
 |true=>
  rw[hl]at h;simp only[cond_true]at h;have hl:=Nat.eq_of_beq_eq_true hl;split at h
  ·rename_i p off;split at h
   ·rename_i cs hp;cases hs:solid wy.cells&&Nat.ble (off+wy.cells.length) cs.length with
    |false=>rw[hs]at h;exact h.elim
    |true=>
     rw[hs]at h;simp only[cond_true]at h;rw[Bool.and_eq_true]at hs;have hfit:=Nat.le_of_ble_eq_true hs.2;obtain⟨b,h1,h2⟩:=hx;obtain⟨b',old,e1,⟨ty,e2⟩,e3⟩:=hr.places p _ hp;rw[h1]at e1;cases e1;have hcs:=YI hy hs.1;have hlen:(a.eval y).cells.toList.length=wy.cells.length:=hcs.length.symm;have hol:cs.length=old.size:=by simpa using e3.length
     have hrun:=abS (P:=P) hi (b:=b) (off:=off) e2 (v:=a.eval y) (by rw[hlen,hl]) (by rw[hlen];omega) (CRs.ones hcs hs.1);obtain⟨cur,hcur⟩: ∃cur:Array Value,cur=(old.toList.take off++(a.eval y).cells.toList++old.toList.drop (off+(a.eval y).cells.toList.length)).toArray:=⟨_,rfl⟩;rw[<- hcur]at hrun;have hsz:cur.size=old.size:=by
      rw[hcur];simp only[List.size_toArray,List.length_append,List.length_take,List.length_drop,Array.length_toList,hlen];omega
     have hk:=Kr hr p (.box cs) (.box (yb cs off wy.cells)) hp rfl h1 cur;have hsh:=zX.setRow w b e2 hsz;have hall:=CRs.append (CRs.append (CRs.take off e3) hcs) (CRs.drop (off+wy.cells.length) e3);have hct:cur.toList=old.toList.take off++(a.eval y).cells.toList++old.toList.drop (off+wy.cells.length):=by rw[hcur,hlen]
     rw[<- hct]at hall;have hrel:=hr.write p (.box cs) (.box (yb cs off wy.cells)) hp rfl rfl h1 e2 hsz ⟨b,cur,h1,⟨ty,setRow_heap w b old cur ty (0,0) e2⟩,CRs.keep hk hsh _ _ hall⟩;refine xd.of_skip (ι':=ι) (w':=w.setRow b cur) (by simp only[execOp,ho,h2,Instr.storeAt,Instr.sureAddr,Sem.run_bind,Sem.run_pure,Result.andThen_ok,hrun]) ?_ h;rw[hdst];exact hrel
   ·exact h.elim
  ·rename_i p z i' k;split at h
   ·rename_i ds pl1 hds;split at h
    ·rename_i z1 els hp;cases hz:Nat.beq z z1 with
     |false=>rw[hz]at h;exact h.elim
     |true=>
      rw[hz]at h;have hz:=Nat.eq_of_beq_eq_true hz;subst hz;simp only[cond_true]at h;obtain⟨e,he,hfit,h⟩:=h;have hcs:=YI hy (jK hds);obtain⟨hr1,hk1,hd1⟩:=Qj hr hcs hds;have hlen:(a.eval y).cells.toList.length=wy.cells.length:=hcs.length.symm;have hdl:ds.length=wy.cells.length:=by rw[<- hlen];simpa using hd1.length
      obtain⟨b,h1,h2⟩:=hx;obtain⟨hz0,hn,hpl|⟨b',e1,e2,_,e4⟩⟩:=hr1.places p _ hp
      ·rw[hpl.2]at he;simp at he
      ·rw[h1]at e1;cases e1;obtain⟨old,⟨ty,hg⟩,hroom⟩:=e4 rfl;have hiel:i'<els.length:=(List.getElem?_eq_some_iff.1 he).1;have hez:e.length=z:=RDs.len e2 e (List.mem_of_getElem? he);have hbnd:i'*z+k+ds.length<=old.size:=by
        have:(i'+1)*z<=els.length*z:=Nat.mul_le_mul_right _ hiel;rw[Nat.add_mul,Nat.one_mul]at this;omega
       have hrun:=abS (P:=P) hi (b:=b) (off:=i'*z+k) hg (v:=a.eval y) (by rw[hlen,hl]) (by rw[hlen,<- hdl];exact hbnd) (uL hd1);have hsz:(old.toList.take (i'*z+k)++(a.eval y).cells.toList++old.toList.drop (i'*z+k+(a.eval y).cells.toList.length)).toArray.size=old.size:=by
        simp only[List.size_toArray,List.length_append,List.length_take,List.length_drop,Array.length_toList,hlen];omega
       have hk:=Kr hr1 p (.arr z els false) (.arr z (els.set i' (yb e k ds)) false) hp rfl h1 (old.toList.take (i'*z+k)++(a.eval y).cells.toList++old.toList.drop (i'*z+k+(a.eval y).cells.toList.length)).toArray;have hsh:=zX.setRow w b hg hsz;obtain⟨vs,g1,g2,g3⟩:=RDs.vals (ι:=ι) e2;have hspl:(els.set i' (yb e k ds)).flatten=yb els.flatten (i'*z+k) ds:=by
        have hall:=RDs.len e2;have: ∀(els:List (List D)) (i':Nat),(∀x∈els,x.length=z) ->els[i']? =some e ->(els.set i' (yb e k ds)).flatten=yb els.flatten (i'*z+k) ds:=by
         intro els;induction els with
         |nil=>intro i' _ h;simp at h
         |cons x r ih=>
          intro i' hall he;have hx:x.length=z:=hall x (by simp);cases i' with
          |zero=>
           simp at he;subst he;simp only[List.set_cons_zero,List.flatten_cons,yb,Nat.zero_mul,Nat.zero_add];rw[List.take_append_of_le_length (by omega),List.drop_append_of_le_length (by omega)];simp[List.append_assoc]
          |succ i'=>
           simp at he;simp only[List.set_cons_succ,List.flatten_cons];rw[ih i' (λy hy=>hall y (by simp[hy])) he];simp only[yb];rw[show(i'+1)*z+k=x.length+(i'*z+k)by rw[hx,Nat.add_mul];omega,List.take_length_add_append,show x.length+(i'*z+k)+ds.length=x.length+(i'*z+k+ds.length)by omega,List.drop_length_add_append];simp[List.append_assoc]
        exact this els i' hall he
       have hvl:vs.length=els.length*z:=g2;have hrel:=hr1.write p (.arr z els false) (.arr z (els.set i' (yb e k ds)) false) hp rfl rfl h1 hg hsz ⟨hz0,by simpa using hn,.inr ⟨b,h1,by
        refine Xz (ι:=ι) (vs:=yb vs (i'*z+k) (a.eval y).cells.toList) ?_ ?_ ?_
        ·intro q hq;rcases List.mem_or_eq_of_mem_set hq with hq|rfl
         ·exact RDs.len e2 q hq
         ·simp only[yb,List.length_append,List.length_take,List.length_drop];omega
        ·rw[hspl];simp only[yb,List.map_append,List.map_take,List.map_drop];refine CRs.keep hk hsh _ _ ?_;rw[hlen,<- hdl];exact CRs.append (CRs.append (CRs.take _ g1) hd1) (CRs.drop _ g1)
        ·intro j v hv;rw[Nat.zero_add,cell_setRow_same w b _ old _ ty (0,0) hg];simp only[yb]at hv;have hold: ∀j v,vs[j]? =some v ->old.toList[j]? =some v:=λj v hv=>by
          have:=g3 j v hv;rw[Nat.zero_add,cell_of_row w b j old ty (0,0) hg]at this;rw[Array.getElem?_toList];exact this
         have hjl:j<vs.length:=by
          have:=(List.getElem?_eq_some_iff.1 hv).1;simp only[List.length_append,List.length_take,List.length_drop,hlen]at this;have:(i'+1)*z<=els.length*z:=Nat.mul_le_mul_right _ hiel;rw[Nat.add_mul,Nat.one_mul]at this;omega
         have hle:vs.length<=old.toList.length:=by simpa[hvl]using hroom
         simp only[List.getElem?_toArray];rw[List.getElem?_append,List.getElem?_append]at hv⊢;have t1:(vs.take (i'*z+k)).length=i'*z+k:=by
          rw[List.length_take];have:(i'+1)*z<=els.length*z:=Nat.mul_le_mul_right _ hiel;rw[Nat.add_mul,Nat.one_mul]at this;omega
         have t2:(old.toList.take (i'*z+k)).length=i'*z+k:=by
          rw[List.length_take,Array.length_toList];omega
         simp only[List.length_append,t1,t2]at hv⊢;split at hv
         ·rename_i c1;rw[if_pos c1];split at hv
          ·rename_i c2;rw[if_pos c2];rw[List.getElem?_take]at hv⊢;rw[if_pos c2]at hv⊢;exact hold j v hv
          ·rename_i c2;rw[if_neg c2];exact hv
         ·rename_i c1;rw[if_neg c1];rw[List.getElem?_drop]at hv⊢;exact hold _ v hv,(λhf=>by cases hf),(λ_=>⟨_,⟨ty,setRow_heap w b old _ ty (0,0) hg⟩,by rw[hsz];simpa using hroom⟩)⟩⟩
       refine xd.of_skip (ι':=ι) (w':=w.setRow b (old.toList.take (i'*z+k)++(a.eval y).cells.toList++old.toList.drop (i'*z+k+(a.eval y).cells.toList.length)).toArray) (hr:=?_) (hk:=h) (h:=?_)
       ·simp only[execOp,ho,h2,Instr.storeAt,Instr.sureAddr,Sem.run_bind,Sem.run_pure,Result.andThen_ok,hrun]
       ·rw[hdst];exact hrel
    ·exact h.elim
   ·exact h.elim
  ·exact h.elim
end
end Go.AM
namespace Go.AM
section
variable {P:Program}{F:Fr}{N:Nat}{ι:Nat ->Gh}{s:S}{a:Act}{w:World}{o:Oper}{K:S ->Prop}
theorem aiQ (off:Nat): ∀(vals:List Value) (k:Nat) (cur:Array Value),off+k+vals.length<=cur.size ->
 (vals.zipIdx k).foldl (λcs (x:Value×Nat)=>cs.setIfInBounds (off+x.2) x.1) cur=(yb cur.toList (off+k) vals).toArray
 | [],k,cur,_=>by simp[yb]
 |v::r,k,cur,h=>by
  simp only[List.zipIdx_cons,List.foldl_cons];simp only[List.length_cons]at h;rw[aiQ off r (k+1) (cur.setIfInBounds (off+k) v) (by simpa using (by omega:off+(k+1)+r.length<=cur.size))];congr 1
  simp only[yb,Array.toList_setIfInBounds,List.length_cons];have:=list_seg_step cur.toList (off+k) v r (by simpa using h);rw[show off+(k+1)=off+k+1 by omega];rw[show off+k+(r.length+1)=off+k+1+r.length by omega]at*;exact this
theorem aiO (place:Nat ->Option (Nat×Nat))(cur:Array Value)(i off sz:Nat)(v:Value)(rest:List (Nat×Value))(hp:place i=some (off,sz))(hl:v.cells.toList.length=sz)(hfit:off+sz<=cur.size):
 Instr.fill place cur ((i,v)::rest)=Instr.fill place (yb cur.toList off v.cells.toList).toArray rest:=by
 have h1:v.cells.size=sz:=by simpa using hl
 have h2:=aiQ off v.cells.toList 0 cur (by rw[hl];omega);simp only[Nat.add_zero]at h2;have h3:v.cells.zipIdx.foldl (λcs (x:Value×Nat)=>cs.setIfInBounds (off+x.2) x.1) cur=(yb cur.toList off v.cells.toList).toArray:=by
  rw[<- h2,<- Array.foldl_toList];simp
 rw[Instr.fill];simp only[hp];rw[if_neg (by rw[h1];simp;omega)];congr 1
theorem abi: ∀(fs:List Field),afR P fs=true -> ∃places,fs.mapM (λf=>(P.info? f.type).map λi=>(f.offset,i.size))=some places /\ ∀(j:Nat) (f:Field),fs[j]? =some f ->places[j]? =some (f.offset,zE P f.type)
 | [],_=>⟨[],rfl,λj f h=>by simp at h⟩
 |f::r,h=>by
  unfold afR at h;cases hi:P.info? f.type with
  |none=>rw[hi]at h;cases h
  |some i=>
   rw[hi]at h;obtain⟨places,h1,h2⟩:=abi r h;refine⟨(f.offset,i.size)::places,by simp[List.mapM_cons,hi,h1],λj g hg=>?_⟩;cases j with
   |zero=>simp at hg;subst hg;simp[zE,hi]
   |succ j=>simp at hg;simpa using h2 j g hg
theorem afH (hr:Rel F N ι s a w){t:TypeId}{fs:Array Field}(hu:P.underlying t=some (.struct fs)){places:List (Nat×Nat)}(hpl: ∀(j:Nat) (f:Field),fs.toList[j]? =some f ->places[j]? =some (f.offset,zE P f.type)):
 ∀(parts:List (Nat×Operand)) (l:List (Nat×Nat×O)) (cs cs':List C) (vs:List Value),aaQ P t parts=some l ->CRs ι w (F.ok ι s.pl w) cs vs ->Vs s cs l=some cs' ->
  ∃vs',Instr.fill (λx=>places[x]?) vs.toArray (parts.map λx=>(x.1,a.eval x.2))=some vs'.toArray /\CRs ι w (F.ok ι s.pl w) cs' vs'
 | [],l,cs,cs',vs,h1,h2,h3=>by cases h1;cases h3;exact⟨vs,rfl,h2⟩
 |(i,x)::parts,l,cs,cs',vs,h1,h2,h3=>by
  unfold aaQ at h1;split at h1
  ·rename_i off ft l' ht hl;cases h1;unfold Vs at h3;cases hc:solid (s.ow (cO x)).cells&&Nat.beq (s.ow (cO x)).cells.length (zE P ft)&&Nat.ble (off+zE P ft) cs.length with
   |false=>rw[hc]at h3;cases h3
   |true=>
    rw[hc]at h3;simp only[cond_true]at h3;rw[Bool.and_eq_true,Bool.and_eq_true]at hc;obtain⟨⟨c1,c2⟩,c3⟩:=hc;have c2:=Nat.eq_of_beq_eq_true c2;have c3:=Nat.le_of_ble_eq_true c3;obtain⟨fs',f,e1,e2,e3,e4⟩:=Kn ht;rw[hu]at e1;cases e1;have hp:places[i]? =some (off,zE P ft):=by rw[hpl i f (by simpa using e2),e3,e4]
    have hx:=YI (apx hr x) c1;have hxl:(a.eval x).cells.toList.length=zE P ft:=by rw[<- hx.length,c2]
    have hcl:cs.length=vs.length:=h2.length;have hnew:CRs ι w (F.ok ι s.pl w) (yb cs off (s.ow (cO x)).cells) (yb vs off (a.eval x).cells.toList):=by
     simp only[yb];rw[hxl,c2];exact CRs.append (CRs.append (CRs.take _ h2) hx) (CRs.drop _ h2)
    obtain⟨vs',g1,g2⟩:=afH hr hu hpl parts l' _ cs' _ hl hnew h3;refine⟨vs',?_,g2⟩;rw[List.map_cons,aiO _ vs.toArray i off (zE P ft) (a.eval x) _ hp hxl (by simp;omega)];exact g1
  ·cases h1
theorem adC (hr:Rel F N ι s a w)(hd: ∀k,o.dst=some k ->k<N){t:TypeId}{parts:Array (Nat×Operand)}(ho:o.op= .build t parts){fs:Array Field}(hu:P.underlying t=some (.struct fs)){l:List (Nat×Nat×O)}
 (hl:aaQ P t parts.toList=some l) (hi:afR P fs.toList=true) (hz:solid (qQ P t).cells=true) (h:zJ P o.dst (.build (qQ P t).cells l) s K):zy P F N o a w (λ_=>True) K:=by
 simp only[zJ]at h;split at h
 ·rename_i cs hcs;obtain⟨places,h1,h2⟩:=abi fs.toList hi;unfold qQ at hz hcs;cases hit:P.info? t with
  |none=>simp only[hit]at hz;cases hz
  |some it=>
   simp only[hit]at hz hcs;cases hzz:it.zero with
   |none=>simp only[hzz]at hz;cases hz
   |some z=>
    simp only[hzz]at hz hcs;rw[YF hz]at hcs;obtain⟨vs,g1,g2⟩:=afH hr hu h2 parts.toList l _ cs _ hl (ZJ ι w _ z.cells.toList) hcs;have hb:P.built t (parts.map λ(i,x)=>(i,a.eval x)).toList=some vs.toArray:=by
     simp only[Program.built,hit,hu,hzz,h1];simpa using g1
    have hrun:=λ(w':World)=>run_build (P:=P) w' t (parts.map λ(i,x)=>(i,a.eval x)) vs.toArray hb
    exact zy.put hr hd (λw' _=>by simp[execOp,ho,hrun]) (show VR ι w _ (.w (.agg cs)) _ from⟨vs,rfl,g2⟩) h
 ·exact h.elim
theorem aiN {sz:Nat}: ∀(vals:List Value) (i:Nat) (cur:Array Value),(∀v∈vals,v.cells.toList.length=sz) ->(i+vals.length)*sz=cur.size -> ∀(parts:List (Nat×Value)),
 parts=(vals.zipIdx i).map (λx=>(x.2,x.1)) ->Instr.fill (λi=>some (i*sz,sz)) cur parts=some (cur.toList.take (i*sz)++(vals.map λv=>v.cells.toList).flatten).toArray
 | [],i,cur,_,hs,parts,hp=>by
   subst hp;simp only[List.zipIdx_nil,List.map_nil,Instr.fill,List.flatten_nil,List.append_nil];rw[List.take_of_length_le (by simp at hs⊢;omega)]
 |v::r,i,cur,hv,hs,parts,hp=>by
  subst hp;have hvl:=hv v (by simp);simp only[List.length_cons]at hs;have hm:(i+(r.length+1))*sz=i*sz+sz+r.length*sz:=by rw[Nat.add_mul,Nat.add_mul,Nat.one_mul];omega
  simp only[List.zipIdx_cons,List.map_cons];rw[aiO _ cur i (i*sz) sz v _ rfl hvl (by omega)];have hlen:(yb cur.toList (i*sz) v.cells.toList).length=cur.size:=by
   simp only[yb,List.length_append,List.length_take,List.length_drop,hvl,Array.length_toList];omega
  rw[aiN r (i+1) _ (λu hu=>hv u (by simp[hu])) (by simp only[List.size_toArray,hlen];rw[<- hs];congr 1;omega) _ rfl];congr 2
  simp only[List.flatten_cons];rw[<- List.append_assoc];congr 1
  simp only[yb];rw[show(i+1)*sz=i*sz+sz by rw[Nat.add_mul];omega];have t1:(cur.toList.take (i*sz)).length=i*sz:=by rw[List.length_take,Array.length_toList];omega
  rw[List.take_append_of_le_length (by simp only[List.length_append,t1,hvl];omega)];rw[List.take_of_length_le (by simp only[List.length_append,t1,hvl];omega)]
theorem adm: ∀(parts:List (Nat×Operand)) (i:Nat),KR i parts=true ->(parts.map λx=>(x.1,a.eval x.2))=((parts.map λx=>a.eval x.2).zipIdx i).map λx=>(x.2,x.1)
 | [],_,_=>rfl
 |(j,x)::r,i,h=>by
  simp only[KR,Bool.and_eq_true]at h;have:=Nat.eq_of_beq_eq_true h.1;subst this;simp only[List.map_cons,List.zipIdx_cons,adm r (i+1) h.2]
theorem abs {sz:Nat}(s0:S)(a:Act): ∀{parts:List Operand}{s:S}(_:Rel F N ι s a w) (_: ∀x∈parts,WR ι w (F.ok ι s.pl w) (s0.ow (cO x)) (a.eval x)) {els:List (List D)}{pl1:List (Nat×Pl)}(_:af6 s0 sz s.pl (parts.map cO)=some (els,pl1)),
 Rel F N ι (s.withPl pl1) a w /\(∀b,F.ok ι s.pl w b ->F.ok ι pl1 w b)/\els.length=parts.length /\(∀e∈els,e.length=sz)/\(∀x∈parts,(a.eval x).cells.toList.length=sz)/\
  CRs ι w (F.ok ι pl1 w) (els.flatten.map .d) ((parts.map λx=>(a.eval x).cells.toList).flatten)
 | [],s,hr,_,els,pl1,h=>by cases h;exact⟨hr,λ_ h=>h,rfl,λe he=>(by cases he),λx hx=>(by cases hx),trivial⟩
 |x::parts,s,hr,hx,els,pl1,h=>by
  simp only[List.map_cons,af6]at h;cases hb:Nat.beq (s0.ow (cO x)).cells.length sz with
  |false=>rw[hb]at h;cases h
  |true=>
   rw[hb]at h;have hb:=Nat.eq_of_beq_eq_true hb;simp only[cond_true]at h;split at h
   ·rename_i ds pl2 h1;split at h
    ·rename_i es pl3 h2;cases h;have hcs:=YI (hx x (by simp)) (jK h1);obtain⟨g1,g2,g3⟩:=Qj hr hcs h1;have hk:zZ w w (F.ok ι s.pl w) (F.ok ι pl2 w):=λb hb=>⟨g2 b hb,rfl⟩
     obtain⟨k1,k2,k3,k4,k5,k6⟩:=abs s0 a (s:=s.withPl pl2) g1 (λy hy=>WR.keep hk (zX.refl w) _ _ (hx y (by simp[hy]))) h2;have hdl:ds.length=sz:=by rw[<- hb,hcs.length];simpa using g3.length
     refine⟨k1,λb hb=>k2 b (g2 b hb),by simp[k3],λe he=>?_,λy hy=>?_,?_⟩
     ·rcases List.mem_cons.1 he with rfl|he
      ·exact hdl
      ·exact k4 e he
     ·rcases List.mem_cons.1 hy with rfl|hy
      ·rw[<- hcs.length,hb]
      ·exact k5 y hy
     ·simp only[List.flatten_cons,List.map_append,List.map_cons];exact CRs.append (CRs.keep (λb hb=>⟨k2 b hb,rfl⟩) (zX.refl w) _ _ g3) k6
    ·cases h
   ·cases h
theorem NewRow.shape {w w':World}{cur:Array Value}{t:TypeId}{mk:Nat×Nat}(h:NewRow w w' cur t mk):w'.shape? w.heap.size=some (t,cur.size):=by
 simp[World.shape?,h.new]
theorem agU (hr:Rel F N ι s a w)(hd: ∀k,o.dst=some k ->k<N){t e:TypeId}{n:Nat}{parts:Array (Nat×Operand)}(ho:o.op= .buildSlice t n parts)(ht:wT P t=some e)(hpos:Nat.blt 0 (zE P e)=true)(hn:Nat.beq n parts.toList.length=true)
 (hbig:Nat.ble (n*zE P e) 16777216=true) (hin:KR 0 parts.toList=true) (hzero:ahI P e=true) (h:zJ P o.dst (.lits (zE P e) (parts.toList.map λx=>cO x.2)) s K):vd P F N o a w K:=by
 simp only[zJ]at h;have hu:=wt ht;have hpos:0<zE P e:=Nat.le_of_ble_eq_true hpos;have hn:=Nat.eq_of_beq_eq_true hn;have hbig:=Nat.le_of_ble_eq_true hbig;unfold ahI at hzero;cases hi:P.info? e with
 |none=>rw[hi]at hzero;cases hzero
 |some i=>
  simp only[hi]at hzero;cases hz:i.zero with
  |none=>rw[hz]at hzero;cases hzero
  |some z=>
   have hsz:zE P e=i.size:=by simp[zE,hi]
   split at h
   ·rename_i d els pl1 hdst hels;have hmap:(parts.toList.map λx=>cO x.2)=(parts.toList.map (·.2)).map cO:=by simp
    rw[hmap]at hels;obtain⟨g1,g2,g3,g4,g5,g6⟩:=abs s a hr (λx _=>apx hr x) hels;have hfill:=aiN (sz:=zE P e) (parts.toList.map λx=>a.eval x.2) 0 ((Array.range (n*zE P e)).map ((if n*zE P e=0 then #[]else z.cells)[· %(if n*zE P e=0 then #[]else z.cells).size]!)) (λv hv=>by
     obtain⟨x,hx,rfl⟩:=List.mem_map.1 hv;exact g5 x.2 (List.mem_map.2 ⟨x,hx,rfl⟩)) (by simp[hn]) _ (adm parts.toList 0 hin)
    simp only[Nat.zero_mul,List.take_zero,List.nil_append]at hfill;obtain⟨cur,hcur⟩: ∃cur:Array Value,cur=((parts.toList.map λx=>a.eval x.2).map λv=>v.cells.toList).flatten.toArray:=⟨_,rfl⟩;rw[<- hcur]at hfill;have hcl:cur.toList=((parts.toList.map (·.2)).map λx=>(a.eval x).cells.toList).flatten:=by rw[hcur,List.map_map,List.map_map];rfl
    have hcs:cur.size=n*zE P e:=by
     have h1:cur.size=cur.toList.length:=by simp
     rw[h1,hcl];have: ∀(l:List Operand),(∀x∈l,(a.eval x).cells.toList.length=zE P e) ->((l.map λx=>(a.eval x).cells.toList).flatten).length=l.length*zE P e:=by
      intro l;induction l with
      |nil=>intro _;simp
      |cons x r ih=>intro hl;simp only[List.map_cons,List.flatten_cons,List.length_append,List.length_cons,hl x (by simp),ih (λy hy=>hl y (by simp[hy])),Nat.add_mul];omega
     rw[this _ g5,hn];simp
    have hrun:(execOp a.eval o).run P w= .ok (.value (.slice (some ⟨w.heap.size,0,none⟩) n n)) (w.alloc (.cells cur e)):=by
     have hnb: ¬n*i.size>16777216:=by rw[<- hsz];omega
     rw[hsz]at hfill;have hparts:(parts.map λ(i,x)=>(i,a.eval x)).toList=parts.toList.map λx=>(x.1,a.eval x.2):=by simp
     by_cases h0:n*i.size=0
     ·rw[if_pos h0]at hfill;simp only[execOp,ho,Instr.buildSlice,Sem.run_bind,run_underlying hu,Result.andThen_ok,sizeOf,typeInfo,run_program,hi,Sem.run_pure,if_neg hnb,if_pos h0,hparts,hfill,newRow,run_newObj];rfl
     ·rw[if_neg h0]at hfill;simp only[execOp,ho,Instr.buildSlice,Sem.run_bind,run_underlying hu,Result.andThen_ok,sizeOf,typeInfo,run_program,hi,Sem.run_pure,if_neg hnb,if_neg h0,zeroValue,hz,hparts,hfill,newRow,run_newObj];rfl
    have hw:=NewRow.alloc w cur e;have hrel:=Rel.newRow g1 hw d (.arr (zE P e) els false) [d] (by simp[isin]) els.length (g1.h_slot (hd _ (by assumption))) ⟨hpos,by rw[zH],.inr ⟨w.heap.size,by rw[zH],by
     refine Xz (ι:=ι) (vs:=cur.toList) g4 ?_ (λj v hv=>by rw[Nat.zero_add,hw.cell];simpa using hv);rw[hcl];exact CRs.keep (ZA g1 hw d _ [d] (by simp[isin]) els.length) hw.shapes _ _ g6,(λhf=>by cases hf),(λ_=>⟨cur,⟨e,hw.new⟩,by rw[hcs,g3,hn];simp⟩)⟩⟩
    refine vd.of_value hw.ext (ι':=vP ι d ⟨some w.heap.size,els.length⟩) hrun ?_ h;rw[hdst];refine hrel.put (some d) (λk hk=>by cases hk;exact hd d hdst) _ _ ?_;have hne:els.length=n:=by rw[g3,hn];simp
    refine .inr ⟨w.heap.size,n,e,by rw[zH],by rw[zH];exact Nat.le_refl _,by rw[hne],by rw[hne];exact Nat.le_refl _,?_,by rw[hw.shape,hcs]⟩;have:n*1<=n*zE P e:=Nat.mul_le_mul_left _ hpos;simp only[maxLen];omega
   ·exact h.elim
end
end Go.AM
namespace Go.AM
section
variable {P:Program}{F:Fr}{N:Nat}{ι:Nat ->Gh}{s:S}{a:Act}{w:World}{o:Oper}{K:S ->Prop}
theorem Wf {ok:Nat ->Prop}: ∀{cs:List C}{z:List D}{pl:List (Nat×Pl)}{vs:List Value},ua [] cs=some (z,pl) ->CRs ι w ok cs vs ->CRs ι w ok (z.map .d) vs
 | [],z,pl,vs,h,hc=>by cases h;cases vs with|nil=>trivial|cons _ _=>exact hc.elim
 |_::_,_,_,[],_,hc=>hc.elim
 |c::cs,z,pl,v::vs,h,hc=>by
  simp only[ua]at h;split at h
  ·rename_i y pl1 h1;have hpl:pl1=[]:=by
    cases c with
    |clo f l=>cases l with
     |nil=>simp only[Qi]at h1;cases h1;rfl
     |cons _ _=>simp only[Qi]at h1;cases h1
    |_=>simp only[Qi,aget]at h1<;>cases h1<;>rfl
   subst hpl;split at h
   ·rename_i ys pl2 h2;cases h;refine⟨?_,Wf h2 hc.2⟩;cases c with
    |clo f l=>cases l with
     |nil=>
      simp only[Qi]at h1;cases h1;obtain⟨bs,g1,g2⟩:=hc.1;have hbs:bs=[]:=by simpa using g1.symm
      subst hbs;simp only[CR,RD,RDf];exact⟨[],g2,rfl⟩
     |cons _ _=>simp only[Qi]at h1;cases h1
    |d x=>simp only[Qi]at h1;cases h1;exact hc.1
    |nil=>
     simp only[Qi]at h1;cases h1;have:=hc.1;simp only[CR]at this;subst this;simp only[CR,RD];exact⟨none,0,0,rfl,rfl,Nat.le_refl _,Nat.zero_le _,.inl trivial⟩
    |_=>simp only[Qi,aget]at h1;cases h1
   ·cases h
  ·cases h
theorem wO (l:List Value): ∀(n j:Nat) (v:Value),(List.replicate n l).flatten[j]? =some v ->j<n*l.length /\l[j%l.length]? =some v
 |0,j,v,h=>by simp at h
 |n+1,j,v,h=>by
  simp only[List.replicate_succ,List.flatten_cons,List.getElem?_append]at h;rw[Nat.add_mul,Nat.one_mul];split at h
  ·rename_i hj;rw[Nat.mod_eq_of_lt hj];exact⟨by omega,h⟩
  ·rename_i hj;obtain⟨h1,h2⟩:=wO l n _ v h;refine⟨by omega,?_⟩;rw[<- Nat.mod_eq_sub_mod (by omega)]at h2;exact h2
theorem YA {ok:Nat ->Prop}{z:List D}{vs:List Value}(h:CRs ι w ok (z.map .d) vs): ∀(n:Nat),CRs ι w ok ((List.replicate n z).flatten.map .d) (List.replicate n vs).flatten
 |0=>trivial
 |n+1=>by
  simp only[List.replicate_succ,List.flatten_cons,List.map_append];exact CRs.append h (YA h n)
theorem ane (hr:Rel F N ι s a w)(hd: ∀k,o.dst=some k ->k<N){t e:TypeId}{x y:Operand}(ho:o.op= .makeSlice t x y)(ht:wT P t=some e){z:List D}{plz:List (Nat×Pl)}(hz:ua [] (qQ P e).cells=some (z,plz))
 (hpos:Nat.blt 0 (zE P e)=true) (hlen:Nat.beq z.length (zE P e)=true) (h:zJ P o.dst (.mk (zE P e) (vN P e) z (cO x) (cO y)) s K):vd P F N o a w K:=by
 simp only[zJ]at h;have hu:=wt ht;have hpos:0<zE P e:=Nat.le_of_ble_eq_true hpos;have hlen:=Nat.eq_of_beq_eq_true hlen;split at h
 ·rename_i d n c hdst hn hc;obtain⟨k1,hx,_⟩:=jQ hn (v6 hr x);obtain⟨k2,hy,_⟩:=jQ hc (v6 hr y);obtain⟨g1,g2,g3,g4,h⟩:=h;unfold qQ at hz;cases hi:P.info? e with
  |none=>simp[zE,hi]at hpos
  |some i=>
   simp only[hi]at hz;cases hiz:i.zero with
   |none=>simp only[hiz]at hz;cases hz
   |some v=>
    simp only[hiz]at hz;have hsol:=jK hz;rw[YF hsol]at hz;have hsz:zE P e=i.size:=by simp[zE,hi]
    have hby:vN P e=i.bytes:=by simp[vN,hi]
    have hbytes:(i.bytes:Int)*c<=281474976710656:=by
     unfold ye at g3;rw[hby]at g3;have:((i.bytes:Int)*c)=((c.toNat*i.bytes:Nat):Int):=by
      rw[Int.natCast_mul,Int.toNat_of_nonneg (by omega),Int.mul_comm]
     rw[this];omega
    have hrun:=run_make (P:=P) w t e i v hu hi hiz k1 k2 n c g1 g2 hbytes g4;obtain⟨cur,hcur⟩: ∃cur,cur=madeCells v.cells (c.toNat*i.size):=⟨_,rfl⟩;rw[<- hcur]at hrun;have hcs:cur.size=c.toNat*zE P e:=by rw[hcur,size_madeCells,hsz]
    have hw:=NewRow.alloc w cur e;have hzv:=Wf hz (ZJ ι w (F.ok ι s.pl w) v.cells.toList);have hvl:v.cells.toList.length=zE P e:=by rw[<- hlen];simpa using hzv.length.symm
    have hnc:n.toNat<=c.toNat:=by omega
    have hrel:=hr.newRow hw d (.arr (zE P e) (List.replicate n.toNat z) false) [d] (by simp[isin]) n.toNat (hr.h_slot (hd _ (by assumption))) ⟨hpos,by rw[zH];simp,.inr ⟨w.heap.size,by rw[zH],by
     refine Xz (ι:=ι) (vs:=(List.replicate n.toNat v.cells.toList).flatten) (λq hq=>by rw[List.eq_of_mem_replicate hq,hlen]) ?_ ?_
     ·exact CRs.keep (ZA hr hw d _ [d] (by simp[isin]) n.toNat) hw.shapes _ _ (YA hzv n.toNat)
     ·intro j u hj;obtain⟨j1,j2⟩:=wO _ _ _ _ hj;rw[Nat.zero_add,hw.cell,hcur];rw[hvl]at j1 j2;have hjl:j<c.toNat*i.size:=by
       have:n.toNat*zE P e<=c.toNat*zE P e:=Nat.mul_le_mul_right _ hnc;rw[hsz]at this j1;omega
      have hvs:v.cells.size=zE P e:=by simpa using hvl
      simp only[madeCells,Array.getElem?_map,Array.getElem?_range,hjl,if_true,Option.map_some,Option.some.injEq];rw[hvs];have hm:j%zE P e<v.cells.size:=by rw[hvs];exact Nat.mod_lt _ hpos
      rw[Array.getElem?_toList,Array.getElem?_eq_getElem hm]at j2;rw[getElem!_pos v.cells _ hm];exact Option.some.inj j2,(λhf=>by cases hf),(λ_=>⟨cur,⟨e,hw.new⟩,by rw[hcs];simp;exact Nat.mul_le_mul_right _ hnc⟩)⟩⟩
    refine vd.of_value hw.ext (v:=.slice (some ⟨w.heap.size,0,none⟩) n.toNat c.toNat) (w':=w.alloc (.cells cur e)) (ι':=vP ι d ⟨some w.heap.size,n.toNat⟩) ?_ ?_ h
    ·simp only[execOp,ho,hx,hy,Sem.run_bind,hrun,Result.andThen_ok,Sem.run_pure]
    ·rw[hdst];refine hrel.put (some d) (λk hk=>by cases hk;exact hd d hdst) _ _ ?_;exact .inr ⟨w.heap.size,c.toNat,e,by rw[zH],by rw[zH];exact Nat.le_refl _,rfl,hnc,by simp only[maxLen];omega,by rw[hw.shape,hcs]⟩
 ·exact h.elim
theorem QI (hr:Rel F N ι s a w){x:Option Operand}{l:Option Int}(h:s.bnd (x.map cO)=some l):(x=none /\l=none)\/ ∃y k n,x=some y /\l=some n /\a.eval y= .int k n:=by
 cases x with
 |none=>cases h;exact .inl ⟨rfl,rfl⟩
 |some y=>
  simp only[Option.map_some,S.bnd]at h;cases hn:Yv (s.o (cO y))with
  |none=>rw[hn]at h;cases h
  |some n=>
   rw[hn]at h;cases h;obtain⟨k,hy,_⟩:=jQ hn (v6 hr y);exact .inr ⟨y,k,n,rfl,rfl,hy⟩
theorem Zd (k:IntKind)(i:Int)(y:Nat)(code:BoundsCode)(h0:0<=i)(h1:i<=y):(Instr.sliceBound (.int k i) y code).run P w= .ok i.toNat w:=by
 simp[Instr.sliceBound,asIntOf,h0,h1]
theorem agA (b:Bool)(len cap:Nat)(lo hi:Option Value)(l h:Option Int)(hl:(lo=none /\l=none)\/ ∃k n,lo=some (.int k n)/\l=some n)(hh:(hi=none /\h=none)\/ ∃k n,hi=some (.int k n)/\h=some n)
 (h0:0<=zT l 0) (h1:zT l 0<=zT h len) (h2:zT h len<=cap):(Instr.sliceBounds b len cap lo hi none).run P w= .ok ((zT l 0).toNat,(zT h len).toNat,cap) w:=by
 rcases hl with⟨rfl,rfl⟩|⟨k,n,rfl,rfl⟩<;>rcases hh with⟨rfl,rfl⟩|⟨k',n',rfl,rfl⟩<;>simp only[zT]at h0 h1 h2⊢
 ·simp[Instr.sliceBounds]
 ·simp[Instr.sliceBounds,Zd k' n' cap _ (by omega) h2]
 ·simp[Instr.sliceBounds,Zd k n len _ h0 (by simpa using h1)]
 ·have e:((n'.toNat:Nat):Int)=n':=Int.toNat_of_nonneg (by omega);simp[Instr.sliceBounds,Zd k' n' cap _ (by omega) h2,Zd k n n'.toNat _ h0 (by rw[e];exact h1)]
theorem acn {x:Option Operand}{l:Option Int}(h:(x=none /\l=none)\/ ∃y k n,x=some y /\l=some n /\a.eval y= .int k n):(x.map a.eval=none /\l=none)\/ ∃k n,x.map a.eval=some (.int k n)/\l=some n:=by
 rcases h with⟨rfl,rfl⟩|⟨y,k,n,rfl,rfl,hy⟩
 ·exact .inl ⟨rfl,rfl⟩
 ·exact .inr ⟨k,n,by simp[hy],rfl⟩
theorem jS {t e:TypeId}(hu:P.underlying t=some (.slice e)){i:TypeInfo}(hi:P.info? e=some i){x:Operand}{lo hi':Option Operand}(ho:o.op= .slice t x lo hi' none){ad:Option Addr}{len cap:Nat}(hx:a.eval x= .slice ad len cap)
 {l h:Option Int}(hl:(lo=none /\l=none)\/ ∃y k n,lo=some y /\l=some n /\a.eval y= .int k n) (hh:(hi'=none /\h=none)\/ ∃y k n,hi'=some y /\h=some n /\a.eval y= .int k n)
 (h0:0<=zT l 0) (h1:zT l 0<=zT h len) (h2:zT h len<=cap):
 (execOp a.eval o).run P w= .ok (.value (.slice (if cap=(zT l 0).toNat then ad else ad.map (·.add ((zT l 0).toNat*zE P e))) ((zT h len).toNat -(zT l 0).toNat) (cap -(zT l 0).toNat))) w:=by
 have hb:=agA (P:=P) (w:=w) true len cap (lo.map a.eval) (hi'.map a.eval) l h (acn hl) (acn hh) h0 h1 h2;simp only[execOp,ho,Option.map_none,Instr.sliceAt,Instr.slice,hx,Sem.run_bind,run_underlying hu,Result.andThen_ok,hb,wl hi,Sem.run_pure]
theorem ajr (hr:Rel F N ι s a w)(hd: ∀k,o.dst=some k ->k<N){t e:TypeId}{x:Operand}{lo hi:Option Operand}(ho:o.op= .slice t x lo hi none)(hu:P.underlying t=some (.slice e)){i:TypeInfo}(hi':P.info? e=some i)
 (h:zJ P o.dst (.sli (zE P e) (cO x) (lo.map cO) (hi.map cO)) s K):zy P F N o a w (λ_=>True) K:=by
 simp only[zJ]at h;split at h
 case h_2=>exact h.elim
 rename_i lq hb hl hh;have hl:=QI hr hl;have hh:=QI hr hh;have hx:=xE hr x;generalize s.oc (cO x)=cx at*;unfold as3 at h;split at h
 ·rename_i els;simp only[CR,RD]at hx;obtain⟨ad,m,c,e1,e2,e3,e4,e5⟩:=hx;cases lq with
  |none=>
   obtain⟨g1,g2,h⟩:=h;have hrun:=λ(w':World) (_:True)=>jS (o:=o) (w:=w') hu hi' ho e1 hl hh (by simp[zT]) (by rw[e2];simpa[zT]using g1) (by rw[e2];omega)
   simp only[zT,Int.toNat_zero,Nat.zero_mul,Nat.sub_zero]at hrun;have hadd:(if c=0 then ad else ad.map (·.add 0))=ad:=by
    split
    ·rfl
    ·cases ad<;>simp[Addr.add]
   simp only[hadd]at hrun;refine zy.put hr hd hrun ?_ h;simp only[cV,VR,WR,CR,RD];have hlen:(els.take (zT hb els.length).toNat).length=(zT hb els.length).toNat:=by rw[List.length_take];omega
   refine⟨ad,_,_,rfl,?_,?_,e4,?_⟩
   ·rw[hlen,e2];rfl
   ·rw[e2];simp only[zT]at g2⊢;omega
   ·rcases e5 with e5|⟨b,q,sz,f1,f2,f3⟩
    ·rw[e5];left;simp
    ·right;exact⟨b,q,sz,f1,f2,RDs.take _ f3⟩
  |some l=>
   obtain⟨g0,g1,g2,g3,h⟩:=h;have hrun:=λ(w':World) (_:True)=>jS (o:=o) (w:=w') hu hi' ho e1 hl hh (by simpa[zT]using g1) (by rw[e2];simpa[zT]using g2) (by rw[e2];omega)
   simp only[zT]at hrun;refine zy.put hr hd hrun ?_ h;simp only[cV,VR,WR,CR,RD];have hlen:((els.take (zT hb els.length).toNat).drop l.toNat).length=(zT hb els.length).toNat - l.toNat:=by rw[List.length_drop,List.length_take];omega
   refine⟨_,_,_,rfl,?_,?_,by omega,?_⟩
   ·rw[hlen,e2];rfl
   ·rw[e2];simp only[zT]at g3⊢;omega
   ·by_cases hemp:(els.take (zT hb els.length).toNat).drop l.toNat=[]
    ·exact .inl hemp
    ·have hlt:l.toNat<(zT hb els.length).toNat:=by
      have:0<((els.take (zT hb els.length).toNat).drop l.toNat).length:=List.length_pos_iff.2 hemp;rw[hlen]at this;omega
     rcases e5 with e5|⟨b,q,sz,f1,f2,f3⟩
     ·rw[e5]at hemp;simp at hemp
     ·right
      have hne:els≠ []:=λe=>by rw[e]at hemp;simp at hemp
      obtain⟨y,hy⟩: ∃y,y∈els:=List.exists_mem_of_ne_nil els hne;have hsz:sz=zE P e:=by rw[<- RDs.len f3 y hy,g0 y hy]
      refine⟨b,q+l.toNat*sz,sz,?_,f2,RDs.drop _ (RDs.take _ f3)⟩;refine Eq.trans (if_neg (by simp only[zT]at*;omega)) ?_;rw[f1,hsz];simp[qT]
 ·rename_i p z n;cases hz:Nat.beq z (zE P e)with
  |false=>rw[hz]at h;exact h.elim
  |true=>
   rw[hz]at h;have hz:=Nat.eq_of_beq_eq_true hz;simp only[cond_true]at h;cases lq with
   |none=>
    obtain⟨g1,g2,h⟩:=h;rcases hx with⟨f1,f2,f3⟩|⟨b,cap,ty,f1,f2,f3,f4,f5,f6⟩
    ·subst f2;have h0:zT hb ((0:Nat):Int)=0:=by omega
     have hrun:=λ(w':World) (_:True)=>jS (o:=o) (w:=w') hu hi' ho f3 hl hh (by simp[zT]) (by simpa[zT]using g1) (by omega)
     simp only[h0]at hrun;rw[h0]at h;simp only[zT,Int.toNat_zero,Nat.zero_mul,Nat.sub_zero,if_true]at hrun;exact zy.put hr hd hrun (show VR ι w _ (cV (.own p z 0)) _ from .inl ⟨f1,rfl,rfl⟩) h
    ·have hrun:=λ(w':World) (_:True)=>jS (o:=o) (w:=w') hu hi' ho f3 hl hh (by simp[zT]) (by simpa[zT]using g1) (by omega)
     simp only[zT,Int.toNat_zero,Nat.zero_mul,Nat.sub_zero]at hrun;have hadd:(if cap=0 then some (⟨b,0,none⟩:Addr)else(some (⟨b,0,none⟩:Addr)).map (·.add 0))=some ⟨b,0,none⟩:=by
      split<;>simp[Addr.add]
     simp only[hadd]at hrun;refine zy.put hr hd hrun (show VR ι w _ (cV (.own p z (zT hb n).toNat)) _ from .inr ⟨b,cap,ty,f1,by omega,rfl,by omega,f5,f6⟩) h
   |some l=>
    simp only[]at h;split at h
    ·rename_i z1 els fz hp;cases hz1:Nat.beq z z1 with
     |false=>rw[hz1]at h;exact h.elim
     |true=>
      rw[hz1]at h;have hz1:=Nat.eq_of_beq_eq_true hz1;simp only[cond_true]at h;obtain⟨g1,g2,g3,h⟩:=h;obtain⟨k1,k2|⟨b,cap,ty,f1,f3,f4,f5,f6,f7⟩⟩:=amu hr hp hz1 hx
      ·obtain⟨k2,k3,k4,k5⟩:=k2;subst k2;have h0:zT hb ((0:Nat):Int)=0:=by omega
       have hl0:l=0:=by omega
       subst hl0;have hrun:=λ(w':World) (_:True)=>jS (o:=o) (w:=w') hu hi' ho k3 hl hh (by simp[zT]) (by simpa[zT]using g2) (by omega)
       simp only[h0]at hrun;rw[h0]at h;simp only[zT,Int.toNat_zero,Nat.zero_mul,Nat.sub_zero,if_true]at hrun;refine⟨_,ι,_,hrun,(hr.freeze p).put o.dst hd _ _ ?_,h⟩;simp only[cV,VR,WR,CR,RD,k5];exact⟨none,0,0,rfl,by simp,Nat.le_refl _,Nat.zero_le _,.inl (by simp)⟩
      ·have hrun:=λ(w':World) (_:True)=>jS (o:=o) (w:=w') hu hi' ho f3 hl hh (by simpa[zT]using g1) (by simpa[zT]using g2) (by omega)
       simp only[zT]at hrun;have hlen:((els.take (zT hb n).toNat).drop l.toNat).length=(zT hb n).toNat - l.toNat:=by rw[List.length_drop,List.length_take];omega
       refine⟨_,ι,_,hrun,(hr.freeze p).put o.dst hd _ _ ?_,h⟩;have hdata:=asb hr hp f1 (n:=(zT hb n).toNat) (by omega) (cap:=cap) (by omega) f5;simp only[cV,VR,WR,CR];simp only[RD]at hdata⊢;obtain⟨ad,m,c,e1,e2,e3,e4,e5⟩:=hdata;cases e1;refine⟨_,_,_,rfl,by rw[hlen];rfl,by simp only[zT]at*;omega,by omega,?_⟩;by_cases hemp:(els.take (zT hb n).toNat).drop l.toNat=[]
       ·exact .inl hemp
       ·have hlt:l.toNat<(zT hb n).toNat:=by
         have:0<((els.take (zT hb n).toNat).drop l.toNat).length:=List.length_pos_iff.2 hemp;rw[hlen]at this;omega
        rcases e5 with e5|⟨b',q,sz,q1,q2,q3⟩
        ·rw[e5]at hemp;simp at hemp
        ·right
         cases q1;have hne:els.take (zT hb n).toNat≠ []:=λe=>by rw[e]at hemp;simp at hemp
         obtain⟨y,hy⟩: ∃y,y∈els.take (zT hb n).toNat:=List.exists_mem_of_ne_nil _ hne;have hsz:sz=zE P e:=by
          rw[<- RDs.len q3 y hy,RDs.len f7 y (List.mem_of_mem_take hy),<- hz1,hz]
         refine⟨b,0+l.toNat*sz,sz,?_,q2,RDs.drop _ q3⟩;refine Eq.trans (if_neg (by simp only[zT]at*;omega)) ?_;rw[hsz];simp[qT]
    ·exact h.elim
 ·have hx:a.eval x= .slice none 0 0:=hx;obtain⟨g1,g2,g3,h⟩:=h;have hrun:=λ(w':World) (_:True)=>jS (o:=o) (w:=w') hu hi' ho hx hl hh g1 g2 g3
  have e1:(zT lq 0).toNat=0:=by omega
  have e2:(zT hb ((0:Nat):Int)).toNat=0:=by
   have:zT hb ((0:Nat):Int)<=0:=g3;omega
  simp only[e1,e2,Nat.zero_mul,if_true,Nat.sub_zero]at hrun;exact zy.put hr hd hrun (show VR ι w _ (cV .nil) _ from rfl) h
 ·exact h.elim
theorem ajs (hr:Rel F N ι s a w)(hd: ∀k,o.dst=some k ->k<N){t:TypeId}{x:Operand}{lo hi:Option Operand}(ho:o.op= .slice t x lo hi none)(hu:P.underlying t=some .string)
 (h:zJ P o.dst (.sls (cO x) (lo.map cO) (hi.map cO)) s K):zy P F N o a w (λ_=>True) K:=by
 simp only[zJ]at h;split at h
 case h_2=>exact h.elim
 rename_i l hb hl hh;have hl:=QI hr hl;have hh:=QI hr hh;have hx:=xE hr x;generalize s.oc (cO x)=cx at*;unfold as4 at h;split at h
 ·rename_i b;obtain⟨g1,g2,g3,h⟩:=h;have hxe:=yO hx;have hbd:=λ(w':World)=>agA (P:=P) (w:=w') false b.size b.size (lo.map a.eval) (hi.map a.eval) l hb (acn hl) (acn hh) g1 g2 g3
  refine zy.put hr hd (v:=.string (b.extract (zT l 0).toNat (zT hb b.size).toNat)) ?_ (yH rfl) h;intro w' _;simp only[execOp,ho,Option.map_none,Instr.sliceAt,Instr.slice,hxe,Sem.run_bind,run_underlying hu,Result.andThen_ok,Sem.run_pure];simp;rw[hbd w'];rfl
 ·exact h.elim
theorem aac {t:TypeId}(h:xY P t true=true):P.underlying t=some .string:=by
 unfold xY at h;split at h
 ·assumption
 ·split at h<;>cases h
 ·cases h
theorem abj {t:TypeId}(h:xY P t false=true): ∃e,P.underlying t=some (.slice e)/\P.underlying e=some (.int .u8):=by
 unfold xY at h;split at h
 ·cases h
 ·rename_i e he;split at h
  ·rename_i h2;exact⟨e,he,h2⟩
  ·cases h
 ·cases h
theorem WW (b:ByteArray):(yT b).flatten=b.data.toList.map λx=>D.lit (.int .u8 x.toNat):=by
 unfold yT;induction b.data.toList with
 |nil=>rfl
 |cons x r ih=>simp[ih]
theorem aiE {ok:Nat ->Prop}: ∀(l:List UInt8) (vs:List Value),CRs ι w ok ((l.map λx=>D.lit (.int .u8 x.toNat)).map .d) vs ->vs=l.map λ(x:UInt8)=>Value.int .u8 x.toNat
 | [],[],_=>rfl
 | [],_::_,h=>h.elim
 |_::_,[],h=>h.elim
 |x::l,v::vs,h=>by
  have h1:=yO h.1;simp only[List.map_cons,h1,aiE l vs h.2]
theorem VW {ok:Nat ->Prop}: ∀(l:List UInt8),CRs ι w ok ((l.map λx=>D.lit (.int .u8 x.toNat)).map .d) (l.map λ(x:UInt8)=>Value.int .u8 x.toNat)
 | []=>trivial
 |x::l=>⟨by simp only[CR,RD];exact⟨trivial,rfl⟩,VW l⟩
theorem UG (hr:Rel F N ι s a w){c:C}{v:Value}(hc:CR ι w (F.ok ι s.pl w) c v){l:List (List D)}(h:Q8 s.pl c=some l):
 ∃ad cap,v= .slice ad l.length cap /\(l=[]\/ ∃b q sz,ad=some ⟨b,q,none⟩/\RDs w (F.ok ι s.pl w) b sz q l):=by
 cases c with
 |d x=>
  cases x with
  |lit u=>cases h
  |fn f l=>cases h
  |sl els=>
   cases h;simp only[CR,RD]at hc;obtain⟨ad,m,c,e1,e2,e3,e4,e5⟩:=hc;refine⟨ad,c,by rw[e1,e2],?_⟩;rcases e5 with e5|⟨b,q,sz,f1,f2,f3⟩
   ·exact .inl e5
   ·exact .inr ⟨b,q,sz,f1,f3⟩
 |nil=>cases h;exact⟨none,0,hc,.inl rfl⟩
 |own p z n=>
  simp only[Q8]at h;cases hp:aget s.pl p with
  |none=>simp only[hp]at h;cases h
  |some y=>
   cases y with
   |box cs=>simp only[hp]at h;cases h
   |fbox cs=>simp only[hp]at h;cases h
   |gone=>simp only[hp]at h;cases h
   |arr sz els fz=>
    simp only[hp]at h;cases h;obtain⟨hn,h|⟨b,cap,t,h1,h2,h3,h4,h5,h6⟩⟩:=abJ hr hp hc
    ·obtain⟨rfl,rfl,_,_⟩:=h;exact⟨none,0,by simp,.inl (by simp)⟩
    ·exact⟨some ⟨b,0,none⟩,cap,by rw[h2,List.length_take,Nat.min_eq_left hn],.inr ⟨b,0,sz,rfl,RDs.take n h6⟩⟩
 |dead=>cases h
 |sub p z o n=>cases h
 |ptr p o=>cases h
 |eptr p z i k=>cases h
 |fp l=>cases h
 |clo f l=>cases h
theorem ajg (hr:Rel F N ι s a w)(hd: ∀k,o.dst=some k ->k<N){t u:TypeId}{x:Operand}(ho:o.op= .convert t u x)(ht:xY P t false=true)(hu:xY P u true=true)
 (h:zJ P o.dst (.b2s (cO x)) s K):zy P F N o a w (vA w) K:=by
 simp only[zJ]at h;obtain⟨e,h1,h2⟩:=abj ht;have h3:=aac hu;split at h
 ·rename_i l hl;obtain⟨b,rfl,h⟩:=h;obtain⟨ad,cap,hv,hdata⟩:=UG hr (xE hr x) hl;refine zy.put hr hd (v:=.string b) ?_ (yH rfl) h;intro w' hw';have hconv:(Conv.bytesToString (.slice ad (yT b).length cap)).run P w'= .ok (.string b) w':=by
   rcases hdata with he|⟨blk,q,sz,rfl,hdata⟩
   ·have hb0:b.data.toList=[]:=by simpa[yT]using he
    have hb:b=ByteArray.empty:=by
     cases b with|mk d=>have:d= #[]:=Array.toList_inj.1 (by simpa using hb0);subst this;rfl
    rw[he];cases ad with
    |none=>simp[Conv.bytesToString,hb]
    |some ad=>simp[Conv.bytesToString,loadCells,loadCellsFrom,hb]
   ·obtain⟨vs,g1,g2,g3⟩:=RDs.vals (ι:=ι) hdata;rw[WW]at g1;have hvs:=aiE _ _ g1;have hlen:vs.length=(yT b).length:=by rw[hvs];simp[yT]
    have hload:=run_loadCells_list (P:=P) w' ⟨blk,q,none⟩ vs (λj v hv=>by rw[qT];exact hw'.cell (g3 j v hv));rw[hlen]at hload;have hns:vs=(b.data.toList.map λ(x:UInt8)=>(x.toNat:Int)).map (Value.int .u8):=by rw[hvs];simp
    rw[hns]at hload;rw[run_bytesToString w' _ _ _ (b.data.toList.map λ(x:UInt8)=>(x.toNat:Int)) hload,foldl_push_byteCells];congr 2
    cases b with|mk d=>simp[ByteArray.empty,ByteArray.emptyWithCapacity];rfl
  simp only[execOp,ho,hv,Sem.run_bind,run_convert_bytes_string w' t u e ad _ cap h1 h2 h3,hconv,Result.andThen_ok,Sem.run_pure]
 ·exact h.elim
theorem ajp (hr:Rel F N ι s a w)(hd: ∀k,o.dst=some k ->k<N){t u:TypeId}{x:Operand}(ho:o.op= .convert t u x)(ht:xY P t true=true)(hu:xY P u false=true)
 (h:zJ P o.dst (.s2b (cO x)) s K):vd P F N o a w K:=by
 simp only[zJ]at h;have h1:=aac ht;obtain⟨e,h2,h3⟩:=abj hu;split at h
 ·rename_i d b hdst hx;have hxv:=xE hr x;rw[hx]at hxv;have hxe:=yO hxv;obtain⟨hsz,h⟩:=h;have hrun:=run_bytes_of_string (P:=P) w t u e b h1 h2 h3;obtain⟨cur,hcur⟩: ∃cur,cur=bytesRow b (grownCap w b.size 0 e):=⟨_,rfl⟩;rw[<- hcur]at hrun;have hge:=grownCap_ge w b.size 0 e;have hle:=grownCap_le_maxLen w b.size 0 e (by simp only[maxLen];omega);have hcs:cur.size=grownCap w b.size 0 e:=by
   rw[hcur];simp only[bytesRow,Array.size_append,Array.size_map,Array.size_replicate];have:b.data.size=b.size:=rfl;omega
  have hw:=NewRow.draw w cur e (cur.size,cur.size+1);have hbl:(yT b).length=b.size:=by simp[yT]
  have hrel:=hr.newRow hw d (.arr 1 (yT b) true) [d] (by simp[isin]) b.size (hr.h_slot (hd _ (by assumption))) ⟨by omega,by rw[zH,hbl],.inr ⟨w.heap.size,by rw[zH],by
   refine Xz (ι:=ι) (vs:=b.data.toList.map λ(x:UInt8)=>Value.int .u8 x.toNat) (λq hq=>by
    simp only[yT,List.mem_map]at hq;obtain⟨_,_,rfl⟩:=hq;rfl) ?_ ?_
   ·rw[WW];exact VW _
   ·intro j v hv;rw[Nat.zero_add,hw.cell,hcur,bytesRow];have hj:j<b.data.size:=by
     have:=(List.getElem?_eq_some_iff.1 hv).1;simpa using this
    rw[Array.getElem?_append_left (by simpa using hj)];simpa using hv,(λ_=>⟨.inr (.inr hr.grows.size),by rw[hw.size];omega,by
     rintro⟨p,y,q1,q2,q3⟩;have q1':aget (s.redo [d] [(d,Pl.arr 1 (yT b) true)]).pl p=some y:=q1;rw[S.redo_pl]at q1';cases hn:aget [(d,Pl.arr 1 (yT b) true)] p with
     |some z=>simp only[hn]at q1';cases q1';obtain⟨_,rfl⟩:=yA hn;cases q2
     |none=>
      simp only[hn]at q1';split at q1'
      ·rename_i hk;cases hp:aget s.pl p with
       |none=>rw[hp]at q1';cases q1'
       |some z=>
        rw[hp]at q1';simp at q1';subst q1';rw[ux ι _ (aem hk)]at q3;rw[Pl.live_kill]at q2;have:=(hr.mine _ ⟨p,z,hp,q2,q3⟩).2;omega
      ·cases q1'⟩),(λhf=>by cases hf)⟩⟩
  refine vd.of_value hw.ext (v:=.slice (some ⟨w.heap.size,0,none⟩) b.size (grownCap w b.size 0 e)) (w':=w.drew.alloc (.cells cur e (cur.size,cur.size+1))) (ι':=vP ι d ⟨some w.heap.size,b.size⟩) ?_ ?_ h
  ·simp only[execOp,ho,hxe,Sem.run_bind,hrun,Result.andThen_ok,Sem.run_pure]
  ·rw[hdst];refine hrel.put (some d) (λk hk=>by cases hk;exact hd d hdst) _ _ ?_;exact .inr ⟨w.heap.size,_,e,by rw[zH],by rw[zH];exact Nat.le_refl _,rfl,hge,hle,by rw[hw.shape,hcs];simp⟩
 ·exact h.elim
end
end Go.AM
namespace Go.AM
section
variable {P:Program}{F:Fr}{N:Nat}{ι:Nat ->Gh}{s:S}{a:Act}{w:World}{o:Oper}{K:S ->Prop}
structure Src (P:Program)(w:World)(size n:Nat)(y:Value)(news:List Value):Prop where
 len: ∀w',(Builtin.lenOf y).run P w'= .ok n w'
 cells: ∀w',w'.heap=w.heap ->(Builtin.firstCells size n y).run P w'= .ok news.toArray w'
def acz (P:Program)(u:TypeId):Prop:=P.underlying u=some .string\/ ∃e,P.underlying u=some (.slice e)
theorem agz {t u ty e:TypeId}{i:TypeInfo}(ht:P.underlying t=some (.slice e))(hu:acz P u)(hi:P.info? e=some i){y:Value}{news:List Value}(hs:Src P w i.size 0 y news):
 (Builtin.append_ #[t,u] ty #[.slice none 0 0,y]).run P w= .ok (.slice none 0 0) w:=by
 have h1:=hs.len w;have h2:=hs.cells w rfl;rcases hu with hu|⟨e',hu⟩<;>simp[Builtin.append_,run_underlying ht,run_underlying hu,sizeOf,typeInfo,hi,h1,h2]
theorem agy {t u ty e:TypeId}{i:TypeInfo}(ht:P.underlying t=some (.slice e))(hu:acz P u)(hi:P.info? e=some i){y:Value}{n:Nat}{news:List Value}(hs:Src P w i.size n y news)
 {g sLen sCap:Nat}{cur:Array Value}{te:TypeId}(hg:w.heap[g]? =some (.cells cur te (0,0))) (h1: ∀v∈news,v.oneCell'=true) (hroom:sLen+n<=sCap) (hfit:sLen*i.size+news.length<=cur.size):
 (Builtin.append_ #[t,u] ty #[.slice (some ⟨g,0,none⟩) sLen sCap,y]).run P w=
  .ok (.slice (some ⟨g,0,none⟩) (sLen+n) sCap) (w.setRow g (cur.toList.take (sLen*i.size)++news++cur.toList.drop (sLen*i.size+news.length)).toArray):=by
 have e1:=hs.len w;have e2:=hs.cells w rfl;have hst:=run_storeCells_at P g (sLen*i.size) te news 0 cur w hg (by simpa using hfit) h1;simp only[Nat.add_zero]at hst;have hadd:(⟨g,0,none⟩:Addr).add (sLen*i.size)=⟨g,sLen*i.size,none⟩:=by rw[qT,Nat.zero_add]
 rcases hu with hu|⟨e',hu⟩<;>simp[Builtin.append_,run_underlying ht,run_underlying hu,sizeOf,typeInfo,hi,e1,e2,hroom,hadd,hst]
theorem ain {t u ty e:TypeId}{i:TypeInfo}{z:Value}(ht:P.underlying t=some (.slice e))(hu:acz P u)(hi:P.info? e=some i)(hz:i.zero=some z){y:Value}{n:Nat}{news:List Value}(hs:Src P w i.size n y news)
 {ad:Option Addr}{sLen sCap:Nat}{olds:List Value}(ho: ∀w',w'.heap=w.heap ->(Builtin.firstCells i.size sLen (.slice ad sLen sCap)).run P w'= .ok olds.toArray w') (hg:sCap<sLen+n) (h63:((sLen+n:Nat):Int)<=9223372036854775807)
 (hbytes:(sLen+n)*i.bytes<=140737488355328):
 (Builtin.append_ #[t,u] ty #[.slice ad sLen sCap,y]).run P w=
  .ok (.slice (some ⟨w.heap.size,0,none⟩) (sLen+n) (grownCap w (sLen+n) sCap e))
   (w.drew.alloc (.cells (olds++news++(Builtin.zeroCells z.cells (grownCap w (sLen+n) sCap e -(sLen+n))).toList).toArray e)):=by
 have e1:=hs.len w;have e2:=hs.cells w.drew rfl;have e3:=ho w.drew rfl;have hn: ¬(sLen+n<=sCap):=by omega
 have h63': ¬(9223372036854775807<((sLen:Int)+(n:Int))):=by omega
 have hfit:=growslice_fits hg hbytes;have h48': ¬(281474976710656<Builtin.nextslicecap (sLen+n) sCap*i.bytes):=by omega
 have fin:(olds.toArray++(news.toArray++Builtin.zeroCells z.cells (grownCap w (sLen+n) sCap e -(sLen+n))))=(olds++(news++(Builtin.zeroCells z.cells (grownCap w (sLen+n) sCap e -(sLen+n))).toList)).toArray:=by
  apply Array.ext';simp
 rcases hu with hu|⟨e',hu⟩<;>
 ·simp[Builtin.append_,run_underlying ht,run_underlying hu,sizeOf,typeInfo,zeroValue,hi,hz,e1,hn,h63',h48',Question.forced,e2,e3,newRow];simp only[grownCap]at fin⊢;rw[<- fin];exact⟨trivial,rfl⟩
theorem qt {α:Type}{sz:Nat}: ∀(l:List (List α)),(∀y∈l,y.length=sz) ->l.flatten.length=l.length*sz
 | [],_=>by simp
 |x::r,h=>by
  simp only[List.flatten_cons,List.length_append,List.length_cons,h x (by simp),qt r (λy hy=>h y (by simp[hy])),Nat.add_mul];omega
theorem avJ (hr:Rel F N ι s a w){c:C}{v:Value}(hc:CR ι w (F.ok ι s.pl w) c v){l:List (List D)}(h:Q8 s.pl c=some l){size:Nat}(hl: ∀y∈l,y.length=size):
 ∃news,Src P w size l.length v news /\news.length=l.length*size /\CRs ι w (F.ok ι s.pl w) (l.flatten.map .d) news:=by
 obtain⟨ad,cap,rfl,hdata⟩:=UG hr hc h;have hlen: ∀w',(Builtin.lenOf (.slice ad l.length cap)).run P w'= .ok l.length w':=λw'=>by simp[Builtin.lenOf]
 rcases hdata with rfl|⟨b,q,sz,rfl,hdata⟩
 ·refine⟨[],⟨hlen,λw' _=>?_⟩,by simp,trivial⟩;cases ad with
  |none=>simp[Builtin.firstCells]
  |some ad=>simp[Builtin.firstCells,loadCells,loadCellsFrom]
 ·obtain⟨vs,g1,g2,g3⟩:=RDs.vals (ι:=ι) hdata;have hvl:vs.length=l.length*size:=by
   have:=g1.length;simp only[List.length_map]at this;rw[<- this,qt l hl]
  refine⟨vs,⟨hlen,λw' hw'=>?_⟩,hvl,g1⟩;exact run_firstCells_some (P:=P) w' size l.length ⟨b,q,none⟩ l.length cap vs hvl (λj u hu=>by
   rw[qT];have:=g3 j u hu;simpa[World.cell?,hw']using this)
theorem aqR (w:World)(ι:Nat ->Gh)(ok:Nat ->Prop)(b:ByteArray): ∃news,Src P w 1 (yT b).length (.string b) news /\news.length=(yT b).length*1 /\CRs ι w ok ((yT b).flatten.map .d) news:=by
 have hl:(yT b).length=b.size:=by simp[yT]
 refine⟨b.data.toList.map λ(x:UInt8)=>Value.int .u8 x.toNat,⟨λw'=>by simp[Builtin.lenOf,hl],λw' _=>?_⟩,by simp[yT],by rw[WW];exact VW _⟩;rw[hl];have hx:(b.extract 0 b.size).data=b.data:=by
  have:b.extract 0 b.size=b:=ByteArray.extract_zero_size;rw[this]
 simp only[Builtin.firstCells,hx,Sem.run_pure];congr 1
 apply Array.toList_inj.1;simp
theorem ajy {ok:Nat ->Prop}{ds:List D}{vs:List Value}(h:CRs ι w ok (ds.map .d) vs): ∀v∈vs,v.oneCell'=true:=uL h
theorem ajx {z:Value}{i:TypeInfo}(_:i.zero=some z)(n:Nat):(Builtin.zeroCells z.cells n).toList.length=n*z.cells.size:=by simp[Builtin.zeroCells]
theorem kx (hr:Rel F N ι s a w)(hd: ∀k,o.dst=some k ->k<N){d:Nat}(hdst:o.dst=some d){t u e:TypeId}{i:TypeInfo}{z:Value}(ht:P.underlying t=some (.slice e))(hu:acz P u)(hi:P.info? e=some i)(hz:i.zero=some z)
 (hzc:z.cells.size=i.size) (hpos:0<i.size) {x:C}{xv y:Value}(hx:CR ι w (F.ok ι s.pl w) x xv)
 (hrun: ∀v w',(Builtin.append_ #[t,u] o.type #[xv,y]).run P w= .ok v w' ->(execOp a.eval o).run P w= .ok (.value v) w')
 {l:List (List D)}(hl:(∀q∈l,q.length=i.size) -> ∃news,Src P w i.size l.length y news /\news.length=l.length*i.size /\CRs ι w (F.ok ι s.pl w) (l.flatten.map .d) news)
 (h:ag9 d i.size i.bytes x (some l) s K):xd P F N o a w K:=by
 unfold ag9 at h;simp only[]at h
 have grow: ∀(kills:List Nat) (hk:isin d kills=true) (ad:Option Addr) (sLen sCap:Nat) (olds:List Value) (els:List (List D)),els.length=sLen ->(∀q∈els,q.length=i.size) ->(∀q∈l,q.length=i.size) ->xv= .slice ad sLen sCap ->
  olds.length=sLen*i.size ->CRs ι w (F.ok ι s.pl w) (els.flatten.map .d) olds ->(∀w',w'.heap=w.heap ->(Builtin.firstCells i.size sLen (.slice ad sLen sCap)).run P w'= .ok olds.toArray w') ->
  sCap<sLen+l.length ->sLen+l.length<=9223372036854775807 ->(sLen+l.length)*i.bytes<=140737488355328 ->
  K ((s.redo kills [(d,.arr i.size (els++l) false)]).put (some d) (cV (.own d i.size (sLen+l.length)))) ->xd P F N o a w K:=by
  intro kills hk ad sLen sCap olds els hel hes hls hxv hol hoc hof hcap h63 hby hK;obtain⟨news,hsrc,hnl,hnc⟩:=hl hls;subst hxv;have hap:=ain (ty:=o.type) ht hu hi hz hsrc hof hcap (by omega) hby;obtain⟨cur,hcur⟩: ∃cur:Array Value,cur=(olds++news++(Builtin.zeroCells z.cells (grownCap w (sLen+l.length) sCap e -(sLen+l.length))).toList).toArray:=⟨_,rfl⟩;rw[<- hcur]at hap;have hw:=NewRow.draw w cur e (0,0);have hge:=grownCap_ge w (sLen+l.length) sCap e;have hle:=grownCap_le_maxLen w (sLen+l.length) sCap e (by simp only[maxLen];omega);have hcs:cur.size=grownCap w (sLen+l.length) sCap e*i.size:=by
   rw[hcur];simp only[List.size_toArray,List.length_append,hol,hnl,ajx hz,hzc,<- Nat.add_mul];congr 1;omega
  have hrel:=hr.newRow hw d (.arr i.size (els++l) false) kills hk (sLen+l.length) (hr.h_slot (hd _ (by assumption))) ⟨hpos,by rw[zH];simp[hel],.inr ⟨w.heap.size,by rw[zH],by
   refine Xz (ι:=ι) (vs:=olds++news) (λq hq=>?_) ?_ ?_
   ·rcases List.mem_append.1 hq with hq|hq
    ·exact hes q hq
    ·exact hls q hq
   ·simp only[List.flatten_append,List.map_append];exact CRs.keep (ZA hr hw d _ kills hk _) hw.shapes _ _ (CRs.append hoc hnc)
   ·intro j v hv;rw[Nat.zero_add,hw.cell,hcur];have hj:=(List.getElem?_eq_some_iff.1 hv).1;rw[List.getElem?_toArray,List.getElem?_append_left hj];exact hv,(λhf=>by cases hf),(λ_=>⟨cur,⟨e,hw.new⟩,by
    rw[hcs];simp only[List.length_append,hel];exact Nat.mul_le_mul_right _ hge⟩)⟩⟩
  refine xd.of_value (ι':=vP ι d ⟨some w.heap.size,sLen+l.length⟩) (hrun _ _ hap) ?_ hK;rw[hdst];refine hrel.put (some d) (λk hk=>by cases hk;exact hd d hdst) _ _ ?_;exact .inr ⟨w.heap.size,_,e,by rw[zH],by rw[zH];exact Nat.le_refl _,rfl,hge,hle,by rw[hw.shape,hcs]⟩
 have none0: ∀(kills:List Nat) (hk:isin d kills=true),l=[] ->xv= .slice none 0 0 ->K ((s.redo kills [(d,.arr i.size [] false)]).put (some d) (cV (.own d i.size 0))) ->xd P F N o a w K:=by
  intro kills hk hl0 hxv hK;subst hl0 hxv;obtain⟨news,hsrc,_,_⟩:=hl (λq hq=>by cases hq);have hap:=agz (ty:=o.type) ht hu hi hsrc;have hrel:Rel F N (vP ι d ⟨none,0⟩) (s.redo kills [(d,.arr i.size [] false)]) a w:=by
   refine hr.redo kills [(d,.arr i.size [] false)] _ w (λp hp=>ux ι _ (λe=>by subst e;rw[hk]at hp;cases hp)) (λ_ _ _=>rfl) (zX.refl w) rfl rfl (Out.refl w) (Nat.le_refl _) ?_ ?_ ?_ (λp x hp=>by obtain⟨rfl,_⟩:=yA hp;exact hr.h_slot (hd _ (by assumption)))
   ·intro p q hp;obtain⟨rfl,rfl⟩:=yA hp;exact⟨hpos,by rw[zH];rfl,.inl ⟨by rw[zH],rfl⟩⟩
   ·intro p q b hp hb;obtain⟨rfl,rfl⟩:=yA hp;rw[zH]at hb;cases hb
   ·intro p q r y b hp hq hpq;obtain⟨rfl,rfl⟩:=yA hp;obtain⟨rfl,rfl⟩:=yA hq;exact absurd rfl hpq
  refine xd.of_value (ι':=vP ι d ⟨none,0⟩) (hrun _ _ hap) ?_ hK;rw[hdst];exact hrel.put (some d) (λk hk=>by cases hk;exact hd d hdst) _ _ (.inl ⟨by rw[zH],rfl,rfl⟩)
 split at h
 ·obtain⟨g1,g2,g3,h⟩:=h;simp only[CR]at hx;by_cases hl0:l=[]
  ·subst hl0;exact none0 [d] (by simp[isin]) rfl hx h
  ·have hpl:0<l.length:=List.length_pos_iff.2 hl0;refine grow [d] (by simp[isin]) none 0 0 [] [] rfl (λq hq=>by cases hq) g1 hx (by simp) trivial (λw' _=>by simp[Builtin.firstCells]) (by omega) (by omega) (by simpa[ye]using g2) ?_;simpa[S.place]using h
 ·rename_i p zz n;split at h
  ·rename_i z1 els hp;cases hzz:Nat.beq zz z1&&Nat.beq zz i.size with
   |false=>rw[hzz]at h;exact h.elim
   |true=>
    rw[hzz]at h;rw[Bool.and_eq_true]at hzz;have hz1:=Nat.eq_of_beq_eq_true hzz.1;have hz2:=Nat.eq_of_beq_eq_true hzz.2;simp only[cond_true]at h;obtain⟨g1,g2,g3,h⟩:=h;obtain⟨k1,k2|⟨b,cap,ty,f1,f3,f4,f5,f6,f7⟩⟩:=amu hr hp hz1 hx
    ·obtain⟨k2,k3,k4,k5⟩:=k2;subst k2 k5;simp only[List.take_nil,List.nil_append,Nat.zero_add]at h;have hkk:isin d [p,d]=true:=by
      unfold isin;cases Nat.beq p d<;>simp[isin]
     by_cases hl0:l=[]
     ·subst hl0;exact none0 [p,d] hkk rfl k3 h
     ·have hpl:0<l.length:=List.length_pos_iff.2 hl0;refine grow [p,d] hkk none 0 0 [] [] rfl (λq hq=>by cases hq) g1 k3 (by simp) trivial (λw' _=>by simp[Builtin.firstCells]) (by omega) (by omega) (by simpa[ye]using g2) ?_;simpa using h
    ·have hkk:isin d [p,d]=true:=by
      unfold isin;cases Nat.beq p d<;>simp[isin]
     have hzi:z1=i.size:=by rw[<- hz1,hz2]
     subst hzi;have hes: ∀q∈els.take n,q.length=i.size:=λq hq=>RDs.len f7 q (List.mem_of_mem_take hq)
     have htl:(els.take n).length=n:=by rw[List.length_take,Nat.min_eq_left k1]
     obtain⟨olds,o1,o2,o3⟩:=RDs.vals (ι:=ι) (RDs.take n f7);rw[htl]at o2;by_cases hroom:n+l.length<=cap
     ·
      obtain⟨news,hsrc,hnl,hnc⟩:=hl g1;obtain⟨_,_,hpl|⟨b',e1,_,_,e4⟩⟩:=hr.places p _ hp
      ·rw[f1]at hpl;cases hpl.1
      ·rw[f1]at e1;cases e1;obtain⟨cur,⟨te,hg⟩,_⟩:=e4 rfl;have hcs:cur.size=cap*i.size:=by
        simp only[World.shape?,hg,Option.some.injEq,Prod.mk.injEq]at f6;exact f6.2
       have hfit:n*i.size+news.length<=cur.size:=by rw[hnl,hcs,<- Nat.add_mul];exact Nat.mul_le_mul_right _ hroom
       have hap:=agy (ty:=o.type) ht hu hi hsrc hg (ajy hnc) hroom hfit;obtain⟨cur',hcur'⟩: ∃cur':Array Value,cur'=(cur.toList.take (n*i.size)++news++cur.toList.drop (n*i.size+news.length)).toArray:=⟨_,rfl⟩;rw[<- hcur']at hap;rw[<- f3]at hap;have hcs':cur'.size=cur.size:=by
        rw[hcur'];simp only[List.size_toArray,List.length_append,List.length_take,List.length_drop,Array.length_toList];omega
       have holds:olds=cur.toList.take (n*i.size):=by
        apply List.ext_getElem?;intro j;by_cases hj:j<olds.length
        ·have h1:=o3 j olds[j] (List.getElem?_eq_getElem hj);rw[Nat.zero_add,cell_of_row w b j cur te (0,0) hg]at h1;rw[List.getElem?_eq_getElem hj,List.getElem?_take,if_pos (by omega),Array.getElem?_toList,h1]
        ·rw[List.getElem?_eq_none (by omega),List.getElem?_eq_none (by rw[List.length_take,Array.length_toList];omega)]
       have hwlt:b<w.heap.size:=(Array.getElem?_eq_some_iff.1 hg).1;have hι: ∀q,isin q [p,d]=false ->vP ι d ⟨some b,n+l.length⟩ q=ι q:=λq hq=>ux ι _ (alU hq).2
       have hsame: ∀c,c<w.heap.size ->(∀q y,isin q [p,d]=true ->aget s.pl q=some y ->y.live=true ->(ι q).b≠some c) ->(w.setRow b cur').heap[c]? =w.heap[c]? :=λc _ hc=>by
        have hcb:c≠b:=λe=>by subst e;exact hc p _ (by unfold isin;simp) hp rfl f1
        exact setRow_other w b c cur' hcb
       have hsz:w.heap.size<=(w.setRow b cur').heap.size:=by simp
       have hfresh: ∀q x c,aget [(d,Pl.arr i.size (els.take n++l) false)] q=some x ->(vP ι d ⟨some b,n+l.length⟩ q).b=some c ->c<(w.setRow b cur').heap.size /\(w.heap.size<=c\/ ∃r y,isin r [p,d]=true /\aget s.pl r=some y /\y.live=true /\(ι r).b=some c):=by
        intro q x c hq hc;obtain⟨rfl,rfl⟩:=yA hq;rw[zH]at hc;cases hc;exact⟨by simpa using hwlt,.inr ⟨p,_,by unfold isin;simp,hp,rfl,f1⟩⟩
       have hkeep:=gN hr [p,d] [(d,.arr i.size (els.take n++l) false)] (vP ι d ⟨some b,n+l.length⟩) (w.setRow b cur') hι hsame hsz hfresh;have hsh:=zX.setRow w b hg hcs';have hrel:=hr.redo [p,d] [(d,.arr i.size (els.take n++l) false)] (vP ι d ⟨some b,n+l.length⟩) (w.setRow b cur') hι hsame hsh rfl rfl ⟨rfl,Nat.le_refl _⟩ hsz (by
        intro q x hq;obtain⟨rfl,rfl⟩:=yA hq;refine⟨hpos,by rw[zH];simp[htl],.inr ⟨b,by rw[zH],?_,(λhf=>by cases hf),(λ_=>⟨cur',⟨te,setRow_heap w b cur cur' te (0,0) hg⟩,by
         rw[hcs',hcs];simp only[List.length_append,htl];exact Nat.mul_le_mul_right _ hroom⟩)⟩⟩
        refine Xz (ι:=ι) (vs:=olds++news) (λr hr'=>?_) ?_ ?_
        ·rcases List.mem_append.1 hr' with hr'|hr'
         ·exact hes r hr'
         ·exact g1 r hr'
        ·simp only[List.flatten_append,List.map_append];exact CRs.keep hkeep hsh _ _ (CRs.append o1 hnc)
        ·intro j v hv;rw[Nat.zero_add,cell_setRow_same w b j cur cur' te (0,0) hg,hcur'];have hj:=(List.getElem?_eq_some_iff.1 hv).1;rw[List.getElem?_toArray,<- holds,List.getElem?_append_left hj];exact hv) hfresh (by
        intro q r x y c hq hr' hqr;obtain⟨rfl,rfl⟩:=yA hq;obtain⟨rfl,rfl⟩:=yA hr';exact absurd rfl hqr) (λq x hq=>by obtain⟨rfl,_⟩:=yA hq;exact hr.h_slot (hd _ (by assumption)))
       refine xd.of_value (ι':=vP ι d ⟨some b,n+l.length⟩) (hrun _ _ hap) ?_ h;rw[hdst];refine hrel.put (some d) (λk hk=>by cases hk;exact hd d hdst) _ _ ?_;exact .inr ⟨b,cap,te,by rw[zH],by rw[zH];exact Nat.le_refl _,rfl,hroom,f5,by simp only[World.shape?,setRow_heap w b cur cur' te (0,0) hg,hcs',hcs]⟩
     ·refine grow [p,d] hkk (some ⟨b,0,none⟩) n cap olds (els.take n) htl hes g1 f3 o2 o1 (λw' hw'=>?_) (by omega) (by omega) g2 h;exact run_firstCells_some (P:=P) w' i.size n ⟨b,0,none⟩ n cap olds o2 (λj v hv=>by
       rw[qT];have:=o3 j v hv;simpa[World.cell?,hw']using this)
  ·exact h.elim
 ·exact h.elim
theorem YH {e:TypeId}(h:vQ P e=true): ∃i z,P.info? e=some i /\i.zero=some z /\z.cells.size=i.size:=by
 unfold vQ at h;cases hi:P.info? e with
 |none=>rw[hi]at h;cases h
 |some i=>
  simp only[hi]at h;cases hz:i.zero with
  |none=>simp only[hz]at h;cases h
  |some z=>simp only[hz]at h;exact⟨i,z,rfl,hz,Nat.eq_of_beq_eq_true h⟩
theorem asC (hr:Rel F N ι s a w)(hd: ∀k,o.dst=some k ->k<N){args:Array Operand}{ts:Array TypeId}{x y:Operand}{t u e e':TypeId}(ho:o.op= .call {callee:=.builtin .append,args:=args,argTypes:=ts})
 (hargs:args.toList=[x,y]) (hts:ts.toList=[t,u]) (ht:wT P t=some e) (hu:P.underlying u=some (.slice e')) (hpos:Nat.blt 0 (zE P e)=true) (hzero:vQ P e=true)
 (h:zJ P o.dst (.app (zE P e) (vN P e) (cO x) (cO y)) s K):xd P F N o a w K:=by
 simp only[zJ]at h;have ha:args= #[x,y]:=Array.toList_inj.1 (by simpa using hargs);have hta:ts= #[t,u]:=Array.toList_inj.1 (by simpa using hts);obtain⟨i,z,hi,hz,hzc⟩:=YH hzero;have hsz:zE P e=i.size:=by simp[zE,hi]
 have hby:vN P e=i.bytes:=by simp[vN,hi]
 have hpos:0<i.size:=by rw[<- hsz];exact Nat.le_of_ble_eq_true hpos
 split at h
 ·rename_i d hdst;cases hl:Q8 s.pl (s.oc (cO y))with
  |none=>rw[hl]at h;unfold ag9 at h;exact h.elim
  |some l=>
   rw[hl,hsz,hby]at h;refine kx hr hd hdst (wt ht) (.inr ⟨e',hu⟩) hi hz hzc hpos (xE hr x) (y:=a.eval y) ?_ (λhall=>avJ hr (xE hr y) hl hall) h;intro v w' hv;simp only[execOp,ho,resolve,Sem.run_bind,Sem.run_pure,Result.andThen_ok,invoke,builtin,ha,hta];simp[hv]
 ·exact h.elim
theorem aqO (hr:Rel F N ι s a w)(hd: ∀k,o.dst=some k ->k<N){args:Array Operand}{ts:Array TypeId}{x y:Operand}{t u e:TypeId}(ho:o.op= .call {callee:=.builtin .append,args:=args,argTypes:=ts})
 (hargs:args.toList=[x,y]) (hts:ts.toList=[t,u]) (ht:wT P t=some e) (hu:P.underlying u=some .string) (hone:(Nat.beq (zE P e) 1&&Nat.beq (vN P e) 1)=true) (hzero:vQ P e=true)
 (h:zJ P o.dst (.apps (cO x) (cO y)) s K):xd P F N o a w K:=by
 simp only[zJ]at h;have ha:args= #[x,y]:=Array.toList_inj.1 (by simpa using hargs);have hta:ts= #[t,u]:=Array.toList_inj.1 (by simpa using hts);obtain⟨i,z,hi,hz,hzc⟩:=YH hzero;rw[Bool.and_eq_true]at hone;have hsz:i.size=1:=by rw[<- Nat.eq_of_beq_eq_true hone.1];simp[zE,hi]
 have hby:i.bytes=1:=by rw[<- Nat.eq_of_beq_eq_true hone.2];simp[vN,hi]
 split at h
 ·rename_i d b hdst hy;have hyv:=xE hr y;rw[hy]at hyv;have hye:=yO hyv;refine kx hr hd hdst (wt ht) (.inl hu) hi hz hzc (by omega) (xE hr x) (y:=a.eval y) ?_ (l:=yT b) ?_ (by rw[hsz,hby];exact h)
  ·intro v w' hv;simp only[execOp,ho,resolve,Sem.run_bind,Sem.run_pure,Result.andThen_ok,invoke,builtin,ha,hta];simp[hv]
  ·intro _;rw[hye,hsz];exact aqR w ι _ b
 ·exact h.elim
end
end Go.AM
namespace Go.AM
section
variable {P:Program}{F:Fr}{N:Nat}{ι:Nat ->Gh}{s:S}{a:Act}{w:World}{o:Oper}{K:S ->Prop}
theorem agW (hr:Rel F N ι s a w)(hd: ∀k,o.dst=some k ->k<N){args:Array Operand}{ts:Array TypeId}{x:Operand}{t:TypeId}(ho:o.op= .call {callee:=.builtin .len,args:=args,argTypes:=ts})
 (hargs:args.toList=[x]) (hts:ts.toList=[t]) {z:AOp}(hz:Jq P t x=some z) (h:zJ P o.dst z s K):z= .slen (cO x)/\zy P F N o a w (λ_=>True) K:=by
 unfold Jq at hz;split at hz
 ·rename_i hu;cases hz;refine⟨rfl,?_⟩;have ha:args= #[x]:=Array.toList_inj.1 (by simpa using hargs);have hta:ts= #[t]:=Array.toList_inj.1 (by simpa using hts);simp only[zJ]at h;have hx:=xE hr x;split at h
  ·rename_i b hb;rw[hb]at hx;have hx:=yO hx;refine zy.put hr hd (v:=.int .i64 b.size) ?_ (yH rfl) h;intro w' _;simp[execOp,ho,resolve,invoke,builtin,Builtin.len_,ha,hta,hx,run_underlying hu,goInt]
  ·exact h.elim
 ·cases hz
theorem agT (hr:Rel F N ι s a w)(hd: ∀k,o.dst=some k ->k<N){src dst:TypeId}{x:Operand}(ho:o.op= .convert src dst x){z:AOp}(hz:Wx P src dst x=some z)(h:zJ P o.dst z s K):
 (∃k,z= .conv k (cO x))/\zy P F N o a w (λ_=>True) K:=by
 unfold Wx at hz;split at hz
 ·rename_i k0 hs;split at hz
  ·rename_i k hu;cases hz;refine⟨⟨k,rfl⟩,?_⟩;simp only[zJ]at h;have hx:=xE hr x;split at h
   ·rename_i k' n hb;rw[hb]at hx;have hx:=yO hx;refine zy.put hr hd (v:=.int k (k.wrap n)) ?_ (yH rfl) h;intro w' _;simp[execOp,ho,hx,convert,run_underlying hs,run_underlying hu,Conv.intToInt]
   ·exact h.elim
  ·cases hz
 ·cases hz
theorem anh (hr:Rel F N ι s a w)(hd: ∀k,o.dst=some k ->k<N){b:UnOp}{t:TypeId}{x:Operand}(ho:o.op= .unOp b t x){z:AOp}(hz:JK P b t x=some z)(h:zJ P o.dst z s K):
 (z= .bnot (cO x)\/z= .ineg (cO x))/\zy P F N o a w (λ_=>True) K:=by
 unfold JK at hz;split at hz
 ·cases hz;refine⟨.inl rfl,?_⟩;simp only[zJ]at h;split at h
  ·rename_i b hb;have hx:=X2 hb (v6 hr x);refine zy.put hr hd (v:=.bool (!b)) ?_ (yH rfl) h;intro w' _;simp[execOp,ho,hx,Op.unary]
  ·exact h.elim
 ·split at hz
  ·cases hz;refine⟨.inr rfl,?_⟩;simp only[zJ]at h;have hx:=xE hr x;split at h
   ·rename_i k n hb;rw[hb]at hx;have hx:=yO hx;refine zy.put hr hd (v:=.int k (k.wrap (0 - n))) ?_ (yH rfl) h;intro w' _;simp[execOp,ho,hx,Op.unary,Op.intArith]
   ·exact h.elim
  ·cases hz
 ·cases hz
theorem ajh (hr:Rel F N ι s a w)(hd: ∀k,o.dst=some k ->k<N){b:BinOp}{t u:TypeId}{x y:Operand}(ho:o.op= .binOp b t x y u){z:AOp}(hz:U7 P b t x y=some z)(h:zJ P o.dst z s K):
 ((∃neg,z= .beq neg (cO x) (cO y))\/ ∃l,z= .shf l (cO x) (cO y))/\zy P F N o a w (λ_=>True) K:=by
 have hbool: ∀neg,z= .beq neg (cO x) (cO y) ->P.underlying t=some .bool ->(b= .eql /\neg=false\/b= .neq /\neg=true) ->zy P F N o a w (λ_=>True) K:=by
  intro neg hz ht hb;subst hz;simp only[zJ]at h;split at h
  ·rename_i p q hp hq;have hx:=X2 hp (v6 hr x);have hy:=X2 hq (v6 hr y);refine zy.put hr hd (v:=.bool (bif neg then p !=q else p==q)) ?_ (yH rfl) h;intro w' _;have he:(Op.equal t (.bool p) (.bool q)).run P w'= .ok (p==q) w':=run_equalIn_bool' w' 9999 t p q ht;rcases hb with⟨rfl,rfl⟩|⟨rfl,rfl⟩
   ·simp[execOp,ho,hx,hy,eqGuard,binOp,he]
   ·simp[execOp,ho,hx,hy,eqGuard,binOp,he,bne]
  ·exact h.elim
 have hsh: ∀l,z= .shf l (cO x) (cO y) ->(b= .shl /\l=true\/b= .shr /\l=false) ->zy P F N o a w (λ_=>True) K:=by
  intro l hz hb;subst hz;simp only[zJ]at h;have hx:=xE hr x;have hy:=xE hr y;split at h
  ·rename_i k m k1 n hm hn;rw[hm]at hx;rw[hn]at hy;have hx:=yO hx;have hy:=yO hy;have hn0: ¬n<0:=by have:=h.1;omega
   refine zy.put hr hd (v:=.int k (JI l k m n)) ?_ (yH rfl) h.2;intro w' _;rcases hb with⟨rfl,rfl⟩|⟨rfl,rfl⟩
   ·simp[execOp,ho,hx,hy,eqGuard,binOp,Op.shift,hn0,JI]
   ·simp[execOp,ho,hx,hy,eqGuard,binOp,Op.shift,hn0,JI]
  ·exact h.elim
 unfold U7 at hz;split at hz
 ·split at hz
  ·rename_i ht;cases hz;exact⟨.inl ⟨_,rfl⟩,hbool false rfl ht (.inl ⟨rfl,rfl⟩)⟩
  ·cases hz
 ·split at hz
  ·rename_i ht;cases hz;exact⟨.inl ⟨_,rfl⟩,hbool true rfl ht (.inr ⟨rfl,rfl⟩)⟩
  ·cases hz
 ·split at hz
  ·cases hz;exact⟨.inr ⟨_,rfl⟩,hsh true rfl (.inl ⟨rfl,rfl⟩)⟩
  ·cases hz
 ·split at hz
  ·cases hz;exact⟨.inr ⟨_,rfl⟩,hsh false rfl (.inr ⟨rfl,rfl⟩)⟩
  ·cases hz
 ·cases hz
theorem gc {t:TypeId}{k:Nat}(h:afJ P t=some k):(k=0 /\ ∃k',P.underlying t=some (.int k'))\/(k=1 /\P.underlying t=some .string)\/(k=2 /\P.underlying t=some .bool):=by
 unfold afJ at h;split at h
 ·rename_i k' hu;cases h;exact .inl ⟨rfl,k',hu⟩
 ·rename_i hu;cases h;exact .inr (.inl ⟨rfl,hu⟩)
 ·rename_i hu;cases h;exact .inr (.inr ⟨rfl,hu⟩)
 ·cases h
theorem apX {f:Field}{r:List Field}{i:Nat}{l:List Nat}(h:ach P i (f::r)=some l): ∃k ks,l=k::ks /\f.offset=i /\f.name≠ "_" /\afJ P f.type=some k /\P.plainKey f.type=true /\ach P (i+1) r=some ks:=by
 simp only[ach]at h;cases hc:(Nat.beq f.offset i&& !(f.name== "_")&&P.plainKey f.type)
 ·rw[hc]at h;cases h
 ·rw[hc]at h;simp only[cond_true]at h;simp only[Bool.and_eq_true,Bool.not_eq_true',beq_eq_false_iff_ne]at hc;split at h
  ·rename_i k ks h1 h2;cases h;exact⟨k,ks,rfl,Nat.eq_of_beq_eq_true hc.1.1,hc.1.2,h1,hc.2,h2⟩
  ·cases h
theorem aqu {ok:Nat ->Prop}{k:Nat}{x y:C}{b:Bool}(h:alF k x y=some b){t:TypeId}(ht:afJ P t=some k){u v:Value}(hx:CR ι w ok x u)(hy:CR ι w ok y v)(d:Nat)(w':World):
 (Op.equalIn (d+1) t u v).run P w'= .ok b w':=by
 unfold alF at h;split at h
 ·rename_i k1 m k2 n;have hu:=yO hx;have hv:=yO hy;subst hu;subst hv;cases hc:(Nat.beq k 0&&u4 k1 k2)
  ·rw[hc]at h;cases h
  ·rw[hc]at h;cases h;rw[Bool.and_eq_true]at hc;have hk:=Nat.eq_of_beq_eq_true hc.1;have:=adp hc.2;subst this;subst hk;rcases gc ht with⟨_,k',hu⟩|⟨h,_⟩|⟨h,_⟩
   ·exact run_equalIn_int w' d t k1 k' m n hu
   ·cases h
   ·cases h
 ·rename_i m n;have hu:=yO hx;have hv:=yO hy;subst hu;subst hv;cases hc:Nat.beq k 1
  ·rw[hc]at h;cases h
  ·rw[hc]at h;cases h;have hk:=Nat.eq_of_beq_eq_true hc;subst hk;rcases gc ht with⟨h,_⟩|⟨_,hu⟩|⟨h,_⟩
   ·cases h
   ·exact run_equalIn_string w' d t m n hu
   ·cases h
 ·rename_i m n;have hu:=yO hx;have hv:=yO hy;subst hu;subst hv;cases hc:Nat.beq k 2
  ·rw[hc]at h;cases h
  ·rw[hc]at h;cases h;have hk:=Nat.eq_of_beq_eq_true hc;subst hk;rcases gc ht with⟨h,_⟩|⟨h,_⟩|⟨_,hu⟩
   ·cases h
   ·cases h
   ·exact run_equalIn_bool' w' d t m n hu
 ·cases h
theorem Vm {ok:Nat ->Prop}(d:Nat)(X Y:Array Value)(w':World): ∀(fs:List Field) (i:Nat) (ks:List Nat),ach P i fs=some ks -> ∀(xs ys:List C) (b:Bool),CRs ι w ok xs (X.toList.drop i) ->CRs ι w ok ys (Y.toList.drop i) ->
 ZQ ks xs ys=some b ->(Op.eqFields (d+1) X Y fs).run P w'= .ok b w'
 | [],i,ks,hf,xs,ys,b,_,_,hb=>by
   cases hf;cases xs with
   |nil=>cases ys with
    |nil=>cases hb;simp[Op.eqFields]
    |cons y ys=>simp[ZQ]at hb
   |cons x xs=>simp[ZQ]at hb
 |f::fs,i,ks,hf,xs,ys,b,hx,hy,hb=>by
  obtain⟨k,ks,rfl,h1,h2,h3,h4,h5⟩:=apX hf;cases xs with
  |nil=>simp[ZQ]at hb
  |cons x xs=>
   cases ys with
   |nil=>simp[ZQ]at hb
   |cons y ys=>
    simp only[ZQ]at hb;split at hb
    case h_2=>cases hb
    rename_i b1 b2 hb1 hb2;cases hb;cases hX:X.toList.drop i with
    |nil=>rw[hX]at hx;exact hx.elim
    |cons u us=>
     cases hY:Y.toList.drop i with
     |nil=>rw[hY]at hy;exact hy.elim
     |cons v vs=>
      rw[hX]at hx;rw[hY]at hy;have hXu:X[i]? =some u:=by
       have:(X.toList.drop i)[0]? =some u:=by rw[hX];rfl
       rw[List.getElem?_drop]at this;simpa using this
      have hYv:Y[i]? =some v:=by
       have:(Y.toList.drop i)[0]? =some v:=by rw[hY];rfl
       rw[List.getElem?_drop]at this;simpa using this
      have hXs:X.toList.drop (i+1)=us:=by rw[<- List.drop_drop,hX];rfl
      have hYs:Y.toList.drop (i+1)=vs:=by rw[<- List.drop_drop,hY];rfl
      have ih:=Vm d X Y w' fs (i+1) ks h5 xs ys b2 (by rw[hXs];exact hx.2) (by rw[hYs];exact hy.2) hb2;have hp1:=run_part_plain (w:=w') h4 hXu;have hp2:=run_part_plain (w:=w') h4 hYv;have heq:=aqu hb1 h3 hx.1 hy.1 d w';simp only[Op.eqFields,h1,h2,ne_eq,not_false_eq_true,if_true,Sem.run_bind,hp1,hp2,heq,Result.andThen_ok];cases b1
      ·simp
      ·simpa using ih
theorem ajk (hr:Rel F N ι s a w)(hd: ∀k,o.dst=some k ->k<N){b:BinOp}{t u:TypeId}{x y:Operand}(ho:o.op= .binOp b t x y u){z:AOp}(hz:Jh P b t x y=some z)(h:zJ P o.dst z s K):
 (∃neg ks,z= .eqa neg ks (cO x) (cO y))/\zy P F N o a w (λ_=>True) K:=by
 unfold Jh at hz;split at hz
 case h_2=>cases hz
 rename_i ks hks;have hkey: ∀neg,z= .eqa neg ks (cO x) (cO y) ->(b= .eql /\neg=false\/b= .neq /\neg=true) ->zy P F N o a w (λ_=>True) K:=by
  intro neg hz hb;subst hz;unfold auR at hks;split at hks
  case h_2=>cases hks
  rename_i fs hu;cases hc:(!P.stoodInHeld t&& !P.eqGuardType P.depth t)
  ·rw[hc]at hks;cases hks
  ·rw[hc]at hks;simp only[cond_true]at hks;simp only[Bool.and_eq_true,Bool.not_eq_true']at hc;simp only[zJ]at h;split at h
   case h_2=>exact h.elim
   rename_i xs ys hxs hys;split at h
   case h_2=>exact h.elim
   rename_i r hcells;have hx:=v6 hr x;have hy:=v6 hr y;rw[hxs]at hx;rw[hys]at hy;obtain⟨X,hX,hx⟩:=hx;obtain⟨Y,hY,hy⟩:=hy;have hfs:P.fieldsOf t=fs:=by simp[Program.fieldsOf,hu]
   have hut:P.underlying t=some (.struct (P.fieldsOf t)):=by rw[hfs];exact hu
   refine zy.put hr hd (v:=.bool (bif neg then !r else r)) ?_ (yH rfl) h;intro w' _;have hrun:(Op.equalIn 10000 t (.agg X.toArray) (.agg Y.toArray)).run P w'= .ok r w':=by
    rw[run_equalIn_agg w' 9999 t X.toArray Y.toArray hut hc.1,hfs];exact Vm 9998 X.toArray Y.toArray w' fs.toList 0 ks hks xs ys r (by simpa using hx) (by simpa using hy) hcells
   have hguard:(eqGuard b t x y (.agg X.toArray) (.agg Y.toArray)).run P w'= .ok () w':=run_eqGuard_agg w' b t x y _ _ hc.2;rcases hb with⟨rfl,rfl⟩|⟨rfl,rfl⟩
   ·simp[execOp,ho,hX,hY,hguard,run_eql_struct,hrun]
   ·simp[execOp,ho,hX,hY,hguard,run_neq_struct,hrun]
 split at hz
 ·cases hz;exact⟨⟨false,ks,rfl⟩,hkey false rfl (.inl ⟨rfl,rfl⟩)⟩
 ·cases hz;exact⟨⟨true,ks,rfl⟩,hkey true rfl (.inr ⟨rfl,rfl⟩)⟩
 ·cases hz
theorem avP {pl pl1:List (Nat×Pl)}{c:C}{x:D}(h:Qi pl c=some (x,pl1)){p:Nat}{cs:List C}(hp:aget pl p=some (.box cs)):aget pl1 p=some (.box cs):=by
 cases c with
 |own q z n=>
  simp only[Qi]at h;split at h
  ·cases h;rw[ww];split
   ·rename_i e;subst e;rw[hp]
   ·exact hp
  ·cases h
 |d _=>cases h;exact hp
 |nil=>cases h;exact hp
 |clo f l=>cases l with
  |nil=>cases h;exact hp
  |cons _ _=>cases h
 |dead=>cases h
 |sub _ _ _ _=>cases h
 |ptr _ _=>cases h
 |eptr _ _ _ _=>cases h
 |fp _=>cases h
theorem ann: ∀{cs':List C}{pl pl1:List (Nat×Pl)}{ds:List D}(_:ua pl cs'=some (ds,pl1)) {p:Nat}{cs:List C}(_:aget pl p=some (.box cs)),aget pl1 p=some (.box cs)
 | [],_,_,_,h,_,_,hp=>by cases h;exact hp
 |c::cs',pl,pl1,ds,h,p,cs,hp=>by
  unfold ua at h;cases h1:Qi pl c with
  |none=>rw[h1]at h;cases h
  |some y=>
   obtain⟨x,pl2⟩:=y;rw[h1]at h;simp only at h;cases h2:ua pl2 cs' with
   |none=>rw[h2]at h;cases h
   |some z=>
    obtain⟨xs,pl3⟩:=z;rw[h2]at h;cases h;exact ann h2 (avP h1 hp)
theorem ag5 {ok:Nat ->Prop}{b:Nat}: ∀{ds:List D}{vs:List Value}{off:Nat},CRs ι w ok (ds.map .d) vs ->(∀j v,vs[j]? =some v ->w.cell? ⟨b,off+j,none⟩=some v) ->RDc w ok b off ds
 | [],_,_,_,_=>by simp only[RDc]
 |d::ds,[],_,h,_=>h.elim
 |d::ds,v::vs,off,h,hc=>by
  simp only[RDc];refine⟨⟨v,hc 0 v rfl,h.1⟩,ag5 h.2 λj u hu=>?_⟩;rw[show off+1+j=off+(j+1)by omega];exact hc (j+1) u (by simpa using hu)
theorem gh (s0:S): ∀(caps:List Operand) {s:S}(_:s.sl=s0.sl) (_:Rel F N ι s a w) {l:List (List D)}{pl1:List (Nat×Pl)}(_:frz s0 s.pl (caps.map cO)=some (l,pl1)),
 Rel F N ι (s.withPl pl1) a w /\(∀b,F.ok ι s.pl w b ->F.ok ι pl1 w b)/\RDf w (F.ok ι pl1 w) (caps.map a.eval) l
 | [],s,hs,hr,l,pl1,h=>by cases h;exact⟨hr,λ_ h=>h,by simp[RDf]⟩
 |x::r,s,hs,hr,l,pl1,h=>by
  have hx:CR ι w (F.ok ι s.pl w) (s0.oc (cO x)) (a.eval x):=by
   have:=xE hr x;have e:s.oc (cO x)=s0.oc (cO x):=by
    unfold S.oc S.o S.tmp;rw[hs]
   rwa[e]at this
  simp only[List.map_cons,frz]at h;split at h
  ·rename_i ds hds;rw[hds]at hx;obtain⟨b,o',h1,h2,h3⟩:=hx;split at h
   ·rename_i l' pl2 hl;cases h;obtain⟨g1,g2,g3⟩:=gh s0 r hs hr hl;refine⟨g1,g2,?_⟩;simp only[List.map_cons,RDf];exact⟨b,o',_,by rw[h1],g2 b h2,RDc.keep (λb hb=>⟨g2 b hb,rfl⟩) b h2 _ _ h3,g3⟩
   ·cases h
  ·rename_i p hp;rw[hp]at hx;obtain⟨b,h1,h2⟩:=hx;split at h
   ·rename_i cs hcs;split at h
    case h_2=>cases h
    rename_i ds pl2 hds;split at h
    case h_2=>cases h
    rename_i l' pl3 hl;cases h;obtain⟨b',cur,e1,e2,e3⟩:=hr.places p _ hcs;rw[h1]at e1;cases e1;obtain⟨g1,g2,g3⟩:=Qj hr e3 hds;have hbox:aget pl2 p=some (.box cs):=ann hds hcs;obtain⟨k1,k2,k3⟩:=Rel.still (y:=.fbox ds) g1 hbox rfl rfl (λm n=>⟨b,h1,n b h1,ag5 (CRs.keep (λb hb=>⟨m b hb,rfl⟩) (zX.refl w) _ _ g3) λj v hv=>by
     rw[e2.cell];simpa using hv⟩)
    obtain⟨q1,q2,q3⟩:=gh s0 r (s:=s.withPl (yq p (.fbox ds) pl2)) hs k1 hl;refine⟨q1,λb hb=>q2 b (k2 b (g2 b hb)),?_⟩;simp only[List.map_cons,RDf];refine⟨b,0,_,by rw[h2],q2 b (k3 b h1),?_,q3⟩;exact ag5 (CRs.keep (λb hb=>⟨q2 b (k2 b hb),rfl⟩) (zX.refl w) _ _ g3) λj v hv=>by rw[e2.cell];simpa using hv
   ·rename_i ds hcs;split at h
    case h_2=>cases h
    rename_i l' pl2 hl;cases h;obtain⟨b',e1,e2,e3⟩:=hr.places p _ hcs;rw[h1]at e1;cases e1;obtain⟨g1,g2,g3⟩:=gh s0 r hs hr hl;refine⟨g1,g2,?_⟩;simp only[List.map_cons,RDf];exact⟨b,0,_,by rw[h2],g2 b e2,RDc.keep (λb hb=>⟨g2 b hb,rfl⟩) b e2 _ _ e3,g3⟩
   ·cases h
  ·cases h
theorem aqQ (hr:Rel F N ι s a w)(hd: ∀k,o.dst=some k ->k<N){f:FuncId}{first caps:Array Operand}(ho:o.op= .makeFunc (.func f) first caps)(hf:first.toList.isEmpty=true)
 (h:zJ P o.dst (.clof f (caps.toList.map cO)) s K):xd P F N o a w K:=by
 simp only[zJ]at h;split at h
 ·rename_i l pl1 hl;have hfirst:first= #[]:=by
   apply Array.toList_inj.1;simpa using hf
  obtain⟨g1,g2,g3⟩:=gh s caps.toList rfl hr hl;refine xd.put g1 hd (v:=.func (.func f) #[] (caps.toList.map a.eval).toArray) ?_ (show VR ι w _ (cV (.d (.fn f l))) _ from ?_) h
  ·have hc:caps.map a.eval=(caps.toList.map a.eval).toArray:=by
    apply Array.toList_inj.1;simp
   simp[execOp,ho,Instr.makeFunc,hfirst,hc]
  ·simp only[cV,VR,WR,CR,RD];exact⟨_,rfl,g3⟩
 ·exact h.elim
end
end Go.AM
namespace Go.AM
theorem KN {α:Type}{z:Nat}: ∀(els:List (List α)) (off:Nat) (new:List (List α)),(∀x∈els,x.length=z) ->(∀x∈new,x.length=z) ->off+new.length<=els.length ->
 (yb els off new).flatten=yb els.flatten (off*z) new.flatten:=by
 intro els off new h1 h2 h3;have e1: ∀(l:List (List α)) (n:Nat),(∀x∈l,x.length=z) ->n<=l.length ->(l.take n).flatten=l.flatten.take (n*z):=by
  intro l;induction l with
  |nil=>intro n _ _;simp
  |cons x r ih=>
   intro n hl hn;cases n with
   |zero=>simp
   |succ n=>
    have hx:x.length=z:=hl x (by simp);simp only[List.take_succ_cons,List.flatten_cons];rw[ih n (λy hy=>hl y (by simp[hy])) (by simpa using hn),show(n+1)*z=x.length+n*z by rw[hx,Nat.add_mul];omega,List.take_length_add_append]
 have e2: ∀(l:List (List α)) (n:Nat),(∀x∈l,x.length=z) ->n<=l.length ->(l.drop n).flatten=l.flatten.drop (n*z):=by
  intro l;induction l with
  |nil=>intro n _ _;simp
  |cons x r ih=>
   intro n hl hn;cases n with
   |zero=>simp
   |succ n=>
    have hx:x.length=z:=hl x (by simp);simp only[List.drop_succ_cons,List.flatten_cons];rw[ih n (λy hy=>hl y (by simp[hy])) (by simpa using hn),show(n+1)*z=x.length+n*z by rw[hx,Nat.add_mul];omega,List.drop_length_add_append]
 simp only[yb,List.flatten_append];rw[e1 els off h1 (by omega),e2 els _ h1 h3,qt new h2,Nat.add_mul]
theorem aap {α:Type}(l:List α)(off:Nat)(new:List α)(h:off+new.length<=l.length):(yb l off new).length=l.length:=by
 simp only[yb,List.length_append,List.length_take,List.length_drop];omega
section
variable {P:Program}{F:Fr}{N:Nat}{ι:Nat ->Gh}{s:S}{a:Act}{w:World}{o:Oper}{K:S ->Prop}
theorem Rel.storeEls (hr:Rel F N ι s a w){p z:Nat}{els els':List (List D)}(hp:aget s.pl p=some (.arr z els false)){b:Nat}(h1:(ι p).b=some b)(hl:els'.length=els.length)(hz': ∀e∈els',e.length=z)
 {q:Nat}{ds:List D}{vs:List Value}(hfl:els'.flatten=yb els.flatten q ds) (hcs:CRs ι w (F.ok ι s.pl w) (ds.map .d) vs) (hq:q+ds.length<=els.length*z):
 ∃w',(storeCells (⟨b,q,none⟩:Addr) vs 0).run P w= .ok () w' /\Rel F N ι (s.withPl (yq p (.arr z els' false) s.pl)) a w':=by
 obtain⟨hz0,hn,hpl|⟨b',e1,e2,_,e4⟩⟩:=hr.places p _ hp
 ·rw[h1]at hpl;cases hpl.1
 rw[h1]at e1;cases e1;obtain⟨old,⟨ty,hg⟩,hroom⟩:=e4 rfl;have hvl:vs.length=ds.length:=by have:=hcs.length;simpa using this.symm
 have hrun:=run_storeCells_at P b q ty vs 0 old w hg (by omega) (uL hcs);simp only[Nat.add_zero]at hrun;refine⟨_,hrun,?_⟩;have hsz:(old.toList.take q++vs++old.toList.drop (q+vs.length)).toArray.size=old.size:=by
  simp only[List.size_toArray,List.length_append,List.length_take,List.length_drop,Array.length_toList];omega
 have hk:=Kr hr p (.arr z els false) (.arr z els' false) hp rfl h1 (old.toList.take q++vs++old.toList.drop (q+vs.length)).toArray;have hsh:=zX.setRow w b hg hsz;obtain⟨us,g1,g2,g3⟩:=RDs.vals (ι:=ι) e2;refine hr.write p (.arr z els false) (.arr z els' false) hp rfl rfl h1 hg hsz ⟨hz0,by rw[hl];exact hn,.inr ⟨b,h1,?_,(λhf=>by cases hf),(λ_=>⟨_,⟨ty,setRow_heap w b old _ ty (0,0) hg⟩,by rw[hsz,hl];exact hroom⟩)⟩⟩;refine Xz (ι:=ι) (vs:=yb us q vs) hz' ?_ ?_
 ·rw[hfl];simp only[yb,List.map_append,List.map_take,List.map_drop];refine CRs.keep hk hsh _ _ ?_;rw[hvl];exact CRs.append (CRs.append (CRs.take _ g1) hcs) (CRs.drop _ g1)
 ·intro j v hv;rw[Nat.zero_add,cell_setRow_same w b _ old _ ty (0,0) hg];simp only[yb]at hv;have hold: ∀j v,us[j]? =some v ->old.toList[j]? =some v:=λj v hv=>by
   have:=g3 j v hv;rw[Nat.zero_add,cell_of_row w b j old ty (0,0) hg]at this;rw[Array.getElem?_toList];exact this
  simp only[List.getElem?_toArray];rw[List.getElem?_append,List.getElem?_append]at hv⊢;have t1:(us.take q).length=q:=by rw[List.length_take];omega
  have t2:(old.toList.take q).length=q:=by rw[List.length_take,Array.length_toList];omega
  simp only[List.length_append,t1,t2]at hv⊢;split at hv
  ·rename_i c1;rw[if_pos c1];split at hv
   ·rename_i c2;rw[if_pos c2];rw[List.getElem?_take]at hv⊢;rw[if_pos c2]at hv⊢;exact hold j v hv
   ·rename_i c2;rw[if_neg c2];exact hv
  ·rename_i c1;rw[if_neg c1];rw[List.getElem?_drop]at hv⊢;exact hold _ v hv
theorem agv (hr:Rel F N ι s a w){c:C}{v:Value}(hc:CR ι w (F.ok ι s.pl w) c v){p z off n:Nat}(h:range c=some (p,z,off,n)){z1:Nat}{els:List (List D)}{fz:Bool}(hp:aget s.pl p=some (.arr z1 els fz)):
 ∃ad cap,v= .slice ad n cap /\off+n<=els.length+(if n=0 then off else 0)/\(n=0\/ ∃b,(ι p).b=some b /\ad=some ⟨b,off*z,none⟩):=by
 have hn:=(hr.places p _ hp).2.1;cases c with
 |own q z' m=>
  cases h;rcases hc with⟨h1,h2,h3⟩|⟨b,cap,t,h1,h2,h3,h4,h5,h6⟩
  ·subst h2;exact⟨none,0,h3,by simp,.inl rfl⟩
  ·exact⟨_,cap,h3,by omega,.inr ⟨b,h1,by simp⟩⟩
 |sub q z' o m=>
  cases h;obtain⟨ad,cp,h1,_,_,h4⟩:=hc;refine⟨ad,cp,h1,?_,?_⟩
  ·rcases h4 with h4|⟨b,e1,e2,e3⟩
   ·simp[h4]
   ·omega
  ·rcases h4 with h4|⟨b,e1,e2,e3⟩
   ·exact .inl h4
   ·exact .inr ⟨b,e1,e2⟩
 |_=>cases h
theorem akw (hr:Rel F N ι s a w){c:C}{v:Value}(hc:CR ι w (F.ok ι s.pl w) c v){l:List (List D)}(h:gM s.pl c=some l):
 ∃ad cap,v= .slice ad l.length cap /\ ∃ok:Nat ->Prop,(l=[]\/ ∃b q sz,ad=some ⟨b,q,none⟩/\RDs w (F.ok ι s.pl w) b sz q l):=by
 cases c with
 |sub p z off n=>
  simp only[gM]at h;split at h
  ·rename_i z1 els fz hp;cases hzz:Nat.beq z z1<;>rw[hzz]at h
   ·cases h
   have hzz:=Nat.eq_of_beq_eq_true hzz;subst hzz;cases h;obtain⟨ad,cp,h1,_,_,h4⟩:=hc;rcases h4 with h4|⟨b,e1,e2,e3⟩
   ·subst h4;exact⟨ad,cp,by simpa using h1,λ_=>True,.inl (by simp)⟩
   ·obtain⟨hz0,hn,hpl|⟨b',f1,f2,_⟩⟩:=hr.places p _ hp
    ·rw[e1]at hpl;cases hpl.1
    ·rw[e1]at f1;cases f1;refine⟨ad,cp,by rw[List.length_take,List.length_drop,Nat.min_eq_left (by omega)];exact h1,λ_=>True,.inr ⟨b,off*z,z,e2,?_⟩⟩;have:=RDs.take n (RDs.drop off f2);simpa using this
  ·cases h
 |_=>obtain⟨ad,cap,h1,h2⟩:=UG hr hc h;exact⟨ad,cap,h1,λ_=>True,h2⟩
theorem aqT {t e:TypeId}(h:Nat.blt 0 (zE P e)=true): ∃i,P.info? e=some i /\i.size=zE P e /\0<zE P e:=by
 have hpos:zE P e≠0:=by have:=Nat.le_of_ble_eq_true h;omega
 cases hi:P.info? e with
 |none=>simp[zE,hi]at hpos
 |some i=>exact⟨i,rfl,by simp[zE,hi],by omega⟩
theorem asE (hr:Rel F N ι s a w)(hd: ∀k,o.dst=some k ->k<N){args:Array Operand}{ts:Array TypeId}{x:Operand}{t e:TypeId}(ho:o.op= .call {callee:=.builtin .cap,args:=args,argTypes:=ts})
 (hargs:args.toList=[x]) (hts:ts.toList=[t]) (ht:wT P t=some e) (h:zJ P o.dst (.cap (cO x)) s K):zy P F N o a w (λ_=>True) K:=by
 simp only[zJ]at h;have hu:=wt ht;have ha:args= #[x]:=Array.toList_inj.1 (by simpa using hargs);have hta:ts= #[t]:=Array.toList_inj.1 (by simpa using hts);have hrun: ∀b m c,a.eval x= .slice b m c -> ∀w':World,True ->(execOp a.eval o).run P w'= .ok (.value (.int .i64 c)) w':=by
  intro b m c e1 w' _;simp[execOp,ho,resolve,invoke,builtin,Builtin.cap_,ha,hta,e1,run_underlying hu,goInt]
 have hx:=xE hr x;split at h
 ·rename_i l hl;rw[hl]at hx;simp only[CR,RD]at hx;obtain⟨ad,m,c,h1,h2,h3,h4,_⟩:=hx;exact zy.put hr hd (hrun _ _ _ h1) (yH rfl) (h c (by omega) (by simpa[maxLen]using h4))
 ·rename_i hl;rw[hl]at hx;exact zy.put hr hd (hrun _ _ _ hx) (yH rfl) h
 ·rename_i p z m hl;rw[hl]at hx;rcases hx with⟨_,h2,h3⟩|⟨b,cap,ty,h1,h2,h3,h4,h5,_⟩
  ·subst h2;exact zy.put hr hd (hrun _ _ _ h3) (yH rfl) (h 0 (Nat.le_refl _) (by omega))
  ·exact zy.put hr hd (hrun _ _ _ h3) (yH rfl) (h cap h4 (by simpa[maxLen]using h5))
 ·exact h.elim
theorem asH (hr:Rel F N ι s a w)(hd: ∀k,o.dst=some k ->k<N){args:Array Operand}{ts:Array TypeId}{x y:Operand}{t u e e':TypeId}(ho:o.op= .call {callee:=.builtin .copy,args:=args,argTypes:=ts})
 (hargs:args.toList=[x,y]) (hts:ts.toList=[t,u]) (ht:wT P t=some e) (hpos:Nat.blt 0 (zE P e)=true) (h:zJ P o.dst (.cpy (zE P e) (cO x) (cO y)) s K):xd P F N o a w K:=by
 simp only[zJ]at h;have hu:=wt ht;obtain⟨i,hi,hsz,hpos⟩:=aqT (t:=t) hpos;have ha:args= #[x,y]:=Array.toList_inj.1 (by simpa using hargs);have hta:ts= #[t,u]:=Array.toList_inj.1 (by simpa using hts);have hx:=xE hr x;have hy:=xE hr y;generalize s.oc (cO x)=cx at*;cases hsrc:gM s.pl (s.oc (cO y))with
 |none=>rw[hsrc]at h;exact h.elim
 |some l=>
 rw[hsrc]at h;obtain⟨ad,cap,hyv,_,hdata⟩:=akw hr hy hsrc;unfold as1 at h;simp only at h;split at h
 ·
  have hx:a.eval x= .slice none 0 0:=hx;refine(zy.put (C:=λ_=>True) hr hd (v:=.int .i64 0) ?_ (yH rfl) h).fine trivial;intro w' _;have hfc:(Builtin.firstCells (zE P e) 0 (.slice ad l.length cap)).run P w'= .ok #[] w':=by
   cases ad with
   |none=>simp[Builtin.firstCells]
   |some ad=>simp[Builtin.firstCells,loadCells,loadCellsFrom]
  simp[execOp,ho,resolve,invoke,builtin,Builtin.copy_,ha,hta,hx,hyv,run_underlying hu,goInt,Builtin.lenOf,wl hi,hfc]
 ·split at h
  case h_2=>exact h.elim
  rename_i p z off n hrg;split at h
  case h_2=>exact h.elim
  rename_i z1 els hp;cases hzz:(Nat.beq z z1&&Nat.beq z (zE P e))<;>rw[hzz]at h
  ·exact h.elim
  simp only[cond_true]at h;rw[Bool.and_eq_true]at hzz;have e1:=Nat.eq_of_beq_eq_true hzz.1;have e2:=Nat.eq_of_beq_eq_true hzz.2;subst e1;obtain⟨hl,h⟩:=h;obtain⟨dad,dcap,hxv,hbd,hloc⟩:=agv hr hx hrg hp;have hmin:Nat.min l.length n=min l.length n:=rfl;have hread: ∃news:List Value,news.length=(l.take n).length*zE P e /\CRs ι w (F.ok ι s.pl w) ((l.take n).flatten.map .d) news /\(Builtin.firstCells (zE P e) (min l.length n) (.slice ad l.length cap)).run P w= .ok news.toArray w:=by
   have htl:(l.take n).length=min l.length n:=by rw[List.length_take,Nat.min_comm]
   rcases hdata with rfl|⟨b,q,sz,rfl,hdata⟩
   ·refine⟨[],by simp,by simp[CRs],?_⟩;cases ad with
    |none=>simp[Builtin.firstCells]
    |some ad=>simp[Builtin.firstCells,loadCells,loadCellsFrom]
   ·obtain⟨vs,g1,g2,g3⟩:=RDs.vals (ι:=ι) (RDs.take n hdata);have hvl:vs.length=(l.take n).length*zE P e:=by
     have:=g1.length;simp only[List.length_map]at this;rw[<- this,qt (l.take n) (λy hy=>hl y (List.mem_of_mem_take hy))]
    refine⟨vs,hvl,g1,?_⟩;exact run_firstCells_some (P:=P) w (zE P e) (min l.length n) ⟨b,q,none⟩ l.length cap vs (by rw[hvl,htl]) (λj u hu=>by
     rw[qT];exact g3 j u hu)
  obtain⟨news,n1,n2,n3⟩:=hread;have hall: ∀x∈els,x.length=z:=by
   obtain⟨_,_,hpl|⟨b',_,f2,_⟩⟩:=hr.places p _ hp
   ·rw[hpl.2];intro x hx;cases hx
   ·exact RDs.len f2
  by_cases hn0:n=0
  ·subst hn0;have hnews:news=[]:=by
    have:news.length=0:=by rw[n1];simp
    exact List.length_eq_zero_iff.1 this
   subst hnews;have hels:yb els off (l.take 0)=els:=by simp[yb]
   rw[hels]at h;have hst:{s with pl:=yq p (.arr z els false) s.pl}={s with pl:=yq p (.arr z els false) s.pl}:=rfl;have hrel:Rel F N ι (s.withPl (yq p (.arr z els false) s.pl)) a w:=by
    refine hr.sub _ (λk v h=>h) (λq y hq=>?_);have hq2:aget (yq p (.arr z els false) s.pl) q=some y:=hq;rw[yi]at hq2;by_cases hpq:p=q
    ·rw[if_pos hpq]at hq2;cases hq2;rw[<- hpq];exact hp
    ·rw[if_neg hpq]at hq2;exact hq2
   refine xd.of_value (v:=.int .i64 (min l.length 0:Nat)) (w':=w) ?_ (Rel.put hrel o.dst hd _ _ (yH rfl)) h;have hstore: ∀ad',(storeCells ad' ([]:List Value) 0).run P w= .ok () w:=λad'=>by simp[storeCells]
   have n3':(Builtin.firstCells (zE P e) 0 (.slice ad l.length cap)).run P w= .ok #[] w:=by simpa using n3
   cases dad with
   |none=>simp[execOp,ho,resolve,invoke,builtin,Builtin.copy_,ha,hta,hxv,hyv,run_underlying hu,goInt,Builtin.lenOf,wl hi,n3']
   |some dad=>simp[execOp,ho,resolve,invoke,builtin,Builtin.copy_,ha,hta,hxv,hyv,run_underlying hu,goInt,Builtin.lenOf,wl hi,n3',hstore]
  ·rcases hloc with hloc|⟨b,hb,rfl⟩
   ·exact absurd hloc hn0
   rw[if_neg hn0]at hbd;have hlt:(l.take n).length<=n:=List.length_take_le n l;have hlz: ∀x∈l.take n,x.length=z:=λx hx=>by rw[e2];exact hl x (List.mem_of_mem_take hx)
   have hfit:off+(l.take n).length<=els.length:=by omega
   have hfl:=KN els off (l.take n) hall hlz hfit;obtain⟨w',hw',hrel⟩:=hr.storeEls (P:=P) hp hb (aap els off (l.take n) hfit) (λx hx=>by
    simp only[yb,List.mem_append]at hx;rcases hx with(hx|hx)|hx
    ·exact hall x (List.mem_of_mem_take hx)
    ·exact hlz x hx
    ·exact hall x (List.mem_of_mem_drop hx)) hfl n2 (by
     rw[qt (l.take n) hlz,<- Nat.add_mul];exact Nat.mul_le_mul_right _ hfit)
   refine xd.of_value (v:=.int .i64 (min l.length n:Nat)) (w':=w') ?_ (Rel.put hrel o.dst hd _ _ (yH rfl)) h;simp[execOp,ho,resolve,invoke,builtin,Builtin.copy_,ha,hta,hxv,hyv,run_underlying hu,goInt,Builtin.lenOf,wl hi,hmin,n3,hw']
theorem asG (hr:Rel F N ι s a w)(hd: ∀k,o.dst=some k ->k<N){args:Array Operand}{ts:Array TypeId}{x:Operand}{t e:TypeId}(ho:o.op= .call {callee:=.builtin .clear,args:=args,argTypes:=ts})
 (hargs:args.toList=[x]) (hts:ts.toList=[t]) (ht:wT P t=some e) (hpos:Nat.blt 0 (zE P e)=true) {z:List D}{plz:List (Nat×Pl)}(hz:ua [] (qQ P e).cells=some (z,plz)) (hzl:Nat.beq z.length (zE P e)=true) (hzf:vQ P e=true)
 (h:zJ P o.dst (.clr (zE P e) z (cO x)) s K):xd P F N o a w K:=by
 simp only[zJ]at h;have hu:=wt ht;obtain⟨i,zv,hi,hzv,hzs⟩:=YH hzf;have hsz:i.size=zE P e:=by simp[zE,hi]
 have hzl:=Nat.eq_of_beq_eq_true hzl;have ha:args= #[x]:=Array.toList_inj.1 (by simpa using hargs);have hta:ts= #[t]:=Array.toList_inj.1 (by simpa using hts);have hx:=xE hr x;generalize s.oc (cO x)=cx at*;have hzero:(zeroValue e).run P w= .ok zv w:=by simp[zeroValue,typeInfo,hi,hzv]
 have htz:qQ P e=ofValue zv:=by simp[qQ,hi,hzv]
 have hzcs:CRs ι w (F.ok ι s.pl w) (z.map .d) zv.cells.toList:=by
  refine Wf hz ?_;rw[htz];have hwr:=Vq ι w (F.ok ι s.pl w) zv;refine YI hwr ?_;rw[<- htz];exact jK hz
 have hput: ∀{a':Act}{s':S}{w':World},Rel F N ι s' a' w' ->Rel F N ι (s'.put o.dst x9) (a'.put o.dst (.tuple #[])) w':=λhr'=>Rel.put hr' o.dst hd _ _ ⟨[],rfl,trivial⟩
 unfold as0 at h;split at h
 ·have hx:a.eval x= .slice none 0 0:=hx;refine xd.of_value (v:=.tuple #[]) (w':=w) ?_ (hput hr) h;simp[execOp,ho,resolve,invoke,builtin,Builtin.clear_,ha,hta,hx,run_underlying hu]
 ·split at h
  case h_2=>exact h.elim
  rename_i p z1 off n hrg;split at h
  case h_2=>exact h.elim
  rename_i z2 els hp;cases hzz:(Nat.beq z1 z2&&Nat.beq z1 (zE P e))<;>rw[hzz]at h
  ·exact h.elim
  simp only[cond_true]at h;rw[Bool.and_eq_true]at hzz;have e1:=Nat.eq_of_beq_eq_true hzz.1;have e2:=Nat.eq_of_beq_eq_true hzz.2;subst e1;obtain⟨dad,dcap,hxv,hbd,hloc⟩:=agv hr hx hrg hp;have hall: ∀x∈els,x.length=z1:=by
   obtain⟨_,_,hpl|⟨b',_,f2,_⟩⟩:=hr.places p _ hp
   ·rw[hpl.2];intro x hx;cases hx
   ·exact RDs.len f2
  by_cases hn0:n=0
  ·subst hn0;have hels:yb els off (List.replicate 0 z)=els:=by simp[yb]
   rw[hels]at h;have hrel:Rel F N ι (s.withPl (yq p (.arr z1 els false) s.pl)) a w:=by
    refine hr.sub _ (λk v h=>h) (λq y hq=>?_);have hq2:aget (yq p (.arr z1 els false) s.pl) q=some y:=hq;rw[yi]at hq2;by_cases hpq:p=q
    ·rw[if_pos hpq]at hq2;cases hq2;rw[<- hpq];exact hp
    ·rw[if_neg hpq]at hq2;exact hq2
   refine xd.of_value (v:=.tuple #[]) (w':=w) ?_ (hput hrel) h;cases dad<;>simp[execOp,ho,resolve,invoke,builtin,Builtin.clear_,ha,hta,hxv,run_underlying hu]
  ·rcases hloc with hloc|⟨b,hb,rfl⟩
   ·exact absurd hloc hn0
   rw[if_neg hn0]at hbd;have hlz: ∀x∈List.replicate n z,x.length=z1:=λx hx=>by rw[(List.mem_replicate.1 hx).2,hzl,e2]
   have hfit:off+(List.replicate n z).length<=els.length:=by simpa using hbd
   have hfl:=KN els off (List.replicate n z) hall hlz hfit;have hcs:=YA hzcs n;obtain⟨w',hw',hrel⟩:=hr.storeEls (P:=P) hp hb (aap els off (List.replicate n z) hfit) (λx hx=>by
    simp only[yb,List.mem_append]at hx;rcases hx with(hx|hx)|hx
    ·exact hall x (List.mem_of_mem_take hx)
    ·exact hlz x hx
    ·exact hall x (List.mem_of_mem_drop hx)) hfl hcs (by
     rw[qt (List.replicate n z) hlz,<- Nat.add_mul];exact Nat.mul_le_mul_right _ hfit)
   refine xd.of_value (v:=.tuple #[]) (w':=w') ?_ (hput hrel) h;have hzc:(Builtin.zeroCells zv.cells n).toList=(List.replicate n zv.cells.toList).flatten:=by
    have hlen:(List.replicate n zv.cells.toList).flatten.length=n*zv.cells.size:=by
     rw[qt (sz:=zv.cells.size) _ (λx hx=>by rw[(List.mem_replicate.1 hx).2];simp)];simp
    have hA:(Builtin.zeroCells zv.cells n).toList=(List.range (n*zv.cells.size)).map (λi=>zv.cells[i%zv.cells.size]!):=by simp[Builtin.zeroCells]
    rw[hA];apply List.ext_getElem?;intro j;cases hj:(List.replicate n zv.cells.toList).flatten[j]? with
    |some v=>
     obtain⟨h1,h2⟩:=wO _ _ _ _ hj;rw[Array.length_toList]at h1 h2;rw[List.getElem?_map,List.getElem?_range h1];rw[Array.getElem?_toList]at h2;simp[getElem!_def,h2]
    |none=>
     rw[List.getElem?_eq_none_iff,hlen]at hj;rw[List.getElem?_eq_none_iff];simpa using hj
   obtain⟨m,rfl⟩: ∃m,n=m+1:=⟨n - 1,by omega⟩;simp[execOp,ho,resolve,invoke,builtin,Builtin.clear_,ha,hta,hxv,run_underlying hu,hzero,hzc,hw']
theorem asI (hr:Rel F N ι s a w)(hd: ∀k,o.dst=some k ->k<N){t e:TypeId}{x:Operand}{lo hi:Option Operand}(ho:o.op= .slice t x lo hi none)(hu:P.underlying t=some (.slice e)){i:TypeInfo}(hi':P.info? e=some i)
 (h:zJ P o.dst (.slw (zE P e) (cO x) (lo.map cO) (hi.map cO)) s K):zy P F N o a w (λ_=>True) K:=by
 simp only[zJ]at h;split at h
 case h_2=>exact h.elim
 rename_i lq hb hl hh;have hl:=QI hr hl;have hh:=QI hr hh;have hx:=xE hr x;generalize s.oc (cO x)=cx at*;unfold as5 at h;split at h
 ·rename_i p z n;cases hz:Nat.beq z (zE P e)with
  |false=>rw[hz]at h;exact h.elim
  |true=>
   rw[hz]at h;have hz:=Nat.eq_of_beq_eq_true hz;simp only[cond_true]at h;obtain⟨g0,g1,g2,h⟩:=h;have g3:zT lq 0<=(n:Int):=by omega
   rcases hx with⟨f1,f2,f3⟩|⟨b,cap,ty,f1,f2,f3,f4,f5,f6⟩
   ·subst f2;have hrun:=λ(w':World) (_:True)=>jS (o:=o) (w:=w') hu hi' ho f3 hl hh g0 (by simpa using g1) (by omega)
    refine zy.put hr hd hrun ?_ h;refine⟨_,_,rfl,by omega,by simp[maxLen],.inl (by omega)⟩
   ·have hrun:=λ(w':World) (_:True)=>jS (o:=o) (w:=w') hu hi' ho f3 hl hh g0 g1 (by omega)
    refine zy.put hr hd hrun ?_ h;refine⟨_,_,rfl,by omega,by omega,?_⟩;by_cases hn:(zT hb n).toNat -(zT lq 0).toNat=0
    ·exact .inl hn
    ·refine .inr ⟨b,f1,?_,by omega⟩;refine Eq.trans (if_neg (by omega)) ?_;rw[hz];simp[qT]
 ·have hx:a.eval x= .slice none 0 0:=hx;obtain⟨g0,g1,g2,h⟩:=h;have hrun:=λ(w':World) (_:True)=>jS (o:=o) (w:=w') hu hi' ho hx hl hh g0 (by simpa using g1) (by simpa using g2)
  have e1:(zT lq 0).toNat=0:=by omega
  have e2:(zT hb ((0:Nat):Int)).toNat=0:=by simp only[Int.ofNat_zero]at*;omega
  rw[e1,e2]at hrun;exact zy.put hr hd hrun (show VR ι w _ (cV .nil) _ from by simp[cV,VR,WR,CR]) h
 ·exact h.elim
theorem abH {α:Type}{c:Bool}{x y:α}(h:WJ c x=some y):c=true /\x=y:=by
 cases c
 ·cases h
 ·cases h;exact⟨rfl,rfl⟩
theorem asD (hr:Rel F N ι s a w)(hd: ∀k,o.dst=some k ->k<N){b:Builtin}{args:Array Operand}{ts:Array TypeId}(ho:o.op= .call {callee:=.builtin b,args:=args,argTypes:=ts}){z:AOp}(hz:Vr P b args.toList ts.toList=some z)
 (h:zJ P o.dst z s K):xd P F N o a w K:=by
 unfold Vr at hz;split at hz
 ·split at hz
  ·rename_i x t h1 h2;split at hz
   ·rename_i e ht;cases hz;exact(asE hr hd ho h1 h2 ht h).fine trivial
   ·cases hz
  ·cases hz
 ·split at hz
  ·rename_i x y t u h1 h2;split at hz
   ·rename_i e e' ht hu;obtain⟨hc,rfl⟩:=abH hz;rw[Bool.and_eq_true]at hc;exact asH (e':=e') hr hd ho h1 h2 ht hc.1 h
   ·cases hz
  ·cases hz
 ·split at hz
  ·rename_i x t h1 h2;split at hz
   ·rename_i e ht;split at hz
    ·rename_i zz plz hzz;obtain⟨hc,rfl⟩:=abH hz;simp only[Bool.and_eq_true]at hc;exact asG hr hd ho h1 h2 ht hc.1.1 hzz hc.1.2 hc.2 h
    ·cases hz
   ·cases hz
  ·cases hz
 ·cases hz
theorem adO {b:Builtin}{l:List Operand}{ts:List TypeId}{z:AOp}(hz:Vr P b l ts=some z):z.quiet=false /\un z=false /\ ∀cs,z≠ .alloc cs:=by
 unfold Vr at hz;repeat' split at hz
 all_goals first
  |(cases hz;done)
  |(obtain⟨_,rfl⟩:=abH hz;exact⟨rfl,rfl,λ_ h=>by cases h⟩)
  |(cases hz;exact⟨rfl,rfl,λ_ h=>by cases h⟩)
end
end Go.AM
namespace Go.AM
section
variable {P:Program}{F:Fr}{N:Nat}{ι:Nat ->Gh}{s:S}{a:Act}{w:World}{o:Oper}{K:S ->Prop}
theorem Rel.noRow (hr:Rel F N ι s a w){d sz:Nat}(kills:List Nat)(hk:isin d kills=true)(hpos:0<sz)(hh:F.h d=none):Rel F N (vP ι d ⟨none,0⟩) (s.redo kills [(d,.arr sz [] false)]) a w:=by
 refine hr.redo kills [(d,.arr sz [] false)] _ w (λp hp=>ux ι _ (λe=>by subst e;rw[hk]at hp;cases hp)) (λ_ _ _=>rfl) (zX.refl w) rfl rfl (Out.refl w) (Nat.le_refl _) ?_ ?_ ?_ (λp x hp=>by obtain⟨rfl,_⟩:=yA hp;exact hh)
 ·intro p q hp;obtain⟨rfl,rfl⟩:=yA hp;exact⟨hpos,by rw[zH];rfl,.inl ⟨by rw[zH],rfl⟩⟩
 ·intro p q b hp hb;obtain⟨rfl,rfl⟩:=yA hp;rw[zH]at hb;cases hb
 ·intro p q r y b hp hq hpq;obtain⟨rfl,rfl⟩:=yA hp;obtain⟨rfl,rfl⟩:=yA hq;exact absurd rfl hpq
def S.ownNil (s:S)(d p sz:Nat):S:=(s.redo [p] [(p,.arr sz [] false)]).put (some d) (cV (.own p sz 0))
theorem yh {s:S}(d p sz:Nat)(hpos:0<sz)(hd:p<100000)(h:aget s.sl d=some (cV .nil)):QH s (s.ownNil d p sz):=by
 intro F N ι a w hr;have hh:F.h p=none:=by
  cases e:F.h p with
  |none=>rfl
  |some g=>have:=hr.hdom p g e;omega
 have hrel:=hr.noRow (d:=p) [p] (by simp[isin]) hpos hh;obtain⟨x,hx1,hx2⟩:=hr.slots d _ h;have hx2:x= .slice none 0 0:=hx2;refine⟨_,{hrel with slots:=λk v hv=>?_}⟩;have hv:aget (yq d (cV (.own p sz 0)) (s.redo [p] [(p,.arr sz [] false)]).sl) k=some v:=hv;rw[yi]at hv;by_cases e:d=k
 ·rw[if_pos e]at hv;cases hv;subst e;exact⟨x,hx1,.inl ⟨by rw[zH],rfl,hx2⟩⟩
 ·rw[if_neg e]at hv;exact hrel.slots k v hv
theorem amB {t u ty e:TypeId}{k:IntKind}{i:TypeInfo}{z:Value}(ht:P.underlying t=some (.slice e))(hu:P.underlying u=some (.int k))(hi:P.info? e=some i)(hz:i.zero=some z){k':IntKind}{n:Nat}(hn0:0<n)(hsz:0<i.size)
 (h63:((n:Nat):Int)<=9223372036854775807) (hbytes:n*i.bytes<=140737488355328):
 (Builtin.append_ #[t,u] ty #[.slice none 0 0,.int k' n]).run P w=
  .ok (.slice (some ⟨w.heap.size,0,none⟩) n (grownCap w n 0 e))
   (w.drew.alloc (.cells ((Builtin.zeroCells z.cells n).toList++(Builtin.zeroCells z.cells (grownCap w n 0 e - n)).toList).toArray e)):=by
 have hn: ¬(n<=0):=by omega
 have hw:IntKind.i64.wrap (n:Int)=n:=by rw[IntKind.wrap_i64];omega
 have h63': ¬(9223372036854775807<(n:Int)):=by omega
 have hfit:=growslice_fits (old:=0) (need:=n) (bytes:=i.bytes) (by omega) hbytes;have h48: ¬(281474976710656<(n:Int)*(i.bytes:Int)):=by
  have:((n*i.bytes:Nat):Int)<=((140737488355328:Nat):Int):=Int.ofNat_le.2 hbytes;rw[Int.natCast_mul]at this;omega
 have h48': ¬(281474976710656<Builtin.nextslicecap n 0*i.bytes):=by omega
 have hns: ¬(n*i.size=0):=by
  have:0<n*i.size:=Nat.mul_pos hn0 hsz;omega
 have hlt: ¬((n:Int)<0):=by omega
 simp[Builtin.append_,run_underlying ht,run_underlying hu,sizeOf,typeInfo,zeroValue,hi,hz,hw,h63',h48,h48',hns,hlt,Question.forced,newRow,asInt,asIntOf,Builtin.firstCells];rw[if_neg (by omega)];have fin:(Builtin.zeroCells z.cells n++Builtin.zeroCells z.cells (grownCap w n 0 e - n))=((Builtin.zeroCells z.cells n).toList++(Builtin.zeroCells z.cells (grownCap w n 0 e - n)).toList).toArray:=by
  apply Array.ext';simp
 rw[<- fin];rfl
theorem akx {t u ty e:TypeId}{k:IntKind}{i:TypeInfo}(ht:P.underlying t=some (.slice e))(hu:P.underlying u=some (.int k))(hi:P.info? e=some i){k':IntKind}:
 (Builtin.append_ #[t,u] ty #[.slice none 0 0,.int k' 0]).run P w= .ok (.slice none 0 0) w:=by
 have hw:IntKind.i64.wrap 0=0:=by rw[IntKind.wrap_i64];omega
 simp[Builtin.append_,run_underlying ht,run_underlying hu,sizeOf,typeInfo,hi,hw,asInt,asIntOf,Builtin.firstCells]
theorem kA (cs:Array Value)(n:Nat):(Builtin.zeroCells cs n).toList=(List.replicate n cs.toList).flatten:=by
 have hlen:(List.replicate n cs.toList).flatten.length=n*cs.size:=by
  rw[qt (sz:=cs.size) _ (λx hx=>by rw[(List.mem_replicate.1 hx).2];simp)];simp
 have hA:(Builtin.zeroCells cs n).toList=(List.range (n*cs.size)).map (λi=>cs[i%cs.size]!):=by simp[Builtin.zeroCells]
 rw[hA];apply List.ext_getElem?;intro j;cases hj:(List.replicate n cs.toList).flatten[j]? with
 |some v=>
  obtain⟨h1,h2⟩:=wO _ _ _ _ hj;rw[Array.length_toList]at h1 h2;rw[List.getElem?_map,List.getElem?_range h1];rw[Array.getElem?_toList]at h2;simp[getElem!_def,h2]
 |none=>
  rw[List.getElem?_eq_none_iff,hlen]at hj;rw[List.getElem?_eq_none_iff];simpa using hj
theorem aqP (hr:Rel F N ι s a w)(hd: ∀k,o.dst=some k ->k<N){args:Array Operand}{ts:Array TypeId}{x y:Operand}{t u e:TypeId}{k:IntKind}(ho:o.op= .call {callee:=.builtin .append,args:=args,argTypes:=ts})
 (hargs:args.toList=[x,y]) (hts:ts.toList=[t,u]) (ht:wT P t=some e) (hu:P.underlying u=some (.int k)) (hpos:Nat.blt 0 (zE P e)=true) {z:List D}{plz:List (Nat×Pl)}(hz:ua [] (qQ P e).cells=some (z,plz)) (hzl:Nat.beq z.length (zE P e)=true) (hzf:vQ P e=true)
 (h:zJ P o.dst (.appz (zE P e) (vN P e) z (cO x) (cO y)) s K):xd P F N o a w K:=by
 simp only[zJ]at h;split at h
 case h_2=>exact h.elim
 rename_i d m hdst hx hm;obtain⟨g0,g1,g2,h⟩:=h;have hu':=wt ht;obtain⟨i,zv,hi,hzv,hzs⟩:=YH hzf;have hsz:i.size=zE P e:=by simp[zE,hi]
 have hbt:i.bytes=vN P e:=by simp[vN,hi]
 have hzl:=Nat.eq_of_beq_eq_true hzl;have hps:0<i.size:=by rw[hsz];have:=Nat.le_of_ble_eq_true hpos;omega
 have ha:args= #[x,y]:=Array.toList_inj.1 (by simpa using hargs);have hta:ts= #[t,u]:=Array.toList_inj.1 (by simpa using hts);have hxv:=xE hr x;rw[hx]at hxv;have hxv:a.eval x= .slice none 0 0:=hxv;obtain⟨k',hyv,_⟩:=jQ hm (v6 hr y);obtain⟨n,rfl⟩: ∃n:Nat,m=n:=⟨m.toNat,by omega⟩;simp only[Int.toNat_natCast]at h g1;have hrun: ∀v w',(Builtin.append_ #[t,u] o.type #[.slice none 0 0,.int k' n]).run P w= .ok v w' ->(execOp a.eval o).run P w= .ok (.value v) w':=by
  intro v w' hv;simp[execOp,ho,resolve,invoke,builtin,ha,hta,hxv,hyv,hv]
 by_cases hn:n=0
 ·subst hn;have hrel:=hr.noRow (d:=d) (sz:=zE P e) [d] (by simp[isin]) (by omega) (hr.h_slot (hd _ hdst));refine xd.of_value (ι':=vP ι d ⟨none,0⟩) (hrun _ _ (by simpa using akx (ty:=o.type) hu' hu hi)) ?_ h;rw[hdst];exact hrel.put (some d) (λk hk=>by cases hk;exact hd d hdst) _ _ (.inl ⟨by rw[zH],rfl,rfl⟩)
 ·have hap:=amB (w:=w) (ty:=o.type) (k':=k') hu' hu hi hzv (n:=n) (by omega) hps g2 (by rw[hbt];exact g1);obtain⟨cur,hcur⟩: ∃cur:Array Value,cur=((Builtin.zeroCells zv.cells n).toList++(Builtin.zeroCells zv.cells (grownCap w n 0 e - n)).toList).toArray:=⟨_,rfl⟩;rw[<- hcur]at hap;have hw:=NewRow.draw w cur e (0,0);have hge:=grownCap_ge w n 0 e;have hle:=grownCap_le_maxLen w n 0 e (by simp only[maxLen];omega);have hcs:cur.size=grownCap w n 0 e*i.size:=by
   rw[hcur];simp only[List.size_toArray,List.length_append,ajx hzv,hzs,<- Nat.add_mul];congr 1;omega
  have hzcs:CRs ι w (F.ok ι s.pl w) (z.map .d) zv.cells.toList:=by
   refine Wf hz ?_;have htz:qQ P e=ofValue zv:=by simp[qQ,hi,hzv]
   rw[htz];refine YI (Vq ι w (F.ok ι s.pl w) zv) ?_;rw[<- htz];exact jK hz
  have hnc:=YA hzcs n;have hrel:=hr.newRow hw d (.arr (zE P e) (List.replicate n z) false) [d] (by simp[isin]) n (hr.h_slot (hd _ hdst)) ⟨by omega,by rw[zH];simp,.inr ⟨w.heap.size,by rw[zH],by
   refine Xz (ι:=ι) (vs:=(List.replicate n zv.cells.toList).flatten) (λq hq=>?_) ?_ ?_
   ·rw[(List.mem_replicate.1 hq).2,hzl]
   ·exact CRs.keep (ZA hr hw d _ [d] (by simp[isin]) _) hw.shapes _ _ hnc
   ·intro j v hv;rw[Nat.zero_add,hw.cell,hcur];have hj:=(List.getElem?_eq_some_iff.1 hv).1;rw[List.getElem?_toArray,List.getElem?_append_left (by rw[kA];exact hj),kA];exact hv,(λhf=>by cases hf),(λ_=>⟨cur,⟨e,hw.new⟩,by
    rw[hcs,<- hsz];simp only[List.length_replicate];exact Nat.mul_le_mul_right _ hge⟩)⟩⟩
  refine xd.of_value (ι':=vP ι d ⟨some w.heap.size,n⟩) (hrun _ _ hap) ?_ h;rw[hdst];refine hrel.put (some d) (λk hk=>by cases hk;exact hd d hdst) _ _ ?_;exact .inr ⟨w.heap.size,_,e,by rw[zH],by rw[zH];exact Nat.le_refl _,rfl,hge,hle,by rw[hw.shape,hcs,hsz]⟩
end
end Go.AM
