import Derived.Tactics2
import Derived.KernelRfl
import Derived.WalkKit
import Derived.Lib.PrintData
import Derived.Lib.ItoaNum
import Derived.Shelf.Unicode.DecodeSlow
import Derived.Laws.StructEq
import Derived.ChangeKeysEq
set_option linter.unusedSimpArgs false
set_option linter.unusedVariables false
set_option maxRecDepth 100000
set_option maxHeartbeats 4000000
theorem Go.dX{p:Prop}(h:p:=by simp;omega):p:=h
theorem Go.dW{p:Prop}(h:p:=by simp_all):p:=h
theorem Go.dV{p:Prop}(h:p:=by decide):p:=h
theorem Go.dT{p:Prop}(h:p:=by simp):p:=h
theorem Go.d9{p:Prop}(h:p:=by grind):p:=h
theorem Go.d8{p:Prop}(h:p:=by omega):p:=h
open _root_ renaming List->am,Option->aA,Array->aE,cond_true->aO,if_neg->bO,cond_false->cd,if_pos->cX,if_true->dn
open Go renaming World->aB,run_underlying->aD,Operand->aF,Builtin->aG,execOp->aH,IntKind->aP,MapEntry->bG,grownCap->bH,resolve->bI,setRow_other->bJ,TypeInfo->bM,invoke->bP,typeInfo->bU,Result->bW,BinOp->bX,cell_of_row->cj,setRow_heap->ck,zeroValue->cm,eqGuard->cw,run_firstCells_some->cz,grownCap_le_maxLen->cD,Field->cK,run_storeCells_at->cL,loadCellsFrom->cM,sizeOf->cT,cell_setRow_same->cU,run_loadCells_list->dt,Addr->dv,loadCells->dC,run_equalIn_bool'->dD,loadVar->dK,asIntOf->dL,newRow->dM,grownCap_ge->dN,goInt->dS
open Nat renaming eq_of_beq_eq_true->aC,beq->aI,mul_le_mul_right->aQ,le_of_ble_eq_true->aS,add_mul->aU,zero_add->aV,le_refl->aY,blt->bD,lt_of_lt_of_le->bL,zero_mul->bY,ble->bZ,one_mul->b9,sub_zero->cG,zero_le->cR,le_trans->dE,add_zero->dG
open Go.Builtin renaming zeroCells->aJ,firstCells->aN,append_->aW,lenOf->bN,copy_->cZ,nextslicecap->dl,clear_->dm
open Array renaming toList_inj->aK,length_toList->bF
open List renaming replicate->aL,length_append->aR,map_cons->aX,flatten_cons->bA,length_take->bB,mem_cons->bC,length_cons->bK,map_append->bT,size_toArray->cg,mem_of_getElem?->cr,mem_append->cA,drop_succ_cons->cB,flatten_append->cC,drop_length_add_append->cE,exists_mem_of_ne_nil->cN,ext_getElem?->cS,length_drop->c8,zipIdx_cons->c9,take_of_length_le->df,nil_append->dg,mem_of_mem_take->dj,replicate_succ->dq,length_pos_iff->dr,set_cons_zero->dw,set_cons_succ->dx,mem_replicate->dz,mem_map->dH
open Go.Result renaming andThen_ok->aM
open Bool renaming and_eq_true->aT,not_eq_true'->dJ
open Go.Sem renaming run_bind->aZ,run_pure->bE
open Go.Instr renaming sureAddr->bQ,sliceBounds->bV,findNow->cq,fill->cH,findKey->c6,loadAt->dd,sameNow->du,buildSlice->dO,sliceBound->dP,typeAssert->dR
open BitVec renaming ofInt->bR
open Go.World renaming shape?->bS,cell?->cP
open Int renaming toNat_zero->cJ
open Go.Value renaming pointer->cY,int->c7
open Iff renaming rfl->de
open Go.Op renaming operands->dh,equal->dF
open Go.IntKind renaming i64->di,wrap_i64->dQ
open Go.Conv renaming bytesToString->dy
open Option.some renaming injEq->dI
namespace Go.AM
inductive D where
 |lit (v:Value)
 |sl (l:am (am D))
 |fn (f:FuncId) (caps:am (am D))
 |ifc (t:TypeId) (l:am D)
 |mp (ag:Bool) (ks:am Value) (vs:am (am D))
inductive T where
 |d (x:D)
 |sl (sz:Nat) (els:am (am T))
 |bx (cells:am T)
 |mp (ag:Bool) (ks:am Value) (vs:am (am T))
 |mpi (ag:Bool) (ks:am Value) (vs:am (am T)) (seen:am Nat)
 |hole
inductive C where
 |dead
 |d (x:D)
 |nil
 |ptr (p off:Nat)
 |eptr (p sz i k:Nat)
 |own (p sz len:Nat)
 |sub (p sz off n:Nat)
 |fp (cells:am D)
 |clo (f:FuncId) (caps:am Nat)
 |root (p:Nat)
 |iter (p:Nat)
inductive W where
 |c (x:C)
 |agg (cs:am C)
inductive V where
 |w (x:W)
 |tup (xs:am W)
inductive Pl where
 |box (cells:am C)
 |arr (sz:Nat) (els:am (am D)) (fz:Bool)
 |fbox (ds:am D)
 |deep (t:T)
 |gone
structure S where
 sl:am (Nat×V)
 pl:am (Nat×Pl)
def aget{α:Type}:am (Nat×α)->Nat->aA α
 |[],_=>none
 |(k,v)::r,n=>bif aI k n then some v else aget r n
def yN{α:Type}(n:Nat)(v:α):am (Nat×α)->am (Nat×α)
 |[]=> [(n,v)]
 |(k,u)::r=>bif aI k n then(n,v)::r else bif bD n k then(n,v)::(k,u)::r else(k,u)::yN n v r
def xl{α:Type}(f:Nat->Bool):am (Nat×α)->am (Nat×α)
 |[]=> []
 |(k,v)::r=>bif f k then(k,v)::xl f r else xl f r
def isin(n:Nat):am Nat->Bool
 |[]=>false
 |k::r=>bif aI k n then true else isin n r
def XN:Value->C
 |.slice none 0 0=>.nil
 |.bool b=>.d (.lit (.bool b))
 |.int k n=>.d (.lit (.int k n))
 |.string x=>.d (.lit (.string x))
 |.pointer none=>.d (.lit (.pointer none))
 |.map none=>.d (.lit (.map none))
 |.nilFunc=>.d (.lit .nilFunc)
 |.nilIface=>.d (.lit .nilIface)
 |_=>.dead
def ofValue:Value->W
 |.agg cs=>.agg (cs.toList.map XN)
 |v=>.c (XN v)
def asj:V:=.w (.c .dead)
def qO:V:=.tup []
def S.tmp(s:S)(t:Nat):V:=match aget s.sl t with|some v=>v|none=>asj
def S.put(s:S)(dst:aA Tmp)(v:V):S:=
 match dst with
 |some d=>{s with sl:=yN d v s.sl}
 |none=>s
def anH:C->(C->Prop)->Prop
 |.dead,K=>K .dead
 |.d x,K=>K (.d x)
 |.nil,K=>K .nil
 |.ptr p o,K=>K (.ptr p o)
 |.eptr p z i k,K=>K (.eptr p z i k)
 |.own p z n,K=>K (.own p z n)
 |.sub p z o n,K=>K (.sub p z o n)
 |.fp l,K=>K (.fp l)
 |.clo f l,K=>K (.clo f l)
 |.root p,K=>K (.root p)
 |.iter p,K=>K (.iter p)
def gW:am C->(am C->Prop)->Prop
 |[],K=>K []
 |x::r,K=>anH x λx=>gW r λr=>K (x::r)
def ahM:W->(W->Prop)->Prop
 |.c x,K=>anH x λx=>K (.c x)
 |.agg cs,K=>gW cs λcs=>K (.agg cs)
def aeK:am W->(am W->Prop)->Prop
 |[],K=>K []
 |x::r,K=>ahM x λx=>aeK r λr=>K (x::r)
def ahL:V->(V->Prop)->Prop
 |.w x,K=>ahM x λx=>K (.w x)
 |.tup xs,K=>aeK xs λxs=>K (.tup xs)
def ajl:Pl->(Pl->Prop)->Prop
 |.box cs,K=>gW cs λcs=>K (.box cs)
 |.arr z g true,K=>K (.arr z g true)
 |.arr z g false,K=>K (.arr z g false)
 |.fbox i,K=>K (.fbox i)
 |.deep t,K=>K (.deep t)
 |.gone,K=>K .gone
def aeJ:am (Nat×V)->(am (Nat×V)->Prop)->Prop
 |[],K=>K []
 |(k,v)::r,K=>ahL v λv=>aeJ r λr=>K ((k,v)::r)
def abj:am (Nat×Pl)->(am (Nat×Pl)->Prop)->Prop
 |[],K=>K []
 |(k,v)::r,K=>ajl v λv=>abj r λr=>K ((k,v)::r)
def xN:S->(S->Prop)->Prop
 |⟨sl,pl⟩,K=>aeJ sl λsl=>abj pl λpl=>K ⟨sl,pl⟩
theorem akB(x:C)(K:C->Prop):anH x K=K x:=by cases x<;>rfl
theorem abi:∀(x:am C) (K:am C->Prop),gW x K=K x
 |[],_=>rfl
 |x::r,K=>by simp only[gW,akB,abi r]
theorem akD(x:W)(K:W->Prop):ahM x K=K x:=by cases x<;>simp only[ahM,akB,abi]
theorem ahN:∀(x:am W) (K:am W->Prop),aeK x K=K x
 |[],_=>rfl
 |x::r,K=>by simp only[aeK,akD,ahN r]
theorem adg(x:V)(K:V->Prop):ahL x K=K x:=by cases x<;>simp only[ahL,akD,ahN]
theorem asp(x:Pl)(K:Pl->Prop):ajl x K=K x:=by
 cases x with
 |box cs=>simp only[ajl,abi]
 |arr z g i=>cases i<;>rfl
 |fbox j=>rfl
 |deep t=>rfl
 |gone=>rfl
theorem ahK:∀(x:am (Nat×V)) (K:am (Nat×V)->Prop),aeJ x K=K x
 |[],_=>rfl
 |(_,_)::r,K=>by simp only[aeJ,adg,ahK r]
theorem afy:∀(x:am (Nat×Pl)) (K:am (Nat×Pl)->Prop),abj x K=K x
 |[],_=>rfl
 |(_,_)::r,K=>by simp only[abj,asp,afy r]
theorem xu(s:S)(K:S->Prop):xN s K=K s:=by cases s;simp only[xN,ahK,afy]
def adA:C->aA Value
 |.d (.lit v)=>some v
 |.nil=>some (.slice none 0 0)
 |_=>none
def amv:am C->aA (am Value)
 |[]=>some []
 |x::r=>match adA x,amv r with
  |some v,some l=>some (v::l)
  |_,_=>none
def axG:W->aA Value
 |.c x=>adA x
 |.agg cs=>match amv cs with
   |some l=>some (.agg l.toArray)
   |none=>none
def an8:V->aA Value
 |.w x=>axG x
 |_=>none
def aax{α:Type}(P:Program):Sem α->aA α
 |.pure a=>some a
 |.program k=>aax P (k P)
 |.mark _ k=>aax P k
 |_=>none
def isSome{α:Type}:aA α->Bool|some _=>true|none=>false
def W.cells:W->am C
 |.c x=> [x]
 |.agg cs=>cs
def C.isDead:C->Bool|.dead=>true|_=>false
def solid:am C->Bool
 |[]=>true
 |x::r=>bif x.isDead then false else solid r
def ye{α:Type}(l:am α)(off:Nat)(new:am α):am α:=l.take off++new++l.drop (off+new.length)
def C.kill(l:am Nat):C->C
 |.ptr q o=>bif isin q l then .dead else .ptr q o
 |.eptr q sz i k=>bif isin q l then .dead else .eptr q sz i k
 |.own q sz n=>bif isin q l then .dead else .own q sz n
 |.sub q sz o n=>bif isin q l then .dead else .sub q sz o n
 |.clo f g=>bif g.any (λq=>isin q l)then .dead else .clo f g
 |.root q=>bif isin q l then .dead else .root q
 |.iter q=>bif isin q l then .dead else .iter q
 |x=>x
def W.kill(l:am Nat):W->W
 |.c x=>.c (x.kill l)
 |.agg cs=>.agg (cs.map (C.kill l))
def V.kill(l:am Nat):V->V
 |.w x=>.w (x.kill l)
 |.tup xs=>.tup (xs.map (W.kill l))
def Pl.kill(l:am Nat):Pl->Pl
 |.box cs=>.box (cs.map (C.kill l))
 |x=>x
def acQ:am (Nat×Pl)->am (Nat×Pl)->am (Nat×Pl)
 |[],pl=>pl
 |(k,x)::r,pl=>yN k x (acQ r pl)
def Ur{α β:Type}(f:α->β):am (Nat×α)->am (Nat×β)
 |[]=> []
 |(k,v)::r=>(k,f v)::Ur f r
def S.redo(s:S)(g:am Nat)(new:am (Nat×Pl)):S:=
 {sl:=Ur (V.kill g) s.sl,pl:=acQ new (Ur (Pl.kill g) (xl (λk=>!isin k g) s.pl))}
def V.rn(p q:Nat):V->V
 |.w (.c (.root r))=>bif aI r p then .w (.c (.root q))else V.kill [p,q] (.w (.c (.root r)))
 |v=>V.kill [p,q] v
def S.reroot(s:S)(p q:Nat)(x:Pl):S:=
 {sl:=Ur (V.rn p q) s.sl,pl:=acQ [(q,x)] (Ur (Pl.kill [p,q]) (xl (λk=>!isin k [p,q]) s.pl))}
def S.place(s:S)(p:Nat)(x:Pl):S:=s.redo [p] [(p,x)]
mutual
def T.toD:T->aA D
 |.d x=>some x
 |.sl _ g=>match tsD g with|some l=>some (.sl l)|none=>none
 |.bx _=>none
 |.mp ag ks vs=>match tsD vs with|some l=>some (.mp ag ks l)|none=>none
 |.mpi ag ks vs _=>match tsD vs with|some l=>some (.mp ag ks l)|none=>none
 |.hole=>none
def XR:am T->aA (am D)
 |[]=>some []
 |x::r=>match T.toD x with
  |some y=>match XR r with
   |some l=>some (y::l)
   |none=>none
  |none=>none
def tsD:am (am T)->aA (am (am D))
 |[]=>some []
 |x::r=>match XR x with
  |some y=>match tsD r with
   |some l=>some (y::l)
   |none=>none
  |none=>none
end
def va(pl:am (Nat×Pl))(p:Nat):am (Nat×Pl):=
 match aget pl p with
 |some (.arr sz g _)=>yN p (.arr sz g true) pl
 |_=>pl
def toD(pl:am (Nat×Pl)):C->aA (D×am (Nat×Pl))
 |.d x=>some (x,pl)
 |.nil=>some (.sl [],pl)
 |.own p _ n=>match aget pl p with
   |some (.arr _ g _)=>some (.sl (g.take n),va pl p)
   |_=>none
 |.clo f []=>some (.fn f [],pl)
 |.root p=>match aget pl p with
   |some (.deep t)=>match T.toD t with
    |some x=>some (x,xl (λk=>!Nat.beq k p) pl)
    |none=>none
   |_=>none
 |_=>none
def uC(pl:am (Nat×Pl)):am C->aA (am D×am (Nat×Pl))
 |[]=>some ([],pl)
 |x::r=>match toD pl x with
  |some (y,g)=>match uC g r with
   |some (ys,i)=>some (y::ys,i)
   |none=>none
  |none=>none
def atw(pl:am (Nat×Pl)):W->aA (W×am (Nat×Pl))
 |.c (.fp l)=>some (.c (.fp l),pl)
 |.c x=>match toD pl x with
   |some (y,g)=>some (.c (.d y),g)
   |none=>none
 |.agg cs=>match uC pl cs with
   |some (ys,g)=>some (.agg (ys.map .d),g)
   |none=>none
def ab1(pl:am (Nat×Pl)):am W->aA (am W×am (Nat×Pl))
 |[]=>some ([],pl)
 |x::r=>match atw pl x with
  |some (y,g)=>match ab1 g r with
   |some (ys,i)=>some (y::ys,i)
   |none=>none
  |none=>none
structure Res where
 v:V
 pl:am Pl
def C.scalar:C->Bool|.d (.lit _)=>true|_=>false
def W.scalar:W->Bool|.c x=>x.scalar|.agg cs=>cs.all C.scalar
def V.scalar:V->Bool|.w x=>x.scalar|.tup xs=>xs.all W.scalar
def vF{α:Type}:am (aA α)->Nat->aA α
 |[],_=>none
 |x::_,0=>x
 |_::r,n+1=>vF r n
def C.ren(l:am (aA Nat)):C->C
 |.ptr q o=>match vF l q with|some p=>.ptr p o|none=>.dead
 |.eptr q sz i k=>match vF l q with|some p=>.eptr p sz i k|none=>.dead
 |.own q sz k=>match vF l q with|some p=>.own p sz k|none=>.dead
 |.sub _ _ _ _=>.dead
 |.iter _=>.dead
 |.clo f []=>.clo f []
 |.clo _ _=>.dead
 |.root q=>match vF l q with|some p=>.root p|none=>.dead
 |.d x=>.d x
 |.nil=>.nil
 |.fp l=>.fp l
 |.dead=>.dead
def W.ren(l:am (aA Nat)):W->W|.c x=>.c (x.ren l)|.agg cs=>.agg (cs.map (C.ren l))
def V.ren(l:am (aA Nat)):V->V|.w x=>.w (x.ren l)|.tup xs=>.tup (xs.map (W.ren l))
def Pl.ren(l:am (aA Nat)):Pl->Pl
 |.box cs=>.box (cs.map (C.ren l))
 |.arr z g j=>.arr z g j
 |.fbox i=>.fbox i
 |.deep t=>.deep t
 |.gone=>.gone
def Zw:Nat->am Pl->am (Nat×Pl)
 |_,[]=> []
 |n,x::r=>(n,x)::Zw (n+1) r
def j8:am (Nat×Pl)->am Nat
 |[]=> []
 |(k,_)::r=>k::j8 r
def base(d:Nat):Nat:=600000+16*d
def zY:Nat->Nat->am Nat
 |_,0=> []
 |i,n+1=>i::zY (i+1) n
def YA:am Nat->am Pl->am (aA Nat)
 |n::g,.gone::xs=>none::YA g xs
 |n::g,_::xs=>some n::YA g xs
 |_,_=> []
def yR:am Nat->am Pl->am (Nat×Pl)
 |_::g,.gone::xs=>yR g xs
 |n::g,x::xs=>(n,x)::yR g xs
 |_,_=> []
def Vl:Nat->am Nat->am Pl->am Nat
 |m+1,n::g,.gone::xs=>n::Vl m g xs
 |m+1,_::g,_::xs=>Vl m g xs
 |0,n::g,_::xs=>n::Vl 0 g xs
 |_,_,_=> []
def uO:am Nat->Bool
 |[]=>true
 |x::r=>!isin x r&&uO r
def ae1(s:S)(U:am Nat)(nb:Nat)(dst:aA Tmp)(r:Res):S:=
 (s.redo (Vl U.length (U++zY nb (r.pl.length-U.length)) r.pl)
  (yR (U++zY nb (r.pl.length-U.length)) (r.pl.map (Pl.ren (YA (U++zY nb (r.pl.length-U.length)) r.pl))))).put dst
  (r.v.ren (YA (U++zY nb (r.pl.length-U.length)) r.pl))
def Jq(U:am Nat)(nb:Nat)(r:Res):Bool:=uO (j8 (yR (U++zY nb (r.pl.length-U.length)) r.pl))
def asZ(s g:S)(dst:aA Tmp)(r:Res):S:=
 match dst with
 |some d=>bif r.v.scalar then s.put (some d) r.v
  else ae1 g [] (base d) (some d) r
 |none=>s
def gY(p:Nat):am Nat->aA Nat
 |[]=>none
 |k::r=>bif aI k p then some 0 else match gY p r with|some i=>some (i+1)|none=>none
def C.pk(pl:am (Nat×Pl))(U:am Nat):C->C
 |.own p z n=>match aget pl p with
   |some (.arr _ _ false)=>match gY p U with|some k=>.own k z n|none=>.dead
   |some (.arr _ g true)=>.d (.sl (g.take n))
   |_=>.dead
 |.ptr p o=>match aget pl p with
   |some (.box _)=>match gY p U with|some k=>.ptr k o|none=>.dead
   |some (.fbox i)=>.fp (i.drop o)
   |_=>.dead
 |.d x=>.d x
 |.nil=>.nil
 |.clo f []=>.d (.fn f [])
 |.fp l=>.fp l
 |.root p=>match aget pl p with
   |some (.deep _)=>match gY p U with|some k=>.root k|none=>.dead
   |_=>.dead
 |_=>.dead
def W.pk(pl:am (Nat×Pl))(U:am Nat):W->W|.c x=>.c (x.pk pl U)|.agg cs=>.agg (cs.map (C.pk pl U))
def V.pk(pl:am (Nat×Pl))(U:am Nat):V->V|.w x=>.w (x.pk pl U)|.tup xs=>.tup (xs.map (W.pk pl U))
def UE(pl:am (Nat×Pl))(U:am Nat)(k p:Nat):Pl:=
 match gY p U with
 |some i=>bif aI i k then
  match aget pl p with
  |some (.box cs)=>.box (cs.map (C.pk pl U))
  |some (.arr z g false)=>.arr z g false
  |some (.deep t)=>.deep t
  |_=>.gone
  else .gone
 |none=>.gone
def u9(pl:am (Nat×Pl))(U:am Nat):Nat->am Nat->am Pl
 |_,[]=> []
 |k,p::r=>UE pl U k p::u9 pl U (k+1) r
def C.refs:C->am Nat
 |.ptr p _=> [p]
 |.eptr p _ _ _=> [p]
 |.own p _ _=> [p]
 |.sub p _ _ _=> [p]
 |.clo _ g=>g
 |.root p=> [p]
 |_=> []
def aaA:am C->am Nat
 |[]=> []
 |x::r=>x.refs++aaA r
def W.refs:W->am Nat
 |.c x=>x.refs
 |.agg cs=>aaA cs
def YJ:am W->am Nat
 |[]=> []
 |x::r=>x.refs++YJ r
def V.refs:V->am Nat
 |.w x=>x.refs
 |.tup xs=>YJ xs
def qu(pl:am (Nat×Pl)):am Nat->am Nat->am Nat
 |U,[]=>U
 |U,p::r=>match aget pl p with
  |some (.box _)=>bif isin p U then qu pl U r else qu pl (U++[p]) r
  |some (.arr _ _ false)=>bif isin p U then qu pl U r else qu pl (U++[p]) r
  |some (.deep _)=>bif isin p U then qu pl U r else qu pl (U++[p]) r
  |_=>qu pl U r
def at?:am Nat->Nat->aA Nat
 |[],_=>none
 |x::_,0=>some x
 |_::r,n+1=>at? r n
def Jg(pl:am (Nat×Pl)):Nat->Nat->am Nat->am Nat
 |0,_,U=>U
 |n+1,i,U=>match at? U i with
  |some p=>match aget pl p with
   |some (.box cs)=>Jg pl n (i+1) (qu pl U (aaA cs))
   |_=>Jg pl n (i+1) U
  |none=>U
def uH(pl:am (Nat×Pl))(U l:am Nat):am Nat:=Jg pl 40 0 (qu pl U l)
def aBD(pl:am (Nat×Pl))(U:am Nat)(v:V):Res:=⟨v.pk pl U,u9 pl U 0 U⟩
def azr(pl:am (Nat×Pl))(U:am Nat)(v:V):Res:=aBD pl (uH pl U v.refs) v
def gl(k:Nat):Bool:=bD k 1
def Psi(w:aB):Prop:=(∀k,gl k=true->∃m,w.cell? ⟨k,0,none⟩=some (.int .i64 m))/\
 Go.Lib.PrintTabsAt 4 5 6 7 Go.Lib.goPrintTabs w/\Go.Lib.Utf8Tabs 2 3 w/\
 ∃t f,w.heap[1]?=some (.cells (Go.Lib.pow10Tab.map λz=>c7 .u64 z).toArray t f)
theorem Psi.int{w:aB}(h:Psi w){k:Nat}(hk:gl k=true):∃m,w.cell? ⟨k,0,none⟩=some (.int .i64 m):=h.1 k hk
def ahf(ks:am Value)(g:am bG)(clock:Nat):Prop:=g.map (·.key)=ks/\ks.Nodup/\(∀e∈g,e.born<clock)/\(g.map (·.born)).Nodup
def aAX(j:am bG)(clock g:Nat)(arr:am Nat)(st:Nat)(seen:am Nat):Prop:=arr=seen.reverse.filterMap (λi=>j[i]?.map (·.born))/\(∀i∈seen,i<j.length)/\seen.Nodup/\g=clock/\st=clock
mutual
def RD(w:aB)(ok:Nat->Prop):D->Value->Prop
 |.lit v,x=>x=v/\v.oneCell'=true
 |.sl l,x=>∃a n c,x=.slice a n c/\n=l.length/\n<=c/\c<=maxLen/\(l=[]\/∃b o sz,a=some ⟨b,o,none⟩/\ok b/\RDs w ok b sz o l)
 |.fn f g,x=>∃vs:am Value,x=.func (.func f) #[] vs.toArray/\RDf w ok vs g
 |.ifc t l,x=>∃vs:am Value,x=.iface t (.agg vs.toArray)/\RDv w ok vs l
 |.mp ag ks l,x=>∃b i clock,x=.map (some b)/\ok b/\w.heap[b]?=some (.map i clock)/\ahf ks i.toList clock/\RDe w ok ag i.toList l
def RDs(w:aB)(ok:Nat->Prop)(b sz:Nat):Nat->am (am D)->Prop
 |_,[]=>True
 |o,e::r=>e.length=sz/\RDc w ok b o e/\RDs w ok b sz (o+sz) r
def RDc(w:aB)(ok:Nat->Prop)(b:Nat):Nat->am D->Prop
 |_,[]=>True
 |o,d::r=>(∃v,w.cell? ⟨b,o,none⟩=some v/\RD w ok d v)/\RDc w ok b (o+1) r
def RDf(w:aB)(ok:Nat->Prop):am Value->am (am D)->Prop
 |vs,[]=>vs=[]
 |vs,c::r=>∃b o g,vs=.pointer (some ⟨b,o,none⟩)::g/\ok b/\RDc w ok b o c/\RDf w ok g r
def RDv(w:aB)(ok:Nat->Prop):am Value->am D->Prop
 |vs,[]=>vs=[]
 |vs,d::r=>∃v g,vs=v::g/\RD w ok d v/\RDv w ok g r
def RDe(w:aB)(ok:Nat->Prop)(ag:Bool):am bG->am (am D)->Prop
 |i,[]=>i=[]
 |i,e::r=>∃m g vs,i=m::g/\(bif ag then m.val=.agg vs.toArray else vs=[m.val])/\RDv w ok vs e/\RDe w ok ag g r
end
mutual
def RT(w:aB)(ok:Nat->Prop):T->Value->am Nat->Prop
 |.d x,v,fp=>RD w ok x v/\fp=[]
 |.sl sz l,v,fp=>(l=[]/\v=.slice none 0 0/\fp=[])\/
  ∃b cap t g i,v=.slice (some ⟨b,0,none⟩) l.length cap/\l.length<=cap/\cap<=maxLen/\w.heap[b]?=some (.cells g t (0,0))/\g.size=cap*sz/\RTs w ok sz l g.toList i/\fp=b::i
 |.bx cs,v,fp=>∃b t g i,v=.pointer (some ⟨b,0,none⟩)/\w.heap[b]?=some (.cells g t (0,0))/\RTc w ok cs g.toList i/\fp=b::i
 |.mp ag ks vs,v,fp=>∃b o clock i,v=.map (some b)/\w.heap[b]?=some (.map o clock)/\ahf ks o.toList clock/\RTm w ok ag vs o.toList i/\fp=b::i
 |.mpi ag ks vs seen,v,fp=>∃b p o clock j arr st i,v=.map (some b)/\w.heap[b]?=some (.map o clock)/\ahf ks o.toList clock/\w.heap[p]?=some (.mapIter (some b) j arr st)/\aAX o.toList clock j arr.toList st seen/\RTm w ok ag vs o.toList i/\fp=b::p::i
 |.hole,_,fp=>fp=[]
def RTc(w:aB)(ok:Nat->Prop):am T->am Value->am Nat->Prop
 |[],vs,fp=>vs=[]/\fp=[]
 |t::r,vs,fp=>∃v i f g,vs=v::i/\RT w ok t v f/\RTc w ok r i g/\fp=f++g
def RTs(w:aB)(ok:Nat->Prop)(sz:Nat):am (am T)->am Value->am Nat->Prop
 |[],_,fp=>fp=[]
 |e::r,vs,fp=>∃f g,e.length=sz/\RTc w ok e (vs.take sz) f/\RTs w ok sz r (vs.drop sz) g/\fp=f++g
def RTm(w:aB)(ok:Nat->Prop)(ag:Bool):am (am T)->am bG->am Nat->Prop
 |[],j,fp=>j=[]/\fp=[]
 |e::r,j,fp=>∃m i vs f g,j=m::i/\(bif ag then m.val=.agg vs.toArray else vs=[m.val])/\RTc w ok e vs f/\RTm w ok ag r i g/\fp=f++g
end
structure Gh where
 b:aA Nat
 n:Nat
 v:Value:=.nilFunc
 bs:am Nat:=[]
def CR(ι:Nat->Gh)(w:aB)(ok:Nat->Prop):C->Value->Prop
 |.dead,_=>True
 |.d x,v=>RD w ok x v
 |.nil,v=>v=.slice none 0 0
 |.ptr p off,v=>∃b,(ι p).b=some b/\v=.pointer (some ⟨b,off,none⟩)
 |.eptr p sz i k,v=>∃b,(ι p).b=some b/\v=.pointer (some ⟨b,i*sz+k,none⟩)
 |.own p sz n,v=>((ι p).b=none/\n=0/\v=.slice none 0 0)\/
  ∃b cap t,(ι p).b=some b/\n<=(ι p).n/\v=.slice (some ⟨b,0,none⟩) n cap/\n<=cap/\cap<=maxLen/\w.shape? b=some (t,cap*sz)
 |.sub p sz off n,v=>∃j c,v=.slice j n c/\n<=c/\c<=maxLen/\(n=0\/∃b,(ι p).b=some b/\j=some ⟨b,off*sz,none⟩/\off+n<=(ι p).n)
 |.fp cells,v=>∃b o,v=.pointer (some ⟨b,o,none⟩)/\ok b/\RDc w ok b o cells
 |.clo f g,v=>∃l:am Nat,g.map (λp=>(ι p).b)=l.map some/\v=.func (.func f) #[] (l.map λb=>cY (some ⟨b,0,none⟩)).toArray
 |.root p,v=>v=(ι p).v/\v.oneCell'=true
 |.iter p,v=>∃b,(ι p).b=some b/\v=.pointer (some ⟨b,0,none⟩)
def CRs(ι:Nat->Gh)(w:aB)(ok:Nat->Prop):am C->am Value->Prop
 |[],[]=>True
 |c::cs,v::vs=>CR ι w ok c v/\CRs ι w ok cs vs
 |_,_=>False
def WR(ι:Nat->Gh)(w:aB)(ok:Nat->Prop):W->Value->Prop
 |.c x,v=>CR ι w ok x v
 |.agg cs,v=>∃vs:am Value,v=.agg vs.toArray/\CRs ι w ok cs vs
def qq(ι:Nat->Gh)(w:aB)(ok:Nat->Prop):am W->am Value->Prop
 |[],[]=>True
 |c::cs,v::vs=>WR ι w ok c v/\qq ι w ok cs vs
 |_,_=>False
def VR(ι:Nat->Gh)(w:aB)(ok:Nat->Prop):V->Value->Prop
 |.w x,v=>WR ι w ok x v
 |.tup xs,v=>∃vs:am Value,v=.tuple vs.toArray/\qq ι w ok xs vs
def T.link:T->am Nat->aA Nat->Prop
 |.mpi _ _ _ _,g,b=>g[1]?=b
 |_,_,_=>True
def RowAt(w:aB)(b:Nat)(g:aE Value):Prop:=∃t,w.heap[b]?=some (.cells g t (0,0))
def PR(ι:Nat->Gh)(w:aB)(ok:Nat->Prop)(p:Nat):Pl->Prop
 |.box cs=>∃b g,(ι p).b=some b/\RowAt w b g/\CRs ι w ok cs g.toList
 |.arr sz i j=>0<sz/\i.length=(ι p).n/\(((ι p).b=none/\i=[])\/
  ∃b,(ι p).b=some b/\RDs w ok b sz 0 i/\(j=true->ok b)/\(j=false->∃g,RowAt w b g/\i.length*sz<=g.size))
 |.fbox l=>∃b,(ι p).b=some b/\ok b/\RDc w ok b 0 l
 |.deep t=>((ι p).bs.Nodup/\t.link (ι p).bs (ι p).b)/\RT w ok t (ι p).v (ι p).bs
 |.gone=>False
def Pl.live:Pl->Bool
 |.box _=>true
 |.arr _ _ g=>!g
 |.fbox _=>false
 |.deep _=>true
 |.gone=>false
def foot(ι:Nat->Gh)(p:Nat):Pl->Nat->Prop
 |.deep _,b=>b∈(ι p).bs
 |_,b=>(ι p).b=some b
def Owns(ι:Nat->Gh)(pl:am (Nat×Pl))(b:Nat):Prop:=∃p x,aget pl p=some x/\x.live=true/\foot ι p x b
structure Fr where
 w0:aB
 A:Nat->Prop
 M:Nat->Prop
 h:Nat->aA Gh
def Fr.ok(F:Fr)(ι:Nat->Gh)(pl:am (Nat×Pl))(w:aB)(b:Nat):Prop:=
 (F.A b\/F.M b\/F.w0.heap.size<=b)/\b<w.heap.size/\¬Owns ι pl b
def Out(w w':aB):Prop:=w'.output=w.output
theorem Out.refl(w:aB):Out w w:=rfl
theorem Out.trans{a b c:aB}(k:Out b c)(h:Out a b):Out a c:=Eq.trans k h
structure Grows(M:Nat->Prop)(w w':aB):Prop where
 os:w'.os=w.os
 tape:w'.tape=w.tape
 output:Out w w'
 size:w.heap.size<=w'.heap.size
 block:∀b,b<w.heap.size->¬M b->w'.heap[b]?=w.heap[b]?
 shapes:∀b t m,w.shape? b=some (t,m)->w'.shape? b=some (t,m)
def Glb(A:Nat->Prop)(w:aB):Prop:=∀w':aB,(∀b,A b->w'.heap[b]?=w.heap[b]?)->Psi w'
theorem Glb.mono{A B:Nat->Prop}{w w':aB}(h:Glb A w)(g:∀b,A b->B b)(l:∀b,A b->w'.heap[b]?=w.heap[b]?):Glb B w':=
 λo j=>h o λb i=>(j b (g b i)).trans (l b i)
theorem Glb.psi{A:Nat->Prop}{w:aB}(h:Glb A w):Psi w:=h w λ_ _=>rfl
structure Rel(F:Fr)(N:Nat)(ι:Nat->Gh)(s:S)(a:Act)(w:aB):Prop where
 room:N<=a.tmps.size/\∀g,F.h 599999=some g->a.tmps.size=g.n
 slots:∀k v,aget s.sl k=some v->∃x,a.tmps[k]?=some x/\VR ι w (F.ok ι s.pl w) v x
 places:∀p x,aget s.pl p=some x->PR ι w (F.ok ι s.pl w) p x
 inj:∀p q x y b,aget s.pl p=some x->aget s.pl q=some y->p≠q->x.live=true->foot ι p x b->¬foot ι q y b
 mine:∀b,Owns ι s.pl b->(F.M b\/F.w0.heap.size<=b)/\b<w.heap.size
 defers:a.defers=[]
 grows:Grows F.M F.w0 w
 foreign:∀b,F.A b->b<F.w0.heap.size/\¬F.M b
 handed:(∀b,F.M b->b<F.w0.heap.size)/\Glb F.A F.w0
 few:N<=5000
 hdom:∀p g,F.h p=some g->100000<=p/\p<600000
 hkeep:∀p x g,aget s.pl p=some x->F.h p=some g->ι p=g
def Za(s t:S):Prop:=∀(F:Fr) (N:Nat) (ι:Nat->Gh) (a:Act) (w:aB),Rel F N ι s a w->∃ι',Rel F N ι' t a w
theorem Za.refl(s:S):Za s s:=λ_ _ ι _ _ h=>⟨ι,h⟩
theorem Za.trans{s t u:S}(h:Za s t)(k:Za t u):Za s u:=λF N ι a w hr=>let⟨ι1,g⟩:=h F N ι a w hr;k F N ι1 a w g
def ZW(F:Fr)(ι0:Nat->Gh)(m:Nat)(w':aB)(r:Res)(v:Value):Prop:=
 m<=r.pl.length/\∃ι:Nat->Gh,
  let pl:=yR (zY 0 r.pl.length) r.pl
  let ok:=F.ok ι pl w'
  VR ι w' ok r.v v/\(∀p x,aget pl p=some x->PR ι w' ok p x)/\(∀p q x y b,aget pl p=some x->aget pl q=some y->p≠q->foot ι p x b->¬foot ι q y b)/\
  (∀p x b,aget pl p=some x->foot ι p x b->F.M b\/F.w0.heap.size<=b)/\(∀p x,aget pl p=some x->x.live=true)/\(∀p x,p<m->aget pl p=some x->ι p=ι0 p)
def aaY(F:Fr)(w':aB)(r:Res)(v:Value):Prop:=ZW F (λ_=>⟨none,0,.nilFunc,[]⟩) 0 w' r v
def xZ(P:Program)(k:Nat):Bool:=
 match P.funcs[k]? with
 |some fn=>fn.body.isSome&& !(fn.name== "runtime.NumGoroutine")
 |none=>false
def Sat(P:Program)(k:Nat)(args:am W)(Q:Res->Prop):Prop:=
 xZ P k=true/\∀(w:aB) (A:Nat->Prop) (vals:am Value),((∀b,A b->b<w.heap.size)/\Glb A w)->qq (λ_=>⟨none,0,.nilFunc,[]⟩) w A args vals->
  Calls P k vals.toArray w λe w'=>∃v r,e=.returned v/\Q r/\aaY ⟨w,A,λ_=>False,λ_=>none⟩ w' r v/\Grows (λ_=>False) w w'
theorem Sat.mono{P:Program}{k:Nat}{args:am W}{Q Q':Res->Prop}(h:Sat P k args Q)(p:∀r,Q r->Q' r):Sat P k args Q':=
 ⟨h.1,λw A vals g i=>(h.2 w A vals g i).mono λ_ _ ⟨v,r,o,j,l⟩=>⟨v,r,o,p r j,l⟩⟩
def Handed(ι:Nat->Gh)(hs:am Pl)(b:Nat):Prop:=∃i x,hs[i]?=some x/\foot ι i x b
def zA(P:Program)(k:Nat)(args:am W)(hs:am Pl)(Q:Res->Prop):Prop:=
 xZ P k=true/\∀(w:aB) (A:Nat->Prop) (ι:Nat->Gh) (vals:am Value),(∀b,A b->b<w.heap.size/\¬Handed ι hs b)->((∀b,Handed ι hs b->b<w.heap.size)/\Glb A w)->
  (∀i x,hs[i]?=some x->PR ι w A i x/\x.live=true)->(∀i j x y b,hs[i]?=some x->hs[j]?=some y->i≠j->foot ι i x b->¬foot ι j y b)->qq ι w A args vals->
  Calls P k vals.toArray w λe w'=>∃v r,e=.returned v/\Q r/\ZW ⟨w,A,Handed ι hs,λ_=>none⟩ ι hs.length w' r v/\Grows (Handed ι hs) w w'
theorem zA.mono{P:Program}{k:Nat}{args:am W}{hs:am Pl}{Q Q':Res->Prop}(h:zA P k args hs Q)(R:∀r,Q r->Q' r):zA P k args hs Q':=
 ⟨h.1,λw A ι vals g i j l o=>(h.2 w A ι vals g i j l o).mono λ_ _ ⟨v,r,J,p,I⟩=>⟨v,r,J,R r p,I⟩⟩
inductive O where
 |t (n:Nat)
 |k (v:V)
inductive AOp where
 |mov (x:O)
 |pick (c a b:O)
 |alloc (cs:am C)
 |bx (x:O)
 |build (zero:am C) (parts:am (Nat×Nat×O))
 |lits (sz:Nat) (parts:am O)
 |ld (agg:Bool) (sz:Nat) (x:O)
 |st (sz:Nat) (a x:O)
 |nc (x:O)
 |b2s (x:O)
 |s2b (x:O)
 |clo (f:Nat) (caps:am O)
 |clof (f:Nat) (caps:am O)
 |slen (x:O)
 |cap (x:O)
 |cpy (sz:Nat) (x y:O)
 |clr (sz:Nat) (z:am D) (x:O)
 |slw (sz:Nat) (x:O) (lo hi:aA O)
 |bnot (x:O)
 |ineg (x:O)
 |beq (neg:Bool) (x y:O)
 |shf (left:Bool) (x y:O)
 |stop
 |conv (k:aP) (x:O)
 |eqa (neg:Bool) (ks:am Nat) (x y:O)
 |callh (f:Nat) (args:am O)
 |mk (sz bytes:Nat) (z:am D) (n c:O)
 |sli (sz:Nat) (x:O) (lo hi:aA O)
 |sls (x:O) (lo hi:aA O)
 |fa (off:Nat) (x:O)
 |fld (agg:Bool) (sz off:Nat) (x:O)
 |ia (sz:Nat) (x i:O)
 |six (x i:O)
 |ext (x:O) (i:Nat)
 |len (x:O)
 |app (sz bytes:Nat) (x y:O)
 |apps (x y:O)
 |appz (sz bytes:Nat) (z:am D) (x n:O)
 |bin (o:bX) (x y:O)
 |isn (neg:Bool) (x:O)
 |mm (mx:Bool) (x y:O)
 |mmt (mx:Bool) (x y z:O)
 |pure (o:Op) (ty:TypeId)
 |call (f:Nat) (args:am O)
 |calv (x:O) (args:am O)
 |mki (t:TypeId) (x:O)
 |ast (t:TypeId) (z:W) (x:O)
 |inv (tb:am (Nat×Nat)) (x:O) (args:am O)
 |mkm (ag:Bool)
 |lku (ok ag:Bool) (ky:aA aP) (z:W) (x i:O)
 |mup (ag:Bool) (ky:aA aP) (m k v:O)
 |rng (x:O)
 |nxt (x:O)
 |ent (x:O)
inductive AI where
 |mk (dst:aA Nat) (g:aA (Nat×Bool)) (isG:Bool) (op:AOp) (drop:am Nat)
inductive ATr where
 |fin
 |run (ops:am AI) (t:ATr)
 |br (a b:ATr)
inductive ACode where
 |skip
 |reg (ops:am AI)
 |seq (a b:ACode)
 |cond (c:O) (a b:ACode)
 |block (id:Nat) (a:ACode)
 |loop (keep:am Nat) (a:ACode)
 |scope (a:ACode)
 |exit (id:Nat)
 |ret
 |tree (t:ATr)
inductive ARes where
 |tmp (t:Nat)
 |cell (a:Nat) (agg:Bool) (sz:Nat)
structure AFun where
 code:ACode
 res:am ARes
def zW(P:Program)(t:TypeId):Nat:=match P.info? t with|some i=>i.size|none=>0
def uX(P:Program)(t:TypeId):Nat:=match P.info? t with|some i=>i.bytes|none=>0
def UJ(P:Program)(t:TypeId):aA Bool:=match P.underlying t with|some (.struct _)=>some true|some (.array _ _)=>some true|some _=>some false|none=>none
def qo(P:Program)(t:TypeId):W:=match P.info? t with|some i=>(match i.zero with|some v=>ofValue v|none=>.c .dead)|none=>.c .dead
def uj(P:Program)(t:TypeId):aA TypeId:=match P.underlying t with|some (.slice e)=>some e|_=>none
def Ku(P:Program)(t:TypeId)(f:Nat):aA (Nat×TypeId):=
 match P.underlying t with
 |some (.struct g)=>match g[f]? with|some x=>some (x.offset,x.type)|none=>none
 |_=>none
def qL(P:Program)(t:TypeId)(s:Bool):Bool:=
 match P.underlying t with
 |some .string=>s
 |some (.slice e)=>match P.underlying e with|some (.int .u8)=>!s|_=>false
 |_=>false
def ahQ(P:Program):am cK->Bool
 |[]=>true
 |f::r=>bif isSome (P.info? f.type)then ahQ P r else false
def jk(P:Program)(t:TypeId):Bool:=match P.info? t with|some i=>isSome i.zero|none=>false
def uY(P:Program)(t:TypeId):Bool:=match P.info? t with|some i=>(match i.zero with|some z=>aI z.cells.size i.size|none=>false)|none=>false
def aeL(P:Program)(t:TypeId):Bool:=
 match P.underlying t with
 |some (.int _)=>true
 |some .string=>true
 |_=>false
def abJ:bX->Bool
 |.quo=>true|.rem=>true|.and=>true|.or=>true|.xor=>true|.andNot=>true
 |.add=>true|.sub=>true|.mul=>true|.eql=>true|.neq=>true|.lss=>true|.leq=>true|.gtr=>true|.geq=>true
 |_=>false
def aar(P:Program)(b:bX)(t:TypeId)(y:aF):aA Bool:=
 match y with
 |.const (.slice none _ _)=>match P.underlying t with
   |some (.slice _)=>match b with
    |.eql=>some false
    |.neq=>some true
    |_=>none
   |_=>none
 |_=>none
def cO:aF->O
 |.tmp t=>.t t
 |.const v=>.k (.w (ofValue v))
 |.global _=>.k asj
 |.func f=>.k (.w (.c (.clo f [])))
def aeI(P:Program)(t:TypeId):aA Nat:=
 match P.underlying t with
 |some (.int _)=>some 0
 |some .string=>some 1
 |some .bool=>some 2
 |_=>none
def aeH(P:Program):Nat->am cK->aA (am Nat)
 |_,[]=>some []
 |o,f::r=>bif aI f.offset o&& !(f.name== "_")&&P.plainKey f.type then
  match aeI P f.type,aeH P (o+1) r with
  |some k,some l=>some (k::l)
  |_,_=>none
  else none
def azn(P:Program)(t:TypeId):aA (am Nat):=
 match P.underlying t with
 |some (.struct g)=>bif !P.stoodInHeld t&&!P.eqGuardType P.depth t then aeH P 0 g.toList else none
 |_=>none
def KU(P:Program)(b:bX)(t:TypeId)(x y:aF):aA AOp:=
 match azn P t with
 |some n=>match b with
  |.eql=>some (.eqa false n (cO x) (cO y))
  |.neq=>some (.eqa true n (cO x) (cO y))
  |_=>none
 |none=>none
def kI(P:Program)(b:UnOp)(t:TypeId)(x:aF):aA AOp:=
 match b with
 |.not=>some (.bnot (cO x))
 |.neg=>match P.underlying t with|some (.int _)=>some (.ineg (cO x))|_=>none
 |_=>none
def U2(P:Program)(b:bX)(t:TypeId)(x y:aF):aA AOp:=
 match b with
 |.eql=>match P.underlying t with|some .bool=>some (.beq false (cO x) (cO y))|_=>none
 |.neq=>match P.underlying t with|some .bool=>some (.beq true (cO x) (cO y))|_=>none
 |.shl=>match P.underlying t with|some (.int _)=>some (.shf true (cO x) (cO y))|_=>none
 |.shr=>match P.underlying t with|some (.int _)=>some (.shf false (cO x) (cO y))|_=>none
 |_=>none
def V2(P:Program)(g dst:TypeId)(x:aF):aA AOp:=
 match P.underlying g with
 |some (.int _)=>match P.underlying dst with
  |some (.int k)=>some (.conv k (cO x))
  |_=>none
 |_=>none
def K7(P:Program)(t:TypeId)(x:aF):aA AOp:=
 match P.underlying t with
 |some .string=>some (.slen (cO x))
 |_=>none
def WP{α:Type}(c:Bool)(x:α):aA α:=bif c then some x else none
def acW(P:Program)(t:TypeId):am (Nat×aF)->aA (am (Nat×Nat×O))
 |[]=>some []
 |(i,x)::r=>match Ku P t i,acW P t r with
  |some (off,g),some l=>some ((off,zW P g,cO x)::l)
  |_,_=>none
def gZ:Nat->am (Nat×aF)->Bool
 |_,[]=>true
 |i,(j,_)::r=>aI i j&&gZ (i+1) r
def adD(b:aG)(l:am aF):aA AOp:=
 match b with
 |.min=>match l with|[x,y]=>some (.mm false (cO x) (cO y))|[x,y,z]=>some (.mmt false (cO x) (cO y) (cO z))|_=>none
 |.max=>match l with|[x,y]=>some (.mm true (cO x) (cO y))|[x,y,z]=>some (.mmt true (cO x) (cO y) (cO z))|_=>none
 |_=>none
def U3(P:Program)(b:aG)(l:am aF)(g:am TypeId):aA AOp:=
 match b with
 |.cap=>match l,g with
   |[x],[t]=>match uj P t with
     |some _=>some (.cap (cO x))
     |none=>none
   |_,_=>none
 |.copy=>match l,g with
   |[x,y],[t,u]=>match uj P t,P.underlying u with
     |some e,some (.slice _)=>WP (bD 0 (zW P e)&&uY P e) (.cpy (zW P e) (cO x) (cO y))
     |_,_=>none
   |_,_=>none
 |.clear=>match l,g with
   |[x],[t]=>match uj P t with
     |some e=>match uC [] (qo P e).cells with
      |some (z,_)=>WP (bD 0 (zW P e)&&aI z.length (zW P e)&&uY P e) (.clr (zW P e) z (cO x))
      |none=>none
     |none=>none
   |_,_=>none
 |_=>none
def ahT(P:Program)(m:String)(t:TypeId):aA FuncId:=
 match P.underlying t,P.info? t with
 |some (.struct _),some i=>match i.methods.find? (λx=>x.name==m)with
  |some x=>match x.func with
   |some (f,false)=>bif x.path.isEmpty then some f else none
   |_=>none
  |none=>none
 |_,_=>none
def g9(P:Program)(m:String):Nat->am (Nat×Nat)
 |0=> []
 |n+1=>match ahT P m n with
  |some f=>(n,f)::g9 P m n
  |none=>g9 P m n
def wC:aA aP->Value->Bool
 |none,.string _=>true
 |some κ,.int κ' _=>decide (κ'=κ)
 |_,_=>false
def jo:aA aP->TypeDesc
 |none=>.string
 |some κ=>.int κ
def abt(P:Program)(t:TypeId):aA (aA aP×Bool×TypeId):=
 match P.underlying t with
 |some (.map k e)=>match P.underlying k,UJ P e with
  |some .string,some g=>some (none,g,e)
  |some (.int κ),some g=>some (some κ,g,e)
  |_,_=>none
 |_=>none
def cOp(P:Program)(op:Op)(ty:TypeId):aA AOp:=
 match op with
 |.move x=>some (.mov (cO x))
 |.assign x=>some (.mov (cO x))
 |.pick c a b=>some (.pick (cO c) (cO a) (cO b))
 |.alloc t=>some (.alloc (qo P t).cells)
 |.box _ x=>some (.bx (cO x))
 |.build t parts=>match P.underlying t,acW P t parts.toList with
   |some (.struct I),some l=>WP (ahQ P I.toList&&solid (qo P t).cells) (.build (qo P t).cells l)
   |_,_=>none
 |.buildSlice t n parts=>match uj P t with
   |some e=>WP (bD 0 (zW P e)&&aI n parts.toList.length&&bZ (n*zW P e) 16777216&&gZ 0 parts.toList&&jk P e) (.lits (zW P e) (parts.toList.map λx=>cO x.2))
   |none=>none
 |.load t a=>match UJ P t with|some g=>some (.ld g (zW P t) (cO a))|none=>none
 |.store t a x=>WP (isSome (P.info? t)) (.st (zW P t) (cO a) (cO x))
 |.nilCheck x=>some (.nc (cO x))
 |.convert j dst x=>bif qL P j false&&qL P dst true then some (.b2s (cO x))else bif qL P j true&&qL P dst false then some (.s2b (cO x))else match V2 P j dst x with
   |some z=>some z
   |none=>some (.pure op ty)
 |.makeFunc (.func f) first o=>WP first.toList.isEmpty (.clo f (o.toList.map cO))
 |.makeSlice t n c=>match uj P t with
   |some e=>match uC [] (qo P e).cells with
    |some (z,_)=>WP (bD 0 (zW P e)&&aI z.length (zW P e)) (.mk (zW P e) (uX P e) z (cO n) (cO c))
    |none=>none
   |none=>none
 |.slice t x lo hi J=>match J,P.underlying t with
   |none,some .string=>some (.sls (cO x) (lo.map cO) (hi.map cO))
   |none,some (.slice e)=>WP (isSome (P.info? e)) (.sli (zW P e) (cO x) (lo.map cO) (hi.map cO))
   |_,_=>none
 |.fieldAddr t x f=>match Ku P t f with
   |some (off,p)=>WP (bD 0 (zW P p)) (.fa off (cO x))
   |none=>none
 |.field t x f=>match Ku P t f with
   |some (off,p)=>match UJ P p with|some g=>some (.fld g (zW P p) off (cO x))|none=>none
   |none=>none
 |.indexAddr t x i=>match uj P t with
   |some e=>WP (bD 0 (zW P e)) (.ia (zW P e) (cO x) (cO i))
   |none=>none
 |.index t x i=>match P.underlying t with
   |some .string=>some (.six (cO x) (cO i))
   |_=>none
 |.extract x i=>some (.ext (cO x) i)
 |.call {callee:=.builtin .len,args,argTypes}=>match args.toList,argTypes.toList with
   |[x],[t]=>match uj P t with
     |some _=>some (.len (cO x))
     |none=>match K7 P t x with
      |some z=>some z
      |none=>some (.pure op ty)
   |_,_=>none
 |.call {callee:=.builtin .append,args,argTypes}=>match args.toList,argTypes.toList with
   |[x,y],[t,u]=>match uj P t,P.underlying u with
     |some e,some (.slice _)=>WP (bD 0 (zW P e)&&uY P e) (.app (zW P e) (uX P e) (cO x) (cO y))
     |some e,some (.int _)=>match uC [] (qo P e).cells with
      |some (z,_)=>WP (bD 0 (zW P e)&&aI z.length (zW P e)&&uY P e) (.appz (zW P e) (uX P e) z (cO x) (cO y))
      |none=>none
     |some e,some .string=>WP (aI (zW P e) 1&&aI (uX P e) 1&&uY P e) (.apps (cO x) (cO y))
     |_,_=>none
   |_,_=>none
 |.call {callee:=.value (.func f),args,argTypes:=_}=>some (.call f (args.toList.map cO))
 |.call {callee:=.value x,args,argTypes:=_}=>some (.calv (cO x) (args.toList.map cO))
 |.call {callee:=.builtin b,args,argTypes}=>match adD b args.toList with
   |some x=>some x
   |none=>match U3 P b args.toList argTypes.toList with
    |some x=>some x
    |none=>some (.pure op ty)
 |.binOp b t x y _=>match aar P b t y with
   |some neg=>some (.isn neg (cO x))
   |none=>match KU P b t x y with
    |some z=>some z
    |none=>match U2 P b t x y with
    |some z=>some z
    |none=>bif abJ b&&aeL P t then some (.bin b (cO x) (cO y))else some (.pure op ty)
 |.unOp b t x=>match kI P b t x with
   |some z=>some z
   |none=>some (.pure op ty)
 |.makeInterface t x=>match P.underlying t with
   |some (.struct _)=>some (.mki t (cO x))
   |_=>some .stop
 |.typeAssert x _ t c=>match P.underlying t with
   |some (.struct _)=>WP (c&&jk P t) (.ast t (qo P t) (cO x))
   |_=>some .stop
 |.call {callee:=.invoke x m,args,argTypes:=_}=>some (.inv (g9 P m P.types.size) (cO x) (args.toList.map cO))
 |.select _ _=>none
 |.makeMap t none=>match abt P t with
   |some (_,g,_)=>some (.mkm g)
   |none=>some .stop
 |.lookup t x i ok=>match abt P t with
   |some (r,g,e)=>bif jk P e then some (.lku ok g r (qo P e) (cO x) (cO i))else some .stop
   |none=>some .stop
 |.mapUpdate t m k v=>match abt P t with
   |some (r,g,_)=>some (.mup g r (cO m) (cO k) (cO v))
   |none=>some .stop
 |.range t x=>match P.underlying t with
   |some (.map _ _)=>some (.rng (cO x))
   |_=>some .stop
 |.next x str=>bif str then some .stop else some (.nxt (cO x))
 |.entry x=>some (.ent (cO x))
 |_=>some .stop
def jj:am Oper->am Nat
 |[]=> []
 |o::r=>match o.guard with
  |some (j,_)=>bif isin j (jj r)then jj r else j::jj r
  |none=>jj r
def ams(ops:am Oper)(j:Nat):aA Tmp:=match ops[j]? with|some o=>o.dst|none=>none
def Yk(all:am Oper)(g:aA (Nat×Bool)):aA (aA (Nat×Bool)):=
 match g with
 |none=>some none
 |some (j,w)=>match ams all j with
  |some d=>some (some (d,w))
  |none=>none
def amt(N:Nat):aA Tmp->Bool
 |some d=>bD d N
 |none=>true
def awE(P:Program)(op:Op)(ty:TypeId):aA AOp:=
 match op with
 |.makeFunc (.func f) first g=>WP first.toList.isEmpty (.clof f (g.toList.map cO))
 |.call {callee:=.value (.func f),args,argTypes:=_}=>some (.callh f (args.toList.map cO))
 |.slice t x lo hi none=>match P.underlying t with
   |some (.slice e)=>WP (isSome (P.info? e)) (.slw (zW P e) (cO x) (lo.map cO) (hi.map cO))
   |_=>cOp P op ty
 |op=>cOp P op ty
def Q6(P:Program)(b:Bool)(op:Op)(ty:TypeId):aA AOp:=bif b then awE P op ty else cOp P op ty
def Xr(P:Program)(N:Nat)(hs:am Nat)(all:am Oper)(gs:am Nat):am Nat->aA (am AI)
 |[]=>some []
 |i::r=>match all[i]? with
  |some o=>bif amt N o.dst then
   match Q6 P (isin i hs) o.op o.type,Yk all o.guard,Xr P N hs all gs r with
   |some x,some g,some l=>some (.mk o.dst g (isin i gs) x []::l)
   |_,_,_=>none
   else none
  |none=>none
def AOp.quiet:AOp->Bool
 |.mov _=>true|.pick _ _ _=>true|.ld _ _ _=>true|.nc _=>true|.b2s _=>true|.sli _ _ _ _=>true|.sls _ _ _=>true|.fa _ _=>true|.fld _ _ _ _=>true
 |.ia _ _ _=>true|.six _ _=>true|.ext _ _=>true|.len _=>true|.bin _ _ _=>true|.pure _ _=>true|.build _ _=>true|.isn _ _=>true|.mm _ _ _=>true|.mmt _ _ _ _=>true
 |.lku _ _ _ _ _ _=>true
 |.slen _=>true|.bnot _=>true|.ineg _=>true|.beq _ _ _=>true|.shf _ _ _=>true|.conv _ _=>true|.eqa _ _ _ _=>true
 |_=>false
def AOp.reads:AOp->Bool
 |.ld _ _ _=>true|.b2s _=>true|.lku _ _ _ _ _ _=>true
 |_=>false
def Yu:AOp->Bool
 |.call _ _=>true|.calv _ _=>true|.bx _=>true|.lits _ _=>true|.mk _ _ _ _ _=>true|.s2b _=>true
 |_=>false
def adm(o:Oper):AOp->Bool
 |.alloc cs=>solid cs&&!isSome o.guard&&isSome o.dst
 |_=>false
def JK(P:Program)(o:Oper):Nat:=
 match cOp P o.op o.type with
 |some x=>bif x.quiet then(bif x.reads then 2 else 1)else bif Yu x then 3 else bif adm o x then 4 else 0
 |none=>0
def clsAt(P:Program)(hs:am Nat)(ops:aE Oper)(j:Nat):Nat:=bif isin j hs then 0 else match ops[j]? with|some o=>bif aI (JK P o) 4&&isin 999999 hs then 3 else JK P o|none=>0
def ai2{α:Type}(f:α->Bool):am α->Bool|[]=>false|x::r=>bif f x then true else ai2 f r
def ZX{α:Type}(f:α->Bool):am α->Bool|[]=>true|x::r=>bif f x then ZX f r else false
def ath(ops:aE Oper)(d:aA Tmp)(o:Oper):Bool:=
 match d with
 |some t=>!isin t (o.looksAt ops)&&(match o.dst with|some e=>!Nat.beq e t|none=>true)
 |none=>true
def am0(ops:aE Oper)(x y:Oper):Bool:=ath ops x.dst y&&(match y.dst with|some e=>!isin e (x.looksAt ops)|none=>true)
def waitsFor(ops:aE Oper)(j:Nat)(f:Nat->Bool):Bool:=match ops[j]? with|some o=>ai2 (λe=>Region.binds .any e&&f e.on) o.after.toList|none=>true
def dstOf(ops:aE Oper)(j:Nat):aA Tmp:=match ops[j]? with|some o=>o.dst|none=>none
def aqM(P:Program)(hs:am Nat)(ops:aE Oper)(o:Oper)(c j:Nat):Bool:=match ops[j]? with|some y=>am0 ops o y&&(aI c 1||bZ 1 (clsAt P hs ops j))|none=>false
def depsL(P:Program)(hs:am Nat)(ops:aE Oper)(i:Nat):am Nat->am Nat->am Nat
 |[],T=>T
 |j::r,T=>depsL P hs ops i r (bif !Nat.beq (clsAt P hs ops j) 4&&waitsFor ops j (λn=>aI n i||isin n T)then j::T else T)
def KZ(P:Program)(hs:am Nat)(ops:aE Oper)(i:Nat)(r:am Nat):Bool:=
 match ops[i]? with
 |none=>false
 |some o=>
  !isin i r&&ZX (λe=>!Region.binds .any e||(bD e.on ops.size&&!isin e.on (i::r))) o.after.toList&&
  ZX (λj=>!Nat.beq (clsAt P hs ops j) 4||ath ops (dstOf ops j) o) r&&
  (bif aI (clsAt P hs ops i) 1||aI (clsAt P hs ops i) 2 then ZX (λj=>isin j (depsL P hs ops i r [])||aqM P hs ops o (clsAt P hs ops i) j) r
   else ZX (λj=>aI (clsAt P hs ops j) 4||waitsFor ops j (λn=>isin n (i::r)&&(aI n i||!Nat.beq (clsAt P hs ops n) 4))) r)
def abC(P:Program)(hs:am Nat)(ops:aE Oper):am Nat->Bool
 |[]=>true
 |i::r=>bif KZ P hs ops i r then abC P hs ops r else false
def V3(P:Program)(hs:am Nat)(ops:aE Oper):am Nat->Bool
 |[]=>true
 |i::r=>bif aI (clsAt P hs ops i) 4 then ZX (λj=>!Nat.beq (clsAt P hs ops j) 4) r else V3 P hs ops r
def aic(P:Program)(hs:am Nat)(ops:aE Oper)(g:am Nat):Bool:=
 P.follows .mixedOrders&&ZX (λi=>isin i g) (zY 0 ops.size)&&bZ g.length ops.size&&V3 P hs ops g&&abC P hs ops g
def vZ(ords:am (Nat×am Nat))(id:Nat):am Nat:=match aget ords (1000000+id)with|some l=>l|none=> []
inductive Tr where
 |fin
 |run (l:am Nat) (t:Tr)
 |br (a b:Tr)
def azu:Nat->am Nat->am Nat
 |n+1,x::r=>x::azu n r
 |_,_=> []
def azk:Nat->am Nat->am Nat
 |n+1,_::r=>azk n r
 |_,l=>l
def ans:Nat->am Nat->aA (Tr×am Nat)
 |0,_=>none
 |_+1,[]=>none
 |n+1,c::r=>match c with
  |0=>some (.fin,r)
  |1=>match r with
   |k::g=>match ans n (azk k g)with
    |some (t,i)=>some (.run (azu k g) t,i)
    |none=>none
   |[]=>none
  |_=>match ans n r with
   |some (a,g)=>match ans n g with
    |some (b,i)=>some (.br a b,i)
    |none=>none
   |none=>none
def XP(i:Nat):am Nat->am Nat
 |[]=> []
 |x::r=>bif aI x i then XP i r else x::XP i r
def aBn:am Nat->Bool|[]=>true|_::_=>false
def abD(P:Program)(hs:am Nat)(ops:aE Oper):am Nat->am Nat->(am Nat->Bool)->Bool
 |[],rest,f=>f rest
 |i::l,rest,f=>bif isin i rest&&KZ P hs ops i (XP i rest)then abD P hs ops l (XP i rest) f else false
def adS(ops:aE Oper)(rest:am Nat)(j:Nat):Bool:=match ops[j]? with|some o=>ZX (λe=>!Region.binds .any e||(bD e.on ops.size&&!isin e.on rest)) o.after.toList|none=>false
def VG:Tr->am Nat
 |.run (j::_) _=> [j]
 |.br a b=>VG a++VG b
 |_=> []
def Xw(P:Program)(hs:am Nat)(ops:aE Oper):Bool->Tr->am Nat->Bool
 |false,.fin,rest=>aBn rest
 |true,.fin,_=>false
 |false,.run l t,rest=>abD P hs ops l rest (Xw P hs ops false t)
 |true,.run l t,rest=>match l with
  |j::l=>isin j rest&&abD P hs ops l (XP j rest) (Xw P hs ops false t)
  |[]=>false
 |b,.br x y,rest=>Xw P hs ops true x rest&&Xw P hs ops true y rest&&(b||(ai2 (adS ops rest) rest&&ZX (λj=>!adS ops rest j||isin j (VG x++VG y)) rest))
def ajD(P:Program)(hs:am Nat)(ops:aE Oper)(t:Tr):Bool:=
 P.follows .mixedOrders&&ZX (λj=>!Nat.beq (clsAt P hs ops j) 4) (zY 0 ops.size)&&Xw P hs ops false t (zY 0 ops.size)
def VD(P:Program)(N:Nat)(hs:am Nat)(all:am Oper)(gs:am Nat):Tr->aA ATr
 |.fin=>some .fin
 |.run l t=>match Xr P N hs all gs l,VD P N hs all gs t with
   |some x,some y=>some (.run x y)
   |_,_=>none
 |.br a b=>match VD P N hs all gs a,VD P N hs all gs b with
   |some x,some y=>some (.br x y)
   |_,_=>none
def Q7(P:Program)(N:Nat)(ords:am (Nat×am Nat))(id:Nat)(ops:aE Oper):Bool->aA ACode
 |false=>(Xr P N (vZ ords id) ops.toList (jj ops.toList) (zY 0 ops.toList.length)).map .reg
 |true=>match aget ords (2000000+id)with
  |some l=>match ans 300 l with
   |some (t,_)=>bif ajD P (vZ ords id) ops t then(VD P N (vZ ords id) ops.toList (jj ops.toList) t).map .tree else none
   |none=>none
  |none=>match aget ords id with
   |some g=>bif aic P (vZ ords id) ops g then(Xr P N (vZ ords id) ops.toList (jj ops.toList) g).map .reg else none
   |none=>none
def wx(P:Program)(N:Nat)(ords:am (Nat×am Nat)):Code->aA ACode
 |.skip=>some .skip
 |.region id ops d=>Q7 P N ords id ops d
 |.seq a b=>match wx P N ords a,wx P N ords b with
   |some x,some y=>some (.seq x y)
   |_,_=>none
 |.cond c a b=>match wx P N ords a,wx P N ords b with
   |some x,some y=>some (.cond (cO c) x y)
   |_,_=>none
 |.block i a=>(wx P N ords a).map (.block i)
 |.loop a=>(wx P N ords a).map (.loop [])
 |.scope a=>(wx P N ords a).map .scope
 |.label _=>some .skip
 |.exit i=>some (.exit i)
 |.ret=>some .ret
 |_=>none
def acX(P:Program):am ResultVar->aA (am ARes)
 |[]=>some []
 |.tmp t::r=>(acX P r).map (.tmp t:: ·)
 |.cell a t::r=>match UJ P t,acX P r with
   |some g,some l=>some (.cell a g (zW P t)::l)
   |_,_=>none
def cFun(P:Program)(ords:am (Nat×am Nat))(k:Nat):aA AFun:=
 match P.funcs[k]? with
 |some fn=>match fn.body with
  |some c=>match wx P fn.ntmps ords c,acX P fn.results.toList with
   |some x,some r=>bif bZ fn.ntmps 5000 then some ⟨x,r⟩else none
   |_,_=>none
  |none=>none
 |none=>none
def AI.erase:AI->AI
 |.mk d g i o _=>.mk d g i o []
def ATr.erase:ATr->ATr
 |.fin=>.fin
 |.run ops t=>.run (ops.map AI.erase) t.erase
 |.br a b=>.br a.erase b.erase
def ACode.erase:ACode->ACode
 |.skip=>.skip
 |.reg ops=>.reg (ops.map AI.erase)
 |.seq a b=>.seq a.erase b.erase
 |.cond c a b=>.cond c a.erase b.erase
 |.block i a=>.block i a.erase
 |.loop _ a=>.loop [] a.erase
 |.scope a=>.scope a.erase
 |.exit i=>.exit i
 |.ret=>.ret
 |.tree t=>.tree t.erase
def AFun.erase(F:AFun):AFun:=⟨F.code.erase,F.res⟩
def XL:V->aA Int
 |.w (.c (.d (.lit (.int _ n))))=>some n
 |_=>none
def yL:V->aA Bool
 |.w (.c (.d (.lit (.bool b))))=>some b
 |_=>none
def cOf:V->C
 |.w (.c x)=>x
 |_=>.dead
def wOf:V->W
 |.w x=>x
 |_=>.c .dead
def cV(x:C):V:=.w (.c x)
def zm(n:Int):V:=cV (.d (.lit (.int .i64 n)))
def zZ(b:Bool):V:=cV (.d (.lit (.bool b)))
def xK(b:ByteArray):am (am D):=b.data.toList.map λx=> [D.lit (.int .u8 x.toNat)]
def S.o(s:S):O->V
 |.t n=>s.tmp n
 |.k v=>v
def S.oc(s:S)(x:O):C:=cOf (s.o x)
def S.ow(s:S)(x:O):W:=wOf (s.o x)
def ke(agg:Bool)(sz:Nat)(cells:am C):aA W:=
 bif agg then(bif bZ sz cells.length then some (.agg (cells.take sz))else none)
 else match cells with|x::_=>some (.c x)|[]=>none
def yz(n bytes:Nat):Prop:=n*bytes<=140737488355328
def aLd(dst:aA Nat)(agg:Bool)(sz:Nat)(x:C)(s:S)(K:S->Prop):Prop:=
 match x with
 |.ptr p off=>match aget s.pl p with
   |some (.box cs)=>match ke agg sz (cs.drop off)with
    |some w=>K (s.put dst (.w w))
    |none=>False
   |some (.fbox j)=>match ke agg sz ((j.drop off).map .d)with
    |some w=>K (s.put dst (.w w))
    |none=>False
   |_=>False
 |.fp cells=>match ke agg sz (cells.map .d)with
   |some w=>K (s.put dst (.w w))
   |none=>False
 |.eptr p z i k=>match aget s.pl p with
   |some (.arr l g _)=>bif aI z l then
    ∃e,g[i]?=some e/\(match ke agg sz ((e.drop k).map .d)with
     |some w=>K (s.put dst (.w w))
     |none=>False)
    else False
   |_=>False
 |_=>False
def aSt(sz:Nat)(x:C)(v:W)(s:S)(K:S->Prop):Prop:=
 bif aI v.cells.length sz then
  match x with
  |.ptr p off=>match aget s.pl p with
    |some (.box cs)=>
     bif solid v.cells&&bZ (off+v.cells.length) cs.length then
      K {s with pl:=yN p (.box (ye cs off v.cells)) s.pl}
     else False
    |_=>False
  |.eptr p z i k=>match uC s.pl v.cells with
    |some (l,j)=>match aget j p with
     |some (.arr o g false)=>bif aI z o then
      ∃e,g[i]?=some e/\k+l.length<=e.length/\K {s with pl:=yN p (.arr o (g.set i (ye e k l)) false) j}
      else False
     |_=>False
    |none=>False
  |_=>False
 else False
def U4(s:S):am C->am (Nat×Nat×O)->aA (am C)
 |cs,[]=>some cs
 |cs,(off,sz,x)::r=>bif solid (s.ow x).cells&&aI (s.ow x).cells.length sz&&bZ (off+sz) cs.length then U4 s (ye cs off (s.ow x).cells) r else none
def ah6(s:S)(sz:Nat)(pl:am (Nat×Pl)):am O->aA (am (am D)×am (Nat×Pl))
 |[]=>some ([],pl)
 |x::r=>bif aI (s.ow x).cells.length sz then
   match uC pl (s.ow x).cells with
   |some (j,g)=>match ah6 s sz g r with
    |some (l,i)=>some (j::l,i)
    |none=>none
   |none=>none
  else none
def yh(o:aA Int)(n:Int):Int:=match o with|some m=>m|none=>n
def S.bnd(s:S):aA O->aA (aA Int)
 |none=>some none
 |some x=>match XL (s.o x)with|some n=>some (some n)|none=>none
def awk(dst:aA Nat)(sz:Nat)(x:C)(lo hi:aA Int)(s:S)(K:S->Prop):Prop:=
 match x with
 |.d (.sl g)=>match lo with
   |none=>0<=yh hi g.length/\yh hi g.length<=g.length/\K (s.put dst (cV (.d (.sl (g.take (yh hi g.length).toNat)))))
   |some l=>(∀y∈g,y.length=sz)/\0<=l/\l<=yh hi g.length/\yh hi g.length<=g.length/\
    K (s.put dst (cV (.d (.sl ((g.take (yh hi g.length).toNat).drop l.toNat)))))
 |.own p z n=>bif aI z sz then
  match lo with
  |none=>0<=yh hi n/\yh hi n<=n/\K (s.put dst (cV (.own p z (yh hi n).toNat)))
  |some l=>match aget s.pl p with
   |some (.arr i g _)=>bif aI z i then 0<=l/\l<=yh hi n/\yh hi n<=n/\
    K ({s with pl:=va s.pl p}.put dst (cV (.d (.sl ((g.take (yh hi n).toNat).drop l.toNat)))))
    else False
   |_=>False
   else False
 |.nil=>0<=yh lo 0/\yh lo 0<=yh hi 0/\yh hi 0<=0/\K (s.put dst (cV .nil))
 |_=>False
def awl(dst:aA Nat)(x:C)(lo hi:aA Int)(s:S)(K:S->Prop):Prop:=
 match x with
 |.d (.lit (.string b))=>0<=yh lo 0/\yh lo 0<=yh hi b.size/\yh hi b.size<=b.size/\
  K (s.put dst (cV (.d (.lit (.string (b.extract (yh lo 0).toNat (yh hi b.size).toNat))))))
 |_=>False
def awm(dst:aA Nat)(sz:Nat)(x:C)(lo hi:aA Int)(s:S)(K:S->Prop):Prop:=
 match x with
 |.own p z n=>bif aI z sz then 0<=yh lo 0/\yh lo 0<=yh hi n/\yh hi n<=n/\K (s.put dst (cV (.sub p z (yh lo 0).toNat ((yh hi n).toNat-(yh lo 0).toNat))))else False
 |.nil=>0<=yh lo 0/\yh lo 0<=yh hi 0/\yh hi 0<=0/\K (s.put dst (cV .nil))
 |_=>False
def range:C->aA (Nat×Nat×Nat×Nat)
 |.own p z n=>some (p,z,0,n)
 |.sub p z off n=>some (p,z,off,n)
 |_=>none
def Vr(pl:am (Nat×Pl)):C->aA (am (am D))
 |.d (.sl l)=>some l
 |.nil=>some []
 |.own p _ n=>match aget pl p with
   |some (.arr _ g _)=>some (g.take n)
   |_=>none
 |_=>none
def abO(pl:am (Nat×Pl)):C->aA (am (am D))
 |.sub p z off n=>match aget pl p with
   |some (.arr i g _)=>bif aI z i then some ((g.drop off).take n)else none
   |_=>none
 |x=>Vr pl x
def awi(dst:aA Nat)(sz:Nat)(x:C)(i:aA (am (am D)))(s:S)(K:S->Prop):Prop:=
 match i with
 |some l=>match x with
  |.nil=>K (s.put dst (zm 0))
  |x=>match range x with
   |some (p,z,off,n)=>match aget s.pl p with
    |some (.arr j g false)=>bif aI z j&&aI z sz then(∀y∈l,y.length=sz)/\
     K ({s with pl:=yN p (.arr j (ye g off (l.take n)) false) s.pl}.put dst (zm (min l.length n:Nat)))
     else False
    |_=>False
   |none=>False
 |none=>False
def awh(dst:aA Nat)(sz:Nat)(j:am D)(x:C)(s:S)(K:S->Prop):Prop:=
 match x with
 |.nil=>K (s.put dst qO)
 |x=>match range x with
  |some (p,z,off,n)=>match aget s.pl p with
   |some (.arr i g false)=>bif aI z i&&aI z sz then K ({s with pl:=yN p (.arr i (ye g off (aL n j)) false) s.pl}.put dst qO)else False
   |_=>False
  |none=>False
def ai0(d:Nat)(sz bytes:Nat)(x:C)(new:aA (am (am D)))(s:S)(K:S->Prop):Prop:=
 match new with
 |some l=>
  match x with
  |.nil=>(∀y∈l,y.length=sz)/\yz l.length bytes/\l.length<=9223372036854775807/\
   K ((s.place d (.arr sz l false)).put (some d) (cV (.own d sz l.length)))
  |.own p z n=>match aget s.pl p with
    |some (.arr i g false)=>bif aI z i&&aI z sz then
     (∀y∈l,y.length=sz)/\yz (n+l.length) bytes/\n+l.length<=9223372036854775807/\
      K ((s.redo [p,d] [(d,.arr sz (g.take n++l) false)]).put (some d) (cV (.own d sz (n+l.length))))
     else False
    |_=>False
  |_=>False
 |_=>False
def frz(s:S)(pl:am (Nat×Pl)):am O->aA (am (am D)×am (Nat×Pl))
 |[]=>some ([],pl)
 |x::r=>match s.oc x with
  |.fp i=>match frz s pl r with
    |some (l,g)=>some (i::l,g)
    |none=>none
  |.ptr p 0=>match aget pl p with
    |some (.box cs)=>match uC pl cs with
     |some (i,j)=>match frz s (yN p (.fbox i) j) r with
      |some (l,g)=>some (i::l,g)
      |none=>none
     |none=>none
    |some (.fbox i)=>match frz s pl r with
     |some (l,g)=>some (i::l,g)
     |none=>none
    |_=>none
  |_=>none
def aos(s:S):am O->aA (am Nat)
 |[]=>some []
 |x::r=>match s.oc x,aos s r with
  |.ptr p 0,some l=>some (p::l)
  |_,_=>none
def KM(P:Program)(dst:aA Nat)(f:FuncId)(args:am W)(s:S)(K:S->Prop):Prop:=
 match ab1 s.pl args with
 |some (i,g)=>Sat P f i λr=>K (asZ s {s with pl:=g} dst r)
 |none=>False
def X0(dst:aA Nat)(U:am Nat):Nat:=
 match dst with
 |some d=>base d
 |none=>match U with
  |p::_=>10000000+16*p
  |[]=>10000000
def ahk(P:Program)(dst:aA Nat)(f:FuncId)(args:am W)(s:S)(K:S->Prop):Prop:=
 zA P f (args.map (W.pk s.pl (uH s.pl [] (YJ args)))) (u9 s.pl (uH s.pl [] (YJ args)) 0 (uH s.pl [] (YJ args))) λr=>
  cond (Jq (uH s.pl [] (YJ args)) (X0 dst (uH s.pl [] (YJ args))) r)
   (K (ae1 s (uH s.pl [] (YJ args)) (X0 dst (uH s.pl [] (YJ args))) dst r)) False
def acS(s:S):am aF->Bool
 |[]=>true
 |x::r=>match an8 (s.o (cO x))with
  |some _=>acS s r
  |none=>false
def rho(s:S)(x:aF):Value:=match an8 (s.o (cO x))with|some v=>v|none=>undef
def aot (op:Op)(ty:TypeId):Oper:={dst:=none,op,type:=ty,pos:= "",after:= #[],guard:=none}
def arX(P:Program)(dst:aA Nat)(op:Op)(ty:TypeId)(s:S)(K:S->Prop):Prop:=
 bif acS s op.operands.toList then
  match aax P (aH (rho s) (aot op ty))with
  |some (.value v)=>K (s.put dst (.w (ofValue v)))
  |_=>False
 else False
def kN(b:bX)(k:aP)(x y:Int):Int:=
 match b with
 |.and=>k.wrap (bR k.bits x&&&bR k.bits y).toNat
 |.or=>k.wrap (bR k.bits x|||bR k.bits y).toNat
 |.xor=>k.wrap (bR k.bits x^^^bR k.bits y).toNat
 |_=>k.wrap (bR k.bits x&&& ~~~(bR k.bits y)).toNat
def kG(left:Bool)(k:aP)(x y:Int):Int:=bif left then k.wrap (x*2^min y.toNat k.bits)else x.fdiv (2^min y.toNat k.bits)
def zo(x y:ByteArray):Bool:=x.toList==y.toList
def QK(x y:ByteArray):Bool:=Op.bytesLess x.toList y.toList
def ai7(b:bX)(k:aP)(x y:Int):aA Value:=
 match b with
 |.and=>some (.int k (kN .and k x y))
 |.or=>some (.int k (kN .or k x y))
 |.xor=>some (.int k (kN .xor k x y))
 |.andNot=>some (.int k (kN .andNot k x y))
 |.add=>some (.int k (k.wrap (x+y)))
 |.sub=>some (.int k (k.wrap (x-y)))
 |.mul=>some (.int k (k.wrap (x*y)))
 |.eql=>some (.bool (x==y))
 |.neq=>some (.bool (x !=y))
 |.lss=>some (.bool (decide (x<y)))
 |.leq=>some (.bool (decide (x<=y)))
 |.gtr=>some (.bool (decide (x>y)))
 |.geq=>some (.bool (decide (x>=y)))
 |_=>none
def ai8(b:bX)(x y:ByteArray):aA Value:=
 match b with
 |.eql=>some (.bool (zo x y))
 |.neq=>some (.bool (!zo x y))
 |.lss=>some (.bool (QK x y))
 |.leq=>some (.bool (QK x y||zo x y))
 |.gtr=>some (.bool (!(QK x y||zo x y)))
 |.geq=>some (.bool (!QK x y))
 |_=>none
def wl:aP->aP->Bool
 |.i8,.i8=>true|.i16,.i16=>true|.i32,.i32=>true|.i64,.i64=>true
 |.u8,.u8=>true|.u16,.u16=>true|.u32,.u32=>true|.u64,.u64=>true
 |_,_=>false
def arW(dst:aA Nat)(b:bX)(x y:C)(s:S)(K:S->Prop):Prop:=
 match x,y with
 |.d (.lit (.int k m)),.d (.lit (.int g n))=>bif wl k g then
  match ai7 b k m n with
  |some v=>K (s.put dst (cV (.d (.lit v))))
  |none=>match b with
   |.quo=>n≠0/\K (s.put dst (cV (.d (.lit (.int k (k.wrap (m.tdiv n)))))))
   |.rem=>n≠0/\K (s.put dst (cV (.d (.lit (.int k (m.tmod n))))))
   |_=>False
   else False
 |.d (.lit (.string m)),.d (.lit (.string n))=>match ai8 b m n with
   |some v=>K (s.put dst (cV (.d (.lit v))))
   |none=>match b with
    |.add=>m.size+n.size<=9223372036854775807/\K (s.put dst (cV (.d (.lit (.string (m++n))))))
    |_=>False
 |_,_=>False
def zI(g:Bool)(m n:Int):Int:=bif g then(if n>m then n else m)else(if n<m then n else m)
def aMm(dst:aA Nat)(i:Bool)(x y:C)(s:S)(K:S->Prop):Prop:=
 match x,y with
 |.d (.lit (.int k m)),.d (.lit (.int g n))=>bif wl k g then K (s.put dst (cV (.d (.lit (.int k (zI i m n))))))else False
 |_,_=>False
def aMt(dst:aA Nat)(g:Bool)(x y z:C)(s:S)(K:S->Prop):Prop:=
 match x,y,z with
 |.d (.lit (.int k m)),.d (.lit (.int i n)),.d (.lit (.int j p))=>bif wl k i&&wl k j then K (s.put dst (cV (.d (.lit (.int k (zI g (zI g m n) p))))))else False
 |_,_,_=>False
def anv(k:Nat)(x y:C):aA Bool:=
 match x,y with
 |.d (.lit (.int g m)),.d (.lit (.int i n))=>bif aI k 0&&wl g i then some (m==n)else none
 |.d (.lit (.string m)),.d (.lit (.string n))=>bif aI k 1 then some (zo m n)else none
 |.d (.lit (.bool m)),.d (.lit (.bool n))=>bif aI k 2 then some (m==n)else none
 |_,_=>none
def Y1:am Nat->am C->am C->aA Bool
 |[],[],[]=>some true
 |k::ks,x::xs,y::ys=>match anv k x y,Y1 ks xs ys with
  |some a,some b=>some (a&&b)
  |_,_=>none
 |_,_,_=>none
def awj(dst:aA Nat)(neg:Bool)(x:C)(s:S)(K:S->Prop):Prop:=
 match x with
 |.nil=>K (s.put dst (zZ (!neg)))
 |.d (.sl l)=>(l=[]->K (s.put dst (zZ (!neg))))/\K (s.put dst (zZ neg))
 |.own _ _ n=>(n=0->K (s.put dst (zZ (!neg))))/\K (s.put dst (zZ neg))
 |_=>False
def T.mpv:T->aA (Bool×am Value×am (am T))
 |.mp ag ks vs=>some (ag,ks,vs)
 |.mpi ag ks vs _=>some (ag,ks,vs)
 |_=>none
def T.setE(j:Nat)(e:am T):T->T
 |.mp ag ks vs=>.mp ag ks (vs.set j e)
 |.mpi ag ks vs seen=>.mpi ag ks (vs.set j e) seen
 |t=>t
def aa6:am T->aA (am D)
 |[]=>some []
 |.d x::r=>match aa6 r with|some l=>some (x::l)|none=>none
 |_::_=>none
def adT(ok:Bool)(x:W)(g:Bool):V:=bif ok then .tup [x,.c (.d (.lit (.bool g)))]else .w x
def wL(p:Nat):Bool:=bD p 100000||bZ 600000 p
def amM(dst:aA Nat)(ok ag:Bool)(p:Nat)(t:T)(j:Nat)(e:am T)(s:S)(K:S->Prop):Prop:=
 match e with
 |[.sl sz g]=>match dst with
   |some d=>bif ag||aI p d||!wL p||aI sz 0 then False else
    ∃l,tsD g=some l/\K ((s.redo [d] [(d,.arr sz l false),(p,.deep (t.setE j [.hole]))]).put (some d) (adT ok (.c (.own d sz l.length)) true))
   |none=>False
 |e=>match aa6 e with
  |some i=>bif ag then K (s.put dst (adT ok (.agg (i.map .d)) true))else match i with
   |[x]=>K (s.put dst (adT ok (.c (.d x)) true))
   |_=>False
  |none=>False
def amO(dst:aA Nat)(ok ag:Bool)(l:aA aP)(z:W)(x i:C)(s:S)(K:S->Prop):Prop:=
 match adA i with
 |some k=>wC l k=true/\match x with
  |.root p=>match aget s.pl p with
    |some (.deep t)=>match t.mpv with
     |some (g,ks,vs)=>g=ag/\(∀q∈ks,wC l q=true)/\(k∉ks->K (s.put dst (adT ok z false)))/\∀(j:Nat) e,ks[j]?=some k->vs[j]?=some e->amM dst ok ag p t j e s K
     |none=>False
    |_=>False
  |.d (.mp g ks vs)=>g=ag/\(∀q∈ks,wC l q=true)/\(k∉ks->K (s.put dst (adT ok z false)))/\∀(j:Nat) e,ks[j]?=some k->vs[j]?=some e->
   (bif ag then K (s.put dst (adT ok (.agg (e.map .d)) true))else match e with
    |[x]=>K (s.put dst (adT ok (.c (.d x)) true))
    |_=>False)
  |_=>False
 |none=>False
def aaZ(l:aA aP)(ag:Bool)(p:Nat)(t:T)(k:Value)(e:am T)(i:am Nat)(s:S)(K:S->Prop):Prop:=
 bif wL p then
  match t.mpv with
  |some (g,ks,vs)=>g=ag/\(∀q∈ks,wC l q=true)/\(∀j:Nat,ks[j]?=some k->K (s.redo i [(p,.deep (t.setE j e))]))/\
   (k∉ks->match t with
    |.mp _ _ _=>K (s.redo i [(p,.deep (.mp ag (ks++[k]) (vs++[e])))])
    |_=>False)
  |none=>False
 else False
def W.isAgg:W->Bool|.agg _=>true|.c _=>false
def amP(ag:Bool)(l:aA aP)(x i:C)(v:W)(s:S)(K:S->Prop):Prop:=
 match x,adA i with
 |.root p,some k=>wC l k=true/\match v with
   |.c (.own q z n)=>match aget s.pl p,aget s.pl q with
     |some (.deep t),some (.arr r j false)=>bif aI z r&&!ag&&!Nat.beq p q then aaZ l ag p t k [.sl z ((j.take n).map (·.map T.d))] [q] s K else False
     |_,_=>False
   |v=>match uC s.pl v.cells with
    |some (o,g)=>match aget g p with
     |some (.deep t)=>bif (v.isAgg&&ag)||(!v.isAgg&&!ag)then aaZ l ag p t k (o.map .d) [] {s with pl:=g} K else False
     |_=>False
    |none=>False
 |_,_=>False
def amR(dst:aA Nat)(x:C)(s:S)(K:S->Prop):Prop:=
 match dst,x with
 |some d,.root p=>match aget s.pl p with
  |some (.deep (.mp ag ks vs))=>bif wL p&&!Nat.beq p d then K ((s.reroot p d (.deep (.mpi ag ks vs []))).put (some d) (cV (.iter d)))else False
  |_=>False
 |_,_=>False
def amQ(dst:aA Nat)(x:C)(s:S)(K:S->Prop):Prop:=
 match x with
 |.iter q=>match aget s.pl q with
   |some (.deep (.mpi ag ks vs seen))=>bif wL q then
    ((∀i:Nat,i<ks.length->i∈seen)->K (s.put dst (.tup [.c (.d (.lit (.bool false)))])))/\
    ∀i:Nat,i<ks.length->i∉seen->K ((s.redo [] [(q,.deep (.mpi ag ks vs (i::seen)))]).put dst (.tup [.c (.d (.lit (.bool true))),.c .dead,.c .dead]))else False
   |_=>False
 |_=>False
def amL(dst:aA Nat)(ag:Bool)(p:Nat)(t:T)(j:Nat)(e:am T)(k:Value)(s:S)(K:S->Prop):Prop:=
 match e with
 |[.sl sz g]=>match dst with
   |some d=>bif ag||aI p d||!wL p||aI sz 0 then False else
    ∃l,tsD g=some l/\K ((s.redo [d] [(d,.arr sz l false),(p,.deep (t.setE j [.hole]))]).put (some d) (.tup [.c (.d (.lit k)),.c (.own d sz l.length)]))
   |none=>False
 |e=>match aa6 e with
  |some i=>bif ag then K (s.put dst (.tup [.c (.d (.lit k)),.agg (i.map .d)]))else match i with
   |[x]=>K (s.put dst (.tup [.c (.d (.lit k)),.c (.d x)]))
   |_=>False
  |none=>False
def amN(dst:aA Nat)(x:C)(s:S)(K:S->Prop):Prop:=
 match x with
 |.iter q=>match aget s.pl q with
   |some (.deep (.mpi ag ks vs (i::seen)))=>∀k e,ks[i]?=some k->vs[i]?=some e->k.oneCell'=true/\amL dst ag q (.mpi ag ks vs (i::seen)) i e k s K
   |_=>False
 |_=>False
def zK(P:Program)(dst:aA Nat)(op:AOp)(s:S)(K:S->Prop):Prop:=
 match op with
 |.mov x=>K (s.put dst (s.o x))
 |.pick c a b=>match yL (s.o c)with
   |some t=>cond t (K (s.put dst (s.o a))) (K (s.put dst (s.o b)))
   |none=>False
 |.alloc cs=>match dst with
   |some d=>bif solid cs then K ((s.place d (.box cs)).put (some d) (cV (.ptr d 0)))else False
   |none=>False
 |.bx x=>match dst,s.o x with
   |some d,.w w=>bif solid w.cells then K ((s.place d (.box (w.cells.map (C.kill [d])))).put (some d) (cV (.ptr d 0)))else False
   |_,_=>False
 |.build zero parts=>match U4 s zero parts with
   |some cs=>K (s.put dst (.w (.agg cs)))
   |none=>False
 |.lits sz parts=>match dst,ah6 s sz s.pl parts with
   |some d,some (I,r)=>K (({s with pl:=r}.place d (.arr sz I false)).put (some d) (cV (.own d sz I.length)))
   |_,_=>False
 |.ld g sz x=>aLd dst g sz (s.oc x) s K
 |.st sz a x=>match dst with
   |none=>aSt sz (s.oc a) (s.ow x) s K
   |some _=>False
 |.nc x=>match s.oc x with
   |.ptr p k=>K (s.put dst (cV (.ptr p k)))
   |.eptr p z i k=>K (s.put dst (cV (.eptr p z i k)))
   |.fp l=>K (s.put dst (cV (.fp l)))
   |_=>False
 |.b2s x=>match Vr s.pl (s.oc x)with
   |some l=>∃b:ByteArray,l=xK b/\K (s.put dst (cV (.d (.lit (.string b)))))
   |none=>False
 |.s2b x=>match dst,s.oc x with
   |some d,.d (.lit (.string b))=>b.size<=9223372036854775807/\K ((s.place d (.arr 1 (xK b) true)).put (some d) (cV (.own d 1 b.size)))
   |_,_=>False
 |.clo f j=>match aos s j with
   |some ps=>K (s.put dst (cV (.clo f ps)))
   |none=>False
 |.clof f j=>match frz s s.pl j with
   |some (l,r)=>K ({s with pl:=r}.put dst (cV (.d (.fn f l))))
   |none=>False
 |.slen x=>match s.oc x with
   |.d (.lit (.string b))=>K (s.put dst (zm b.size))
   |_=>False
 |.cap x=>match s.oc x with
   |.d (.sl l)=>∀c:Nat,l.length<=c->c<=9223372036854775807->K (s.put dst (zm c))
   |.nil=>K (s.put dst (zm 0))
   |.own _ _ n=>∀c:Nat,n<=c->c<=9223372036854775807->K (s.put dst (zm c))
   |_=>False
 |.cpy sz x y=>awi dst sz (s.oc x) (abO s.pl (s.oc y)) s K
 |.clr sz z x=>awh dst sz z (s.oc x) s K
 |.slw sz x lo hi=>match s.bnd lo,s.bnd hi with
   |some l,some h=>awm dst sz (s.oc x) l h s K
   |_,_=>False
 |.bnot x=>match yL (s.o x)with
   |some b=>K (s.put dst (zZ (!b)))
   |none=>False
 |.ineg x=>match s.oc x with
   |.d (.lit (.int k n))=>K (s.put dst (cV (.d (.lit (.int k (k.wrap (0-n)))))))
   |_=>False
 |.beq neg x y=>match yL (s.o x),yL (s.o y)with
   |some a,some b=>K (s.put dst (zZ (bif neg then a !=b else a==b)))
   |_,_=>False
 |.shf left x y=>match s.oc x,s.oc y with
   |.d (.lit (.int k m)),.d (.lit (.int _ n))=>0<=n/\K (s.put dst (cV (.d (.lit (.int k (kG left k m n))))))
   |_,_=>False
 |.stop=>False
 |.conv k x=>match s.oc x with
   |.d (.lit (.int _ n))=>K (s.put dst (cV (.d (.lit (.int k (k.wrap n))))))
   |_=>False
 |.eqa neg ks x y=>match s.o x,s.o y with
   |.w (.agg xs),.w (.agg ys)=>match Y1 ks xs ys with
     |some b=>K (s.put dst (zZ (bif neg then !b else b)))
     |none=>False
   |_,_=>False
 |.callh f args=>ahk P dst f (args.map s.ow) s K
 |.mk sz bytes z n c=>match dst,XL (s.o n),XL (s.o c)with
   |some d,some n,some c=>0<=n/\n<=c/\yz c.toNat bytes/\c<=9223372036854775807/\
    K ((s.place d (.arr sz (aL n.toNat z) false)).put (some d) (cV (.own d sz n.toNat)))
   |_,_,_=>False
 |.sli sz x lo hi=>match s.bnd lo,s.bnd hi with
   |some l,some h=>awk dst sz (s.oc x) l h s K
   |_,_=>False
 |.sls x lo hi=>match s.bnd lo,s.bnd hi with
   |some l,some h=>awl dst (s.oc x) l h s K
   |_,_=>False
 |.fa off x=>match s.oc x with
   |.ptr p o=>K (s.put dst (cV (.ptr p (o+off))))
   |.eptr p z i k=>K (s.put dst (cV (.eptr p z i (k+off))))
   |.fp cells=>K (s.put dst (cV (.fp (cells.drop off))))
   |_=>False
 |.fld g sz off x=>match s.o x with
   |.w (.agg cs)=>match ke g sz (cs.drop off)with
     |some w=>K (s.put dst (.w w))
     |none=>False
   |_=>False
 |.ia sz x i=>match XL (s.o i)with
   |some n=>match s.oc x with
    |.d (.sl l)=>0<=n/\∃y,l[n.toNat]?=some y/\y.length=sz/\K (s.put dst (cV (.fp y)))
    |.own p z m=>bif aI z sz then 0<=n/\n<m/\K (s.put dst (cV (.eptr p z n.toNat 0)))else False
    |_=>False
   |none=>False
 |.six x i=>match s.oc x,XL (s.o i)with
   |.d (.lit (.string b)),some n=>0<=n/\n<b.size/\K (s.put dst (cV (.d (.lit (.int .u8 (b.data.toList.getD n.toNat 0).toNat)))))
   |_,_=>False
 |.ext x i=>match s.o x with
   |.tup xs=>match xs[i]? with
     |some w=>K (s.put dst (.w w))
     |none=>False
   |_=>False
 |.len x=>match s.oc x with
   |.d (.sl l)=>K (s.put dst (zm l.length))
   |.nil=>K (s.put dst (zm 0))
   |.own _ _ n=>K (s.put dst (zm n))
   |_=>False
 |.app sz bytes x y=>match dst with
   |some d=>ai0 d sz bytes (s.oc x) (Vr s.pl (s.oc y)) s K
   |none=>False
 |.appz sz bytes z x n=>match dst,s.oc x,XL (s.o n)with
   |some d,.nil,some m=>0<=m/\yz m.toNat bytes/\m<=9223372036854775807/\K ((s.place d (.arr sz (aL m.toNat z) false)).put (some d) (cV (.own d sz m.toNat)))
   |_,_,_=>False
 |.apps x y=>match dst,s.oc y with
   |some d,.d (.lit (.string b))=>ai0 d 1 1 (s.oc x) (some (xK b)) s K
   |_,_=>False
 |.bin b x y=>arW dst b (s.oc x) (s.oc y) s K
 |.isn neg x=>awj dst neg (s.oc x) s K
 |.mm U x y=>aMm dst U (s.oc x) (s.oc y) s K
 |.mmt U x y z=>aMt dst U (s.oc x) (s.oc y) (s.oc z) s K
 |.pure op ty=>arX P dst op ty s K
 |.call f args=>KM P dst f (args.map s.ow) s K
 |.mki t x=>match s.ow x with
   |.agg cs=>match uC s.pl cs with
     |some (J,r)=>K ({s with pl:=r}.put dst (cV (.d (.ifc t J))))
     |none=>False
   |_=>False
 |.ast t z x=>match s.oc x with
   |.d (.ifc u l)=>bif aI u t then K (s.put dst (.tup [.agg (l.map .d),.c (.d (.lit (.bool true)))]))else K (s.put dst (.tup [z,.c (.d (.lit (.bool false)))]))
   |_=>False
 |.inv tb x args=>match s.oc x with
   |.d (.ifc u l)=>match aget tb u with
     |some f=>KM P dst f (.agg (l.map .d)::args.map s.ow) s K
     |none=>False
   |_=>False
 |.calv x args=>match s.oc x with
   |.clo f []=>KM P dst f (args.map s.ow) s K
   |.d (.fn f j)=>KM P dst f (args.map s.ow++j.map λJ=>W.c (.fp J)) s K
   |_=>False
 |.mkm ag=>match dst with
   |some d=>K ((s.place d (.deep (.mp ag [] []))).put (some d) (cV (.root d)))
   |none=>False
 |.lku ok ag R z x i=>amO dst ok ag R z (s.oc x) (s.oc i) s K
 |.mup ag R m k v=>match dst with
   |none=>amP ag R (s.oc m) (s.oc k) (s.ow v) s K
   |some _=>False
 |.rng x=>amR dst (s.oc x) s K
 |.nxt x=>amQ dst (s.oc x) s K
 |.ent x=>amN dst (s.oc x) s K
def split(g:Bool)(dst:aA Nat)(s:S)(K:S->Prop):Prop:=
 bif g then
  match dst with
  |some d=>match yL (s.tmp d)with
   |some b=>cond b (K (s.put dst (zZ true))) (K (s.put dst (zZ false)))
   |none=>K s
  |none=>K s
 else K s
def S.drop(s:S)(l:am Nat):S:={s with sl:=xl (λk=>!isin k l) s.sl}
def yd(P:Program):am AI->S->(S->Prop)->Prop
 |[],s,K=>K s
 |.mk dst g l op drop::rest,s,K=>
   match g with
   |none=>zK P dst op s λo=>split l dst o λj=>xN (j.drop drop) λj=>yd P rest j K
   |some (d,i)=>match s.tmp d with
    |.w (.c (.d (.lit (.bool b))))=>
      bif (bif b then i else !i)then zK P dst op s λo=>split l dst o λj=>xN (j.drop drop) λj=>yd P rest j K
      else xN ((s.put dst qO).drop drop) λs=>yd P rest s K
    |.tup []=>xN ((s.put dst qO).drop drop) λs=>yd P rest s K
    |_=>False
inductive E where
 |normal
 |exit (id:Nat)
 |ret
def aaB:am (Nat×V)->am Nat
 |[]=> []
 |(_,v)::r=>v.refs++aaB r
def Ug:am Nat->am (Nat×Pl)->am Nat
 |_,[]=> []
 |g,(p,.box cs)::r=>bif isin p g then aaA cs++Ug g r else Ug g r
 |g,_::r=>Ug g r
def ZE:am Nat->am Nat->am Nat
 |[],l=>l
 |x::r,l=>bif isin x l then ZE r l else ZE r (x::l)
def S.norm(s:S)(g:am Nat):S:=
 {sl:=xl (λk=>isin k g) s.sl,
  pl:=xl (λk=>isin k (ZE (Ug (ZE (Ug (ZE (aaB (xl (λk=>isin k g) s.sl)) []) s.pl) (ZE (aaB (xl (λk=>isin k g) s.sl)) [])) s.pl)
   (ZE (Ug (ZE (aaB (xl (λk=>isin k g) s.sl)) []) s.pl) (ZE (aaB (xl (λk=>isin k g) s.sl)) [])))) s.pl}
def gX:am Nat->(am Nat->Prop)->Prop
 |[],K=>K []
 |x::r,K=>gX r λr=>K (x::r)
theorem KY:∀(l:am Nat) (K:am Nat->Prop),gX l K=K l
 |[],_=>rfl
 |x::r,K=>by simp only[gX,KY r]
def Jd(s:S)(g:am Nat)(K:S->Prop):Prop:=
 gX (ZE (aaB (xl (λk=>isin k g) s.sl)) []) λi=>gX (ZE (Ug i s.pl) i) λj=>gX (ZE (Ug j s.pl) j) λl=>
  xN ⟨xl (λk=>isin k g) s.sl,xl (λk=>isin k l) s.pl⟩ K
theorem Vo(s:S)(g:am Nat)(K:S->Prop):Jd s g K=K (s.norm g):=by unfold Jd;rw[KY,KY,KY,xu];rfl
def y8(s:S)(g:am Nat)(K:S->Prop):Prop:=∃t,Za s t/\Jd t g K
theorem ze{s:S}{g:am Nat}{K:S->Prop}(h:Jd s g K):y8 s g K:=⟨s,Za.refl s,h⟩
def atr(P:Program):ATr->S->(S->Prop)->Prop
 |.fin,s,K=>K s
 |.run ops t,s,K=>yd P ops s λg=>atr P t g K
 |.br a b,s,K=>atr P a s K/\atr P b s K
def WK(P:Program):ACode->(E->S->Prop)->S->Prop
 |.skip,Q,s=>Q .normal s
 |.reg ops,Q,s=>yd P ops s (Q .normal)
 |.seq a b,Q,s=>WK P a (λe g=>match e with|.normal=>WK P b Q g|.exit i=>Q (.exit i) g|.ret=>Q .ret g) s
 |.cond c a b,Q,s=>match yL (s.o c)with
   |some t=>cond t (WK P a Q s) (WK P b Q s)
   |none=>False
 |.block id a,Q,s=>WK P a (λe g=>match e with|.normal=>Q .normal g|.exit i=>bif aI i id then Q .normal g else Q (.exit i) g|.ret=>Q .ret g) s
 |.loop j body,Q,s=>∃(I:S->Prop) (μ:S->Nat),y8 s j I/\∀g,I g->
  WK P body (λe l=>match e with|.normal=>y8 l j λl=>I l/\μ l<μ g|.exit i=>Q (.exit i) l|.ret=>Q .ret l) g
 |.scope a,Q,s=>WK P a Q s
 |.exit i,Q,s=>Q (.exit i) s
 |.ret,Q,s=>Q .ret s
 |.tree t,Q,s=>atr P t s (Q .normal)
def ayj(s:S):ARes->aA W
 |.tmp t=>match s.tmp t with|.w w=>some w|_=>none
 |.cell a g sz=>match cOf (s.tmp a)with
   |.ptr p off=>match aget s.pl p with
     |some (.box cs)=>ke g sz (cs.drop off)
     |some (.fbox i)=>ke g sz ((i.drop off).map .d)
     |_=>none
   |_=>none
def ae2(s:S):am ARes->aA (am W)
 |[]=>some []
 |x::r=>match ayj s x,ae2 s r with
  |some w,some l=>some (w::l)
  |_,_=>none
def ayi(s:S)(l:am ARes):aA V:=
 match ae2 s l with
 |some [w]=>some (.w w)
 |some ws=>some (.tup ws)
 |none=>none
def ZJ:Nat->am W->am (Nat×V)
 |_,[]=> []
 |i,w::r=>(i,.w w)::ZJ (i+1) r
def gq(g:am ARes)(U:am Nat)(Q:Res->Prop)(s:S):Prop:=
 match ayi s g with
 |some v=>Q (azr s.pl U v)
 |none=>False
def awt(P:Program)(F:AFun)(args:am W)(Q:Res->Prop):Prop:=
 xN ⟨ZJ 0 args,[]⟩ λs=>WK P F.code (λe s=>match e with|.exit _=>False|.normal=>gq F.res [] Q s|.ret=>gq F.res [] Q s) s
def jy(n0:Nat)(hs:am Pl):am Nat:=zY n0 hs.length
def aeB(n0:Nat)(P:Program)(F:AFun)(args:am W)(hs:am Pl)(Q:Res->Prop):Prop:=
 xN ⟨ZJ 0 (args.map (W.ren ((jy n0 hs).map some))),Zw n0 (hs.map (Pl.ren ((jy n0 hs).map some)))⟩ λs=>
  WK P F.code (λe s=>match e with|.exit _=>False|.normal=>gq F.res (jy n0 hs) Q s|.ret=>gq F.res (jy n0 hs) Q s) s
def azj(P:Program)(F:AFun)(args:am W)(hs:am Pl)(Q:Res->Prop):Prop:=aeB 100000 P F args hs Q
section
variable {α β:Type}
theorem xD{m n:Nat}(h:m≠n):aI m n=false:=by
 cases e:aI m n
 .rfl
 exact absurd (aC e) h
theorem vz(n:Nat):aI n n=true:=Nat.beq_refl n
theorem yg(k:Nat)(v:α)(r:am (Nat×α))(n:Nat):aget ((k,v)::r) n=if k=n then some v else aget r n:=by
 by_cases h:k=n
 .subst h;simp[aget]
 simp[aget,xD h,h]
theorem yG(l:am (Nat×α))(n m:Nat)(v:α):aget (yN n v l) m=if n=m then some v else aget l m:=by
 induction l with
 |nil=>simp[yN,yg]
 |cons x r i=>
  obtain⟨k,u⟩:=x;unfold yN;by_cases h:k=n
  .subst h;simp only[vz,aO,yg];by_cases g:k=m<;>simp[g]
  rw[xD h];cases j:bD n k
  .simp only[cd,yg,i];by_cases g:k=m
   .subst g;simp[Ne.symm h]
   simp[g]
  simp only[cd,aO,yg]
theorem amW(l:am (Nat×α))(f:α->β)(m:Nat):aget (Ur f l) m=(aget l m).map f:=by
 induction l with
 |nil=>simp[aget,Ur]
 |cons x r g=>
  obtain⟨k,u⟩:=x;simp only[Ur,yg,g];by_cases h:k=m<;>simp[h]
theorem jr(l:am (Nat×α))(f:Nat->Bool)(m:Nat):aget (xl f l) m=if f m=true then aget l m else none:=by
 induction l with
 |nil=>simp[xl,aget]
 |cons x r i=>
  obtain⟨k,u⟩:=x;unfold xl;cases g:f k
  .simp only[cd,i,yg];by_cases hk:k=m
   .subst hk;simp[g]
   simp[hk]
  simp only[aO,yg,i];by_cases hk:k=m
  .subst hk;simp[g]
  simp[hk]
theorem QZ(l:am (Nat×α))(f:Nat->Bool)(m:Nat)(v:α)(h:aget (xl f l) m=some v):aget l m=some v/\f m=true:=by
 rw[jr]at h;split at h
 .exact⟨h,by assumption⟩
 cases h
end
theorem yl(n:Nat)(l:am Nat):isin n l=true↔n∈l:=by
 induction l with
 |nil=>simp[isin]
 |cons k r g=>
  unfold isin;by_cases h:k=n
  .subst h;simp
  rw[xD h];simp[g,Ne.symm h]
theorem apK(new pl:am (Nat×Pl))(m:Nat):aget (acQ new pl) m=match aget new m with|some x=>some x|none=>aget pl m:=by
 induction new with
 |nil=>rfl
 |cons x r g=>
  obtain⟨k,u⟩:=x;simp only[acQ,yG,g,yg];by_cases h:k=m<;>simp[h]
def zR(w w':aB)(ok ok':Nat->Prop):Prop:=∀b,ok b->ok' b/\w'.heap[b]?=w.heap[b]?
theorem cell_of_heap{w w':aB}{b:Nat}(h:w'.heap[b]?=w.heap[b]?)(o:Nat):w'.cell? ⟨b,o,none⟩=w.cell? ⟨b,o,none⟩:=by simp[cP,h]
mutual
theorem RD.keep{w w':aB}{ok ok':Nat->Prop}(h:zR w w' ok ok'):∀(d:D) (v:Value),RD w ok d v->RD w' ok' d v
 |.lit x,v,g=>by simp only[RD]at g⊢;exact g
 |.sl l,v,g=>by
   simp only[RD]at g⊢;obtain⟨a,n,c,j,i,I,J,r⟩:=g;refine⟨a,n,c,j,i,I,J,?_⟩;rcases r with r|⟨b,o,sz,e1,R,e3⟩
   .exact .inl r
   exact .inr ⟨b,o,sz,e1,(h b R).1,RDs.keep h b R sz l o e3⟩
 |.fn f p,v,g=>by simp only[RD]at g⊢;obtain⟨P,j,i⟩:=g;exact⟨P,j,RDf.keep h p P i⟩
 |.ifc t l,v,g=>by simp only[RD]at g⊢;obtain⟨vs,j,i⟩:=g;exact⟨vs,j,RDv.keep h l vs i⟩
 |.mp ag ks l,v,g=>by simp only[RD]at g⊢;obtain⟨b,U,clock,j,i,I,J,r⟩:=g;exact⟨b,U,clock,j,(h b i).1,by rw[(h b i).2];exact I,J,RDe.keep h ag l U.toList r⟩
theorem RDe.keep{w w':aB}{ok ok':Nat->Prop}(h:zR w w' ok ok')(ag:Bool):∀(l:am (am D)) (j:am bG),RDe w ok ag j l->RDe w' ok' ag j l
 |[],j,i=>by simp only[RDe]at i⊢;exact i
 |e::r,j,i=>by simp only[RDe]at i⊢;obtain⟨m,g,vs,o,p,I,J⟩:=i;exact⟨m,g,vs,o,p,RDv.keep h e vs I,RDe.keep h ag r g J⟩
theorem RDv.keep{w w':aB}{ok ok':Nat->Prop}(h:zR w w' ok ok'):∀(l:am D) (vs:am Value),RDv w ok vs l->RDv w' ok' vs l
 |[],vs,g=>by simp only[RDv]at g⊢;exact g
 |d::r,vs,g=>by simp only[RDv]at g⊢;obtain⟨v,i,j,o,p⟩:=g;exact⟨v,i,j,RD.keep h d v o,RDv.keep h r i p⟩
theorem RDs.keep{w w':aB}{ok ok':Nat->Prop}(h:zR w w' ok ok')(b:Nat)(i:ok b)(sz:Nat):∀(l:am (am D)) (o:Nat),RDs w ok b sz o l->RDs w' ok' b sz o l
 |[],o,_=>by simp only[RDs]
 |e::r,o,g=>by simp only[RDs]at g⊢;exact⟨g.1,RDc.keep h b i e o g.2.1,RDs.keep h b i sz r (o+sz) g.2.2⟩
theorem RDc.keep{w w':aB}{ok ok':Nat->Prop}(h:zR w w' ok ok')(b:Nat)(g:ok b):∀(l:am D) (o:Nat),RDc w ok b o l->RDc w' ok' b o l
 |[],o,_=>by simp only[RDc]
 |d::r,o,i=>by simp only[RDc]at i⊢;obtain⟨⟨v,j,p⟩,I⟩:=i;exact⟨⟨v,by rw[cell_of_heap (h b g).2];exact j,RD.keep h d v p⟩,RDc.keep h b g r (o+1) I⟩
theorem RDf.keep{w w':aB}{ok ok':Nat->Prop}(h:zR w w' ok ok'):∀(l:am (am D)) (i:am Value),RDf w ok i l->RDf w' ok' i l
 |[],i,g=>by simp only[RDf]at g⊢;exact g
 |c::r,i,g=>by simp only[RDf]at g⊢;obtain⟨b,o,bs',p,j,I,J⟩:=g;exact⟨b,o,bs',p,(h b j).1,RDc.keep h b j c o I,RDf.keep h r bs' J⟩
end
mutual
theorem RT.keep{w w':aB}{ok ok':Nat->Prop}(h:zR w w' ok ok'):∀(t:T) (v:Value) (fp:am Nat),(∀b∈fp,w'.heap[b]?=w.heap[b]?)->RT w ok t v fp->RT w' ok' t v fp
 |.d x,v,fp,_,g=>by simp only[RT]at g⊢;exact⟨RD.keep h x v g.1,g.2⟩
 |.sl sz R,v,fp,i,g=>by
   simp only[RT]at g⊢;rcases g with g|⟨b,cap,t,l,j,o,h2,h3,p,P,r,rfl⟩
   .exact .inl g
   exact .inr ⟨b,cap,t,l,j,o,h2,h3,by rw[i b dT];exact p,P,RTs.keep h sz R _ j (λc I=>i c (by simp[I])) r,rfl⟩
 |.bx cs,v,fp,i,g=>by simp only[RT]at g⊢;obtain⟨b,t,l,j,o,p,r,rfl⟩:=g;exact⟨b,t,l,j,o,by rw[i b dT];exact p,RTc.keep h cs _ j (λc I=>i c (by simp[I])) r,rfl⟩
 |.mp ag ks vs,v,fp,i,g=>by simp only[RT]at g⊢;obtain⟨b,U,clock,j,o,p,P,r,rfl⟩:=g;exact⟨b,U,clock,j,o,by rw[i b dT];exact p,P,RTm.keep h ag vs _ j (λc I=>i c (by simp[I])) r,rfl⟩
 |.mpi ag ks vs seen,v,fp,i,g=>by simp only[RT]at g⊢;obtain⟨b,bi,U,clock,J,arr,st,j,o,p,P,h7,h8,r,rfl⟩:=g;exact⟨b,bi,U,clock,J,arr,st,j,o,by rw[i b dT];exact p,P,by rw[i bi dT];exact h7,h8,RTm.keep h ag vs _ j (λc I=>i c (by simp[I])) r,rfl⟩
 |.hole,v,fp,_,g=>by simp only[RT]at g⊢;exact g
theorem RTc.keep{w w':aB}{ok ok':Nat->Prop}(h:zR w w' ok ok'):∀(l:am T) (vs:am Value) (fp:am Nat),(∀b∈fp,w'.heap[b]?=w.heap[b]?)->RTc w ok l vs fp->RTc w' ok' l vs fp
 |[],vs,fp,_,i=>by simp only[RTc]at i⊢;exact i
 |t::r,vs,fp,p,i=>by simp only[RTc]at i⊢;obtain⟨v,j,f,g,I,J,P,rfl⟩:=i;exact⟨v,j,f,g,I,RT.keep h t v f (λc o=>p c (by simp[o])) J,RTc.keep h r j g (λc o=>p c (by simp[o])) P,rfl⟩
theorem RTs.keep{w w':aB}{ok ok':Nat->Prop}(h:zR w w' ok ok')(sz:Nat):∀(l:am (am T)) (vs:am Value) (fp:am Nat),(∀b∈fp,w'.heap[b]?=w.heap[b]?)->RTs w ok sz l vs fp->RTs w' ok' sz l vs fp
 |[],vs,fp,_,i=>by simp only[RTs]at i⊢;exact i
 |e::r,vs,fp,o,i=>by simp only[RTs]at i⊢;obtain⟨f,g,p,I,J,rfl⟩:=i;exact⟨f,g,p,RTc.keep h e _ f (λc j=>o c (by simp[j])) I,RTs.keep h sz r _ g (λc j=>o c (by simp[j])) J,rfl⟩
theorem RTm.keep{w w':aB}{ok ok':Nat->Prop}(h:zR w w' ok ok')(ag:Bool):∀(l:am (am T)) (o:am bG) (fp:am Nat),(∀b∈fp,w'.heap[b]?=w.heap[b]?)->RTm w ok ag l o fp->RTm w' ok' ag l o fp
 |[],o,fp,_,j=>by simp only[RTm]at j⊢;exact j
 |e::r,o,fp,I,j=>by simp only[RTm]at j⊢;obtain⟨m,i,vs,f,g,J,P,R,U,rfl⟩:=j;exact⟨m,i,vs,f,g,J,P,RTc.keep h e vs f (λc p=>I c (by simp[p])) R,RTm.keep h ag r i g (λc p=>I c (by simp[p])) U,rfl⟩
end
mutual
theorem RT.lt{w:aB}{ok:Nat->Prop}:∀(t:T) (v:Value) (fp:am Nat),RT w ok t v fp->∀b∈fp,b<w.heap.size
 |.d x,v,fp,i,b,g=>by simp only[RT]at i;rw[i.2]at g;cases g
 |.sl sz r,v,fp,i,b,g=>by
   simp only[RT]at i;rcases i with⟨_,_,rfl⟩|⟨c,cap,t,p,j,I,h2,h3,l,P,o,rfl⟩
   .cases g
   rcases bC.1 g with rfl|g
   .exact(aE.getElem?_eq_some_iff.1 l).1
   exact RTs.lt sz r _ j o b g
 |.bx cs,v,fp,i,b,g=>by
   simp only[RT]at i;obtain⟨c,t,p,j,I,l,o,rfl⟩:=i;rcases bC.1 g with rfl|g
   .exact(aE.getElem?_eq_some_iff.1 l).1
   exact RTc.lt cs _ j o b g
 |.mp ag ks vs,v,fp,i,b,g=>by
   simp only[RT]at i;obtain⟨c,R,clock,j,I,l,P,o,rfl⟩:=i;rcases bC.1 g with rfl|g
   .exact(aE.getElem?_eq_some_iff.1 l).1
   exact RTm.lt ag vs _ j o b g
 |.mpi ag ks vs seen,v,fp,i,b,g=>by
   simp only[RT]at i;obtain⟨c,ci,R,clock,J,arr,st,j,I,l,P,U,h8,o,rfl⟩:=i;rcases bC.1 g with rfl|g
   .exact(aE.getElem?_eq_some_iff.1 l).1
   rcases bC.1 g with rfl|g
   .exact(aE.getElem?_eq_some_iff.1 U).1
   exact RTm.lt ag vs _ j o b g
 |.hole,v,fp,i,b,g=>by simp only[RT]at i;rw[i]at g;cases g
theorem RTc.lt{w:aB}{ok:Nat->Prop}:∀(l:am T) (vs:am Value) (fp:am Nat),RTc w ok l vs fp->∀b∈fp,b<w.heap.size
 |[],vs,fp,j,b,i=>by simp only[RTc]at j;rw[j.2]at i;cases i
 |t::r,vs,fp,j,b,i=>by
  simp only[RTc]at j;obtain⟨v,o,f,g,J,p,I,rfl⟩:=j;rcases cA.1 i with i|i
  .exact RT.lt t v f p b i
  exact RTc.lt r o g I b i
theorem RTs.lt{w:aB}{ok:Nat->Prop}(sz:Nat):∀(l:am (am T)) (vs:am Value) (fp:am Nat),RTs w ok sz l vs fp->∀b∈fp,b<w.heap.size
 |[],vs,fp,j,b,i=>by simp only[RTs]at j;rw[j]at i;cases i
 |e::r,vs,fp,j,b,i=>by
  simp only[RTs]at j;obtain⟨f,g,I,o,p,rfl⟩:=j;rcases cA.1 i with i|i
  .exact RTc.lt e _ f o b i
  exact RTs.lt sz r _ g p b i
theorem RTm.lt{w:aB}{ok:Nat->Prop}(ag:Bool):∀(l:am (am T)) (o:am bG) (fp:am Nat),RTm w ok ag l o fp->∀b∈fp,b<w.heap.size
 |[],o,fp,j,b,i=>by simp only[RTm]at j;rw[j.2]at i;cases i
 |e::r,o,fp,j,b,i=>by
  simp only[RTm]at j;obtain⟨m,p,vs,f,g,P,R,I,J,rfl⟩:=j;rcases cA.1 i with i|i
  .exact RTc.lt e vs f I b i
  exact RTm.lt ag r p g J b i
end
theorem RDc.keep'{w w':aB}{ok ok':Nat->Prop}(h:zR w w' ok ok')(b:Nat):∀(l:am D) (o:Nat),(∀j,o<=j->j<o+l.length->w'.cell? ⟨b,j,none⟩=w.cell? ⟨b,j,none⟩)->RDc w ok b o l->RDc w' ok' b o l
 |[],o,_,_=>by simp only[RDc]
 |d::r,o,p,I=>by simp only[RDc]at I⊢;obtain⟨⟨v,i,g⟩,J⟩:=I;refine⟨⟨v,by rw[p o (aY _) dT];exact i,RD.keep h d v g⟩,RDc.keep' h b r (o+1) (λj i g=>p j d8 (by simp at g⊢;omega)) J⟩
theorem RDs.keep'{w w':aB}{ok ok':Nat->Prop}(h:zR w w' ok ok')(b sz:Nat):∀(l:am (am D)) (o:Nat),(∀j,o<=j->j<o+l.length*sz->w'.cell? ⟨b,j,none⟩=w.cell? ⟨b,j,none⟩)->RDs w ok b sz o l->RDs w' ok' b sz o l
 |[],o,_,_=>by simp only[RDs]
 |e::r,o,I,g=>by
  simp only[RDs]at g⊢;refine⟨g.1,RDc.keep' h b e o (λj i p=>I j i ?_) g.2.1,RDs.keep' h b sz r (o+sz) (λj i p=>I j d8 ?_) g.2.2⟩
  .rw[g.1]at p;simp only[bK,aU,b9];omega
  simp only[bK,aU,b9];omega
theorem RDs.len{w:aB}{ok:Nat->Prop}{b sz:Nat}:∀{l:am (am D)}{o:Nat},RDs w ok b sz o l->∀e∈l,e.length=sz
 |[],_,_,e,g=>by cases g
 |x::r,o,i,e,g=>by
  simp only[RDs]at i;rcases bC.1 g with rfl|g
  .exact i.1
  exact RDs.len i.2.2 e g
theorem RDs.get{w:aB}{ok:Nat->Prop}{b sz:Nat}:∀{l:am (am D)}{o i:Nat}{e:am D},RDs w ok b sz o l->l[i]?=some e->RDc w ok b (o+i*sz) e
 |[],_,i,e,_,g=>by simp at g
 |x::r,o,0,e,j,g=>by simp only[RDs]at j;simp at g;subst g;simpa using j.2.1
 |x::r,o,i+1,e,j,g=>by simp only[RDs]at j;simp at g;have:=RDs.get j.2.2 g;rwa[show o+(i+1)*sz=o+sz+i*sz by rw[aU];omega]
theorem RDs.take{w:aB}{ok:Nat->Prop}{b sz:Nat}:∀{l:am (am D)}{o:Nat}(n:Nat),RDs w ok b sz o l->RDs w ok b sz o (l.take n)
 |[],_,n,_=>by simp[RDs]
 |x::r,o,0,g=>by simp[RDs]
 |x::r,o,n+1,g=>by simp only[RDs,List.take_succ_cons]at g⊢;exact⟨g.1,g.2.1,RDs.take n g.2.2⟩
theorem RDs.drop{w:aB}{ok:Nat->Prop}{b sz:Nat}:∀{l:am (am D)}{o:Nat}(n:Nat),RDs w ok b sz o l->RDs w ok b sz (o+n*sz) (l.drop n)
 |[],_,n,_=>by simp[RDs]
 |x::r,o,0,g=>by simpa using g
 |x::r,o,n+1,g=>by simp only[cB];simp only[RDs]at g;have:=RDs.drop n g.2.2;rwa[show o+(n+1)*sz=o+sz+n*sz by rw[aU];omega]
theorem RDc.drop{w:aB}{ok:Nat->Prop}{b:Nat}:∀{l:am D}{o:Nat}(n:Nat),RDc w ok b o l->RDc w ok b (o+n) (l.drop n)
 |[],_,n,_=>by simp[RDc]
 |x::r,o,0,g=>by simpa using g
 |x::r,o,n+1,g=>by simp only[cB];simp only[RDc]at g;have:=RDc.drop n g.2;rwa[show o+(n+1)=o+1+n by omega]
def z7(w w':aB):Prop:=∀b t m,w.shape? b=some (t,m)->w'.shape? b=some (t,m)
theorem z7.refl(w:aB):z7 w w:=λ_ _ _ h=>h
structure GhR(g' g:Gh):Prop where
 b:g'.b=g.b
 n:g'.n=g.n
 v:g'.v=g.v
theorem GhR.of_eq{i g:Gh}(h:i=g):GhR i g:=by subst h;exact⟨rfl,rfl,rfl⟩
section
variable {ι ι':Nat->Gh}{w w':aB}{ok ok':Nat->Prop}{l:am Nat}
theorem CR.kill(hk:zR w w' ok ok')(hs:z7 w w')(I:∀p,isin p l=false->GhR (ι' p) (ι p))(c:C)(v:Value)(h:CR ι w ok c v):CR ι' w' ok' (c.kill l) v:=by
 cases c with
 |dead=>trivial
 |d x=>exact RD.keep hk x v h
 |nil=>exact h
 |ptr p o=>
  simp only[C.kill];cases g:isin p l
  .obtain⟨b,r,j⟩:=h;exact⟨b,by rw[(I p g).b];exact r,j⟩
  trivial
 |eptr p z i k=>
  simp only[C.kill];cases g:isin p l
  .obtain⟨b,r,j⟩:=h;exact⟨b,by rw[(I p g).b];exact r,j⟩
  trivial
 |own p z n=>
  simp only[C.kill];cases g:isin p l
  .rcases h with⟨r,j,P⟩|⟨b,cap,t,r,j,P,U,h5,h6⟩
   .exact .inl ⟨by rw[(I p g).b];exact r,j,P⟩
   exact .inr ⟨b,cap,t,by rw[(I p g).b];exact r,by rw[(I p g).n];exact j,P,U,h5,hs _ _ _ h6⟩
  trivial
 |sub p z o n=>
  simp only[C.kill];cases g:isin p l
  .simp only[CR]at h;simp only[CR,cd];rw[(I p g).b,(I p g).n];exact h
  trivial
 |fp cells=>
  obtain⟨b,o,r,j,P⟩:=h;exact⟨b,o,r,(hk b j).1,RDc.keep hk b j _ _ P⟩
 |clo f J=>
  simp only[C.kill];cases g:J.any (λq=>isin q l)
  .obtain⟨R,r,j⟩:=h;refine⟨R,?_,j⟩<;>grind[List.map_congr_left,GhR.b]
  trivial
 |root p=>
  simp only[C.kill];cases g:isin p l
  .obtain⟨r,j⟩:=h;exact⟨by rw[(I p g).v];exact r,j⟩
  trivial
 |iter p=>
  simp only[C.kill];cases g:isin p l
  .simp only[CR]at h;simp only[CR,cd];rw[(I p g).b];exact h
  trivial
theorem CR.keep(hk:zR w w' ok ok')(hs:z7 w w')(c:C)(v:Value)(h:CR ι w ok c v):CR ι w' ok' c v:=by
 cases c with
 |dead=>trivial
 |d x=>exact RD.keep hk x v h
 |nil=>exact h
 |ptr p o=>exact h
 |eptr p z i k=>exact h
 |own p z n=>
  rcases h with h|⟨b,cap,t,j,g,l,I,J,P⟩
  .exact .inl h
  exact .inr ⟨b,cap,t,j,g,l,I,J,hs _ _ _ P⟩
 |sub p z o n=>exact h
 |fp cells=>
  obtain⟨b,o,j,g,l⟩:=h;exact⟨b,o,j,(hk b g).1,RDc.keep hk b g _ _ l⟩
 |clo f r=>exact h
 |root p=>exact h
 |iter p=>exact h
theorem CRs.kill(hk:zR w w' ok ok')(hs:z7 w w')(g:∀p,isin p l=false->GhR (ι' p) (ι p)):∀(cs:am C) (vs:am Value),CRs ι w ok cs vs->CRs ι' w' ok' (cs.map (C.kill l)) vs
 |[],[],_=>trivial
 |[],_::_,h=>h
 |_::_,[],h=>h
 |c::cs,v::vs,h=>⟨CR.kill hk hs g c v h.1,CRs.kill hk hs g cs vs h.2⟩
theorem CRs.keep(hk:zR w w' ok ok')(hs:z7 w w'):∀(cs:am C) (vs:am Value),CRs ι w ok cs vs->CRs ι w' ok' cs vs
 |[],[],_=>trivial
 |[],_::_,h=>h
 |_::_,[],h=>h
 |c::cs,v::vs,h=>⟨CR.keep hk hs c v h.1,CRs.keep hk hs cs vs h.2⟩
theorem WR.kill(hk:zR w w' ok ok')(hs:z7 w w')(g:∀p,isin p l=false->GhR (ι' p) (ι p))(x:W)(v:Value)(h:WR ι w ok x v):WR ι' w' ok' (x.kill l) v:=by
 cases x with
 |c x=>exact CR.kill hk hs g x v h
 |agg cs=>obtain⟨vs,i,j⟩:=h;exact⟨vs,i,CRs.kill hk hs g cs vs j⟩
theorem WR.keep(hk:zR w w' ok ok')(hs:z7 w w')(x:W)(v:Value)(h:WR ι w ok x v):WR ι w' ok' x v:=by
 cases x with
 |c x=>exact CR.keep hk hs x v h
 |agg cs=>obtain⟨vs,g,i⟩:=h;exact⟨vs,g,CRs.keep hk hs cs vs i⟩
theorem qq.kill(hk:zR w w' ok ok')(hs:z7 w w')(g:∀p,isin p l=false->GhR (ι' p) (ι p)):∀(cs:am W) (vs:am Value),qq ι w ok cs vs->qq ι' w' ok' (cs.map (W.kill l)) vs
 |[],[],_=>trivial
 |[],_::_,h=>h
 |_::_,[],h=>h
 |c::cs,v::vs,h=>⟨WR.kill hk hs g c v h.1,qq.kill hk hs g cs vs h.2⟩
theorem qq.keep(hk:zR w w' ok ok')(hs:z7 w w'):∀(cs:am W) (vs:am Value),qq ι w ok cs vs->qq ι w' ok' cs vs
 |[],[],_=>trivial
 |[],_::_,h=>h
 |_::_,[],h=>h
 |c::cs,v::vs,h=>⟨WR.keep hk hs c v h.1,qq.keep hk hs cs vs h.2⟩
theorem VR.kill(hk:zR w w' ok ok')(hs:z7 w w')(g:∀p,isin p l=false->GhR (ι' p) (ι p))(x:V)(v:Value)(h:VR ι w ok x v):VR ι' w' ok' (x.kill l) v:=by
 cases x with
 |w x=>exact WR.kill hk hs g x v h
 |tup cs=>obtain⟨vs,i,j⟩:=h;exact⟨vs,i,qq.kill hk hs g cs vs j⟩
theorem VR.keep(hk:zR w w' ok ok')(hs:z7 w w')(x:V)(v:Value)(h:VR ι w ok x v):VR ι w' ok' x v:=by
 cases x with
 |w x=>exact WR.keep hk hs x v h
 |tup cs=>obtain⟨vs,g,i⟩:=h;exact⟨vs,g,qq.keep hk hs cs vs i⟩
end
theorem CRs.length{ι:Nat->Gh}{w:aB}{ok:Nat->Prop}:∀{cs:am C}{vs:am Value},CRs ι w ok cs vs->cs.length=vs.length
 |[],[],_=>rfl
 |[],_::_,h=>h.elim
 |_::_,[],h=>h.elim
 |_::_,_::_,h=>by simp[CRs.length h.2]
theorem CRs.take{ι:Nat->Gh}{w:aB}{ok:Nat->Prop}:∀{cs:am C}{vs:am Value}(n:Nat),CRs ι w ok cs vs->CRs ι w ok (cs.take n) (vs.take n)
 |[],[],n,_=>d9
 |[],_::_,_,h=>h.elim
 |_::_,[],_,h=>h.elim
 |_::_,_::_,0,_=>by simp[CRs]
 |_::_,_::_,n+1,h=>⟨h.1,CRs.take n h.2⟩
theorem CRs.drop{ι:Nat->Gh}{w:aB}{ok:Nat->Prop}:∀{cs:am C}{vs:am Value}(n:Nat),CRs ι w ok cs vs->CRs ι w ok (cs.drop n) (vs.drop n)
 |[],[],n,_=>d9
 |[],_::_,_,h=>h.elim
 |_::_,[],_,h=>h.elim
 |_::_,_::_,0,h=>h
 |_::_,_::_,n+1,h=>CRs.drop n h.2
theorem CRs.append{ι:Nat->Gh}{w:aB}{ok:Nat->Prop}:∀{cs i:am C}{vs us:am Value},CRs ι w ok cs vs->CRs ι w ok i us->CRs ι w ok (cs++i) (vs++us)
 |[],_,[],_,_,g=>g
 |[],_,_::_,_,h,_=>h.elim
 |_::_,_,[],_,h,_=>h.elim
 |_::_,_,_::_,_,h,g=>⟨h.1,CRs.append h.2 g⟩
theorem CR.one{ι:Nat->Gh}{w:aB}{ok:Nat->Prop}{c:C}{v:Value}(h:CR ι w ok c v)(j:c.isDead=false):v.oneCell'=true:=by
 cases c with
 |dead=>cases j
 |d x=>cases x with
  |lit u=>grind[CR,RD]
  |sl l=>simp only[CR,RD]at h;obtain⟨_,_,_,rfl,_⟩:=h;rfl
  |fn f l=>simp only[CR,RD]at h;obtain⟨_,rfl,_⟩:=h;rfl
  |ifc f l=>simp only[CR,RD]at h;obtain⟨_,rfl,_⟩:=h;rfl
  |mp a k l=>simp only[CR,RD]at h;obtain⟨_,_,_,rfl,_⟩:=h;rfl
 |nil=>simp only[CR]at h;subst h;rfl
 |ptr p o=>obtain⟨_,_,rfl⟩:=h;rfl
 |eptr p z i k=>obtain⟨_,_,rfl⟩:=h;rfl
 |own p z n=>rcases h with⟨_,_,rfl⟩|⟨_,_,_,_,_,rfl,_⟩<;>rfl
 |sub p z o n=>obtain⟨_,_,rfl,_⟩:=h;rfl
 |fp cells=>obtain⟨_,_,rfl,_⟩:=h;rfl
 |clo f g=>obtain⟨_,_,rfl⟩:=h;rfl
 |root p=>exact h.2
 |iter p=>obtain⟨_,_,_,_,rfl⟩:=h;rfl
theorem CRs.ones{ι:Nat->Gh}{w:aB}{ok:Nat->Prop}:∀{cs:am C}{vs:am Value},CRs ι w ok cs vs->solid cs=true->∀v∈vs,v.oneCell'=true
 |[],[],_,_,_,hv=>by cases hv
 |[],_::_,h,_,_,_=>h.elim
 |_::_,[],h,_,_,_=>h.elim
 |c::cs,v::vs,h,hs,u,i=>by
  unfold solid at hs;cases g:c.isDead
  .rw[g]at hs;rcases bC.1 i with rfl|i
   .exact CR.one h.1 g
   exact CRs.ones h.2 hs u i
  rw[g]at hs;cases hs
theorem Pl.live_kill(x:Pl)(l:am Nat):(x.kill l).live=x.live:=by cases x<;>rfl
theorem RowAt.cell{w:aB}{b:Nat}{g:aE Value}(h:RowAt w b g)(j:Nat):w.cell? ⟨b,j,none⟩=g[j]? :=by obtain⟨t,h⟩:=h;grind[cj]
theorem RowAt.lt{w:aB}{b:Nat}{g:aE Value}(h:RowAt w b g):b<w.heap.size:=by obtain⟨t,h⟩:=h;grind
theorem PR.kill{ι ι':Nat->Gh}{w w':aB}{ok ok':Nat->Prop}{l:am Nat}(hk:zR w w' ok ok')(hs:z7 w w')(hι:∀p,isin p l=false->GhR (ι' p) (ι p))(p:Nat)(he:ι' p=ι p)(x:Pl)
 (r:x.live=true->∀b,foot ι p x b->w'.heap[b]?=w.heap[b]?) (h:PR ι w ok p x):PR ι' w' ok' p (x.kill l):=by
 cases x with
 |box cs=>
  obtain⟨b,j,g,⟨t,i⟩,o⟩:=h;exact⟨b,j,d9,⟨t,by rw[r rfl b g];exact i⟩,CRs.kill hk hs hι cs _ o⟩
 |arr sz R U=>
  obtain⟨h0,hn,h⟩:=h;refine⟨h0,d9,?_⟩;rcases h with⟨g,i⟩|⟨b,g,i,o,h4⟩
  .grind
  refine .inr ⟨b,d9,?_,λI=>(hk b (o I)).1,λI=>?_⟩
  .have P:w'.heap[b]?=w.heap[b]? :=by
    cases U
    .exact r rfl b g
    exact(hk b (o rfl)).2
   grind[RDs.keep',cell_of_heap]
  obtain⟨j,⟨t,h5⟩,h6⟩:=h4 I;subst I;exact⟨j,⟨t,by rw[r rfl b g];exact h5⟩,h6⟩
 |fbox ds=>
  obtain⟨b,g,i,o⟩:=h;exact⟨b,d9,(hk b i).1,RDc.keep hk b i _ _ o⟩
 |deep t=>
  obtain⟨g,i⟩:=h;simp only[Pl.kill,PR];rw[he];exact⟨g,RT.keep hk t _ _ (λb J=>r rfl b J) i⟩
 |gone=>exact h.elim
theorem qx(ι:Nat->Gh)(p:Nat)(x:Pl)(l:am Nat)(b:Nat):foot ι p (x.kill l) b=foot ι p x b:=by cases x<;>rfl
theorem Ys(ι:Nat->Gh)(p:Nat)(x:Pl)(l:am (aA Nat))(b:Nat):foot ι p (x.ren l) b=foot ι p x b:=by cases x<;>rfl
theorem xX{ι ι':Nat->Gh}{p q:Nat}(h:ι' p=ι q)(x:Pl)(b:Nat):foot ι' p x b=foot ι q x b:=by simp_all[foot]
theorem PR.lt{ι:Nat->Gh}{w:aB}{ok:Nat->Prop}{p:Nat}{x:Pl}(R:∀b,ok b->b<w.heap.size)(h:PR ι w ok p x){b:Nat}(i:foot ι p x b):b<w.heap.size:=by
 cases x with
 |box cs=>obtain⟨o,j,g,l,_⟩:=h;rw[show(ι p).b=some b from i]at g;cases g;exact l.lt
 |arr sz J P=>
  have i:(ι p).b=some b:=i;obtain⟨_,_,hz|⟨o,g,l,e3,r⟩⟩:=h
  .grind
  rw[i]at g;cases g;cases P
  .obtain⟨j,I,_⟩:=r rfl;exact I.lt
  grind
 |fbox U=>obtain⟨o,g,l,_⟩:=h;rw[show(ι p).b=some b from i]at g;grind
 |deep t=>exact RT.lt t _ _ h.2 b i
 |gone=>exact h.elim
theorem Grows.refl(M:Nat->Prop)(w:aB):Grows M w w:=⟨rfl,rfl,Out.refl w,aY _,λ_ _ _=>rfl,λ_ _ _ h=>h⟩
section
variable {F:Fr}{N:Nat}{ι:Nat->Gh}{s:S}{a:Act}{w:aB}
theorem S.redo_sl(s:S)(g:am Nat)(new:am (Nat×Pl))(k:Nat):aget (s.redo g new).sl k=(aget s.sl k).map (V.kill g):=by grind[S.redo,amW]
theorem S.redo_pl(s:S)(g:am Nat)(new:am (Nat×Pl))(p:Nat):
 aget (s.redo g new).pl p=match aget new p with|some x=>some x|none=>if isin p g=false then(aget s.pl p).map (Pl.kill g)else none:=by grind[S.redo,apK,amW,jr]
theorem Rel.redoR(hr:Rel F N ι s a w)(i:am Nat)(new:am (Nat×Pl))(ι':Nat->Gh)(w':aB)
 (hι:∀p,isin p i=false->aget new p=none->ι' p=ι p) (an:∀p,isin p i=false->GhR (ι' p) (ι p))
 (aa:∀b,b<w.heap.size->(∀q y,(isin q i=true\/aget new q≠none)->aget s.pl q=some y->y.live=true->¬foot ι q y b)->w'.heap[b]?=w.heap[b]?)
 (hs:z7 w w') (ai:w'.os=w.os) (af:w'.tape=w.tape) (ag:Out w w') (ab:w.heap.size<=w'.heap.size)
 (au:∀p x,aget new p=some x->PR ι' w' (F.ok ι' (s.redo i new).pl w') p x)
 (o:∀p x b,aget new p=some x->foot ι' p x b->b<w'.heap.size/\(w.heap.size<=b\/∃q y,(isin q i=true\/aget new q≠none)/\aget s.pl q=some y/\y.live=true/\foot ι q y b))
 (ao:∀p q x y b,aget new p=some x->aget new q=some y->p≠q->foot ι' p x b->¬foot ι' q y b)
 (hh:∀p x g,aget new p=some x->F.h p=some g->ι' p=g):
 Rel F N ι' (s.redo i new) a w':=by
 have ac:∀b,Owns ι' (s.redo i new).pl b->(w.heap.size<=b\/Owns ι s.pl b)/\b<w'.heap.size:=by
  rintro b ⟨p,x,j,hl,I⟩;rw[S.redo_pl]at j;cases R:aget new p with
  |some y=>
   simp only[R]at j;cases j;obtain⟨h1,h2⟩:=o p _ b R I;refine⟨?_,h1⟩;rcases h2 with h2|⟨q,z,_,h4,h5,h6⟩
   .grind
   exact .inr ⟨q,z,h4,h5,h6⟩
  |none=>
   simp only[R]at j;split at j
   .rename_i hk;cases U:aget s.pl p with
    |none=>grind
    |some y=>
     rw[U]at j;simp at j;subst j;have ho:Owns ι s.pl b:=⟨p,y,U,by grind[Pl.live_kill],by grind[qx,xX]⟩;exact⟨.inr ho,bL (hr.mine b ho).2 ab⟩
   cases j
 have ad:zR w w' (F.ok ι s.pl w) (F.ok ι' (s.redo i new).pl w'):=by
  intro b I;obtain⟨h1,h2,P⟩:=I;refine⟨⟨h1,bL h2 ab,λho=>?_⟩,aa b h2 (λq y _ l hl hq=>P ⟨q,y,l,hl,hq⟩)⟩
  grind
 refine⟨hr.room,?_,?_,?_,?_,hr.defers,?_,hr.foreign,hr.handed,hr.few,hr.hdom,?_⟩
 rotate_left 5
 .intro p x g j hg;rw[S.redo_pl]at j;cases R:aget new p with
  |some y=>grind
  |none=>
   simp only[R]at j;split at j
   .rename_i hk;cases U:aget s.pl p with
    |none=>grind
    |some y=>rw[hι p hk R];exact hr.hkeep p y g U hg
   cases j
 .intro k v hv;rw[S.redo_sl]at hv;cases hk:aget s.sl k with
  |none=>grind
  |some u=>
   rw[hk]at hv;simp at hv;subst hv;obtain⟨x,h1,h2⟩:=hr.slots k u hk<;>grind[VR.kill]
 .intro p x j;rw[S.redo_pl]at j;cases R:aget new p with
  |some y=>grind
  |none=>
   simp only[R]at j;split at j
   .rename_i hk;cases U:aget s.pl p with
    |none=>grind
    |some y=>
     rw[U]at j;simp at j;subst j;refine PR.kill ad hs an p (hι p hk R) y (λhl b I=>?_) (hr.places p y U);refine aa b (hr.mine b ⟨p,y,U,hl,I⟩).2 (λq z hq hz ar ak=>?_);have ae:p≠q:=λe=>d9
     exact hr.inj p q y z b U hz ae hl I ak
   cases j
 .intro p q x y b j l ae hl I hq;rw[S.redo_pl]at j l;cases R:aget new p with
  |some x'=>
   simp only[R]at j;cases j;cases hm:aget new q with
   |some y'=>grind
   |none=>
    simp only[hm]at l;split at l
    .rename_i hk;cases J:aget s.pl q with
     |none=>rw[J]at l;cases l
     |some z=>
      rw[J]at l;simp at l;subst l;rw[qx,xX (hι q hk hm)]at hq;obtain⟨_,h2⟩:=o p _ b R I;have aq:b<w.heap.size:=(hr.places q z J).lt (λ_ h=>h.2.1) hq;rcases h2 with h2|⟨r,u,P,h4,h5,h6⟩
      .omega
      have al:r≠q:=λe=>by subst e;rcases P with P|P; ·rw[hk]at P;cases P
                          .exact P hm
      exact hr.inj r q u z b h4 J al h5 h6 hq
    cases l
  |none=>
   simp only[R]at j;split at j
   .rename_i hk;cases U:aget s.pl p with
    |none=>rw[U]at j;cases j
    |some x'=>
     rw[U]at j;simp at j;subst j;rw[Pl.live_kill]at hl;rw[qx,xX (hι p hk R)]at I;cases hm:aget new q with
     |some y'=>
      simp only[hm]at l;cases l;obtain⟨_,h2⟩:=o q _ b hm hq;rcases h2 with h2|⟨r,u,P,h4,h5,h6⟩
      .have:=(hr.mine b ⟨p,x',U,hl,I⟩).2;omega
      have aj:p≠r:=λe=>by subst e;rcases P with P|P; ·rw[hk]at P;cases P
                          .exact P R
      exact hr.inj p r x' u b U h4 aj hl I h6
     |none=>
      simp only[hm]at l;split at l
      .rename_i ah;cases J:aget s.pl q with
       |none=>rw[J]at l;cases l
       |some z=>
        rw[J]at l;simp at l;subst l;rw[qx,xX (hι q ah hm)]at hq;exact hr.inj p q x' z b U J ae hl I hq
      cases l
   cases j
 .intro b I;obtain⟨h1,h2⟩:=ac b I;refine⟨?_,h2⟩;rcases h1 with h1|h1
  .exact .inr (dE hr.grows.size h1)
  exact(hr.mine b h1).1
 refine⟨ai.trans hr.grows.os,af.trans hr.grows.tape,ag.trans hr.grows.output,dE hr.grows.size ab,λb I hm=>?_,λb t m h=>hs b t m (hr.grows.shapes b t m h)⟩;rw[aa b (bL I hr.grows.size) ?_]
 .exact hr.grows.block b I hm
 intro q y _ l hl hq;rcases(hr.mine b ⟨q,y,l,hl,hq⟩).1 with h|h
 .exact hm h
 omega
theorem Rel.redoG(hr:Rel F N ι s a w)(i:am Nat)(new:am (Nat×Pl))(ι':Nat->Gh)(w':aB)
 (U:∀p,isin p i=false->ι' p=ι p)
 (l:∀b,b<w.heap.size->(∀q y,(isin q i=true\/aget new q≠none)->aget s.pl q=some y->y.live=true->¬foot ι q y b)->w'.heap[b]?=w.heap[b]?)
 (hs:z7 w w') (P:w'.os=w.os) (r:w'.tape=w.tape) (J:Out w w') (o:w.heap.size<=w'.heap.size)
 (R:∀p x,aget new p=some x->PR ι' w' (F.ok ι' (s.redo i new).pl w') p x)
 (j:∀p x b,aget new p=some x->foot ι' p x b->b<w'.heap.size/\(w.heap.size<=b\/∃q y,(isin q i=true\/aget new q≠none)/\aget s.pl q=some y/\y.live=true/\foot ι q y b))
 (I:∀p q x y b,aget new p=some x->aget new q=some y->p≠q->foot ι' p x b->¬foot ι' q y b)
 (hh:∀p x g,aget new p=some x->F.h p=some g->ι' p=g):
 Rel F N ι' (s.redo i new) a w':=
 hr.redoR i new ι' w' (λp h _=>U p h) (λp h=>GhR.of_eq (U p h)) l hs P r J o R j I hh
theorem Rel.redo(hr:Rel F N ι s a w)(i:am Nat)(new:am (Nat×Pl))(ι':Nat->Gh)(w':aB)
 (hι:∀p,isin p i=false->ι' p=ι p)
 (l:∀b,b<w.heap.size->(∀q y,isin q i=true->aget s.pl q=some y->y.live=true->¬foot ι q y b)->w'.heap[b]?=w.heap[b]?)
 (hs:z7 w w') (U:w'.os=w.os) (I:w'.tape=w.tape) (P:Out w w') (o:w.heap.size<=w'.heap.size)
 (aa:∀p x,aget new p=some x->PR ι' w' (F.ok ι' (s.redo i new).pl w') p x)
 (j:∀p x b,aget new p=some x->foot ι' p x b->b<w'.heap.size/\(w.heap.size<=b\/∃q y,isin q i=true/\aget s.pl q=some y/\y.live=true/\foot ι q y b))
 (J:∀p q x y b,aget new p=some x->aget new q=some y->p≠q->foot ι' p x b->¬foot ι' q y b)
 (hh:∀p x,aget new p=some x->F.h p=none):
 Rel F N ι' (s.redo i new) a w':=
 hr.redoG i new ι' w' hι (λb R h=>l b R λq y hq=>h q y (.inl hq)) hs U I P o aa
  (λp x b hx R=>⟨(j p x b hx R).1,(j p x b hx R).2.imp id λ⟨q,y,h,r⟩=>⟨q,y,.inl h,r⟩⟩) J (λp x g hx hg=>d9)
theorem Rel.h_slot(hr:Rel F N ι s a w){d:Nat}(i:d<N):F.h d=none:=by
 cases h:F.h d with
 |none=>rfl
 |some g=>have:=hr.hdom d g h;have:=hr.few;omega
theorem Rel.h_big(hr:Rel F N ι s a w){i:Nat}(hi:600000<=i):F.h i=none:=by
 cases h:F.h i with
 |none=>rfl
 |some g=>have:=hr.hdom i g h;omega
theorem PR.keep{ι:Nat->Gh}{w:aB}{ok ok':Nat->Prop}(hk:zR w w ok ok'){p:Nat}{x:Pl}(h:PR ι w ok p x):PR ι w ok' p x:=by
 cases x with
 |box cs=>obtain⟨b,l,i,g,j⟩:=h;exact⟨b,l,i,g,CRs.keep hk (z7.refl w) _ _ j⟩
 |arr sz o R=>
  obtain⟨h0,r,h|⟨b,i,g,j,I⟩⟩:=h
  .exact⟨h0,r,.inl h⟩
  exact⟨h0,r,.inr ⟨b,i,RDs.keep' hk b sz o 0 (λ_ _ _=>rfl) g,λJ=>(hk b (j J)).1,I⟩⟩
 |fbox P=>obtain⟨b,i,g,j⟩:=h;exact⟨b,i,(hk b g).1,RDc.keep hk b g _ _ j⟩
 |deep t=>exact⟨h.1,RT.keep hk t _ _ (λ_ _=>rfl) h.2⟩
 |gone=>exact h.elim
theorem Rel.sub(hr:Rel F N ι s a w)(t:S)(R:∀k v,aget t.sl k=some v->aget s.sl k=some v)(l:∀p x,aget t.pl p=some x->aget s.pl p=some x):Rel F N ι t a w:=by
 have i:∀b,Owns ι t.pl b->Owns ι s.pl b:=λb ⟨p,x,I,J,P⟩=>⟨p,x,l p x I,J,P⟩
 have j:zR w w (F.ok ι s.pl w) (F.ok ι t.pl w):=λb o=>⟨⟨o.1,o.2.1,λh=>o.2.2 (i b h)⟩,rfl⟩
 refine⟨hr.room,λk v hv=>?_,λp x r=>?_,λp q x y b r hy=>hr.inj p q x y b (l p x r) (l q y hy),λb o=>hr.mine b (i b o),hr.defers,hr.grows,hr.foreign,hr.handed,hr.few,hr.hdom,λp x g r U=>hr.hkeep p x g (l p x r) U⟩
 .obtain⟨x,I,J⟩:=hr.slots k v (R k v hv)
  grind[VR.keep,z7.refl]
 exact PR.keep j (hr.places p x (l p x r))
theorem Act.put_size(a:Act)(d:aA Tmp)(v:Value):(a.put d v).tmps.size=a.tmps.size:=by cases d<;>grind[Act.put]
theorem Act.put_defers(a:Act)(d:aA Tmp)(v:Value):(a.put d v).defers=a.defers:=by cases d<;>grind[Act.put]
theorem Rel.put(hr:Rel F N ι s a w)(d:aA Tmp)(j:∀k,d=some k->k<N)(v:V)(x:Value)(hv:VR ι w (F.ok ι s.pl w) v x):Rel F N ι (s.put d v) (a.put d x) w:=by
 cases d with
 |none=>exact hr
 |some d=>
  have l:d<a.tmps.size:=bL (j d rfl) hr.room.1;refine⟨by rw[Act.put_size];exact hr.room,λk u g=>?_,hr.places,hr.inj,hr.mine,by rw[Act.put_defers];exact hr.defers,hr.grows,hr.foreign,hr.handed,hr.few,hr.hdom,hr.hkeep⟩;simp only[S.put,yG]at g;simp only[Act.put];by_cases hk:d=k
  .subst hk;simp only[dn]at g;cases g;exact⟨x,d9,hv⟩
  rw[bO hk]at g;obtain⟨y,o,i⟩:=hr.slots k u g;exact⟨y,dW,i⟩
end
section
variable {F:Fr}{N:Nat}{ι:Nat->Gh}{s:S}{a:Act}{w:aB}
def S.withPl(s:S)(pl:am (Nat×Pl)):S:={s with pl:=pl}
theorem vQ(pl:am (Nat×Pl))(p q:Nat):aget (va pl p) q=if p=q then(match aget pl p with|some (.arr z g _)=>some (.arr z g true)|x=>x)else aget pl q:=by grind[va,yG]
theorem Rel.freeze(hr:Rel F N ι s a w)(p:Nat):Rel F N ι (s.withPl (va s.pl p)) a w:=by
 have aa:∀b,Owns ι (va s.pl p) b->Owns ι s.pl b:=by
  rintro b ⟨q,x,I,U,h3⟩;rw[vQ]at I;split at I
  .rename_i e;subst e;cases o:aget s.pl p with
   |none=>grind
   |some y=>
    rw[o]at I;cases y with
    |arr z R fz=>cases I;cases U
    |_=>cases I;exact⟨p,_,o,U,h3⟩
  exact⟨q,x,I,U,h3⟩
 have j:zR w w (F.ok ι s.pl w) (F.ok ι (va s.pl p) w):=λb hb=>⟨⟨hb.1,hb.2.1,λh=>hb.2.2 (aa b h)⟩,rfl⟩
 refine⟨hr.room,λk v hv=>?_,λq x hx=>?_,λq r x y b hx hy ag hl hb ab=>?_,λb hb=>hr.mine b (aa b hb),hr.defers,hr.grows,hr.foreign,hr.handed,hr.few,hr.hdom,λq x g hx hg=>?_⟩
 rotate_left 3
 .have i:aget (va s.pl p) q=some x:=hx;rw[vQ]at i;split at i
  .rename_i e;subst e;cases o:aget s.pl p with
   |none=>grind
   |some y=>exact hr.hkeep p y g o hg
  exact hr.hkeep q x g i hg
 .obtain⟨x,P,e2⟩:=hr.slots k v hv;exact⟨x,P,VR.keep j (z7.refl w) v x e2⟩
 .have i:aget (va s.pl p) q=some x:=hx;rw[vQ]at i;split at i
  .rename_i e;subst e;cases o:aget s.pl p with
   |none=>grind
   |some y=>
    have h:=hr.places p y o;rw[o]at i;cases y with
    |box cs=>cases i;obtain⟨b,ac,P,e2,e3⟩:=h;exact⟨b,ac,P,e2,CRs.keep j (z7.refl w) _ _ e3⟩
    |fbox ds=>cases i;obtain⟨b,P,e2,e3⟩:=h;exact⟨b,P,(j b e2).1,RDc.keep j b e2 _ _ e3⟩
    |gone=>exact h.elim
    |deep t=>cases i;exact⟨h.1,RT.keep j t _ _ (λ_ _=>rfl) h.2⟩
    |arr z R fz=>
     cases i;obtain⟨h0,hn,h|⟨b,P,e2,e3,e4⟩⟩:=h
     .exact⟨h0,hn,.inl h⟩
     refine⟨h0,hn,.inr ⟨b,P,RDs.keep' j b z R 0 (λ_ _ _=>rfl) e2,λ_=>?_,λhf=>by cases hf⟩⟩;cases fz
     .have ho:Owns ι s.pl b:=⟨p,_,o,rfl,P⟩;refine⟨?_,(hr.mine b ho).2,?_⟩
      .rcases(hr.mine b ho).1 with h|h<;>grind
      rintro⟨q,x,I,U,h3⟩;have l:aget (va s.pl p) q=some x:=I;rw[vQ]at l;split at l
      .rename_i e;subst e;rw[o]at l;cases l;cases U
      rename_i af;exact hr.inj p q _ x b o l af rfl P h3
     exact(j b (e3 rfl)).1
  exact PR.keep j (hr.places q x i)
 have i:aget (va s.pl p) q=some x:=hx;have J:aget (va s.pl p) r=some y:=hy;rw[vQ]at i J;have I:∃x',aget s.pl q=some x'/\x'.live=true/\foot ι q x' b:=by
  split at i
  .rename_i e;subst e;cases o:aget s.pl p with
   |none=>grind
   |some z=>
    rw[o]at i;cases z with
    |arr z R fz=>cases i;cases hl
    |_=>cases i;exact⟨_,rfl,hl,hb⟩
  grind
 have U:∃y',aget s.pl r=some y'/\foot ι r y' b:=by
  split at J
  .rename_i e;subst e;cases o:aget s.pl p with
   |none=>grind
   |some z=>
    rw[o]at J;cases z with
    |arr z R fz=>cases J;exact⟨_,rfl,ab⟩
    |_=>cases J;exact⟨_,rfl,ab⟩
  grind
 obtain⟨x',I,l,ad⟩:=I;obtain⟨y',U,ae⟩:=U;exact hr.inj q r x' y' b I U ag l ad ae
theorem auX(p b:Nat)(h:F.ok ι s.pl w b):F.ok ι (va s.pl p) w b:=by
 refine⟨h.1,h.2.1,λr=>h.2.2 ?_⟩;obtain⟨q,x,g,i,j⟩:=r;rw[vQ]at g;split at g
 .rename_i e;subst e;cases l:aget s.pl p with
  |none=>grind
  |some y=>
   rw[l]at g;cases y with
   |arr z o I=>cases g;cases i
   |_=>cases g;exact⟨p,_,l,i,j⟩
 exact⟨q,x,g,i,j⟩
theorem Rel.still(hr:Rel F N ι s a w){p:Nat}{x y:Pl}(hp:aget s.pl p=some x)(hx:x.live=true)(hy:y.live=false)(R:∀b,foot ι p x b↔(ι p).b=some b)(ab:∀b,foot ι p y b↔(ι p).b=some b)
 (ad:(∀b,F.ok ι s.pl w b->F.ok ι (yN p y s.pl) w b)->(∀b,(ι p).b=some b->F.ok ι (yN p y s.pl) w b)->PR ι w (F.ok ι (yN p y s.pl) w) p y):
 Rel F N ι (s.withPl (yN p y s.pl)) a w/\(∀b,F.ok ι s.pl w b->F.ok ι (yN p y s.pl) w b)/\(∀b,(ι p).b=some b->F.ok ι (yN p y s.pl) w b):=by
 have I:∀b,Owns ι (yN p y s.pl) b->Owns ι s.pl b/\(ι p).b≠some b:=by
  rintro b ⟨q,z,h1,h2,h3⟩;rw[yG]at h1;split at h1
  .grind
  rename_i ac;exact⟨⟨q,z,h1,h2,h3⟩,λe=>hr.inj p q x z b hp h1 ac hx ((R b).2 e) h3⟩
 have j:∀b,F.ok ι s.pl w b->F.ok ι (yN p y s.pl) w b:=λb l=>⟨l.1,l.2.1,λh=>l.2.2 (I b h).1⟩
 have o:zR w w (F.ok ι s.pl w) (F.ok ι (yN p y s.pl) w):=λb l=>⟨j b l,rfl⟩
 have P:∀b,(ι p).b=some b->F.ok ι (yN p y s.pl) w b:=λb l=>by have ho:Owns ι s.pl b:=⟨p,x,hp,hx,(R b).2 l⟩;refine⟨?_,(hr.mine b ho).2,λh=>(I b h).2 l⟩;rcases(hr.mine b ho).1 with h|h<;>grind
 refine⟨⟨hr.room,λk v hv=>?_,λq z hz=>?_,λq r z u b hz hu U hl l aa=>?_,λb l=>hr.mine b (I b l).1,hr.defers,hr.grows,hr.foreign,hr.handed,hr.few,hr.hdom,λq z g hz hg=>?_⟩,j,P⟩
 .obtain⟨u,e1,e2⟩:=hr.slots k v hv;exact⟨u,e1,VR.keep o (z7.refl w) v u e2⟩
 .have i:aget (yN p y s.pl) q=some z:=hz;rw[yG]at i;split at i
  .rename_i e;subst e;cases i;exact ad j P
  exact PR.keep o (hr.places q z i)
 .have i:aget (yN p y s.pl) q=some z:=hz;have J:aget (yN p y s.pl) r=some u:=hu;rw[yG]at i J;split at i
  .grind
  split at J
  .rename_i e;subst e;cases J;exact hr.inj q p z x b i hp U hl l ((R b).2 ((ab b).1 aa))
  exact hr.inj q r z u b i J U hl l aa
 have i:aget (yN p y s.pl) q=some z:=hz;rw[yG]at i;split at i
 .rename_i e;subst e;exact hr.hkeep p x g hp hg
 exact hr.hkeep q z g i hg
theorem aon(hr:Rel F N ι s a w){p z n:Nat}{v:Value}{sz:Nat}{g:am (am D)}{i:Bool}(r:aget s.pl p=some (.arr sz g i))(J:z=sz)
 (h:CR ι w (F.ok ι s.pl w) (.own p z n) v):n<=g.length/\((n=0/\v=.slice none 0 0/\(ι p).b=none/\g=[])\/
  ∃b cap t,(ι p).b=some b/\v=.slice (some ⟨b,0,none⟩) n cap/\n<=cap/\cap<=maxLen/\w.shape? b=some (t,cap*sz)/\RDs w (F.ok ι s.pl w) b sz 0 g):=by
 subst J;obtain⟨h0,hn,I⟩:=hr.places p _ r;rcases h with⟨j,l,o⟩|⟨b,cap,t,j,l,o,P,R,U⟩
 .simp_all
 grind
theorem kl(hr:Rel F N ι s a w){p z n:Nat}{v:Value}{sz:Nat}{g:am (am D)}{i:Bool}(r:aget s.pl p=some (.arr sz g i))
 (h:CR ι w (F.ok ι s.pl w) (.own p z n) v):n<=g.length/\((n=0/\v=.slice none 0 0/\(ι p).b=none/\g=[])\/
  ∃b cap t,(ι p).b=some b/\v=.slice (some ⟨b,0,none⟩) n cap/\n<=cap/\cap<=maxLen/\w.shape? b=some (t,cap*z)/\RDs w (F.ok ι s.pl w) b sz 0 g):=by
 obtain⟨h0,U,I⟩:=hr.places p _ r;rcases h with⟨j,l,o⟩|⟨b,cap,t,j,l,o,J,P,R⟩
 .simp_all
 grind
theorem au0(hr:Rel F N ι s a w){p sz n:Nat}{g:am (am D)}{J:Bool}(hp:aget s.pl p=some (.arr sz g J)){b cap:Nat}(P:(ι p).b=some b)(hn:n<=g.length)
 (j:n<=cap) (i:cap<=maxLen):
 RD w (F.ok ι (va s.pl p) w) (.sl (g.take n)) (.slice (some ⟨b,0,none⟩) n cap):=by
 simp only[RD];refine⟨_,_,_,rfl,dX,j,i,?_⟩;have o:=(hr.freeze p).places p (.arr sz g true) (by show aget (va s.pl p) p=_;simp_all[vQ]);obtain⟨_,_,o|⟨R,l,r,I,U⟩⟩:=o
 .grind
 rw[P]at l;cases l;exact .inr ⟨b,0,sz,rfl,I rfl,RDs.take n r⟩
theorem aiN:∀{e:am T}{l:am D},XR e=some l->l.length=e.length
 |[],l,h=>by grind[XR]
 |x::r,l,h=>by
  simp only[XR]at h;cases g:T.toD x with
  |none=>simp only[g]at h;cases h
  |some y=>
   cases i:XR r with
   |none=>simp only[g,i]at h;cases h
   |some j=>simp only[g,i]at h;cases h;simp[aiN i]
theorem ab3:∀{e:am (am T)}{l:am (am D)},tsD e=some l->l.length=e.length
 |[],l,h=>by grind[tsD]
 |x::r,l,h=>by
  simp only[tsD]at h;cases g:XR x with
  |none=>simp only[g]at h;cases h
  |some y=>
   cases i:tsD r with
   |none=>simp only[g,i]at h;cases h
   |some j=>simp only[g,i]at h;cases h;simp[ab3 i]
mutual
theorem RT.toRD{w:aB}{ok ok':Nat->Prop}(hk:zR w w ok ok'):∀(t:T) (v:Value) (fp:am Nat) (x:D),(∀b∈fp,ok' b)->RT w ok t v fp->T.toD t=some x->RD w ok' x v
 |.d y,v,fp,x,_,o,g=>by grind[T.toD,RT,RD.keep]
 |.sl sz I,v,fp,x,p,o,g=>by
   simp only[T.toD]at g;cases i:tsD I with
   |none=>grind
   |some l=>
    simp only[i]at g;cases g;simp only[RT]at o;rcases o with⟨rfl,rfl,rfl⟩|⟨b,cap,t,r,P,rfl,R,U,h4,h5,h6,rfl⟩
    .simp only[tsD]at i;cases i;simp only[RD];exact⟨none,0,0,rfl,rfl,aY _,cR _,.inl trivial⟩
    simp only[RD];refine⟨_,_,_,rfl,(ab3 i).symm,R,U,.inr ⟨b,0,sz,rfl,p b dT,?_⟩⟩;exact RTs.toRDs hk b sz I r.toList P l 0 (λc hc=>p c (by simp[hc])) (λj v hv=>by rw[cj w b _ r t (0,0) h4];simpa using hv) h6 i
 |.bx cs,v,fp,x,_,_,g=>by grind[T.toD]
 |.mp ag ks vs,v,fp,x,p,o,g=>by
   simp only[T.toD]at g;cases i:tsD vs with
   |none=>simp only[i]at g;cases g
   |some l=>
    simp only[i]at g;cases g;simp only[RT]at o;obtain⟨b,J,clock,P,rfl,R,U,h4,rfl⟩:=o;simp only[RD];exact⟨b,J,clock,rfl,p b dT,R,U,RTm.toRDe hk ag vs J.toList P l (λc hc=>p c (by simp[hc])) h4 i⟩
 |.mpi ag ks vs seen,v,fp,x,p,o,g=>by
   simp only[T.toD]at g;cases i:tsD vs with
   |none=>simp only[i]at g;cases g
   |some l=>
    simp only[i]at g;cases g;simp only[RT]at o;obtain⟨b,bi,J,clock,aa,arr,st,P,rfl,R,U,_,_,h4,rfl⟩:=o;simp only[RD];exact⟨b,J,clock,rfl,p b dT,R,U,RTm.toRDe hk ag vs J.toList P l (λc hc=>p c (by simp[hc])) h4 i⟩
 |.hole,v,fp,x,_,_,g=>by grind[T.toD]
theorem RTc.toRDv{w:aB}{ok ok':Nat->Prop}(hk:zR w w ok ok'):∀(e:am T) (vs:am Value) (fp:am Nat) (l:am D),(∀b∈fp,ok' b)->RTc w ok e vs fp->XR e=some l->RDv w ok' vs l
 |[],vs,fp,l,_,J,i=>by grind[XR,RTc,RDv]
 |t::r,vs,fp,l,P,J,i=>by
  simp only[XR]at i;cases o:T.toD t with
  |none=>simp only[o]at i;cases i
  |some y=>
   cases p:XR r with
   |none=>simp only[o,p]at i;cases i
   |some l2=>
    simp only[o,p]at i;cases i;simp only[RTc]at J;obtain⟨v,j,f,g,R,U,e3,rfl⟩:=J;simp only[RDv];exact⟨v,j,R,RT.toRD hk t v f y (λc I=>P c (by simp[I])) U o,RTc.toRDv hk r j g l2 (λc I=>P c (by simp[I])) e3 p⟩
theorem RTc.toRDc{w:aB}{ok ok':Nat->Prop}(hk:zR w w ok ok')(b:Nat):∀(e:am T) (vs:am Value) (fp:am Nat) (l:am D) (o:Nat),(∀b∈fp,ok' b)->(∀(j:Nat) (v:Value),vs[j]?=some v->w.cell? ⟨b,o+j,none⟩=some v)->RTc w ok e vs fp->XR e=some l->RDc w ok' b o l
 |[],vs,fp,l,o,_,_,P,i=>by grind[XR,RDc]
 |t::r,vs,fp,l,o,U,p,P,i=>by
  simp only[XR]at i;cases I:T.toD t with
  |none=>simp only[I]at i;cases i
  |some y=>
   cases J:XR r with
   |none=>simp only[I,J]at i;cases i
   |some l2=>
    simp only[I,J]at i;cases i;simp only[RTc]at P;obtain⟨v,R,f,g,rfl,e2,e3,rfl⟩:=P;simp only[RDc];exact⟨⟨v,p 0 v rfl,RT.toRD hk t v f y (λc p=>U c (by simp[p])) e2 I⟩,RTc.toRDc hk b r R g l2 (o+1) (λc p=>U c (by simp[p])) (λj u hu=>by have:=p (j+1) u (by simpa using hu);rwa[show o+(j+1)=o+1+j by omega]at this) e3 J⟩
theorem RTs.toRDs{w:aB}{ok ok':Nat->Prop}(hk:zR w w ok ok')(b sz:Nat):∀(e:am (am T)) (vs:am Value) (fp:am Nat) (l:am (am D)) (o:Nat),(∀b∈fp,ok' b)->(∀(j:Nat) (v:Value),vs[j]?=some v->w.cell? ⟨b,o+j,none⟩=some v)->RTs w ok sz e vs fp->tsD e=some l->RDs w ok' b sz o l
 |[],vs,fp,l,o,_,_,R,i=>by grind[tsD,RDs]
 |t::r,vs,fp,l,o,U,I,R,i=>by
  simp only[tsD]at i;cases J:XR t with
  |none=>simp only[J]at i;cases i
  |some y=>
   cases P:tsD r with
   |none=>simp only[J,P]at i;cases i
   |some l2=>
    simp only[J,P]at i;cases i;simp only[RTs]at R;obtain⟨f,g,e1,e2,e3,rfl⟩:=R;simp only[RDs];refine⟨(aiN J).trans e1,RTc.toRDc hk b t (vs.take sz) f y o (λc I=>U c (by simp[I])) (λj u p=>I j u ?_) e2 J,RTs.toRDs hk b sz r (vs.drop sz) g l2 (o+sz) (λc I=>U c (by simp[I])) (λj u p=>?_) e3 P⟩
    .rw[am.getElem?_take]at p;split at p
     .exact p
     cases p
    rw[am.getElem?_drop]at p;have:=I (sz+j) u p;rwa[show o+(sz+j)=o+sz+j by omega]at this
theorem RTm.toRDe{w:aB}{ok ok':Nat->Prop}(hk:zR w w ok ok')(ag:Bool):∀(e:am (am T)) (o:am bG) (fp:am Nat) (l:am (am D)),(∀b∈fp,ok' b)->RTm w ok ag e o fp->tsD e=some l->RDe w ok' ag o l
 |[],o,fp,l,_,P,i=>by grind[tsD,RTm,RDe]
 |t::r,o,fp,l,R,P,i=>by
  simp only[tsD]at i;cases p:XR t with
  |none=>simp only[p]at i;cases i
  |some y=>
   cases I:tsD r with
   |none=>simp only[p,I]at i;cases i
   |some l2=>
    simp only[p,I]at i;cases i;simp only[RTm]at P;obtain⟨m,j,vs,f,g,U,e2,e3,e4,rfl⟩:=P;simp only[RDe];exact⟨m,j,vs,U,e2,RTc.toRDv hk t vs f y (λc J=>R c (by simp[J])) e3 p,RTm.toRDe hk ag r j g l2 (λc J=>R c (by simp[J])) e4 I⟩
end
theorem Rel.dropPl(hr:Rel F N ι s a w){p:Nat}{y:Pl}(P:aget s.pl p=some y)(I:y.live=true):
 Rel F N ι (s.withPl (xl (λk=>!Nat.beq k p) s.pl)) a w/\(∀b,F.ok ι s.pl w b->F.ok ι (xl (λk=>!Nat.beq k p) s.pl) w b)/\∀b,foot ι p y b->F.ok ι (xl (λk=>!Nat.beq k p) s.pl) w b:=by
 have g:∀q x,aget (xl (λk=>!Nat.beq k p) s.pl) q=some x->aget s.pl q=some x/\q≠p:=λq x h=>by obtain⟨i,o⟩:=QZ _ _ _ _ h;refine⟨i,λe=>?_⟩;simp_all
 have l:∀b,Owns ι (xl (λk=>!Nat.beq k p) s.pl) b->Owns ι s.pl b:=λb ⟨q,x,i,o,r⟩=>⟨q,x,(g q x i).1,o,r⟩
 refine⟨hr.sub _ (λ_ _ h=>h) (λq x h=>(g q x h).1),λb j=>⟨j.1,j.2.1,λh=>j.2.2 (l b h)⟩,λb j=>?_⟩;have J:Owns ι s.pl b:=⟨p,y,P,I,j⟩;refine⟨?_,(hr.mine b J).2,λ⟨q,x,i,o,r⟩=>hr.inj p q y x b P (g q x i).1 (Ne.symm (g q x i).2) I j r⟩;rcases(hr.mine b J).1 with h|h<;>grind
theorem Um(hr:Rel F N ι s a w){c:C}{v:Value}(j:CR ι w (F.ok ι s.pl w) c v){x:D}{g:am (Nat×Pl)}(h:toD s.pl c=some (x,g)):
 Rel F N ι (s.withPl g) a w/\(∀b,F.ok ι s.pl w b->F.ok ι g w b)/\RD w (F.ok ι g w) x v:=by
 cases c with
 |d y=>cases h;exact⟨hr,λ_ h=>h,j⟩
 |nil=>cases h;exact⟨hr,λ_ h=>h,by simp only[CR]at j;subst j;simp only[RD];exact⟨none,0,0,rfl,rfl,aY _,cR _,.inl trivial⟩⟩
 |own p z n=>
  simp only[toD]at h;cases r:aget s.pl p with
  |none=>grind
  |some y=>
   cases y with
   |box cs=>grind
   |fbox ds=>grind
   |gone=>grind
   |deep t=>grind
   |arr sz J fz=>
    simp only[r]at h;cases h;refine⟨hr.freeze p,λb=>auX p b,?_⟩;obtain⟨hn,h|⟨b,cap,t,P,I,R,h4,h5,h6⟩⟩:=kl hr r j
    .obtain⟨rfl,rfl,_,_⟩:=h;simp only[RD,List.take_zero];exact⟨none,0,0,rfl,rfl,aY _,cR _,.inl trivial⟩
    grind[au0]
 |dead=>cases h
 |sub p z o n=>cases h
 |ptr p o=>cases h
 |eptr p z i k=>cases h
 |fp l=>cases h
 |iter l=>cases h
 |clo f l=>
  cases l with
  |cons _ _=>cases h
  |nil=>
   cases h;refine⟨hr,λ_ h=>h,?_⟩;obtain⟨bs,P,I⟩:=j<;>simp_all[RD,RDf]
 |root p=>
  simp only[toD]at h;cases r:aget s.pl p with
  |none=>grind
  |some y=>
   cases y with
   |box cs=>grind
   |fbox ds=>grind
   |gone=>grind
   |arr sz J fz=>grind
   |deep t=>
    simp only[r]at h;cases U:T.toD t with
    |none=>grind
    |some z=>
     simp only[U]at h;cases h;obtain⟨P,I,R⟩:=hr.dropPl r rfl;refine⟨P,I,?_⟩;obtain⟨e1,_⟩:=j;subst e1;exact RT.toRD (λb hb=>⟨I b hb,rfl⟩) t _ _ _ R (hr.places p _ r).2 U
theorem ZC:∀{cs:am C}{vs:am Value}{s:S}(_:Rel F N ι s a w) (_:CRs ι w (F.ok ι s.pl w) cs vs) {o:am D}{g:am (Nat×Pl)}(_:uC s.pl cs=some (o,g)),
 Rel F N ι (s.withPl g) a w/\(∀b,F.ok ι s.pl w b->F.ok ι g w b)/\CRs ι w (F.ok ι g w) (o.map .d) vs
 |[],[],s,hr,_,o,g,h=>by cases h;exact⟨hr,λ_ h=>h,trivial⟩
 |[],_::_,_,_,j,_,_,_=>j.elim
 |_::_,[],_,_,j,_,_,_=>j.elim
 |c::cs,v::vs,s,hr,j,o,g,h=>by
  unfold uC at h;cases p:toD s.pl c with
  |none=>rw[p]at h;cases h
  |some y=>
   obtain⟨y,i⟩:=y;rw[p]at h;simp only[]at h;obtain⟨g1,g2,g3⟩:=Um hr j.1 p;cases r:uC i cs with
   |none=>rw[r]at h;cases h
   |some z=>
    obtain⟨z,R⟩:=z;rw[r]at h;cases h;have hk:zR w w (F.ok ι s.pl w) (F.ok ι i w):=λb l=>⟨g2 b l,rfl⟩
    obtain⟨J,I,P⟩:=ZC (s:=s.withPl i) g1 (CRs.keep hk (z7.refl w) _ _ j.2) r;exact⟨J,λb l=>I b (g2 b l),RD.keep (λb l=>⟨I b l,rfl⟩) _ _ g3,P⟩
theorem atx(hr:Rel F N ι s a w){c:W}{v:Value}(j:WR ι w (F.ok ι s.pl w) c v){x:W}{g:am (Nat×Pl)}(h:atw s.pl c=some (x,g)):
 Rel F N ι (s.withPl g) a w/\(∀b,F.ok ι s.pl w b->F.ok ι g w b)/\(∀ι',WR ι' w (F.ok ι g w) x v):=by
 cases c with
 |c c=>
  by_cases o:∃l,c=.fp l
  .obtain⟨l,rfl⟩:=o;cases h;exact⟨hr,λ_ h=>h,λ_=>j⟩
  have r:(match toD s.pl c with|some (y,g)=>some (W.c (.d y),g)|none=>none)=some (x,g):=by
   rw[<-h];cases c with
   |fp l=>grind
   |_=>rfl
  cases i:toD s.pl c with
  |none=>grind
  |some y=>
   simp only[i]at r;cases r;obtain⟨g1,g2,g3⟩:=Um hr j i;exact⟨g1,g2,λ_=>g3⟩
 |agg cs=>
  simp only[atw]at h;cases i:uC s.pl cs with
  |none=>grind
  |some y=>
   simp only[i]at h;cases h;obtain⟨vs,rfl,j⟩:=j;obtain⟨g1,g2,g3⟩:=ZC hr j i;refine⟨g1,g2,λι'=>⟨vs,rfl,?_⟩⟩;clear i j;generalize y.1=p at*;induction p generalizing vs with
   |nil=>cases vs<;>exact g3
   |cons d p I=>cases vs with
    |nil=>exact g3
    |cons v vs=>exact⟨g3.1,I vs g3.2⟩
theorem afZ:∀{cs:am W}{vs:am Value}{s:S}(_:Rel F N ι s a w) (_:qq ι w (F.ok ι s.pl w) cs vs) {o:am W}{g:am (Nat×Pl)}(_:ab1 s.pl cs=some (o,g)),
 Rel F N ι (s.withPl g) a w/\(∀b,F.ok ι s.pl w b->F.ok ι g w b)/\(∀ι',qq ι' w (F.ok ι g w) o vs)
 |[],[],s,hr,_,o,g,h=>by cases h;exact⟨hr,λ_ h=>h,λ_=>trivial⟩
 |[],_::_,_,_,j,_,_,_=>j.elim
 |_::_,[],_,_,j,_,_,_=>j.elim
 |c::cs,v::vs,s,hr,j,o,g,h=>by
  unfold ab1 at h;cases p:atw s.pl c with
  |none=>rw[p]at h;cases h
  |some y=>
   obtain⟨y,i⟩:=y;rw[p]at h;simp only[]at h;obtain⟨g1,g2,g3⟩:=atx hr j.1 p;cases r:ab1 i cs with
   |none=>rw[r]at h;cases h
   |some z=>
    obtain⟨z,R⟩:=z;rw[r]at h;cases h;have hk:zR w w (F.ok ι s.pl w) (F.ok ι i w):=λb l=>⟨g2 b l,rfl⟩
    obtain⟨J,I,P⟩:=afZ (s:=s.withPl i) g1 (qq.keep hk (z7.refl w) _ _ j.2) r;exact⟨J,λb l=>I b (g2 b l),λι'=>⟨WR.keep (λb l=>⟨I b l,rfl⟩) (z7.refl w) _ _ (g3 ι'),P ι'⟩⟩
end
theorem akf(ι:Nat->Gh)(w:aB)(ok:Nat->Prop)(v:Value):CR ι w ok (XN v) v:=by
 unfold XN
 split<;>first
  |trivial
  |rfl
  |(simp only[CR,RD];exact⟨rfl,rfl⟩)
theorem YV(ι:Nat->Gh)(w:aB)(ok:Nat->Prop):∀(vs:am Value),CRs ι w ok (vs.map XN) vs
 |[]=>trivial
 |v::vs=>⟨akf ι w ok v,YV ι w ok vs⟩
theorem YW(ι:Nat->Gh)(w:aB)(ok:Nat->Prop)(v:Value):WR ι w ok (ofValue v) v:=by
 unfold ofValue;split
 .exact⟨_,dT,YV ι w ok _⟩
 exact akf ι w ok _
section
variable {F:Fr}{N:Nat}{ι:Nat->Gh}{s:S}{a:Act}{w:aB}
theorem atM(hr:Rel F N ι s a w)(t:Nat):VR ι w (F.ok ι s.pl w) (s.tmp t) (a.tmps.getD t undef):=by
 unfold S.tmp;cases h:aget s.sl t with
 |none=>trivial
 |some v=>
  obtain⟨x,g,i⟩:=hr.slots t v h<;>simp_all
theorem jf(hr:Rel F N ι s a w)(x:aF):VR ι w (F.ok ι s.pl w) (s.o (cO x)) (a.eval x):=by
 cases x with
 |tmp t=>exact atM hr t
 |const v=>exact YW ι w _ v
 |global g=>trivial
 |func f=>exact⟨[],rfl,rfl⟩
theorem xj(hr:Rel F N ι s a w)(x:aF):CR ι w (F.ok ι s.pl w) (s.oc (cO x)) (a.eval x):=by
 have h:=jf hr x;unfold S.oc cOf;cases e:s.o (cO x)with
 |w y=>rw[e]at h;cases y with
  |c z=>exact h
  |agg cs=>trivial
 |tup xs=>trivial
theorem aiY(hr:Rel F N ι s a w)(x:aF):WR ι w (F.ok ι s.pl w) (s.ow (cO x)) (a.eval x):=by
 have h:=jf hr x;unfold S.ow wOf;cases e:s.o (cO x)with
 |w y=>rw[e]at h;exact h
 |tup xs=>trivial
theorem aex(hr:Rel F N ι s a w):∀(l:am aF),qq ι w (F.ok ι s.pl w) ((l.map cO).map s.ow) (l.map a.eval)
 |[]=>trivial
 |x::r=>⟨aiY hr x,aex hr r⟩
end
def yO(P:Program)(F:Fr)(N:Nat)(o:Oper)(a:Act)(w:aB)(K:S->Prop):Prop:=
 ∀(next:Act->aB->Prop) (Q:Exit->Act->aB->Prop),(∀ι s g w',Rel F N ι s g w'->K s->next g w')->o.wp P a w next Q
section
variable {P:Program}{F:Fr}{N:Nat}{ι:Nat->Gh}{s:S}{a:Act}{w:aB}{o:Oper}{K:S->Prop}
theorem yO.of_value{v:Value}{w':aB}{ι':Nat->Gh}{g:S}(h:(aH a.eval o).run P w=.ok (.value v) w')(hr:Rel F N ι' g (a.put o.dst v) w')(hk:K g):yO P F N o a w K:=by intro next Q i;unfold Oper.wp;rw[h];exact i ι' g _ _ hr hk
theorem yO.of_skip{w':aB}{ι':Nat->Gh}{g:S}(h:(aH a.eval o).run P w=.ok .skip w')(hr:Rel F N ι' g (a.put o.dst undef) w')(hk:K g):yO P F N o a w K:=by intro next Q i;unfold Oper.wp;rw[h];exact i ι' g _ _ hr hk
theorem yO.put(hr:Rel F N ι s a w)(g:∀k,o.dst=some k->k<N){v:Value}{x:V}(h:(aH a.eval o).run P w=.ok (.value v) w)(hv:VR ι w (F.ok ι s.pl w) x v)(hk:K (s.put o.dst x)):yO P F N o a w K:=
 yO.of_value h (hr.put o.dst g x v hv) hk
def zF(P:Program)(F:Fr)(N:Nat)(o:Oper)(a:Act)(w:aB)(C:aB->Prop)(K:S->Prop):Prop:=
 ∃v ι' g,(∀w',C w'->(aH a.eval o).run P w'=.ok (.value v) w')/\Rel F N ι' g (a.put o.dst v) w/\K g
theorem zF.fine{C:aB->Prop}(hC:C w)(h:zF P F N o a w C K):yO P F N o a w K:=
 let⟨_,_,_,g,i,j⟩:=h
 yO.of_value (g w hC) i j
theorem zF.put{C:aB->Prop}(hr:Rel F N ι s a w)(g:∀k,o.dst=some k->k<N){v:Value}{x:V}(h:∀w',C w'->(aH a.eval o).run P w'=.ok (.value v) w')(hv:VR ι w (F.ok ι s.pl w) x v)(hk:K (s.put o.dst x)):zF P F N o a w C K:=
 ⟨v,ι,_,h,hr.put o.dst g x v hv,hk⟩
def vP(w w':aB):Prop:=w.heap.size<=w'.heap.size/\∀b,b<w.heap.size->w'.heap[b]?=w.heap[b]?
theorem vP.refl(w:aB):vP w w:=⟨aY _,λ_ _=>rfl⟩
theorem vP.trans{w w' g:aB}(h:vP w w')(k:vP w' g):vP w g:=
 ⟨dE h.1 k.1,λb i=>(k.2 b (bL i h.1)).trans (h.2 b i)⟩
theorem vP.cell{w w':aB}(h:vP w w'){b q:Nat}{v:Value}(i:w.cell? ⟨b,q,none⟩=some v):w'.cell? ⟨b,q,none⟩=some v:=by
 have j:b<w.heap.size:=by
  rcases Nat.lt_or_ge b w.heap.size with g|g
  .exact g
  simp[cP,aE.getElem?_eq_none g]at i
 simp only[cP,h.2 b j]at i⊢;exact i
def ub(P:Program)(F:Fr)(N:Nat)(o:Oper)(a:Act)(w:aB)(K:S->Prop):Prop:=
 ∀(next:Act->aB->Prop) (Q:Exit->Act->aB->Prop),(∀ι s g w',Rel F N ι s g w'->K s->vP w w'->next g w')->o.wp P a w next Q
theorem ub.fine(h:ub P F N o a w K):yO P F N o a w K:=λnext Q i=>h next Q λι s g w' hr hk _=>i ι s g w' hr hk
theorem ub.of_value{v:Value}{w':aB}{ι':Nat->Gh}{g:S}(i:vP w w')(h:(aH a.eval o).run P w=.ok (.value v) w')(hr:Rel F N ι' g (a.put o.dst v) w')(hk:K g):ub P F N o a w K:=by intro next Q j;unfold Oper.wp;rw[h];exact j ι' g _ _ hr hk i
theorem vy(b o j:Nat):(⟨b,o,none⟩:dv).add j=⟨b,o+j,none⟩:=by grind[Addr.add]
theorem adi{t:TypeId}{d:TypeDesc}(h:P.underlying t=some d):∃i,P.info? t=some i:=by grind[Program.underlying]
theorem vK{t:TypeId}{i:bM}(h:P.info? t=some i)(w:aB):(cT t).run P w=.ok (zW P t) w:=by simp_all[cT,bU,zW]
theorem aep{t:TypeId}{g:Bool}(h:UJ P t=some g):∃i,P.info? t=some i/\∀w,(isAgg t).run P w=.ok g w:=by
 unfold UJ at h;cases j:P.underlying t with
 |none=>grind
 |some d=>
  obtain⟨i,hi⟩:=adi j;refine⟨i,hi,λw=>?_⟩;rw[j]at h;cases d<;>simp_all[isAgg,aD]
theorem vM{t e:TypeId}(h:uj P t=some e):P.underlying t=some (.slice e):=by grind[uj]
theorem gA{t:TypeId}{f off:Nat}{i:TypeId}(h:Ku P t f=some (off,i)):∃g x,P.underlying t=some (.struct g)/\g[f]?=some x/\x.offset=off/\x.type=i:=by grind[Ku]
theorem ZS{v:V}{n:Int}{x:Value}{ok:Nat->Prop}(h:XL v=some n)(hv:VR ι w ok v x):∃k,x=.int k n/\v=.w (.c (.d (.lit (.int k n)))):=by unfold XL at h<;>grind[VR,WR,CR,RD]
theorem Wr{v:V}{b:Bool}{x:Value}{ok:Nat->Prop}(h:yL v=some b)(hv:VR ι w ok v x):x=.bool b:=by unfold yL at h<;>grind[VR,WR,CR,RD]
theorem y5{ok:Nat->Prop}{v x:Value}:CR ι w ok (.d (.lit v)) x->x=v:=by grind[CR,RD]
theorem xh{ok:Nat->Prop}{v:Value}(h:v.oneCell'=true):VR ι w ok (cV (.d (.lit v))) v:=by grind[cV,VR,WR,CR,RD]
theorem kH(hr:Rel F N ι s a w)(i:∀k,o.dst=some k->k<N){x:aF}(g:o.op=.move x\/o.op=.assign x)(h:K (s.put o.dst (s.o (cO x)))):zF P F N o a w (λ_=>True) K:=by refine zF.put hr i ?_ (jf hr x) h;intro w' _;rcases g with g|g<;>simp_all[aH]
theorem aiI(hr:Rel F N ι s a w)(i:∀k,o.dst=some k->k<N){c x y:aF}(l:o.op=.pick c x y)
 (h:match yL (s.o (cO c))with|some t=>cond t (K (s.put o.dst (s.o (cO x)))) (K (s.put o.dst (s.o (cO y))))|none=>False):zF P F N o a w (λ_=>True) K:=by
 cases g:yL (s.o (cO c))with
 |none=>grind
 |some t=>
  simp only[g]at h;have j:=Wr g (jf hr c);cases t
  .exact zF.put hr i (λw' _=>by simp_all[aH,asBool]) (jf hr y) h
  exact zF.put hr i (λw' _=>by simp_all[aH,asBool]) (jf hr x) h
theorem alh(hr:Rel F N ι s a w)(J:∀k,o.dst=some k->k<N){x:aF}{i:Nat}(ho:o.op=.extract x i)
 (h:zK P o.dst (.ext (cO x) i) s K):zF P F N o a w (λ_=>True) K:=by
 simp only[zK]at h;have r:=jf hr x;cases e:s.o (cO x)with
 |w y=>grind
 |tup xs=>
  simp only[e]at h;rw[e]at r;obtain⟨vs,hv,l⟩:=r;cases p:xs[i]? with
  |none=>grind
  |some y=>
   simp only[p]at h;have:∀(xs:am W) (vs:am Value) (i:Nat) (y:W),qq ι w (F.ok ι s.pl w) xs vs->xs[i]?=some y->∃v,vs[i]?=some v/\WR ι w (F.ok ι s.pl w) y v:=by
    intro xs;induction xs with
    |nil=>grind
    |cons z zs R=>
     intro vs i y j g;cases vs with
     |nil=>exact j.elim
     |cons v vs=>cases i with
      |zero=>simp at g;subst g;exact⟨v,rfl,j.1⟩
      |succ i=>simp at g;simpa using R vs i y j.2 g
   obtain⟨v,U,I⟩:=this xs vs i y l p;refine zF.put hr J ?_ (show VR ι w _ (.w y) v from I) h;simp_all[aH,Instr.extract]
theorem apl(hr:Rel F N ι s a w)(I:∀k,o.dst=some k->k<N){x:aF}(J:o.op=.nilCheck x)
 (h:zK P o.dst (.nc (cO x)) s K):zF P F N o a w (λ_=>True) K:=by
 simp only[zK]at h;have r:=xj hr x;cases e:s.oc (cO x)<;>simp only[e]at h<;>rw[e]at r
 case ptr p k=>
  obtain⟨b,g,j⟩:=r;exact zF.put hr I (v:=a.eval x) (λw' _=>by simp_all[aH]) (show VR ι w _ (cV (.ptr p k)) _ from⟨b,g,j⟩) h
 case eptr p z i k=>
  obtain⟨b,g,j⟩:=r;exact zF.put hr I (v:=a.eval x) (λw' _=>by simp_all[aH]) (show VR ι w _ (cV (.eptr p z i k)) _ from⟨b,g,j⟩) h
 case fp l=>
  obtain⟨b,q,g,j⟩:=r;exact zF.put hr I (v:=a.eval x) (λw' _=>by simp_all[aH]) (show VR ι w _ (cV (.fp l)) _ from⟨b,q,g,j⟩) h
theorem akT(hr:Rel F N ι s a w):∀(g:am aF) (j:am Nat),aos s (g.map cO)=some j->∃i:am Nat,j.map (λp=>(ι p).b)=i.map some/\g.map a.eval=i.map λb=>cY (some ⟨b,0,none⟩)
 |[],j,h=>by cases h;simp_all
 |x::r,j,h=>by
  simp only[aX,aos]at h;have o:=xj hr x;split at h
  .rename_i p l U h2;cases h;rw[U]at o;obtain⟨b,I,J⟩:=o;obtain⟨i,P,R⟩:=akT hr r l h2;exact⟨b::i,by simp[I,P],by simp[J,R]⟩
  cases h
theorem avN(hr:Rel F N ι s a w)(r:∀k,o.dst=some k->k<N){f:FuncId}{first g:aE aF}(U:o.op=.makeFunc (.func f) first g)(R:first.toList.isEmpty=true)
 (h:zK P o.dst (.clo f (g.toList.map cO)) s K):yO P F N o a w K:=by
 simp only[zK]at h;cases e:aos s (g.toList.map cO)with
 |none=>grind
 |some l=>
  simp only[e]at h;obtain⟨j,p,I⟩:=akT hr g.toList l e;have i:first= #[]:=d9
  refine yO.put hr r (v:=.func (.func f) #[] (j.map λb=>cY (some ⟨b,0,none⟩)).toArray) ?_ (show VR ι w _ (cV (.clo f l)) _ from⟨j,p,rfl⟩) h;have J:g.map a.eval=(j.map λb=>cY (some ⟨b,0,none⟩)).toArray:=d9
  simp_all[aH,Instr.makeFunc]
theorem aou{α:Type}:∀(e:Sem α) (v:α),aax P e=some v->∀w,e.run P w=.ok v w:=by
 intro e;induction e with
 |pure x=>simp_all[aax]
 |program k g=>intro v h w;exact g P v h w
 |mark m k g=>intro v h w;exact g v h w
 |_=>intro v h w;cases h
theorem ah5{ok:Nat->Prop}:∀(cs:am C) (l vs:am Value),amv cs=some l->CRs ι w ok cs vs->vs=l
 |[],_,[],h,_=>by cases h;rfl
 |[],_,_::_,_,h=>h.elim
 |_::_,_,[],_,h=>h.elim
 |c::cs,l,v::vs,h,i=>by
  simp only[amv]at h;split at h
  .rename_i u m g j;cases h;have:=ah5 cs m vs j i.2;subst this;have hv:=i.1;unfold adA at g;split at g
   .cases g;rw[y5 hv]
   .cases g;simp only[CR]at hv;rw[hv]
   cases g
  cases h
theorem auN{ok:Nat->Prop}{v:V}{u x:Value}(h:an8 v=some u)(hv:VR ι w ok v x):x=u:=by
 cases v with
 |tup xs=>cases h
 |w y=>
  cases y with
  |c c=>
   simp only[an8,axG]at h;unfold adA at h;split at h
   .cases h;exact y5 (ι:=ι) (w:=w) (ok:=ok) hv
   .cases h;exact hv
   cases h
  |agg cs=>
   simp only[an8,axG]at h;obtain⟨vs,g,i⟩:=hv<;>grind[ah5]
theorem aoA(hr:Rel F N ι s a w):∀(l:am aF),acS s l=true->∀x∈l,rho s x=a.eval x
 |[],_,_,g=>by cases g
 |y::r,h,x,g=>by
  simp only[acS]at h;split at h
  .rename_i u i;rcases bC.1 g with rfl|g
   .unfold rho;rw[i];exact(auN i (jf hr x)).symm
   exact aoA hr r h x g
  cases h
def ars:Op->Bool
 |.convert _ _ _|.binOp _ _ _ _ _|.unOp _ _ _=>true
 |.call {callee:=.builtin _,args:=_,argTypes:=_}=>true
 |_=>false
theorem asm{ρ ρ':aF->Value}{o o':Oper}(i:ars o.op=true)(j:o'.op=o.op)(l:o'.type=o.type)(h:∀x∈o.op.operands.toList,ρ x=ρ' x):aH ρ' o'=aH ρ o:=by
 unfold aH;rw[j,l];cases p:o.op<;>rw[p]at i h<;>try (cases i;done)
 case convert src dst x=>simp[dh]at h;simp[h]
 case binOp b t x y u=>simp[dh]at h;simp[h.1,h.2]
 case unOp u t x=>simp[dh]at h;simp[h]
 case call c=>
  obtain⟨callee,args,r⟩:=c;cases callee<;>try (cases i;done)
  case builtin b=>
   have g:args.map ρ'=args.map ρ:=by grind[dh,Call.operands]
   simp[bI,g]
theorem vL(hr:Rel F N ι s a w)(i:∀k,o.dst=some k->k<N)(j:ars o.op=true)(h:zK P o.dst (.pure o.op o.type) s K):zF P F N o a w (λ_=>True) K:=by
 simp only[zK,arX]at h;cases g:acS s o.op.operands.toList with
 |false=>grind
 |true=>
  rw[g]at h;simp only[aO]at h;split at h
  .rename_i v hv;have l:aH a.eval o=aH (rho s) (aot o.op o.type):=asm (o:=aot o.op o.type) j rfl rfl (aoA hr _ g);exact zF.put hr i (v:=v) (x:=.w (ofValue v)) (λw' _=>by grind[aou]) (YW ι w (F.ok ι s.pl w) v) h
  grind
theorem afF{k k':aP}(h:wl k k'=true):k=k':=by cases k<;>cases k'<;>first|rfl|cases h
theorem awv{b:bX}{k:aP}{m n:Int}{v:Value}(h:ai7 b k m n=some v):v.oneCell'=true:=by unfold ai7 at h;split at h<;>cases h<;>rfl
theorem aww{b:bX}{m n:ByteArray}{v:Value}(h:ai8 b m n=some v):v.oneCell'=true:=by unfold ai8 at h;split at h<;>cases h<;>rfl
theorem aym{b:bX}{k:aP}{m n:Int}{v:Value}(h:ai7 b k m n=some v)(t:TypeId)(w:aB):(binOp b t (.int k m) (.int k n)).run P w=.ok v w:=by unfold ai7 at h;split at h<;>simp_all[binOp,Op.intArith,Op.intCmp,Op.intBits,kN]
theorem ayn{b:bX}{m n:ByteArray}{v:Value}(h:ai8 b m n=some v)(t:TypeId)(w:aB):(binOp b t (.string m) (.string n)).run P w=.ok v w:=by unfold ai8 at h;split at h<;>simp_all[binOp,Op.stringOp,zo,QK]
theorem jF(b:bX)(t:TypeId)(x y:aF){u v:Value}(g:(∃k n,u=.int k n)\/∃m,u=.string m)(w:aB):(cw b t x y u v).run P w=.ok () w:=by rcases g with⟨k,n,rfl⟩|⟨m,rfl⟩<;>simp_all[cw]
theorem ale(hr:Rel F N ι s a w)(g:∀k,o.dst=some k->k<N){b:bX}{t u:TypeId}{x y:aF}(i:o.op=.binOp b t x y u)
 (h:zK P o.dst (.bin b (cO x) (cO y)) s K):zF P F N o a w (λ_=>True) K:=by
 simp only[zK]at h;have j:=xj hr x;have l:=xj hr y;generalize s.oc (cO x)=I at*;generalize s.oc (cO y)=J at*;unfold arW at h;split at h
 .rename_i k m r n;cases hk:wl k r with
  |false=>grind
  |true=>
   rw[hk]at h;have:=afF hk;subst this;simp only[aO]at h;split at h
   .rename_i v hv;refine zF.put hr g (v:=v) ?_ (xh (awv hv)) h;intro w' _;simp[aH,i,y5 j,y5 l,jF b t x y (.inl ⟨k,m,rfl⟩),aym hv]
   cases b<;>simp only[]at h
   case quo=>
    refine zF.put hr g (v:=.int k (k.wrap (m.tdiv n))) ?_ (xh rfl) h.2;intro w' _;simp[aH,i,y5 j,y5 l,jF .quo t x y (.inl ⟨k,m,rfl⟩),binOp,Op.intDiv,h.1]
   case rem=>
    refine zF.put hr g (v:=.int k (m.tmod n)) ?_ (xh rfl) h.2;intro w' _;simp[aH,i,y5 j,y5 l,jF .rem t x y (.inl ⟨k,m,rfl⟩),binOp,Op.intDiv,h.1]
 .rename_i m n;split at h
  .rename_i v hv;refine zF.put hr g (v:=v) ?_ (xh (aww hv)) h;intro w' _;simp[aH,i,y5 j,y5 l,jF b t x y (.inr ⟨m,rfl⟩),ayn hv]
  cases b<;>simp only[]at h
  case add=>
   refine zF.put hr g (v:=.string (m++n)) ?_ (xh rfl) h.2;intro w' _;have p:¬((m.size+n.size:Nat):Int)>di.max:=by
    have:=h.1;have e:di.max=9223372036854775807:=dV
    grind
   simp[aH,i,y5 j,y5 l,jF .add t x y (.inr ⟨m,rfl⟩),binOp,Op.stringOp]
   grind
 grind
theorem ail{t:TypeId}(h:UJ P t=some true){b off:Nat}{vs:am Value}(p:vs.length=zW P t)(o:∀j v,vs[j]?=some v->w.cell? ⟨b,off+j,none⟩=some v):
 (dK t ⟨b,off,none⟩).run P w=.ok (.agg vs.toArray) w:=by obtain⟨i,hi,g⟩:=aep h;have l:=dt (P:=P) w ⟨b,off,none⟩ vs (λj v hv=>by grind[vy]);simp_all[dK,vK]
theorem aim{t:TypeId}(h:UJ P t=some false){b off:Nat}{v:Value}(j:w.cell? ⟨b,off,none⟩=some v):
 (dK t ⟨b,off,none⟩).run P w=.ok v w:=by obtain⟨i,hi,g⟩:=aep h<;>simp_all[dK]
theorem Y9{ok:Nat->Prop}{t:TypeId}{g:Bool}(r:UJ P t=some g){cs:am C}{vs:am Value}(i:CRs ι w ok cs vs){b off:Nat}(I:∀j v,vs[j]?=some v->w.cell? ⟨b,off+j,none⟩=some v)
 {x:W}(o:ke g (zW P t) cs=some x):∃v,(∀w',vP w w'->(dK t ⟨b,off,none⟩).run P w'=.ok v w')/\WR ι w ok x v:=by
 unfold ke at o;cases g
 .simp only[cd]at o;cases cs with
  |nil=>cases o
  |cons c cs=>
   cases o;cases vs with
   |nil=>exact i.elim
   |cons v vs=>exact⟨v,λw' p=>aim r (p.cell (by simpa using I 0 v rfl)),i.1⟩
 simp only[aO]at o;cases l:bZ (zW P t) cs.length with
 |false=>grind
 |true=>
  rw[l]at o;cases o;have l:=aS l;refine⟨.agg (vs.take (zW P t)).toArray,λw' p=>ail r ?_ (λj v hv=>p.cell ?_),_,rfl,CRs.take _ i⟩
  .rw[bB,<-i.length];omega
  grind
theorem RDc.vals{ok:Nat->Prop}{b:Nat}:∀{l:am D}{off:Nat},RDc w ok b off l->∃vs,CRs ι w ok (l.map .d) vs/\∀j v,vs[j]?=some v->w.cell? ⟨b,off+j,none⟩=some v
 |[],off,_=>⟨[],trivial,λj v h=>by simp at h⟩
 |d::r,off,h=>by
  simp only[RDc]at h;obtain⟨⟨v,p,g⟩,i⟩:=h;obtain⟨vs,o,I⟩:=RDc.vals i;refine⟨v::vs,⟨g,o⟩,λj u J=>?_⟩
  grind
theorem api(hr:Rel F N ι s a w)(hd:∀k,o.dst=some k->k<N){t:TypeId}{x:aF}(ho:o.op=.load t x){g:Bool}(ht:UJ P t=some g)
 (h:zK P o.dst (.ld g (zW P t) (cO x)) s K):zF P F N o a w (vP w) K:=by
 simp only[zK]at h;have hx:=xj hr x;generalize s.oc (cO x)=cx at*;unfold aLd at h;split at h
 .rename_i p off;obtain⟨b,U,h2⟩:=hx;split at h
  .rename_i cs hp;split at h
   .rename_i y J;obtain⟨b',aa,l,e2,R⟩:=hr.places p _ hp;rw[U]at l;cases l;obtain⟨v,hv,r⟩:=Y9 (b:=b) (off:=off) ht (CRs.drop off R) (λj v hv=>by rw[e2.cell];grind) J
    exact zF.put hr hd (λw' I=>by simp_all[aH,dd,bQ]) (show VR ι w _ (.w y) v from r) h
   grind
  .rename_i ds hp;split at h
   .rename_i y J;obtain⟨b',l,e2,R⟩:=hr.places p _ hp;rw[U]at l;cases l;have R:=RDc.drop off R;rw[aV]at R;obtain⟨vs,h4,h5⟩:=RDc.vals (ι:=ι) R;obtain⟨v,hv,r⟩:=Y9 (b:=b) (off:=off) ht h4 h5 J;exact zF.put hr hd (λw' I=>by simp_all[aH,dd,bQ]) (show VR ι w _ (.w y) v from r) h
   grind
  grind
 .rename_i cells;obtain⟨b,off,U,h2,h3⟩:=hx;split at h
  .rename_i y J;obtain⟨vs,h4,h5⟩:=RDc.vals (ι:=ι) h3;obtain⟨v,hv,r⟩:=Y9 (b:=b) (off:=off) ht h4 h5 J;exact zF.put hr hd (λw' I=>by simp_all[aH,dd,bQ]) (show VR ι w _ (.w y) v from r) h
  grind
 .rename_i p z i k;obtain⟨b,U,h2⟩:=hx;split at h
  .rename_i z1 ab fz hp;cases hz:aI z z1 with
   |false=>grind
   |true=>
    rw[hz]at h;have hz:=aC hz;subst hz;simp only[aO]at h;obtain⟨e,he,h⟩:=h;split at h
    .rename_i y J;obtain⟨_,_,ac|⟨b',l,e2,_⟩⟩:=hr.places p _ hp
     .grind
     rw[U]at l;cases l;have h3:=RDc.drop k (RDs.get e2 he);rw[aV]at h3;obtain⟨vs,h4,h5⟩:=RDc.vals (ι:=ι) h3;obtain⟨v,hv,r⟩:=Y9 (b:=b) (off:=i*z+k) ht h4 h5 J;exact zF.put hr hd (λw' I=>by simp_all[aH,dd,bQ]) (show VR ι w _ (.w y) v from r) h
    grind
  grind
 grind
theorem apg(hr:Rel F N ι s a w)(U:∀k,o.dst=some k->k<N){t:TypeId}{x:aF}{f off:Nat}{J:TypeId}(ho:o.op=.fieldAddr t x f)(ht:Ku P t f=some (off,J))(hz:bD 0 (zW P J)=true)
 (h:zK P o.dst (.fa off (cO x)) s K):zF P F N o a w (λ_=>True) K:=by
 simp only[zK]at h;obtain⟨fs,y,hu,hy,ab,aa⟩:=gA ht;have ac:zW P J≠0:=by have:=aS hz;omega
 have j:∃i,P.info? J=some i:=by grind[zW]
 obtain⟨i,hi⟩:=j;have g:∀b q,a.eval x=.pointer (some ⟨b,q,none⟩)->∀w':aB,True->(aH a.eval o).run P w'=.ok (.value (.pointer (some ⟨b,q+off,none⟩))) w':=by simp_all[aH,Instr.fieldAt,aD,bQ,fieldPlace,vK,vy]
 have R:=xj hr x;cases e:s.oc (cO x)<;>simp only[e]at h<;>rw[e]at R
 case ptr p k=>
  obtain⟨b,r,I⟩:=R;exact zF.put hr U (g b k I) (show VR ι w _ (cV (.ptr p (k+off))) _ from⟨b,r,rfl⟩) h
 case eptr p z i k=>
  obtain⟨b,r,I⟩:=R;exact zF.put hr U (g b _ I) (show VR ι w _ (cV (.eptr p z i (k+off))) _ from⟨b,r,d9⟩) h
 case fp l=>
  obtain⟨b,q,r,I,h3⟩:=R;exact zF.put hr U (g b _ r) (show VR ι w _ (cV (.fp (l.drop off))) _ from⟨b,q+off,rfl,I,RDc.drop off h3⟩) h
theorem ali(hr:Rel F N ι s a w)(hd:∀k,o.dst=some k->k<N){t:TypeId}{x:aF}{f off:Nat}{j:TypeId}{g:Bool}(ho:o.op=.field t x f)(ht:Ku P t f=some (off,j))(hg:UJ P j=some g)
 (h:zK P o.dst (.fld g (zW P j) off (cO x)) s K):zF P F N o a w (λ_=>True) K:=by
 simp only[zK]at h;obtain⟨fs,y,hu,hy,aa,R⟩:=gA ht;obtain⟨i,hi,ab⟩:=aep hg;have hx:=jf hr x;cases e:s.o (cO x)with
 |tup xs=>grind
 |w z=>
  cases z with
  |c c=>grind
  |agg cs=>
   simp only[e]at h;rw[e]at hx;obtain⟨vs,h1,h2⟩:=hx;split at h
   .rename_i q l;unfold ke at l;cases g
    .simp only[cd]at l;split at l
     .rename_i c r p;cases l;have:=CRs.drop off h2;rw[p]at this;cases I:vs.drop off with
      |nil=>rw[I]at this;exact this.elim
      |cons v vr=>
       rw[I]at this;have hv:vs[off]?=some v:=by
        have:(vs.drop off)[0]?=some v:=d9
        grind
       exact zF.put hr hd (v:=v) (λw' _=>by simp_all[aH,Instr.field,aD,asAgg,part]) (show VR ι w _ (.w (.c c)) v from this.1) h
     cases l
    simp only[aO]at l;cases J:bZ (zW P j) (cs.drop off).length with
    |false=>grind
    |true=>
     rw[J]at l;cases l;have U:WR ι w (F.ok ι s.pl w) (.agg ((cs.drop off).take (zW P j))) (.agg ((vs.drop off).take (zW P j)).toArray):=⟨_,rfl,CRs.take _ (CRs.drop off h2)⟩;refine zF.put hr hd (v:=.agg ((vs.drop off).take (zW P j)).toArray) ?_ (show VR ι w _ (.w (.agg ((cs.drop off).take (zW P j)))) _ from U) h;simp_all[aH,Instr.field,aD,asAgg,part,vK]
   grind
theorem aph(hr:Rel F N ι s a w)(hd:∀k,o.dst=some k->k<N){t e:TypeId}{x y:aF}(ho:o.op=.indexAddr t x y)(ht:uj P t=some e)(hz:bD 0 (zW P e)=true)
 (h:zK P o.dst (.ia (zW P e) (cO x) (cO y)) s K):zF P F N o a w (λ_=>True) K:=by
 simp only[zK]at h;have hu:=vM ht;have aa:zW P e≠0:=by have:=aS hz;omega
 have j:∃i,P.info? e=some i:=by grind[zW]
 obtain⟨i,hi⟩:=j;split at h
 .rename_i n hn;obtain⟨k,hy,_⟩:=ZS hn (jf hr y);have g:∀b q m c,a.eval x=.slice (some ⟨b,q,none⟩) m c->0<=n->n<m->∀w':aB,True->(aH a.eval o).run P w'=.ok (.value (.pointer (some ⟨b,q+n.toNat*zW P e,none⟩))) w':=by intro b q m c J R U w' _;simp[aH,ho,J,hy,Instr.indexAt,aD hu,dL,R,U,vK hi,vy]
  have I:=xj hr x;split at h
  .rename_i l hl;rw[hl]at I;simp only[CR,RD]at I;obtain⟨ad,m,c,h1,h2,h3,h4,h5⟩:=I;obtain⟨g1,y',g2,g3,g4⟩:=h;rcases h5 with h5|⟨b,q,sz,J,R,U⟩
   .grind
   subst J;have ab:n.toNat<l.length:=(am.getElem?_eq_some_iff.1 g2).1;have ac:y'.length=sz:=RDs.len U y' (cr g2);refine zF.put hr hd (g b q m c h1 g1 d9) (show VR ι w _ (cV (.fp y')) _ from⟨b,_,rfl,R,?_⟩) g4
   grind[RDs.get]
  .rename_i p z m hl;rw[hl]at I;cases r:aI z (zW P e)with
   |false=>grind
   |true=>
    rw[r]at h;have r:=aC r;simp only[aO]at h;obtain⟨g1,g2,g3⟩:=h;rcases I with⟨_,h2,_⟩|⟨b,cap,ty,h1,h2,h3,h4,h5,h6⟩
    .grind
    refine zF.put hr hd (g b 0 m cap h3 g1 g2) (show VR ι w _ (cV (.eptr p z n.toNat 0)) _ from⟨b,h1,?_⟩) g3
    grind
  grind
 grind
theorem alo(hr:Rel F N ι s a w)(r:∀k,o.dst=some k->k<N){t:TypeId}{x y:aF}(R:o.op=.index t x y)(U:P.underlying t=some .string)
 (h:zK P o.dst (.six (cO x) (cO y)) s K):zF P F N o a w (λ_=>True) K:=by
 simp only[zK]at h;split at h
 .rename_i b n J I;obtain⟨k,hy,_⟩:=ZS I (jf hr y);have g:=xj hr x;rw[J]at g;have g:=y5 g;obtain⟨g1,g2,g3⟩:=h;have i:n.toNat<b.size:=d8
  have j:b[n.toNat]?=some (b.data.toList.getD n.toNat 0):=by
   have l:b[n.toNat]?=some b[n.toNat]:=getElem?_pos b n.toNat i;rw[l];have p:n.toNat<b.data.toList.length:=dW
   simp only[List.getD,am.getElem?_eq_getElem p,Option.getD_some];rfl
  refine zF.put hr r (v:=.int .u8 (b.data.toList.getD n.toNat 0).toNat) ?_ (xh rfl) g3;simp_all[aH,Instr.index,aD,dL]
 grind
theorem alk(hr:Rel F N ι s a w)(I:∀k,o.dst=some k->k<N){args:aE aF}{ts:aE TypeId}{x:aF}{t e:TypeId}(ho:o.op=.call {callee:=.builtin .len,args:=args,argTypes:=ts})
 (R:args.toList=[x]) (aa:ts.toList=[t]) (ht:uj P t=some e) (h:zK P o.dst (.len (cO x)) s K):zF P F N o a w (λ_=>True) K:=by
 simp only[zK]at h;have hu:=vM ht;have ha:args= #[x]:=aK.1 d9;have U:ts= #[t]:=aK.1 d9;have g:∀b m c,a.eval x=.slice b m c->∀w':aB,True->(aH a.eval o).run P w'=.ok (.value (.int .i64 m)) w':=by intro b m c e1 w' _;simp[aH,ho,bI,bP,builtin,Builtin.len_,ha,U,e1,aD hu,dS]
 have i:=xj hr x;split at h
 .rename_i l j;rw[j]at i;simp only[CR,RD]at i;obtain⟨ad,m,c,h1,r,_⟩:=i;subst r;exact zF.put hr I (g _ _ _ h1) (xh rfl) h
 .rename_i j;rw[j]at i;exact zF.put hr I (g _ _ _ i) (xh rfl) h
 .rename_i p z m j;rw[j]at i;rcases i with⟨_,r,J⟩|⟨b,cap,ty,h1,r,J,_⟩
  .subst r;exact zF.put hr I (g _ _ _ J) (xh rfl) h
  exact zF.put hr I (g _ _ _ J) (xh rfl) h
 grind
theorem alj(hr:Rel F N ι s a w)(J:∀k,o.dst=some k->k<N){b:bX}{t u:TypeId}{x y:aF}(ho:o.op=.binOp b t x y u){neg:Bool}(hn:aar P b t y=some neg)
 (h:zK P o.dst (.isn neg (cO x)) s K):zF P F N o a w (λ_=>True) K:=by
 have hy:∃n c e,y=.const (.slice none n c)/\P.underlying t=some (.slice e)/\((b=.eql/\neg=false)\/(b=.neq/\neg=true)):=by unfold aar at hn<;>grind
 obtain⟨I,c',e,rfl,hu,hb⟩:=hy;have g:∀i m c,a.eval x=.slice i m c->∀w':aB,True->(aH a.eval o).run P w'=.ok (.value (.bool (if i.isNone then !neg else neg))) w':=by
  intro i m c r w' _;have R:a.eval (.const (.slice none I c'))=.slice none I c':=rfl;have heq:(dF t (.slice i m c) (.slice none I c')).run P w'=.ok i.isNone w':=by obtain⟨d,J⟩:∃d,Op.maxDepth=d+1:=⟨_,rfl⟩;rw[dF,J,Op.equalIn];simp only[aZ,aD hu,aM];cases i<;>rfl
  have hg:∀b,(cw b t x (.const (.slice none I c')) (.slice i m c) (.slice none I c')).run P w'=.ok () w':=by simp_all[cw]
  rcases hb with⟨rfl,rfl⟩|⟨rfl,rfl⟩
  .have j:binOp .eql t (.slice i m c) (.slice none I c')=(do pure (.bool (<-dF t (.slice i m c) (.slice none I c')))):=rfl;simp only[aH,ho,r,R,j,aZ,hg,heq,aM,bE]
   grind
  have j:binOp .neq t (.slice i m c) (.slice none I c')=(do pure (.bool (!(<-dF t (.slice i m c) (.slice none I c'))))):=rfl;simp only[aH,ho,r,R,j,aZ,hg,heq,aM,bE]
  grind
 have r:=xj hr x;simp only[zK]at h;generalize s.oc (cO x)=cx at*;unfold awj at h;split at h
 .have r:a.eval x=.slice none 0 0:=r;exact zF.put hr J (g _ _ _ r) (xh rfl) h
 .rename_i l;simp only[CR,RD]at r;obtain⟨i,m,c,h1,h2,U,h4,h5⟩:=r;cases i with
  |none=>
   rcases h5 with h5|⟨b',q,sz,e1,_⟩
   .exact zF.put hr J (g _ _ _ h1) (xh rfl) (h.1 h5)
   cases e1
  |some i=>exact zF.put hr J (g _ _ _ h1) (xh rfl) h.2
 .rename_i p z m;rcases r with⟨_,h2,U⟩|⟨b',cap,ty,h1,h2,U,_⟩
  .exact zF.put hr J (g _ _ _ U) (xh rfl) (h.1 h2)
  exact zF.put hr J (g _ _ _ U) (xh rfl) h.2
 grind
theorem adE{b:aG}{l:am aF}{z:AOp}(h:adD b l=some z):(∃x y,l=[x,y]/\((b=.min/\z=.mm false (cO x) (cO y))\/(b=.max/\z=.mm true (cO x) (cO y))))\/
 ∃x y u,l=[x,y,u]/\((b=.min/\z=.mmt false (cO x) (cO y) (cO u))\/(b=.max/\z=.mmt true (cO x) (cO y) (cO u))):=by unfold adD at h<;>grind
theorem apk(hr:Rel F N ι s a w)(hd:∀k,o.dst=some k->k<N){b:aG}{args:aE aF}{ts:aE TypeId}(ho:o.op=.call {callee:=.builtin b,args:=args,argTypes:=ts})
 {z:AOp}(hz:adD b args.toList=some z) (h:zK P o.dst z s K):zF P F N o a w (λ_=>True) K:=by
 rcases adE hz with⟨x,y,i,R⟩|⟨x,y,u,i,R⟩
 rotate_left
 .have J:args= #[x,y,u]:=aK.1 d9;have key:∀(g:Bool),(b=.min/\g=false\/b=.max/\g=true)->aMt o.dst g (s.oc (cO x)) (s.oc (cO y)) (s.oc (cO u)) s K->zF P F N o a w (λ_=>True) K:=by
   intro g j h;have l:=xj hr x;have r:=xj hr y;have I:=xj hr u;generalize s.oc (cO x)=cx at*;generalize s.oc (cO y)=cy at*;generalize s.oc (cO u)=cu at*;unfold aMt at h;split at h
   .rename_i k m U n k2 p;cases hk:(wl k U&&wl k k2)with
    |false=>grind
    |true=>
     rw[hk]at h;simp only[aO]at h;have l:=y5 l;have r:=y5 r;have I:=y5 I;refine zF.put hr hd (v:=.int k (zI g (zI g m n) p)) ?_ (xh rfl) h;intro w' _;rcases j with⟨rfl,rfl⟩|⟨rfl,rfl⟩
     .simp[aH,ho,bI,bP,builtin,Builtin.min_,Builtin.min2,J,l,r,I,zI]
     simp[aH,ho,bI,bP,builtin,Builtin.max_,Builtin.max2,J,l,r,I,zI]
   grind
  rcases R with⟨rfl,rfl⟩|⟨rfl,rfl⟩
  .exact key false (.inl ⟨rfl,rfl⟩) h
  exact key true (.inr ⟨rfl,rfl⟩) h
 have J:args= #[x,y]:=aK.1 d9;have key:∀(g:Bool),(b=.min/\g=false\/b=.max/\g=true)->aMm o.dst g (s.oc (cO x)) (s.oc (cO y)) s K->zF P F N o a w (λ_=>True) K:=by
  intro g j h;have l:=xj hr x;have r:=xj hr y;generalize s.oc (cO x)=cx at*;generalize s.oc (cO y)=cy at*;unfold aMm at h;split at h
  .rename_i k m U n;cases hk:wl k U with
   |false=>grind
   |true=>
    rw[hk]at h;simp only[aO]at h;have l:=y5 l;have r:=y5 r;refine zF.put hr hd (v:=.int k (zI g m n)) ?_ (xh rfl) h;intro w' _;rcases j with⟨rfl,rfl⟩|⟨rfl,rfl⟩
    .simp_all[aH,bI,bP,builtin,Builtin.min_,Builtin.min2,zI]
    simp_all[aH,bI,bP,builtin,Builtin.max_,Builtin.max2,zI]
  grind
 rcases R with⟨rfl,rfl⟩|⟨rfl,rfl⟩
 .exact key false (.inl ⟨rfl,rfl⟩) h
 exact key true (.inr ⟨rfl,rfl⟩) h
end
def wV(ι:Nat->Gh)(p:Nat)(g:Gh):Nat->Gh:=λq=>if q=p then g else ι q
theorem zO(ι:Nat->Gh)(p:Nat)(g:Gh):wV ι p g p=g:=by simp[wV]
theorem qZ(ι:Nat->Gh){p q:Nat}(g:Gh)(h:q≠p):wV ι p g q=ι q:=by grind[wV]
theorem agr{ι:Nat->Gh}{d c n b:Nat}{v:Value}{x:Pl}(h:foot (wV ι d ⟨some c,n,v,[]⟩) d x b):b=c:=by cases x<;>grind[foot,zO]
theorem JY{p q:Nat}(h:isin q [p]=false):q≠p:=by intro e;simp_all[isin]
theorem agu{p d q:Nat}(h:isin q [p,d]=false):q≠p/\q≠d:=by
 refine⟨λe=>?_,λe=>?_⟩
 .simp_all[isin]
 simp_all[isin]
theorem zD{α:Type}{d p:Nat}{x y:α}(h:aget [(d,x)] p=some y):p=d/\y=x:=by
 rw[yg]at h;split at h
 .grind
 cases h
section
variable {P:Program}{F:Fr}{N:Nat}{ι:Nat->Gh}{s:S}{a:Act}{w:aB}{o:Oper}{K:S->Prop}
theorem Jh(aa:Rel F N ι s a w)(g:am Nat)(new:am (Nat×Pl))(ι':Nat->Gh)(w':aB)
 (hι:∀p,isin p g=false->ι' p=ι p)
 (l:∀b,b<w.heap.size->(∀q y,isin q g=true->aget s.pl q=some y->y.live=true->¬foot ι q y b)->w'.heap[b]?=w.heap[b]?)
 (o:w.heap.size<=w'.heap.size)
 (i:∀p x b,aget new p=some x->foot ι' p x b->b<w'.heap.size/\(w.heap.size<=b\/∃q y,isin q g=true/\aget s.pl q=some y/\y.live=true/\foot ι q y b)):
 zR w w' (F.ok ι s.pl w) (F.ok ι' (s.redo g new).pl w'):=by
 intro b hb;obtain⟨h1,P,r⟩:=hb;refine⟨⟨h1,bL P o,?_⟩,l b P (λq y _ hy R hq=>r ⟨q,y,hy,R,hq⟩)⟩;rintro⟨p,x,j,R,J⟩;rw[S.redo_pl]at j;cases I:aget new p with
 |some y=>
  simp only[I]at j;cases j;rcases(i p _ b I J).2 with h|⟨q,z,_,h4,h5,h6⟩
  .omega
  exact r ⟨q,z,h4,h5,h6⟩
 |none=>
  simp only[I]at j;split at j
  .rename_i hk;cases U:aget s.pl p with
   |none=>grind
   |some y=>
    rw[U]at j;simp at j;subst j;exact r ⟨p,y,U,by grind[Pl.live_kill],by grind[qx,xX]⟩
  cases j
structure NewRow(w w':aB)(cur:aE Value)(t:TypeId)(mk:Nat×Nat):Prop where
 heap:w'.heap=w.heap.push (.cells cur t mk)
 os:w'.os=w.os
 tape:w'.tape=w.tape
 output:Out w w'
theorem NewRow.old{w w':aB}{g:aE Value}{t:TypeId}{mk:Nat×Nat}(h:NewRow w w' g t mk){b:Nat}(i:b<w.heap.size):w'.heap[b]?=w.heap[b]? :=by rw[h.heap,aE.getElem?_push,bO d8]
theorem NewRow.ext{w w':aB}{g:aE Value}{t:TypeId}{mk:Nat×Nat}(h:NewRow w w' g t mk):vP w w':=⟨by rw[h.heap];simp,λ_ i=>h.old i⟩
theorem NewRow.new{w w':aB}{g:aE Value}{t:TypeId}{mk:Nat×Nat}(h:NewRow w w' g t mk):w'.heap[w.heap.size]?=some (.cells g t mk):=by rw[h.heap];simp
theorem NewRow.size{w w':aB}{g:aE Value}{t:TypeId}{mk:Nat×Nat}(h:NewRow w w' g t mk):w'.heap.size=w.heap.size+1:=by rw[h.heap];simp
theorem NewRow.shapes{w w':aB}{g:aE Value}{t:TypeId}{mk:Nat×Nat}(h:NewRow w w' g t mk):z7 w w':=by
 intro b ty m j;have l:b<w.heap.size:=by
  rcases Nat.lt_or_ge b w.heap.size with i|i
  .exact i
  simp[bS,aE.getElem?_eq_none i]at j
 simp only[bS,h.old l]at j⊢;exact j
theorem NewRow.cell{w w':aB}{g:aE Value}{t:TypeId}{mk:Nat×Nat}(h:NewRow w w' g t mk)(j:Nat):w'.cell? ⟨w.heap.size,j,none⟩=g[j]? :=cj w' _ j g t mk h.new
theorem NewRow.alloc(w:aB)(g:aE Value)(t:TypeId):NewRow w (w.alloc (.cells g t)) g t (0,0):=⟨rfl,rfl,rfl,Out.refl w⟩
theorem NewRow.draw(w:aB)(g:aE Value)(t:TypeId)(mk:Nat×Nat):NewRow w (w.drew.alloc (.cells g t mk)) g t mk:=⟨rfl,rfl,rfl,rfl⟩
theorem YF(hr:Rel F N ι s a w){w':aB}{i:aE Value}{t:TypeId}{mk:Nat×Nat}(l:NewRow w w' i t mk)(d:Nat)(x:Pl)(g:am Nat)(hk:isin d g=true)(n:Nat):
 zR w w' (F.ok ι s.pl w) (F.ok (wV ι d ⟨some w.heap.size,n,.nilFunc,[]⟩) (s.redo g [(d,x)]).pl w'):=by
 refine Jh hr g [(d,x)] _ w' (λp o=>qZ ι _ ?_) (λb j _=>l.old j) (by rw[l.size];omega) ?_
 .grind
 intro p y b o j;obtain⟨rfl,rfl⟩:=zD o;cases agr j;exact⟨by rw[l.size];omega,.inl (aY _)⟩
theorem Rel.newRow(hr:Rel F N ι s a w){w':aB}{j:aE Value}{t:TypeId}{mk:Nat×Nat}(i:NewRow w w' j t mk)(d:Nat)(x:Pl)(g:am Nat)(hk:isin d g=true)(n:Nat)(r:F.h d=none)
 (I:PR (wV ι d ⟨some w.heap.size,n,.nilFunc,[]⟩) w' (F.ok (wV ι d ⟨some w.heap.size,n,.nilFunc,[]⟩) (s.redo g [(d,x)]).pl w') d x):Rel F N (wV ι d ⟨some w.heap.size,n,.nilFunc,[]⟩) (s.redo g [(d,x)]) a w':=by
 refine hr.redo g [(d,x)] _ w' (λp o=>qZ ι _ ?_) (λb l _=>i.old l) i.shapes i.os i.tape i.output (by rw[i.size];omega) ?_ ?_ ?_ (λp y o=>by grind[zD])
 .grind
 .grind[zD]
 .intro p y b o l;obtain⟨rfl,rfl⟩:=zD o;cases agr l;exact⟨by rw[i.size];omega,.inl (aY _)⟩
 grind[zD]
theorem Yf{ok:Nat->Prop}{x:W}{v:Value}(h:WR ι w ok x v)(hs:solid x.cells=true):CRs ι w ok x.cells v.cells.toList:=by
 cases x with
 |c c=>
  have i:c.isDead=false:=by grind[W.cells,solid]
  have g:=CR.one h i;have hv:v.cells.toList=[v]:=by cases v<;>first|rfl|cases g
  rw[hv];exact⟨h,trivial⟩
 |agg cs=>
  obtain⟨vs,rfl,h⟩:=h<;>grind[W.cells,Value.cells]
theorem amE(hr:Rel F N ι s a w){w':aB}{g:aE Value}{t:TypeId}{mk:Nat×Nat}(i:NewRow w w' g t mk)(d:Nat)(x:Pl)(n:Nat){cs:am C}{vs:am Value}(h:CRs ι w (F.ok ι s.pl w) cs vs):
 CRs (wV ι d ⟨some w.heap.size,n,.nilFunc,[]⟩) w' (F.ok (wV ι d ⟨some w.heap.size,n,.nilFunc,[]⟩) (s.redo [d] [(d,x)]).pl w') (cs.map (C.kill [d])) vs:=
 CRs.kill (YF hr i d x [d] (by simp[isin]) n) i.shapes (λ_ j=>GhR.of_eq (qZ ι _ (JY j))) cs vs h
theorem alf(hr:Rel F N ι s a w){d:Nat}(g:o.dst=some d)(p:d<N){cs:am C}{v:Value}{t:TypeId}(l:CRs ι w (F.ok ι s.pl w) cs v.cells.toList)
 (i:(aH a.eval o).run P w=.ok (.value (.pointer (some ⟨w.heap.size,0,none⟩))) (w.alloc (.cells v.cells t)))
 (h:K ((s.place d (.box (cs.map (C.kill [d])))).put (some d) (cV (.ptr d 0)))):ub P F N o a w K:=by have j:=NewRow.alloc w v.cells t;have hrel:=hr.newRow j d (.box (cs.map (C.kill [d]))) [d] (by simp[isin]) 0 (hr.h_slot p) ⟨w.heap.size,v.cells,by rw[zO],⟨t,j.new⟩,amE hr j d _ 0 l⟩;refine ub.of_value j.ext (ι':=wV ι d ⟨some w.heap.size,0,.nilFunc,[]⟩) i ?_ h;rw[g];exact hrel.put (some d) (λk hk=>d9) _ _ ⟨w.heap.size,by rw[zO],rfl⟩
theorem ah4:∀(vs:am Value) (l:am Nat),(vs.map XN).map (C.kill l)=vs.map XN
 |[],_=>rfl
 |v::vs,l=>by
  simp only[aX,ah4 vs l];congr 1
  unfold XN;split<;>rfl
theorem X1{v:Value}(h:solid (ofValue v).cells=true):(ofValue v).cells=v.cells.toList.map XN:=by
 unfold ofValue at h⊢;split
 .rfl
 rename_i g;simp only[W.cells]at h⊢;cases v<;>first|rfl|grind|(simp[XN,solid,C.isDead]at h)
theorem afW(hr:Rel F N ι s a w)(l:∀k,o.dst=some k->k<N){t:TypeId}(p:o.op=.alloc t)(h:zK P o.dst (.alloc (qo P t).cells) s K):ub P F N o a w K:=by
 simp only[zK]at h;split at h
 .rename_i d g;cases hs:solid (qo P t).cells with
  |false=>grind
  |true=>
   rw[hs]at h;simp only[aO]at h;unfold qo at hs h;cases hi:P.info? t with
   |none=>simp only[hi]at hs;cases hs
   |some i=>
    simp only[hi]at hs h;cases j:i.zero with
    |none=>simp only[j]at hs;cases hs
    |some v=>
     simp only[j]at hs h;rw[X1 hs]at h;rw[<-ah4 v.cells.toList [d]]at h;refine alf hr g (l d g) (t:=t) (YV ι w _ v.cells.toList) ?_ h;simp_all[aH,Instr.alloc,cm,bU,newVar,dM]
 grind
theorem apf(hr:Rel F N ι s a w)(j:∀k,o.dst=some k->k<N){t:TypeId}{x:aF}(p:o.op=.box t x)(h:zK P o.dst (.bx (cO x)) s K):ub P F N o a w K:=by
 simp only[zK]at h;split at h
 .rename_i d y g l;cases hs:solid y.cells with
  |false=>grind
  |true=>
   rw[hs]at h;simp only[aO]at h;have i:=jf hr x;rw[l]at i;refine alf hr g (j d g) (v:=a.eval x) (t:=t) (Yf i hs) ?_ h;simp_all[aH,Instr.box,newVar,dM]
 grind
theorem z7.setRow(w:aB)(g:Nat){old cs:aE Value}{t:TypeId}{j:Nat×Nat}(o:w.heap[g]?=some (.cells old t j))(hs:cs.size=old.size):z7 w (w.setRow g cs):=by
 intro b ty m l;by_cases i:b=g
 .subst i;simp only[bS,o]at l;simp only[bS,ck w b old cs t j o]
  grind
 simp only[bS,bJ w g b cs i];exact l
theorem Rel.write(hr:Rel F N ι s a w)(p:Nat)(x y:Pl)(hp:aget s.pl p=some x)(hx:x.live=true)(hy:y.live=true)(hf:∀c,foot ι p y c↔foot ι p x c){b:Nat}(hb:foot ι p x b){old l:aE Value}{t:TypeId}(hg:w.heap[b]?=some (.cells old t (0,0)))(hs:l.size=old.size)
 (aj:PR ι (w.setRow b l) (F.ok ι (yN p y s.pl) (w.setRow b l)) p y):Rel F N ι (s.withPl (yN p y s.pl)) a (w.setRow b l):=by
 have I:∀c,Owns ι (yN p y s.pl) c↔Owns ι s.pl c:=by
  intro c;constructor
  .rintro⟨q,z,R,h2,h3⟩;rw[yG]at R;split at R
   .rename_i e;subst e;cases R;exact⟨p,x,hp,hx,(hf c).1 h3⟩
   exact⟨q,z,R,h2,h3⟩
  rintro⟨q,z,R,h2,h3⟩;by_cases e:p=q
  .subst e;rw[hp]at R;cases R;exact⟨p,y,by simp_all[yG],hy,(hf c).2 h3⟩
  exact⟨q,z,by simp_all[yG],h2,h3⟩
 have ab:Owns ι s.pl b:=⟨p,x,hp,hx,hb⟩;have i:zR w (w.setRow b l) (F.ok ι s.pl w) (F.ok ι (yN p y s.pl) (w.setRow b l)):=by
  intro c J;have ac:c≠b:=λe=>by subst e;exact J.2.2 ab
  exact⟨⟨J.1,by simpa using J.2.1,λho=>J.2.2 ((I c).1 ho)⟩,bJ w b c l ac⟩
 have ad:=z7.setRow w b hg hs;refine⟨hr.room,λk v hv=>?_,λq z hz=>?_,λq r z u c hz hu ak hl ao=>?_,λc J=>?_,hr.defers,?_,hr.foreign,hr.handed,hr.few,hr.hdom,λq z g hz hg=>?_⟩
 rotate_left 5
 .have o:aget (yN p y s.pl) q=some z:=hz;rw[yG]at o;split at o
  .rename_i e;subst e;exact hr.hkeep p x g hp hg
  exact hr.hkeep q z g o hg
 .obtain⟨v',U,e2⟩:=hr.slots k v hv;exact⟨v',U,VR.keep i ad v v' e2⟩
 .have o:aget (yN p y s.pl) q=some z:=hz;rw[yG]at o;split at o
  .rename_i e;subst e;cases o;exact aj
  rename_i ai;have h:=hr.places q z o;have aa:∀c,foot ι q z c->c≠b:=λc J e=>by subst e;exact hr.inj p q x z c hp o ai hx hb J
  cases z with
  |box cs=>obtain⟨c,P,U,⟨t',e2⟩,e3⟩:=h;exact⟨c,P,U,⟨t',by rw[bJ w b c l (aa c U)];exact e2⟩,CRs.keep i ad _ _ e3⟩
  |arr sz ae fz=>
   obtain⟨h0,hn,h|⟨c,U,e2,e3,e4⟩⟩:=h
   .exact⟨h0,hn,.inl h⟩
   refine⟨h0,hn,.inr ⟨c,U,RDs.keep' i c sz ae 0 (λj _ _=>cell_of_heap (bJ w b c l (aa c U)) j) e2,λhf=>(i c (e3 hf)).1,λhf=>?_⟩⟩;obtain⟨P,⟨t',e5⟩,e6⟩:=e4 hf;exact⟨P,⟨t',by rw[bJ w b c l (aa c U)];exact e5⟩,e6⟩
  |fbox ds=>obtain⟨c,U,e2,e3⟩:=h;exact⟨c,U,(i c e2).1,RDc.keep i c e2 _ _ e3⟩
  |deep t=>exact⟨h.1,RT.keep i t _ _ (λc J=>bJ w b c l (aa c J)) h.2⟩
  |gone=>exact h.elim
 .have o:aget (yN p y s.pl) q=some z:=hz;have an:aget (yN p y s.pl) r=some u:=hu;rw[yG]at o an;have R:∃z',aget s.pl q=some z'/\z'.live=true/\foot ι q z' c:=d9
  have h2:∃u',aget s.pl r=some u'/\(foot ι r u c->foot ι r u' c):=d9
  obtain⟨z',R,af,ag⟩:=R;obtain⟨u',h2,ah⟩:=h2;exact λal=>hr.inj q r z' u' c R h2 ak af ag (ah al)
 .have:=hr.mine c ((I c).1 J)<;>simp_all
 refine⟨hr.grows.os,hr.grows.tape,hr.grows.output,by simpa using hr.grows.size,λc J hm=>?_,λc t m h=>ad c t m (hr.grows.shapes c t m h)⟩;have ac:c≠b:=by intro e;subst e;rcases(hr.mine c ab).1 with h|h<;>grind
 rw[bJ w b c l ac];exact hr.grows.block c J hm
theorem gE(J:Rel F N ι s a w)(p:Nat)(x y:Pl)(r:aget s.pl p=some x)(I:x.live=true)(U:∀c,foot ι p y c↔foot ι p x c){b:Nat}(R:foot ι p x b)(g:aE Value):
 zR w (w.setRow b g) (F.ok ι s.pl w) (F.ok ι (yN p y s.pl) (w.setRow b g)):=by
 intro c i;have l:c≠b:=λe=>by subst e;exact i.2.2 ⟨p,x,r,I,R⟩
 refine⟨⟨i.1,by simpa using i.2.1,?_⟩,bJ w b c g l⟩;rintro⟨q,z,j,P,o⟩;rw[yG]at j;split at j
 .rename_i e;subst e;cases j;exact i.2.2 ⟨p,x,r,I,(U c).1 o⟩
 exact i.2.2 ⟨q,z,j,P,o⟩
theorem adY{t:TypeId}{i:bM}(hi:P.info? t=some i){b off:Nat}{old:aE Value}{ty:TypeId}(l:w.heap[b]?=some (.cells old ty (0,0))){v:Value}(o:v.cells.toList.length=zW P t)(g:off+v.cells.toList.length<=old.size)
 (j:∀u∈v.cells.toList,u.oneCell'=true):(storeVar t ⟨b,off,none⟩ v).run P w=.ok () (w.setRow b (old.toList.take off++v.cells.toList++old.toList.drop (off+v.cells.toList.length)).toArray):=by have h:=cL P b off ty v.cells.toList 0 old w l d9 j;simp_all[storeVar,vK]
theorem j5{ok:Nat->Prop}:∀{i:am D}{vs:am Value},CRs ι w ok (i.map .d) vs->∀v∈vs,v.oneCell'=true
 |[],[],_,_,hv=>by cases hv
 |[],_::_,h,_,_=>h.elim
 |_::_,[],h,_,_=>h.elim
 |d::i,v::vs,h,u,g=>by
  rcases bC.1 g with rfl|g
  .exact CR.one h.1 rfl
  exact j5 h.2 u g
theorem jq{g:am (Nat×Pl)}:∀{cs:am C}{pl:am (Nat×Pl)}{j:am D},uC pl cs=some (j,g)->solid cs=true:=by
 intro cs;induction cs with
 |nil=>intros;rfl
 |cons c cs I=>
  intro pl j h;simp only[uC]at h;split at h
  .rename_i y o l;split at h
   .rename_i ys i p;have e:i=g:=d9
    subst e;unfold solid;have r:c.isDead=false:=by cases c<;>first|rfl|cases l
    grind
   cases h
  cases h
theorem QY{ok:Nat->Prop}{b sz:Nat}:∀{i:am (am D)}{off:Nat}{vs:am Value},(∀e∈i,e.length=sz)->CRs ι w ok (i.flatten.map .d) vs->(∀j v,vs[j]?=some v->w.cell? ⟨b,off+j,none⟩=some v)->RDs w ok b sz off i
 |[],_,_,_,_,_=>by grind[RDs]
 |e::r,off,vs,R,J,g=>by
  simp only[RDs];simp only[bA,bT]at J;have P:e.length=sz:=R e dT;have o:∀(e:am D) (rest:am C) (vs:am Value) (off:Nat),CRs ι w ok (e.map .d++rest) vs->(∀j v,vs[j]?=some v->w.cell? ⟨b,off+j,none⟩=some v)->RDc w ok b off e/\CRs ι w ok rest (vs.drop e.length):=by
   intro e;induction e with
   |nil=>grind[RDc]
   |cons d e ih=>
    intro rest vs off h l;cases vs with
    |nil=>exact h.elim
    |cons v vs=>
     obtain⟨p,I⟩:=ih rest vs (off+1) h.2 (λj u hu=>by have:=l (j+1) u d9;grind);refine⟨?_,d9⟩;simp only[RDc];exact⟨⟨v,by simpa using l 0 v rfl,h.1⟩,p⟩
  obtain⟨p,I⟩:=o e _ vs off J g;refine⟨P,p,QY (λx U=>R x (by simp[U])) I (λj v hv=>?_)⟩;rw[am.getElem?_drop]at hv;have:=g _ v hv;rw[P]at this;rwa[show off+sz+j=off+(sz+j)by omega]
theorem RDs.vals{ok:Nat->Prop}{b sz:Nat}:∀{g:am (am D)}{off:Nat},RDs w ok b sz off g->∃vs,CRs ι w ok (g.flatten.map .d) vs/\vs.length=g.length*sz/\∀j v,vs[j]?=some v->w.cell? ⟨b,off+j,none⟩=some v
 |[],off,_=>⟨[],trivial,dT,λj v h=>by simp at h⟩
 |e::r,off,h=>by
  simp only[RDs]at h;obtain⟨R,I,J⟩:=h;obtain⟨i,p,P⟩:=RDc.vals (ι:=ι) I;obtain⟨l,g1,g2,g3⟩:=RDs.vals J;have o:i.length=sz:=by rw[<-p.length];grind
  refine⟨i++l,by grind[CRs.append],d9,λj v hv=>?_⟩
  grind
theorem ayV(hr:Rel F N ι s a w){t:TypeId}{x y:aF}(ho:o.op=.store t x y){i:bM}(hi:P.info? t=some i)
 (h:zK P o.dst (.st (zW P t) (cO x) (cO y)) s K):yO P F N o a w K:=by
 simp only[zK]at h;split at h
 case h_2=>grind
 rename_i ac;have hx:=xj hr x;have hy:=aiY hr y;generalize s.oc (cO x)=cx at*;generalize s.ow (cO y)=wy at*;unfold aSt at h;cases hl:aI wy.cells.length (zW P t)with
 |false=>grind
 |true=>
  rw[hl]at h;simp only[aO]at h;have hl:=aC hl;split at h
  .rename_i p off;split at h
   .rename_i cs hp;cases hs:solid wy.cells&&bZ (off+wy.cells.length) cs.length with
    |false=>grind
    |true=>
     rw[hs]at h;simp only[aO]at h;rw[aT]at hs;have ai:=aS hs.2;obtain⟨b,h1,h2⟩:=hx;obtain⟨b',old,e1,⟨ty,e2⟩,e3⟩:=hr.places p _ hp;rw[h1]at e1;cases e1;have U:=Yf hy hs.1;have R:(a.eval y).cells.toList.length=wy.cells.length:=U.length.symm;have ay:cs.length=old.size:=by simpa using e3.length
     have ad:=adY (P:=P) hi (b:=b) (off:=off) e2 (v:=a.eval y) d9 d9 (CRs.ones U hs.1);obtain⟨J,ag⟩:∃J:aE Value,J=(old.toList.take off++(a.eval y).cells.toList++old.toList.drop (off+(a.eval y).cells.toList.length)).toArray:=⟨_,rfl⟩;rw[<-ag]at ad;have ab:J.size=old.size:=d9
     have hk:=gE hr p (.box cs) (.box (ye cs off wy.cells)) hp rfl (λ_=>de) h1 J;have af:=z7.setRow w b e2 ab;have I:=CRs.append (CRs.append (CRs.take off e3) U) (CRs.drop (off+wy.cells.length) e3);have al:J.toList=old.toList.take off++(a.eval y).cells.toList++old.toList.drop (off+wy.cells.length):=d9
     rw[<-al]at I;have hrel:=hr.write p (.box cs) (.box (ye cs off wy.cells)) hp rfl rfl (λ_=>de) h1 e2 ab ⟨b,J,h1,⟨ty,ck w b old J ty (0,0) e2⟩,CRs.keep hk af _ _ I⟩;refine yO.of_skip (ι':=ι) (w':=w.setRow b J) (by grind[aH,Instr.storeAt,bQ,aZ,bE,aM]) ?_ h;rw[ac];exact hrel
   grind
  .rename_i p z l k;split at h
   .rename_i ds a1 ah;split at h
    .rename_i z1 g hp;cases hz:aI z z1 with
     |false=>grind
     |true=>
      rw[hz]at h;have hz:=aC hz;subst hz;simp only[aO]at h;obtain⟨e,he,ai,h⟩:=h;have U:=Yf hy (jq ah);obtain⟨ae,aw,hd1⟩:=ZC hr U ah;have R:(a.eval y).cells.toList.length=wy.cells.length:=U.length.symm;have an:ds.length=wy.cells.length:=by rw[<-R];simpa using hd1.length
      obtain⟨b,h1,h2⟩:=hx;obtain⟨aq,hn,az|⟨b',e1,e2,_,e4⟩⟩:=ae.places p _ hp
      .grind
      rw[h1]at e1;cases e1;obtain⟨old,⟨ty,hg⟩,ao⟩:=e4 rfl;have aa:l<g.length:=(am.getElem?_eq_some_iff.1 he).1;have au:e.length=z:=RDs.len e2 e (cr he);have ar:l*z+k+ds.length<=old.size:=by have:(l+1)*z<=g.length*z:=aQ _ aa;rw[aU,b9]at this;omega
      have ad:=adY (P:=P) hi (b:=b) (off:=l*z+k) hg (v:=a.eval y) d9 d9 (j5 hd1);have ab:(old.toList.take (l*z+k)++(a.eval y).cells.toList++old.toList.drop (l*z+k+(a.eval y).cells.toList.length)).toArray.size=old.size:=d9
      have hk:=gE ae p (.arr z g false) (.arr z (g.set l (ye e k ds)) false) hp rfl (λ_=>de) h1 (old.toList.take (l*z+k)++(a.eval y).cells.toList++old.toList.drop (l*z+k+(a.eval y).cells.toList.length)).toArray;have af:=z7.setRow w b hg ab;obtain⟨vs,g1,g2,g3⟩:=RDs.vals (ι:=ι) e2;have ak:(g.set l (ye e k ds)).flatten=ye g.flatten (l*z+k) ds:=by
       have I:=RDs.len e2;have:∀(g:am (am D)) (l:Nat),(∀x∈g,x.length=z)->g[l]?=some e->(g.set l (ye e k ds)).flatten=ye g.flatten (l*z+k) ds:=by
        intro g;induction g with
        |nil=>grind
        |cons x r ih=>
         intro l I he;have hx:x.length=z:=I x dT;cases l with
         |zero=>
          simp at he;subst he;simp only[dw,bA,ye,bY,aV]
          grind
         |succ l=>
          simp at he;simp only[dx,bA];rw[ih l (λy hy=>I y (by simp[hy])) he];simp only[ye];rw[show(l+1)*z+k=x.length+(l*z+k)by grind,List.take_length_add_append,show x.length+(l*z+k)+ds.length=x.length+(l*z+k+ds.length)by omega,cE]
          grind
       grind
      have a0:vs.length=g.length*z:=g2;have hrel:=ae.write p (.arr z g false) (.arr z (g.set l (ye e k ds)) false) hp rfl rfl (λ_=>de) h1 hg ab ⟨aq,d9,.inr ⟨b,h1,by
       refine QY (ι:=ι) (vs:=ye vs (l*z+k) (a.eval y).cells.toList) ?_ ?_ ?_
       .intro q hq;rcases List.mem_or_eq_of_mem_set hq with hq|rfl
        .grind[RDs.len]
        grind[ye]
       .rw[ak];simp only[ye,bT,List.map_take,List.map_drop];refine CRs.keep hk af _ _ ?_;rw[R,<-an];exact CRs.append (CRs.append (CRs.take _ g1) hd1) (CRs.drop _ g1)
       intro j v hv;rw[aV,cU w b _ old _ ty (0,0) hg];simp only[ye]at hv;have aj:∀j v,vs[j]?=some v->old.toList[j]?=some v:=λj v hv=>by have:=g3 j v hv;rw[aV,cj w b j old ty (0,0) hg]at this;rw[aE.getElem?_toList];exact this
       have av:j<vs.length:=by have:=(am.getElem?_eq_some_iff.1 hv).1;simp only[aR,bB,c8,R]at this;have:(l+1)*z<=g.length*z:=aQ _ aa;rw[aU,b9]at this;omega
       have ax:vs.length<=old.toList.length:=d9
       simp only[am.getElem?_toArray];rw[am.getElem?_append,am.getElem?_append]at hv⊢;have t1:(vs.take (l*z+k)).length=l*z+k:=by rw[bB];have:(l+1)*z<=g.length*z:=aQ _ aa;rw[aU,b9]at this;omega
       have t2:(old.toList.take (l*z+k)).length=l*z+k:=by rw[bB,bF];omega
       simp only[aR,t1,t2]at hv⊢;split at hv
       .rename_i c1;rw[cX c1];split at hv
        .rename_i c2;rw[cX c2];rw[am.getElem?_take]at hv⊢;rw[cX c2]at hv⊢
         grind
        rename_i c2;rw[bO c2];exact hv
       rename_i c1;rw[bO c1];rw[am.getElem?_drop]at hv⊢;exact aj _ v hv,(λhf=>by cases hf),(λ_=>⟨_,⟨ty,ck w b old _ ty (0,0) hg⟩,d9⟩)⟩⟩
      refine yO.of_skip (ι':=ι) (w':=w.setRow b (old.toList.take (l*z+k)++(a.eval y).cells.toList++old.toList.drop (l*z+k+(a.eval y).cells.toList.length)).toArray) (hr:=?_) (hk:=h) (h:=?_)
      .grind[aH,Instr.storeAt,bQ,aZ,bE,aM]
      rw[ac];exact hrel
    grind
   grind
  grind
end
section
variable {P:Program}{F:Fr}{N:Nat}{ι:Nat->Gh}{s:S}{a:Act}{w:aB}{o:Oper}{K:S->Prop}
theorem akA(off:Nat):∀(vals:am Value) (k:Nat) (g:aE Value),off+k+vals.length<=g.size->
 (vals.zipIdx k).foldl (λcs (x:Value×Nat)=>cs.setIfInBounds (off+x.2) x.1) g=(ye g.toList (off+k) vals).toArray
 |[],k,g,_=>by simp[ye]
 |v::r,k,g,h=>by
  simp only[c9,List.foldl_cons];simp only[bK]at h;rw[akA off r (k+1) (g.setIfInBounds (off+k) v) (by simpa using (by omega:off+(k+1)+r.length<=g.size))];congr 1
  simp only[ye,Array.toList_setIfInBounds,bK];have:=list_seg_step g.toList (off+k) v r (by simpa using h);rw[show off+(k+1)=off+k+1 by omega];rw[show off+k+(r.length+1)=off+k+1+r.length by omega]at*;exact this
theorem akv(place:Nat->aA (Nat×Nat))(g:aE Value)(i off sz:Nat)(v:Value)(rest:am (Nat×Value))(r:place i=some (off,sz))(o:v.cells.toList.length=sz)(l:off+sz<=g.size):
 cH place g ((i,v)::rest)=cH place (ye g.toList off v.cells.toList).toArray rest:=by
 have p:v.cells.size=sz:=by simpa using o
 have j:=akA off v.cells.toList 0 g (by rw[o];omega);simp only[dG]at j;have I:v.cells.zipIdx.foldl (λcs (x:Value×Nat)=>cs.setIfInBounds (off+x.2) x.1) g=(ye g.toList off v.cells.toList).toArray:=by rw[<-j,<-Array.foldl_toList];simp
 rw[cH];simp only[r];rw[bO (by rw[p];simp;omega)];congr 1
theorem adj:∀(p:am cK),ahQ P p=true->∃l,p.mapM (λf=>(P.info? f.type).map λi=>(f.offset,i.size))=some l/\∀(j:Nat) (f:cK),p[j]?=some f->l[j]?=some (f.offset,zW P f.type)
 |[],_=>⟨[],rfl,λj f h=>by simp at h⟩
 |f::r,h=>by
  unfold ahQ at h;cases hi:P.info? f.type with
  |none=>rw[hi]at h;cases h
  |some i=>
   rw[hi]at h;obtain⟨l,I,J⟩:=adj r h;refine⟨(f.offset,i.size)::l,by simp[List.mapM_cons,hi,I],λj g o=>?_⟩;cases j with
   |zero=>simp at o;subst o;simp[zW,hi]
   |succ j=>simp at o;simpa using J j g o
theorem ahI(hr:Rel F N ι s a w){t:TypeId}{fs:aE cK}(hu:P.underlying t=some (.struct fs)){g:am (Nat×Nat)}(aa:∀(j:Nat) (f:cK),fs.toList[j]?=some f->g[j]?=some (f.offset,zW P f.type)):
 ∀(parts:am (Nat×aF)) (l:am (Nat×Nat×O)) (cs o:am C) (vs:am Value),acW P t parts=some l->CRs ι w (F.ok ι s.pl w) cs vs->U4 s cs l=some o->
  ∃p,cH (λx=>g[x]?) vs.toArray (parts.map λx=>(x.1,a.eval x.2))=some p.toArray/\CRs ι w (F.ok ι s.pl w) o p
 |[],l,cs,o,vs,I,R,r=>by cases I;cases r;exact⟨vs,rfl,R⟩
 |(i,x)::parts,l,cs,o,vs,I,R,r=>by
  unfold acW at I;split at I
  .rename_i off J l' ht hl;cases I;unfold U4 at r;cases hc:solid (s.ow (cO x)).cells&&aI (s.ow (cO x)).cells.length (zW P J)&&bZ (off+zW P J) cs.length with
   |false=>rw[hc]at r;cases r
   |true=>
    rw[hc]at r;simp only[aO]at r;rw[aT,aT]at hc;obtain⟨⟨c1,c2⟩,c3⟩:=hc;have c2:=aC c2;have c3:=aS c3;obtain⟨ac,f,e1,e2,e3,e4⟩:=gA ht;rw[hu]at e1;cases e1;have hp:g[i]?=some (off,zW P J):=by rw[aa i f (by simpa using e2),e3,e4]
    have hx:=Yf (aiY hr x) c1;have ab:(a.eval x).cells.toList.length=zW P J:=by rw[<-hx.length,c2]
    have ad:cs.length=vs.length:=R.length;have U:CRs ι w (F.ok ι s.pl w) (ye cs off (s.ow (cO x)).cells) (ye vs off (a.eval x).cells.toList):=by simp only[ye];rw[ab,c2];exact CRs.append (CRs.append (CRs.take _ R) hx) (CRs.drop _ R)
    obtain⟨p,g1,g2⟩:=ahI hr hu aa parts l' _ o _ hl U r;refine⟨p,?_,g2⟩;rw[aX,akv _ vs.toArray i off (zW P J) (a.eval x) _ hp ab dX];exact g1
  cases I
theorem afX(hr:Rel F N ι s a w)(hd:∀k,o.dst=some k->k<N){t:TypeId}{parts:aE (Nat×aF)}(ho:o.op=.build t parts){J:aE cK}(R:P.underlying t=some (.struct J)){l:am (Nat×Nat×O)}
 (hl:acW P t parts.toList=some l) (hi:ahQ P J.toList=true) (j:solid (qo P t).cells=true) (h:zK P o.dst (.build (qo P t).cells l) s K):zF P F N o a w (λ_=>True) K:=by
 simp only[zK]at h;split at h
 .rename_i cs g;obtain⟨I,U,h2⟩:=adj J.toList hi;unfold qo at j g;cases hit:P.info? t with
  |none=>simp only[hit]at j;cases j
  |some it=>
   simp only[hit]at j g;cases p:it.zero with
   |none=>simp only[p]at j;cases j
   |some z=>
    simp only[p]at j g;rw[X1 j]at g;obtain⟨vs,g1,g2⟩:=ahI hr R h2 parts.toList l _ cs _ hl (YV ι w _ z.cells.toList) g;have hb:P.built t (parts.map λ(i,x)=>(i,a.eval x)).toList=some vs.toArray:=by simp only[Program.built,hit,R,p,U];simpa using g1
    have r:=λ(w':aB)=>run_build (P:=P) w' t (parts.map λ(i,x)=>(i,a.eval x)) vs.toArray hb
    exact zF.put hr hd (λw' _=>by simp[aH,ho,r]) (show VR ι w _ (.w (.agg cs)) _ from⟨vs,rfl,g2⟩) h
 exact h.elim
theorem aku{sz:Nat}:∀(vals:am Value) (i:Nat) (g:aE Value),(∀v∈vals,v.cells.toList.length=sz)->(i+vals.length)*sz=g.size->∀(parts:am (Nat×Value)),
 parts=(vals.zipIdx i).map (λx=>(x.2,x.1))->cH (λi=>some (i*sz,sz)) g parts=some (g.toList.take (i*sz)++(vals.map λv=>v.cells.toList).flatten).toArray
 |[],i,g,_,hs,parts,o=>by subst o;simp only[List.zipIdx_nil,List.map_nil,cH,List.flatten_nil,List.append_nil];rw[df (by simp at hs⊢;omega)]
 |v::r,i,g,hv,hs,parts,o=>by
  subst o;have j:=hv v dT;simp only[bK]at hs;have J:(i+(r.length+1))*sz=i*sz+sz+r.length*sz:=by rw[aU,aU,b9];omega
  simp only[c9,aX];rw[akv _ g i (i*sz) sz v _ rfl j d8];have l:(ye g.toList (i*sz) v.cells.toList).length=g.size:=by simp only[ye,aR,bB,c8,j,bF];omega
  rw[aku r (i+1) _ (λu I=>hv u (by simp[I])) (by simp only[cg,l];rw[<-hs];congr 1;omega) _ rfl];congr 2
  simp only[bA];rw[<-List.append_assoc];congr 1
  simp only[ye];rw[show(i+1)*sz=i*sz+sz by rw[aU];omega];have p:(g.toList.take (i*sz)).length=i*sz:=by rw[bB,bF];omega
  rw[List.take_append_of_le_length (by simp only[aR,p,j];omega)];rw[df (by simp only[aR,p,j];omega)]
theorem afB:∀(parts:am (Nat×aF)) (i:Nat),gZ i parts=true->(parts.map λx=>(x.1,a.eval x.2))=((parts.map λx=>a.eval x.2).zipIdx i).map λx=>(x.2,x.1)
 |[],_,_=>rfl
 |(j,x)::r,i,h=>by simp only[gZ,aT]at h;have:=aC h.1;subst this;simp only[aX,c9,afB r (i+1) h.2]
theorem adB{sz:Nat}(J:S)(a:Act):∀{parts:am aF}{s:S}(_:Rel F N ι s a w) (_:∀x∈parts,WR ι w (F.ok ι s.pl w) (J.ow (cO x)) (a.eval x)) {g:am (am D)}{i:am (Nat×Pl)}(_:ah6 J sz s.pl (parts.map cO)=some (g,i)),
 Rel F N ι (s.withPl i) a w/\(∀b,F.ok ι s.pl w b->F.ok ι i w b)/\g.length=parts.length/\(∀e∈g,e.length=sz)/\(∀x∈parts,(a.eval x).cells.toList.length=sz)/\
  CRs ι w (F.ok ι i w) (g.flatten.map .d) ((parts.map λx=>(a.eval x).cells.toList).flatten)
 |[],s,hr,_,g,i,h=>by cases h;exact⟨hr,λ_ h=>h,rfl,λe o=>(by cases o),λx I=>(by cases I),trivial⟩
 |x::parts,s,hr,I,g,i,h=>by
  simp only[aX,ah6]at h;cases j:aI (J.ow (cO x)).cells.length sz with
  |false=>rw[j]at h;cases h
  |true=>
   rw[j]at h;have j:=aC j;simp only[aO]at h;split at h
   .rename_i ds r R;split at h
    .rename_i es aa h2;cases h;have l:=Yf (I x dT) (jq R);obtain⟨g1,g2,g3⟩:=ZC hr l R;have hk:zR w w (F.ok ι s.pl w) (F.ok ι r w):=λb j=>⟨g2 b j,rfl⟩
     obtain⟨k1,U,k3,k4,k5,k6⟩:=adB J a (s:=s.withPl r) g1 (λy p=>WR.keep hk (z7.refl w) _ _ (I y (by simp[p]))) h2;have P:ds.length=sz:=by rw[<-j,l.length];simpa using g3.length
     refine⟨k1,λb j=>U b (g2 b j),by simp[k3],λe o=>?_,λy p=>?_,?_⟩
     .rcases bC.1 o with rfl|o
      .exact P
      exact k4 e o
     .rcases bC.1 p with rfl|p
      .rw[<-l.length,j]
      exact k5 y p
     simp only[bA,bT,aX];exact CRs.append (CRs.keep (λb j=>⟨U b j,rfl⟩) (z7.refl w) _ _ g3) k6
    cases h
   cases h
theorem NewRow.shape{w w':aB}{g:aE Value}{t:TypeId}{mk:Nat×Nat}(h:NewRow w w' g t mk):w'.shape? w.heap.size=some (t,g.size):=by simp[bS,h.new]
theorem aiH(hr:Rel F N ι s a w)(hd:∀k,o.dst=some k->k<N){t e:TypeId}{n:Nat}{parts:aE (Nat×aF)}(ho:o.op=.buildSlice t n parts)(ht:uj P t=some e)(R:bD 0 (zW P e)=true)(hn:aI n parts.toList.length=true)
 (aa:bZ (n*zW P e) 16777216=true) (al:gZ 0 parts.toList=true) (p:jk P e=true) (h:zK P o.dst (.lits (zW P e) (parts.toList.map λx=>cO x.2)) s K):ub P F N o a w K:=by
 simp only[zK]at h;have hu:=vM ht;have R:0<zW P e:=aS R;have hn:=aC hn;have aa:=aS aa;unfold jk at p;cases hi:P.info? e with
 |none=>rw[hi]at p;cases p
 |some i=>
  simp only[hi]at p;cases hz:i.zero with
  |none=>rw[hz]at p;cases p
  |some z=>
   have ak:zW P e=i.size:=by simp[zW,hi]
   split at h
   .rename_i d U an ac ad;have ag:(parts.toList.map λx=>cO x.2)=(parts.toList.map (·.2)).map cO:=dT
    rw[ag]at ad;obtain⟨g1,g2,g3,g4,g5,g6⟩:=adB s a hr (λx _=>aiY hr x) ad;have g:=aku (sz:=zW P e) (parts.toList.map λx=>a.eval x.2) 0 ((Array.range (n*zW P e)).map ((if n*zW P e=0 then #[]else z.cells)[· %(if n*zW P e=0 then #[]else z.cells).size]!)) (λv hv=>by obtain⟨x,hx,rfl⟩:=dH.1 hv;exact g5 x.2 (dH.2 ⟨x,hx,rfl⟩)) (by simp[hn]) _ (afB parts.toList 0 al)
    simp only[bY,List.take_zero,dg]at g;obtain⟨I,ab⟩:∃I:aE Value,I=((parts.toList.map λx=>a.eval x.2).map λv=>v.cells.toList).flatten.toArray:=⟨_,rfl⟩;rw[<-ab]at g;have ae:I.toList=((parts.toList.map (·.2)).map λx=>(a.eval x).cells.toList).flatten:=by rw[ab,List.map_map,List.map_map];rfl
    have af:I.size=n*zW P e:=by
     have h1:I.size=I.toList.length:=dT
     rw[h1,ae];have:∀(l:am aF),(∀x∈l,(a.eval x).cells.toList.length=zW P e)->((l.map λx=>(a.eval x).cells.toList).flatten).length=l.length*zW P e:=by
      intro l;induction l with
      |nil=>intro _;simp
      |cons x r ih=>intro hl;simp only[aX,bA,aR,bK,hl x dT,ih (λy hy=>hl y (by simp[hy])),aU];omega
     rw[this _ g5,hn];simp
    have aj:(aH a.eval o).run P w=.ok (.value (.slice (some ⟨w.heap.size,0,none⟩) n n)) (w.alloc (.cells I e)):=by
     have ah:¬n*i.size>16777216:=by rw[<-ak];omega
     rw[ak]at g;have J:(parts.map λ(i,x)=>(i,a.eval x)).toList=parts.toList.map λx=>(x.1,a.eval x.2):=dT
     by_cases h0:n*i.size=0
     .rw[cX h0]at g;simp only[aH,ho,dO,aZ,aD hu,aM,cT,bU,run_program,hi,bE,bO ah,cX h0,J,g,dM,run_newObj];rfl
     rw[bO h0]at g;simp only[aH,ho,dO,aZ,aD hu,aM,cT,bU,run_program,hi,bE,bO ah,bO h0,cm,hz,J,g,dM,run_newObj];rfl
    have hw:=NewRow.alloc w I e;have hrel:=Rel.newRow g1 hw d (.arr (zW P e) U false) [d] (by simp[isin]) U.length (g1.h_slot (hd _ (by assumption))) ⟨R,by rw[zO],.inr ⟨w.heap.size,by rw[zO],by refine QY (ι:=ι) (vs:=I.toList) g4 ?_ (λj v hv=>by rw[aV,hw.cell];simpa using hv);rw[ae];exact CRs.keep (YF g1 hw d _ [d] (by simp[isin]) U.length) hw.shapes _ _ g6,(λhf=>by cases hf),(λ_=>⟨I,⟨e,hw.new⟩,by rw[af,g3,hn];simp⟩)⟩⟩
    refine ub.of_value hw.ext (ι':=wV ι d ⟨some w.heap.size,U.length,.nilFunc,[]⟩) aj ?_ h;rw[ac];refine hrel.put (some d) (λk hk=>by cases hk;exact hd d ac) _ _ ?_;have ai:U.length=n:=by rw[g3,hn];simp
    refine .inr ⟨w.heap.size,n,e,by rw[zO],by rw[zO];exact aY _,by rw[ai],by rw[ai];exact aY _,?_,by rw[hw.shape,af]⟩;have:n*1<=n*zW P e:=Nat.mul_le_mul_left _ R;simp only[maxLen];omega
   exact h.elim
end
section
variable {P:Program}{F:Fr}{N:Nat}{ι:Nat->Gh}{s:S}{a:Act}{w:aB}{o:Oper}{K:S->Prop}
theorem VB{ok:Nat->Prop}:∀{cs:am C}{z:am D}{pl:am (Nat×Pl)}{vs:am Value},uC [] cs=some (z,pl)->CRs ι w ok cs vs->CRs ι w ok (z.map .d) vs
 |[],z,pl,vs,h,i=>by cases h;grind
 |_::_,_,_,[],_,i=>i.elim
 |c::cs,z,pl,v::vs,h,i=>by
  simp only[uC]at h;split at h
  .rename_i y o g;have j:o=[]:=by
    cases c with
    |clo f l=>cases l<;>grind[toD]
    |_=>simp only[toD,aget]at g<;>cases g<;>rfl
   subst j;split at h
   .rename_i ys r p;cases h;refine⟨?_,VB p i.2⟩;cases c with
    |clo f l=>cases l with
     |nil=>
      simp only[toD]at g;cases g;obtain⟨I,g1,g2⟩:=i.1<;>simp_all[CR,RD,RDf]
     |cons _ _=>grind[toD]
    |d x=>simp only[toD]at g;cases g;exact i.1
    |nil=>
     simp only[toD]at g;cases g;have:=i.1;simp only[CR]at this;subst this;simp only[CR,RD];exact⟨none,0,0,rfl,rfl,aY _,cR _,.inl trivial⟩
    |_=>simp only[toD,aget]at g;cases g
   cases h
  cases h
theorem ue(l:am Value):∀(n j:Nat) (v:Value),(aL n l).flatten[j]?=some v->j<n*l.length/\l[j%l.length]?=some v
 |0,j,v,h=>by simp at h
 |n+1,j,v,h=>by
  simp only[dq,bA,am.getElem?_append]at h;rw[aU,b9];split at h
  .grind[Nat.mod_eq_of_lt]
  rename_i o;obtain⟨g,i⟩:=ue l n _ v h
  grind[Nat.mod_eq_sub_mod]
theorem XS{ok:Nat->Prop}{z:am D}{vs:am Value}(h:CRs ι w ok (z.map .d) vs):∀(n:Nat),CRs ι w ok ((aL n z).flatten.map .d) (aL n vs).flatten
 |0=>trivial
 |n+1=>by simp only[dq,bA,bT];exact CRs.append h (XS h n)
theorem apj(hr:Rel F N ι s a w)(hd:∀k,o.dst=some k->k<N){t e:TypeId}{x y:aF}(ho:o.op=.makeSlice t x y)(ht:uj P t=some e){z:am D}{ai:am (Nat×Pl)}(J:uC [] (qo P e).cells=some (z,ai))
 (p:bD 0 (zW P e)=true) (l:aI z.length (zW P e)=true) (h:zK P o.dst (.mk (zW P e) (uX P e) z (cO x) (cO y)) s K):ub P F N o a w K:=by
 simp only[zK]at h;have hu:=vM ht;have p:0<zW P e:=aS p;have l:=aC l;split at h
 .rename_i d n c aa hn hc;obtain⟨k1,hx,_⟩:=ZS hn (jf hr x);obtain⟨k2,hy,_⟩:=ZS hc (jf hr y);obtain⟨g1,g2,g3,g4,h⟩:=h;unfold qo at J;cases hi:P.info? e with
  |none=>grind[zW]
  |some i=>
   simp only[hi]at J;cases R:i.zero with
   |none=>simp only[R]at J;cases J
   |some v=>
    simp only[R]at J;have ad:=jq J;rw[X1 ad]at J;have ak:zW P e=i.size:=by grind[zW]
    have aj:uX P e=i.bytes:=by grind[uX]
    have r:(i.bytes:Int)*c<=281474976710656:=by grind[yz]
    have ac:=run_make (P:=P) w t e i v hu hi R k1 k2 n c g1 g2 r g4;obtain⟨g,I⟩:∃g,g=madeCells v.cells (c.toNat*i.size):=⟨_,rfl⟩;rw[<-I]at ac;have af:g.size=c.toNat*zW P e:=by grind[size_madeCells]
    have U:=NewRow.alloc w g e;have ae:=VB J (YV ι w (F.ok ι s.pl w) v.cells.toList);have ah:v.cells.toList.length=zW P e:=by rw[<-l];simpa using ae.length.symm
    have ab:n.toNat<=c.toNat:=d8
    have hrel:=hr.newRow U d (.arr (zW P e) (aL n.toNat z) false) [d] (by simp[isin]) n.toNat (hr.h_slot (hd _ (by assumption))) ⟨p,by grind[zO],.inr ⟨w.heap.size,by rw[zO],by
     refine QY (ι:=ι) (vs:=(aL n.toNat v.cells.toList).flatten) (λq hq=>d9) ?_ ?_
     .exact CRs.keep (YF hr U d _ [d] (by simp[isin]) n.toNat) U.shapes _ _ (XS ae n.toNat)
     intro j u hj;obtain⟨j1,j2⟩:=ue _ _ _ _ hj;rw[aV,U.cell,I];rw[ah]at j1 j2;have ag:j<c.toNat*i.size:=by
      have:n.toNat*zW P e<=c.toNat*zW P e:=aQ _ ab
      grind
     have al:v.cells.size=zW P e:=d9
     simp only[madeCells,aE.getElem?_map,aE.getElem?_range,ag,dn,Option.map_some,dI]
     grind,(λhf=>by cases hf),(λ_=>⟨g,⟨e,U.new⟩,by simp_all[aQ]⟩)⟩⟩
    refine ub.of_value U.ext (v:=.slice (some ⟨w.heap.size,0,none⟩) n.toNat c.toNat) (w':=w.alloc (.cells g e)) (ι':=wV ι d ⟨some w.heap.size,n.toNat,.nilFunc,[]⟩) ?_ ?_ h
    .grind[aH,aZ,aM,bE]
    rw[aa];refine hrel.put (some d) (λk hk=>d9) _ _ ?_;exact .inr ⟨w.heap.size,c.toNat,e,by rw[zO],by simp_all[zO],rfl,ab,by grind[maxLen],by rw[U.shape,af]⟩
 grind
theorem WV(hr:Rel F N ι s a w){x:aA aF}{l:aA Int}(h:s.bnd (x.map cO)=some l):(x=none/\l=none)\/∃y k n,x=some y/\l=some n/\a.eval y=.int k n:=by
 cases x with
 |none=>cases h;grind
 |some y=>
  simp only[Option.map_some,S.bnd]at h;cases g:XL (s.o (cO y))with
  |none=>grind
  |some n=>
   rw[g]at h;cases h;obtain⟨k,i,_⟩:=ZS g (jf hr y)
   grind
theorem Yd(k:aP)(i:Int)(y:Nat)(code:BoundsCode)(h0:0<=i)(g:i<=y):(dP (.int k i) y code).run P w=.ok i.toNat w:=by simp_all[dP,dL]
theorem aik(b:Bool)(len cap:Nat)(lo hi:aA Value)(l h:aA Int)(p:(lo=none/\l=none)\/∃k n,lo=some (.int k n)/\l=some n)(o:(hi=none/\h=none)\/∃k n,hi=some (.int k n)/\h=some n)
 (h0:0<=yh l 0) (j:yh l 0<=yh h len) (i:yh h len<=cap):(bV b len cap lo hi none).run P w=.ok ((yh l 0).toNat,(yh h len).toNat,cap) w:=by
 rcases p with⟨rfl,rfl⟩|⟨k,n,rfl,rfl⟩<;>rcases o with⟨rfl,rfl⟩|⟨k',g,rfl,rfl⟩<;>simp only[yh]at h0 j i⊢
 .simp[bV]
 .simp_all[bV,Yd]
 .simp_all[bV,Yd]
 have e:((g.toNat:Nat):Int)=g:=Int.toNat_of_nonneg d8;simp[bV,Yd k' g cap _ d8 i,Yd k n g.toNat _ h0 d9]
theorem aeQ{x:aA aF}{l:aA Int}(h:(x=none/\l=none)\/∃y k n,x=some y/\l=some n/\a.eval y=.int k n):(x.map a.eval=none/\l=none)\/∃k n,x.map a.eval=some (.int k n)/\l=some n:=d9
theorem ZU{t e:TypeId}(hu:P.underlying t=some (.slice e)){i:bM}(hi:P.info? e=some i){x:aF}{lo g:aA aF}(U:o.op=.slice t x lo g none){j:aA dv}{len cap:Nat}(hx:a.eval x=.slice j len cap)
 {l h:aA Int}(R:(lo=none/\l=none)\/∃y k n,lo=some y/\l=some n/\a.eval y=.int k n) (J:(g=none/\h=none)\/∃y k n,g=some y/\h=some n/\a.eval y=.int k n)
 (h0:0<=yh l 0) (p:yh l 0<=yh h len) (r:yh h len<=cap):
 (aH a.eval o).run P w=.ok (.value (.slice (if cap=(yh l 0).toNat then j else j.map (·.add ((yh l 0).toNat*zW P e))) ((yh h len).toNat-(yh l 0).toNat) (cap-(yh l 0).toNat))) w:=by have I:=aik (P:=P) (w:=w) true len cap (lo.map a.eval) (g.map a.eval) l h (aeQ R) (aeQ J) h0 p r;simp only[aH,U,Option.map_none,Instr.sliceAt,Instr.slice,hx,aZ,aD hu,aM,I,vK hi,bE]
theorem alp(hr:Rel F N ι s a w)(hd:∀k,o.dst=some k->k<N){t e:TypeId}{x:aF}{lo hi:aA aF}(ho:o.op=.slice t x lo hi none)(hu:P.underlying t=some (.slice e)){i:bM}(J:P.info? e=some i)
 (h:zK P o.dst (.sli (zW P e) (cO x) (lo.map cO) (hi.map cO)) s K):zF P F N o a w (λ_=>True) K:=by
 simp only[zK]at h;split at h
 case h_2=>grind
 rename_i lq r hl hh;have hl:=WV hr hl;have hh:=WV hr hh;have hx:=xj hr x;generalize s.oc (cO x)=cx at*;unfold awk at h;split at h
 .rename_i j;simp only[CR,RD]at hx;obtain⟨ad,m,c,e1,e2,e3,e4,e5⟩:=hx;cases lq with
  |none=>
   obtain⟨g1,g2,h⟩:=h;have g:=λ(w':aB) (_:True)=>ZU (o:=o) (w:=w') hu J ho e1 hl hh (by simp[yh]) (by grind[yh]) d9
   simp only[yh,cJ,bY,cG]at g;have R:(if c=0 then ad else ad.map (·.add 0))=ad:=by simp_all[Addr.add]
   simp only[R]at g;refine zF.put hr hd g ?_ h;simp only[cV,VR,WR,CR,RD];have I:(j.take (yh r j.length).toNat).length=(yh r j.length).toNat:=d9
   refine⟨ad,_,_,rfl,?_,?_,e4,?_⟩
   .rw[I,e2];rfl
   .grind[yh]
   rcases e5 with e5|⟨b,q,sz,f1,f2,f3⟩
   .grind
   right;grind[RDs.take]
  |some l=>
   obtain⟨g0,g1,g2,g3,h⟩:=h;have g:=λ(w':aB) (_:True)=>ZU (o:=o) (w:=w') hu J ho e1 hl hh (by grind[yh]) (by grind[yh]) d9
   simp only[yh]at g;refine zF.put hr hd g ?_ h;simp only[cV,VR,WR,CR,RD];have I:((j.take (yh r j.length).toNat).drop l.toNat).length=(yh r j.length).toNat-l.toNat:=d9
   refine⟨_,_,_,rfl,?_,?_,d8,?_⟩
   .rw[I,e2];rfl
   .grind[yh]
   by_cases ac:(j.take (yh r j.length).toNat).drop l.toNat=[]
   .grind
   have af:l.toNat<(yh r j.length).toNat:=d9
   rcases e5 with e5|⟨b,q,sz,f1,f2,f3⟩
   .grind
   right
   have ab:j≠ []:=λe=>d9
   obtain⟨y,hy⟩:∃y,y∈j:=cN j ab;have ag:sz=zW P e:=by grind[RDs.len]
   refine⟨b,q+l.toNat*sz,sz,?_,f2,RDs.drop _ (RDs.take _ f3)⟩;refine Eq.trans (bO d9) ?_
   grind[vy]
 .rename_i p z n;cases hz:aI z (zW P e)with
  |false=>grind
  |true=>
   rw[hz]at h;have hz:=aC hz;simp only[aO]at h;cases lq with
   |none=>
    obtain⟨g1,g2,h⟩:=h;rcases hx with⟨f1,f2,f3⟩|⟨b,cap,ty,f1,f2,f3,f4,f5,f6⟩
    .subst f2;have h0:yh r ((0:Nat):Int)=0:=d8
     have g:=λ(w':aB) (_:True)=>ZU (o:=o) (w:=w') hu J ho f3 hl hh (by simp[yh]) (by grind[yh]) d8
     simp only[h0]at g;rw[h0]at h;simp only[yh,cJ,bY,cG,dn]at g;exact zF.put hr hd g (show VR ι w _ (cV (.own p z 0)) _ from .inl ⟨f1,rfl,rfl⟩) h
    have g:=λ(w':aB) (_:True)=>ZU (o:=o) (w:=w') hu J ho f3 hl hh (by simp[yh]) (by grind[yh]) d8
    simp only[yh,cJ,bY,cG]at g;have R:(if cap=0 then some (⟨b,0,none⟩:dv)else(some (⟨b,0,none⟩:dv)).map (·.add 0))=some ⟨b,0,none⟩:=by grind[Addr.add]
    simp only[R]at g;refine zF.put hr hd g (show VR ι w _ (cV (.own p z (yh r n).toNat)) _ from .inr ⟨b,cap,ty,f1,d8,rfl,d8,f5,f6⟩) h
   |some l=>
    simp only[]at h;split at h
    .rename_i z1 j fz hp;cases aa:aI z z1 with
     |false=>grind
     |true=>
      rw[aa]at h;have aa:=aC aa;simp only[aO]at h;obtain⟨g1,g2,g3,h⟩:=h;obtain⟨k1,k2|⟨b,cap,ty,f1,f3,f4,f5,f6,f7⟩⟩:=aon hr hp aa hx
      .obtain⟨k2,k3,k4,k5⟩:=k2;subst k2;have h0:yh r ((0:Nat):Int)=0:=d8
       have ae:l=0:=d8
       subst ae;have g:=λ(w':aB) (_:True)=>ZU (o:=o) (w:=w') hu J ho k3 hl hh (by simp[yh]) (by grind[yh]) d8
       simp only[h0]at g;rw[h0]at h;simp only[yh,cJ,bY,cG,dn]at g;refine⟨_,ι,_,g,(hr.freeze p).put o.dst hd _ _ ?_,h⟩;simp only[cV,VR,WR,CR,RD,k5];exact⟨none,0,0,rfl,dT,aY _,cR _,.inl dT⟩
      have g:=λ(w':aB) (_:True)=>ZU (o:=o) (w:=w') hu J ho f3 hl hh (by grind[yh]) (by grind[yh]) d8
      simp only[yh]at g;have I:((j.take (yh r n).toNat).drop l.toNat).length=(yh r n).toNat-l.toNat:=d9
      refine⟨_,ι,_,g,(hr.freeze p).put o.dst hd _ _ ?_,h⟩;have U:=au0 hr hp f1 (n:=(yh r n).toNat) d8 (cap:=cap) d8 f5;simp only[cV,VR,WR,CR];simp only[RD]at U⊢;obtain⟨ad,m,c,e1,e2,e3,e4,e5⟩:=U;cases e1;refine⟨_,_,_,rfl,by rw[I];rfl,by grind[yh],d8,?_⟩;by_cases ac:(j.take (yh r n).toNat).drop l.toNat=[]
      .grind
      have af:l.toNat<(yh r n).toNat:=d9
      rcases e5 with e5|⟨b',q,sz,q1,q2,q3⟩
      .grind
      right
      cases q1;have ab:j.take (yh r n).toNat≠ []:=λe=>d9
      obtain⟨y,hy⟩:∃y,y∈j.take (yh r n).toNat:=cN _ ab;have ag:sz=zW P e:=by rw[<-RDs.len q3 y hy,RDs.len f7 y (dj hy),<-aa,hz]
      refine⟨b,0+l.toNat*sz,sz,?_,q2,RDs.drop _ q3⟩;refine Eq.trans (bO d9) ?_
      grind[vy]
    grind
 .have hx:a.eval x=.slice none 0 0:=hx;obtain⟨g1,g2,g3,h⟩:=h;have g:=λ(w':aB) (_:True)=>ZU (o:=o) (w:=w') hu J ho hx hl hh g1 g2 g3
  have e1:(yh lq 0).toNat=0:=d8
  have e2:(yh r ((0:Nat):Int)).toNat=0:=d9
  simp only[e1,e2,bY,dn,cG]at g;exact zF.put hr hd g (show VR ι w _ (cV .nil) _ from rfl) h
 grind
theorem alq(hr:Rel F N ι s a w)(I:∀k,o.dst=some k->k<N){t:TypeId}{x:aF}{lo hi:aA aF}(J:o.op=.slice t x lo hi none)(R:P.underlying t=some .string)
 (h:zK P o.dst (.sls (cO x) (lo.map cO) (hi.map cO)) s K):zF P F N o a w (λ_=>True) K:=by
 simp only[zK]at h;split at h
 case h_2=>grind
 rename_i l p i g;have i:=WV hr i;have g:=WV hr g;have U:=xj hr x;generalize s.oc (cO x)=cx at*;unfold awl at h;split at h
 .rename_i b;obtain⟨g1,g2,g3,h⟩:=h;have j:=y5 U;have r:=λ(w':aB)=>aik (P:=P) (w:=w') false b.size b.size (lo.map a.eval) (hi.map a.eval) l p (aeQ i) (aeQ g) g1 g2 g3
  refine zF.put hr I (v:=.string (b.extract (yh l 0).toNat (yh p b.size).toNat)) ?_ (xh rfl) h;intro w' _;simp only[aH,J,Option.map_none,Instr.sliceAt,Instr.slice,j,aZ,aD R,aM,bE];simp_all
 grind
theorem ack{t:TypeId}(h:qL P t true=true):P.underlying t=some .string:=by grind[qL]
theorem adn{t:TypeId}(h:qL P t false=true):∃e,P.underlying t=some (.slice e)/\P.underlying e=some (.int .u8):=by grind[qL]
theorem Uw(b:ByteArray):(xK b).flatten=b.data.toList.map λx=>D.lit (.int .u8 x.toNat):=by unfold xK;induction b.data.toList<;>grind
theorem akh{ok:Nat->Prop}:∀(l:am UInt8) (vs:am Value),CRs ι w ok ((l.map λx=>D.lit (.int .u8 x.toNat)).map .d) vs->vs=l.map λ(x:UInt8)=>c7 .u8 x.toNat
 |[],[],_=>rfl
 |[],_::_,h=>h.elim
 |_::_,[],h=>h.elim
 |x::l,v::vs,h=>by have g:=y5 h.1;simp only[aX,g,akh l vs h.2]
theorem Ju{ok:Nat->Prop}:∀(l:am UInt8),CRs ι w ok ((l.map λx=>D.lit (.int .u8 x.toNat)).map .d) (l.map λ(x:UInt8)=>c7 .u8 x.toNat)
 |[]=>trivial
 |x::l=>⟨by simp only[CR,RD];exact⟨trivial,rfl⟩,Ju l⟩
theorem Kk(hr:Rel F N ι s a w){c:C}{v:Value}(r:CR ι w (F.ok ι s.pl w) c v){l:am (am D)}(h:Vr s.pl c=some l):
 ∃j cap,v=.slice j l.length cap/\(l=[]\/∃b q sz,j=some ⟨b,q,none⟩/\RDs w (F.ok ι s.pl w) b sz q l):=by
 cases c with
 |d x=>
  cases x with
  |lit u=>cases h
  |fn f l=>cases h
  |ifc f l=>cases h
  |mp a k l=>cases h
  |sl g=>
   cases h<;>grind[CR,RD]
 |nil=>cases h;exact⟨none,0,r,.inl rfl⟩
 |own p z n=>
  simp only[Vr]at h;cases I:aget s.pl p with
  |none=>grind
  |some y=>
   cases y with
   |box cs=>grind
   |fbox cs=>grind
   |gone=>grind
   |deep t=>grind
   |arr sz g P=>
    simp only[I]at h;cases h;obtain⟨hn,h|⟨b,cap,t,R,U,h3,h4,h5,J⟩⟩:=kl hr I r
    .grind
    exact⟨some ⟨b,0,none⟩,cap,d9,.inr ⟨b,0,sz,rfl,RDs.take n J⟩⟩
 |dead=>cases h
 |sub p z o n=>cases h
 |ptr p o=>cases h
 |eptr p z i k=>cases h
 |fp l=>cases h
 |clo f l=>cases h
 |root p=>cases h
 |iter p=>cases h
theorem alc(hr:Rel F N ι s a w)(hd:∀k,o.dst=some k->k<N){t u:TypeId}{x:aF}(ho:o.op=.convert t u x)(ht:qL P t false=true)(hu:qL P u true=true)
 (h:zK P o.dst (.b2s (cO x)) s K):zF P F N o a w (vP w) K:=by
 simp only[zK]at h;obtain⟨e,h1,h2⟩:=adn ht;have h3:=ack hu;split at h
 .rename_i l hl;obtain⟨b,rfl,h⟩:=h;obtain⟨U,cap,hv,g⟩:=Kk hr (xj hr x) hl;refine zF.put hr hd (v:=.string b) ?_ (xh rfl) h;intro w' R;have I:(dy (.slice U (xK b).length cap)).run P w'=.ok (.string b) w':=by
   rcases g with he|⟨r,q,sz,rfl,g⟩
   .have aa:b.data.toList=[]:=by grind[xK]
    have hb:b=ByteArray.empty:=by cases b with|mk d=>have:d= #[]:=aK.1 d9;subst this;rfl
    rw[he];cases U<;>simp_all[dy,dC,cM]
   obtain⟨vs,g1,g2,g3⟩:=RDs.vals (ι:=ι) g;rw[Uw]at g1;have ab:=akh _ _ g1;have p:vs.length=(xK b).length:=by grind[xK]
   have i:=dt (P:=P) w' ⟨r,q,none⟩ vs (λj v hv=>by rw[vy];exact R.cell (g3 j v hv));rw[p]at i;have J:vs=(b.data.toList.map λ(x:UInt8)=>(x.toNat:Int)).map (c7 .u8):=dW
   rw[J]at i;rw[run_bytesToString w' _ _ _ (b.data.toList.map λ(x:UInt8)=>(x.toNat:Int)) i,foldl_push_byteCells];congr 2
   cases b with|mk d=>simp[ByteArray.empty,ByteArray.emptyWithCapacity];rfl
  grind[aH,aZ,run_convert_bytes_string,aM,bE]
 grind
theorem aln(hr:Rel F N ι s a w)(hd:∀k,o.dst=some k->k<N){t u:TypeId}{x:aF}(ho:o.op=.convert t u x)(ht:qL P t true=true)(hu:qL P u false=true)
 (h:zK P o.dst (.s2b (cO x)) s K):ub P F N o a w K:=by
 simp only[zK]at h;have h1:=ack ht;obtain⟨e,h2,h3⟩:=adn hu;split at h
 .rename_i d b r hx;have J:=xj hr x;rw[hx]at J;have ae:=y5 J;obtain⟨ad,h⟩:=h;have I:=run_bytes_of_string (P:=P) w t u e b h1 h2 h3;obtain⟨g,l⟩:∃g,g=bytesRow b (bH w b.size 0 e):=⟨_,rfl⟩;rw[<-l]at I;have aa:=dN w b.size 0 e;have ab:=cD w b.size 0 e (by grind[maxLen]);have U:g.size=bH w b.size 0 e:=by simp_all[bytesRow]
  have R:=NewRow.draw w g e (g.size,g.size+1);have ac:(xK b).length=b.size:=by simp[xK]
  have hrel:=hr.newRow R d (.arr 1 (xK b) true) [d] (by simp[isin]) b.size (hr.h_slot (hd _ (by assumption))) ⟨d8,by grind[zO],.inr ⟨w.heap.size,by rw[zO],by
   refine QY (ι:=ι) (vs:=b.data.toList.map λ(x:UInt8)=>c7 .u8 x.toNat) (λq hq=>by grind[xK]) ?_ ?_
   .grind[Uw,Ju]
   intro j v hv;rw[aV,R.cell,l,bytesRow]
   grind,(λ_=>⟨.inr (.inr hr.grows.size),dW,by
    rintro⟨p,y,q1,q2,q3⟩;have i:aget (s.redo [d] [(d,Pl.arr 1 (xK b) true)]).pl p=some y:=q1;rw[S.redo_pl]at i;cases hn:aget [(d,Pl.arr 1 (xK b) true)] p with
    |some z=>simp only[hn]at i;cases i;obtain⟨_,rfl⟩:=zD hn;cases q2
    |none=>
     simp only[hn]at i;split at i
     .rename_i hk;cases hp:aget s.pl p with
      |none=>grind
      |some z=>
       rw[hp]at i;simp at i;subst i;rw[qx,xX (qZ ι _ (JY hk))]at q3;rw[Pl.live_kill]at q2;have:=(hr.mine _ ⟨p,z,hp,q2,q3⟩).2;omega
     grind⟩),(λhf=>by cases hf)⟩⟩
  refine ub.of_value R.ext (v:=.slice (some ⟨w.heap.size,0,none⟩) b.size (bH w b.size 0 e)) (w':=w.drew.alloc (.cells g e (g.size,g.size+1))) (ι':=wV ι d ⟨some w.heap.size,b.size,.nilFunc,[]⟩) ?_ ?_ h
  .grind[aH,aZ,aM,bE]
  rw[r];refine hrel.put (some d) (λk hk=>d9) _ _ ?_;exact .inr ⟨w.heap.size,_,e,by rw[zO],by simp_all[zO],rfl,aa,ab,by rw[R.shape,U];simp⟩
 grind
end
section
variable {P:Program}{F:Fr}{N:Nat}{ι:Nat->Gh}{s:S}{a:Act}{w:aB}{o:Oper}{K:S->Prop}
structure Src(P:Program)(w:aB)(size n:Nat)(y:Value)(news:am Value):Prop where
 len:∀w',(bN y).run P w'=.ok n w'
 cells:∀w',w'.heap=w.heap->(aN size n y).run P w'=.ok news.toArray w'
def ae6(P:Program)(u:TypeId):Prop:=P.underlying u=some .string\/∃e,P.underlying u=some (.slice e)
theorem aij{t u ty e:TypeId}{i:bM}(p:P.underlying t=some (.slice e))(j:ae6 P u)(hi:P.info? e=some i){y:Value}{g:am Value}(hs:Src P w i.size 0 y g):
 (aW #[t,u] ty #[.slice none 0 0,y]).run P w=.ok (.slice none 0 0) w:=by have l:=hs.len w;have o:=hs.cells w rfl;rcases j with j|⟨e',j⟩<;>simp[aW,aD p,aD j,cT,bU,hi,l,o]
theorem aii{t u ty e:TypeId}{i:bM}(ht:P.underlying t=some (.slice e))(R:ae6 P u)(hi:P.info? e=some i){y:Value}{n:Nat}{l:am Value}(hs:Src P w i.size n y l)
 {g j p:Nat}{o:aE Value}{te:TypeId}(hg:w.heap[g]?=some (.cells o te (0,0))) (h1:∀v∈l,v.oneCell'=true) (r:j+n<=p) (U:j*i.size+l.length<=o.size):
 (aW #[t,u] ty #[.slice (some ⟨g,0,none⟩) j p,y]).run P w=
  .ok (.slice (some ⟨g,0,none⟩) (j+n) p) (w.setRow g (o.toList.take (j*i.size)++l++o.toList.drop (j*i.size+l.length)).toArray):=by
 have e1:=hs.len w;have e2:=hs.cells w rfl;have J:=cL P g (j*i.size) te l 0 o w hg d9 h1;simp only[dG]at J;have I:(⟨g,0,none⟩:dv).add (j*i.size)=⟨g,j*i.size,none⟩:=by simp_all[vy]
 rcases R with R|⟨e',R⟩<;>simp[aW,aD ht,aD R,cT,bU,hi,e1,e2,r,I,J]
theorem ajR{t u ty e:TypeId}{i:bM}{z:Value}(ht:P.underlying t=some (.slice e))(J:ae6 P u)(hi:P.info? e=some i)(hz:i.zero=some z){y:Value}{n:Nat}{l:am Value}(hs:Src P w i.size n y l)
 {R:aA dv}{g j:Nat}{o:am Value}(ho:∀w',w'.heap=w.heap->(aN i.size g (.slice R g j)).run P w'=.ok o.toArray w') (hg:j<g+n) (aa:((g+n:Nat):Int)<=9223372036854775807)
 (p:(g+n)*i.bytes<=140737488355328):
 (aW #[t,u] ty #[.slice R g j,y]).run P w=
  .ok (.slice (some ⟨w.heap.size,0,none⟩) (g+n) (bH w (g+n) j e))
   (w.drew.alloc (.cells (o++l++(aJ z.cells (bH w (g+n) j e-(g+n))).toList).toArray e)):=by
 have e1:=hs.len w;have e2:=hs.cells w.drew rfl;have e3:=ho w.drew rfl;have hn:¬(g+n<=j):=d8
 have I:¬(9223372036854775807<((g:Int)+(n:Int))):=d8
 have U:=growslice_fits hg p;have r:¬(281474976710656<dl (g+n) j*i.bytes):=d8
 have fin:(o.toArray++(l.toArray++aJ z.cells (bH w (g+n) j e-(g+n))))=(o++(l++(aJ z.cells (bH w (g+n) j e-(g+n))).toList)).toArray:=d9
 rcases J with J|⟨e',J⟩<;>
 .simp[aW,aD ht,aD J,cT,bU,cm,hi,hz,e1,hn,I,r,Question.forced,e2,e3,dM];simp only[bH]at fin⊢;rw[<-fin];exact⟨trivial,rfl⟩
theorem vB{α:Type}{sz:Nat}:∀(l:am (am α)),(∀y∈l,y.length=sz)->l.flatten.length=l.length*sz
 |[],_=>dT
 |x::r,h=>by simp only[bA,aR,bK,h x dT,vB r (λy g=>h y (by simp[g])),aU];omega
theorem aAu(hr:Rel F N ι s a w){c:C}{v:Value}(J:CR ι w (F.ok ι s.pl w) c v){l:am (am D)}(h:Vr s.pl c=some l){size:Nat}(U:∀y∈l,y.length=size):
 ∃i,Src P w size l.length v i/\i.length=l.length*size/\CRs ι w (F.ok ι s.pl w) (l.flatten.map .d) i:=by
 obtain⟨I,cap,rfl,g⟩:=Kk hr J h;have o:∀w',(bN (.slice I l.length cap)).run P w'=.ok l.length w':=λw'=>by simp[bN]
 rcases g with rfl|⟨b,q,sz,rfl,g⟩
 .refine⟨[],⟨o,λw' _=>?_⟩,dT,trivial⟩;cases I<;>simp_all[aN,dC,cM]
 obtain⟨vs,g1,g2,g3⟩:=RDs.vals (ι:=ι) g;have p:vs.length=l.length*size:=by have:=g1.length<;>grind[vB]
 refine⟨vs,⟨o,λw' r=>?_⟩,p,g1⟩;exact cz (P:=P) w' size l.length ⟨b,q,none⟩ l.length cap vs p (λj u R=>by rw[vy];have:=g3 j u R;simpa[cP,r]using this)
theorem atp(w:aB)(ι:Nat->Gh)(ok:Nat->Prop)(b:ByteArray):∃g,Src P w 1 (xK b).length (.string b) g/\g.length=(xK b).length*1/\CRs ι w ok ((xK b).flatten.map .d) g:=by
 have i:(xK b).length=b.size:=by simp[xK]
 refine⟨b.data.toList.map λ(x:UInt8)=>c7 .u8 x.toNat,⟨λw'=>by simp_all[bN],λw' _=>?_⟩,dW,by grind[Uw,Ju]⟩;rw[i];have j:(b.extract 0 b.size).data=b.data:=by grind[ByteArray.extract_zero_size]
 simp only[aN,j,bE];congr 1
 grind
theorem als{ok:Nat->Prop}{g:am D}{vs:am Value}(h:CRs ι w ok (g.map .d) vs):∀v∈vs,v.oneCell'=true:=j5 h
theorem alr{z:Value}{i:bM}(_:i.zero=some z)(n:Nat):(aJ z.cells n).toList.length=n*z.cells.size:=by simp[aJ]
theorem aaK(hr:Rel F N ι s a w)(hd:∀k,o.dst=some k->k<N){d:Nat}(ak:o.dst=some d){t u e:TypeId}{i:bM}{z:Value}(ht:P.underlying t=some (.slice e))(hu:ae6 P u)(hi:P.info? e=some i)(hz:i.zero=some z)
 (bo:z.cells.size=i.size) (ar:0<i.size) {x:C}{xv y:Value}(hx:CR ι w (F.ok ι s.pl w) x xv)
 (au:∀v w',(aW #[t,u] o.type #[xv,y]).run P w=.ok v w'->(aH a.eval o).run P w=.ok (.value v) w')
 {l:am (am D)}(hl:(∀q∈l,q.length=i.size)->∃U,Src P w i.size l.length y U/\U.length=l.length*i.size/\CRs ι w (F.ok ι s.pl w) (l.flatten.map .d) U)
 (h:ai0 d i.size i.bytes x (some l) s K):yO P F N o a w K:=by
 unfold ai0 at h;simp only[]at h
 have grow:∀(I:am Nat) (hk:isin d I=true) (ad:aA dv) (g ac:Nat) (R:am Value) (ab:am (am D)),ab.length=g->(∀q∈ab,q.length=i.size)->(∀q∈l,q.length=i.size)->xv=.slice ad g ac->
  R.length=g*i.size->CRs ι w (F.ok ι s.pl w) (ab.flatten.map .d) R->(∀w',w'.heap=w.heap->(aN i.size g (.slice ad g ac)).run P w'=.ok R.toArray w')->
  ac<g+l.length->g+l.length<=9223372036854775807->(g+l.length)*i.bytes<=140737488355328->
  K ((s.redo I [(d,.arr i.size (ab++l) false)]).put (some d) (cV (.own d i.size (g+l.length))))->yO P F N o a w K:=by
  intro I hk ad g ac R ab bs a2 bh a6 bk bi bj a7 bq bd hK;obtain⟨U,ag,a4,az⟩:=hl bh;subst a6;have af:=ajR (ty:=o.type) ht hu hi hz ag bj a7 d8 bd;obtain⟨aa,aq⟩:∃aa:aE Value,aa=(R++U++(aJ z.cells (bH w (g+l.length) ac e-(g+l.length))).toList).toArray:=⟨_,rfl⟩;rw[<-aq]at af;have hw:=NewRow.draw w aa e (0,0);have bf:=dN w (g+l.length) ac e;have bg:=cD w (g+l.length) ac e (by grind[maxLen]);have an:aa.size=bH w (g+l.length) ac e*i.size:=by rw[aq];simp only[cg,aR,bk,a4,alr hz,bo,<-aU];congr 1;omega
  have hrel:=hr.newRow hw d (.arr i.size (ab++l) false) I hk (g+l.length) (hr.h_slot (hd _ (by assumption))) ⟨ar,by grind[zO],.inr ⟨w.heap.size,by rw[zO],by
   refine QY (ι:=ι) (vs:=R++U) (λq hq=>?_) ?_ ?_
   .grind
   .simp only[cC,bT];exact CRs.keep (YF hr hw d _ I hk _) hw.shapes _ _ (CRs.append bi az)
   intro j v hv;rw[aV,hw.cell,aq]
   grind,(λhf=>by cases hf),(λ_=>⟨aa,⟨e,hw.new⟩,by simp_all[aQ]⟩)⟩⟩
  refine yO.of_value (ι':=wV ι d ⟨some w.heap.size,g+l.length,.nilFunc,[]⟩) (au _ _ af) ?_ hK;rw[ak];refine hrel.put (some d) (λk hk=>d9) _ _ ?_;exact .inr ⟨w.heap.size,_,e,by rw[zO],by simp_all[zO],rfl,bf,bg,by rw[hw.shape,an]⟩
 have ax:∀(I:am Nat) (hk:isin d I=true),l=[]->xv=.slice none 0 0->K ((s.redo I [(d,.arr i.size [] false)]).put (some d) (cV (.own d i.size 0)))->yO P F N o a w K:=by
  intro I hk ai a6 hK;subst ai a6;obtain⟨U,ag,_,_⟩:=hl (λq hq=>by cases hq);have af:=aij (ty:=o.type) ht hu hi ag;have hrel:Rel F N (wV ι d ⟨none,0,.nilFunc,[]⟩) (s.redo I [(d,.arr i.size [] false)]) a w:=by
   refine hr.redo I [(d,.arr i.size [] false)] _ w (λp hp=>qZ ι _ (λe=>d9)) (λ_ _ _=>rfl) (z7.refl w) rfl rfl (Out.refl w) (aY _) ?_ ?_ ?_ (λp x hp=>by obtain⟨rfl,_⟩:=zD hp;exact hr.h_slot (hd _ (by assumption)))
   .intro p q hp;obtain⟨rfl,rfl⟩:=zD hp;exact⟨ar,by grind[zO],.inl ⟨by rw[zO],rfl⟩⟩
   .grind[zD,foot,zO]
   grind[zD]
  refine yO.of_value (ι':=wV ι d ⟨none,0,.nilFunc,[]⟩) (au _ _ af) ?_ hK;rw[ak];exact hrel.put (some d) (λk hk=>d9) _ _ (.inl ⟨by rw[zO],rfl,rfl⟩)
 split at h
 .obtain⟨g1,g2,g3,h⟩:=h;simp only[CR]at hx;by_cases ai:l=[]
  .subst ai;exact ax [d] (by simp[isin]) rfl hx h
  have a0:0<l.length:=dr.2 ai;refine grow [d] (by simp[isin]) none 0 0 [] [] rfl (λq hq=>by cases hq) g1 hx dT trivial (λw' _=>by simp[aN]) d8 d8 (by simpa[yz]using g2) ?_
  grind[S.place]
 .rename_i p zz n;split at h
  .rename_i z1 ab hp;cases aw:aI zz z1&&aI zz i.size with
   |false=>rw[aw]at h;exact h.elim
   |true=>
    rw[aw]at h;rw[aT]at aw;have bc:=aC aw.1;have bn:=aC aw.2;simp only[aO]at h;obtain⟨g1,g2,g3,h⟩:=h;obtain⟨k1,k2|⟨b,cap,ty,f1,f3,f4,f5,f6,f7⟩⟩:=aon hr hp bc hx
    .obtain⟨k2,k3,k4,k5⟩:=k2;subst k2 k5;simp only[List.take_nil,dg,aV]at h;have ay:isin d [p,d]=true:=by unfold isin;cases aI p d<;>simp[isin]
     by_cases ai:l=[]
     .subst ai;exact ax [p,d] ay rfl k3 h
     have a0:0<l.length:=dr.2 ai;refine grow [p,d] ay none 0 0 [] [] rfl (λq hq=>by cases hq) g1 k3 dT trivial (λw' _=>by simp[aN]) d8 d8 (by simpa[yz]using g2) ?_;simpa using h
    have ay:isin d [p,d]=true:=by unfold isin;cases aI p d<;>simp[isin]
    have bp:z1=i.size:=by rw[<-bc,bn]
    subst bp;have a2:∀q∈ab.take n,q.length=i.size:=λq hq=>RDs.len f7 q (dj hq)
    have a1:(ab.take n).length=n:=by rw[bB,Nat.min_eq_left k1]
    obtain⟨R,o1,o2,o3⟩:=RDs.vals (ι:=ι) (RDs.take n f7);rw[a1]at o2;by_cases ae:n+l.length<=cap
    ·
     obtain⟨U,ag,a4,az⟩:=hl g1;obtain⟨_,_,a0|⟨b',e1,_,_,e4⟩⟩:=hr.places p _ hp
     .rw[f1]at a0;cases a0.1
     rw[f1]at e1;cases e1;obtain⟨aa,⟨te,hg⟩,_⟩:=e4 rfl;have an:aa.size=cap*i.size:=by simp only[bS,hg,dI,Prod.mk.injEq]at f6;exact f6.2
     have a8:n*i.size+U.length<=aa.size:=by rw[a4,an,<-aU];exact aQ _ ae
     have af:=aii (ty:=o.type) ht hu hi ag hg (als az) ae a8;obtain⟨J,ah⟩:∃J:aE Value,J=(aa.toList.take (n*i.size)++U++aa.toList.drop (n*i.size+U.length)).toArray:=⟨_,rfl⟩;rw[<-ah]at af;rw[<-f3]at af;have ao:J.size=aa.size:=by rw[ah];simp only[cg,aR,bB,c8,bF];omega
     have a5:R=aa.toList.take (n*i.size):=by
      apply cS;intro j;by_cases hj:j<R.length
      .have h1:=o3 j R[j] (am.getElem?_eq_getElem hj);rw[aV,cj w b j aa te (0,0) hg]at h1;rw[am.getElem?_eq_getElem hj,am.getElem?_take,cX d8,aE.getElem?_toList,h1]
      rw[am.getElem?_eq_none d8,am.getElem?_eq_none (by rw[bB,bF];omega)]
     have bb:b<w.heap.size:=(aE.getElem?_eq_some_iff.1 hg).1;have hι:∀q,isin q [p,d]=false->wV ι d ⟨some b,n+l.length,.nilFunc,[]⟩ q=ι q:=λq hq=>qZ ι _ (agu hq).2
     have av:∀c,c<w.heap.size->(∀q y,isin q [p,d]=true->aget s.pl q=some y->y.live=true->¬foot ι q y c)->(w.setRow b J).heap[c]?=w.heap[c]? :=λc _ hc=>by
      have be:c≠b:=λe=>by subst e;exact hc p _ (by unfold isin;simp) hp rfl f1
      exact bJ w b c J be
     have ba:w.heap.size<=(w.setRow b J).heap.size:=dT
     have al:∀q x c,aget [(d,Pl.arr i.size (ab.take n++l) false)] q=some x->foot (wV ι d ⟨some b,n+l.length,.nilFunc,[]⟩) q x c->c<(w.setRow b J).heap.size/\(w.heap.size<=c\/∃r y,isin r [p,d]=true/\aget s.pl r=some y/\y.live=true/\foot ι r y c):=by intro q x c hq hc;obtain⟨rfl,rfl⟩:=zD hq;cases agr hc;exact⟨by simpa using bb,.inr ⟨p,_,by unfold isin;simp,hp,rfl,f1⟩⟩
     have a3:=Jh hr [p,d] [(d,.arr i.size (ab.take n++l) false)] (wV ι d ⟨some b,n+l.length,.nilFunc,[]⟩) (w.setRow b J) hι av ba al;have a9:=z7.setRow w b hg ao;have hrel:=hr.redo [p,d] [(d,.arr i.size (ab.take n++l) false)] (wV ι d ⟨some b,n+l.length,.nilFunc,[]⟩) (w.setRow b J) hι av a9 rfl rfl rfl ba (by
      intro q x hq;obtain⟨rfl,rfl⟩:=zD hq;refine⟨ar,by rw[zO];simp[a1],.inr ⟨b,by rw[zO],?_,(λhf=>by cases hf),(λ_=>⟨J,⟨te,ck w b aa J te (0,0) hg⟩,by rw[ao,an];simp only[aR,a1];exact aQ _ ae⟩)⟩⟩
      refine QY (ι:=ι) (vs:=R++U) (λr aj=>?_) ?_ ?_
      .rcases cA.1 aj with aj|aj
       .exact a2 r aj
       exact g1 r aj
      .simp only[cC,bT];exact CRs.keep a3 a9 _ _ (CRs.append o1 az)
      .intro j v hv;rw[aV,cU w b j aa J te (0,0) hg,ah];have hj:=(am.getElem?_eq_some_iff.1 hv).1;rw[am.getElem?_toArray,<-a5,am.getElem?_append_left hj];exact hv) al (by intro q r x y c hq aj bl;obtain⟨rfl,rfl⟩:=zD hq;obtain⟨rfl,rfl⟩:=zD aj;exact absurd rfl bl) (λq x hq=>by obtain⟨rfl,_⟩:=zD hq;exact hr.h_slot (hd _ (by assumption)))
     refine yO.of_value (ι':=wV ι d ⟨some b,n+l.length,.nilFunc,[]⟩) (au _ _ af) ?_ h;rw[ak];refine hrel.put (some d) (λk hk=>by cases hk;exact hd d ak) _ _ ?_;exact .inr ⟨b,cap,te,by rw[zO],by rw[zO];exact aY _,rfl,ae,f5,by simp only[bS,ck w b aa J te (0,0) hg,ao,an]⟩
    refine grow [p,d] ay (some ⟨b,0,none⟩) n cap R (ab.take n) a1 a2 g1 f3 o2 o1 (λw' bm=>?_) d8 d8 g2 h;exact cz (P:=P) w' i.size n ⟨b,0,none⟩ n cap R o2 (λj v hv=>by rw[vy];have:=o3 j v hv;simpa[cP,bm]using this)
  exact h.elim
 grind
theorem X7{e:TypeId}(h:uY P e=true):∃i z,P.info? e=some i/\i.zero=some z/\z.cells.size=i.size:=by grind[uY,aC]
theorem avJ(hr:Rel F N ι s a w)(hd:∀k,o.dst=some k->k<N){args:aE aF}{ts:aE TypeId}{x y:aF}{t u e e':TypeId}(ho:o.op=.call {callee:=.builtin .append,args:=args,argTypes:=ts})
 (I:args.toList=[x,y]) (ab:ts.toList=[t,u]) (ht:uj P t=some e) (hu:P.underlying u=some (.slice e')) (g:bD 0 (zW P e)=true) (j:uY P e=true)
 (h:zK P o.dst (.app (zW P e) (uX P e) (cO x) (cO y)) s K):yO P F N o a w K:=by
 simp only[zK]at h;have ha:args= #[x,y]:=aK.1 d9;have aa:ts= #[t,u]:=aK.1 d9;obtain⟨i,z,hi,hz,U⟩:=X7 j;have R:zW P e=i.size:=by grind[zW]
 have J:uX P e=i.bytes:=by grind[uX]
 have g:0<i.size:=dW
 split at h
 .rename_i d r;cases hl:Vr s.pl (s.oc (cO y))with
  |none=>grind[ai0]
  |some l=>
   rw[hl,R,J]at h;refine aaK hr hd r (vM ht) (.inr ⟨e',hu⟩) hi hz U g (xj hr x) (y:=a.eval y) ?_ (λp=>aAu hr (xj hr y) hl p) h;simp_all[aH,bI,bP,builtin]
 grind
theorem atl(hr:Rel F N ι s a w)(hd:∀k,o.dst=some k->k<N){args:aE aF}{ts:aE TypeId}{x y:aF}{t u e:TypeId}(ho:o.op=.call {callee:=.builtin .append,args:=args,argTypes:=ts})
 (I:args.toList=[x,y]) (ac:ts.toList=[t,u]) (ht:uj P t=some e) (hu:P.underlying u=some .string) (p:(aI (zW P e) 1&&aI (uX P e) 1)=true) (g:uY P e=true)
 (h:zK P o.dst (.apps (cO x) (cO y)) s K):yO P F N o a w K:=by
 simp only[zK]at h;have ha:args= #[x,y]:=aK.1 d9;have ab:ts= #[t,u]:=aK.1 d9;obtain⟨i,z,hi,hz,U⟩:=X7 g;rw[aT]at p;have J:i.size=1:=by grind[aC,zW]
 have aa:i.bytes=1:=by grind[aC,uX]
 split at h
 .rename_i d b j hy;have r:=xj hr y;rw[hy]at r;have R:=y5 r;refine aaK hr hd j (vM ht) (.inl hu) hi hz U d8 (xj hr x) (y:=a.eval y) ?_ (l:=xK b) ?_ d9
  .simp_all[aH,bI,bP,builtin]
  intro _;rw[R,J];exact atp w ι _ b
 grind
end
section
variable {P:Program}{F:Fr}{N:Nat}{ι:Nat->Gh}{s:S}{a:Act}{w:aB}{o:Oper}{K:S->Prop}
theorem aiK(hr:Rel F N ι s a w)(R:∀k,o.dst=some k->k<N){args:aE aF}{r:aE TypeId}{x:aF}{t:TypeId}(U:o.op=.call {callee:=.builtin .len,args:=args,argTypes:=r})
 (g:args.toList=[x]) (p:r.toList=[t]) {z:AOp}(j:K7 P t x=some z) (h:zK P o.dst z s K):z=.slen (cO x)/\zF P F N o a w (λ_=>True) K:=by
 unfold K7 at j;split at j
 .rename_i hu;cases j;refine⟨rfl,?_⟩;have I:args= #[x]:=aK.1 (by simpa using g);have l:r= #[t]:=aK.1 (by simpa using p);simp only[zK]at h;have i:=xj hr x;split at h
  .rename_i b J;rw[J]at i;have i:=y5 i;refine zF.put hr R (v:=.int .i64 b.size) ?_ (xh rfl) h;intro w' _;simp[aH,U,bI,bP,builtin,Builtin.len_,I,l,i,aD hu,dS]
  exact h.elim
 cases j
theorem aiG(hr:Rel F N ι s a w)(p:∀k,o.dst=some k->k<N){i dst:TypeId}{x:aF}(r:o.op=.convert i dst x){z:AOp}(g:V2 P i dst x=some z)(h:zK P o.dst z s K):
 (∃k,z=.conv k (cO x))/\zF P F N o a w (λ_=>True) K:=by
 unfold V2 at g;split at g
 .rename_i J hs;split at g
  .rename_i k I;cases g;refine⟨⟨k,rfl⟩,?_⟩;simp only[zK]at h;have j:=xj hr x;split at h
   .rename_i k' n l;rw[l]at j;have j:=y5 j;refine zF.put hr p (v:=.int k (k.wrap n)) ?_ (xh rfl) h;intro w' _;simp[aH,r,j,convert,aD hs,aD I,Conv.intToInt]
   exact h.elim
  cases g
 cases g
theorem apm(hr:Rel F N ι s a w)(l:∀k,o.dst=some k->k<N){b:UnOp}{t:TypeId}{x:aF}(p:o.op=.unOp b t x){z:AOp}(g:kI P b t x=some z)(h:zK P o.dst z s K):
 (z=.bnot (cO x)\/z=.ineg (cO x))/\zF P F N o a w (λ_=>True) K:=by
 unfold kI at g;split at g
 .cases g;refine⟨.inl rfl,?_⟩;simp only[zK]at h;split at h
  .rename_i b j;have i:=Wr j (jf hr x);refine zF.put hr l (v:=.bool (!b)) ?_ (xh rfl) h;intro w' _;simp[aH,p,i,Op.unary]
  exact h.elim
 .split at g
  .cases g;refine⟨.inr rfl,?_⟩;simp only[zK]at h;have i:=xj hr x;split at h
   .rename_i k n j;rw[j]at i;have i:=y5 i;refine zF.put hr l (v:=.int k (k.wrap (0-n))) ?_ (xh rfl) h;intro w' _;simp[aH,p,i,Op.unary,Op.intArith]
   exact h.elim
  cases g
 cases g
theorem ald(hr:Rel F N ι s a w)(hd:∀k,o.dst=some k->k<N){b:bX}{t u:TypeId}{x y:aF}(U:o.op=.binOp b t x y u){z:AOp}(g:U2 P b t x y=some z)(h:zK P o.dst z s K):
 ((∃neg,z=.beq neg (cO x) (cO y))\/∃l,z=.shf l (cO x) (cO y))/\zF P F N o a w (λ_=>True) K:=by
 have i:∀neg,z=.beq neg (cO x) (cO y)->P.underlying t=some .bool->(b=.eql/\neg=false\/b=.neq/\neg=true)->zF P F N o a w (λ_=>True) K:=by
  intro neg g R hb;subst g;simp only[zK]at h;split at h
  .rename_i p q hp hq;have j:=Wr hp (jf hr x);have r:=Wr hq (jf hr y);refine zF.put hr hd (v:=.bool (bif neg then p !=q else p==q)) ?_ (xh rfl) h;intro w' _;have he:(dF t (.bool p) (.bool q)).run P w'=.ok (p==q) w':=dD w' 9999 t p q R;rcases hb with⟨rfl,rfl⟩|⟨rfl,rfl⟩
   .simp[aH,U,j,r,cw,binOp,he]
   simp[aH,U,j,r,cw,binOp,he,bne]
  exact h.elim
 have J:∀l,z=.shf l (cO x) (cO y)->(b=.shl/\l=true\/b=.shr/\l=false)->zF P F N o a w (λ_=>True) K:=by
  intro l g hb;subst g;simp only[zK]at h;have j:=xj hr x;have r:=xj hr y;split at h
  .rename_i k m k1 n hm hn;rw[hm]at j;rw[hn]at r;have j:=y5 j;have r:=y5 r;have I:¬n<0:=by have:=h.1;omega
   refine zF.put hr hd (v:=.int k (kG l k m n)) ?_ (xh rfl) h.2;intro w' _;rcases hb with⟨rfl,rfl⟩|⟨rfl,rfl⟩
   .simp[aH,U,j,r,cw,binOp,Op.shift,I,kG]
   simp[aH,U,j,r,cw,binOp,Op.shift,I,kG]
  exact h.elim
 unfold U2 at g;split at g
 .split at g
  .rename_i R;cases g;exact⟨.inl ⟨_,rfl⟩,i false rfl R (.inl ⟨rfl,rfl⟩)⟩
  cases g
 .split at g
  .rename_i R;cases g;exact⟨.inl ⟨_,rfl⟩,i true rfl R (.inr ⟨rfl,rfl⟩)⟩
  cases g
 .split at g
  .cases g;exact⟨.inr ⟨_,rfl⟩,J true rfl (.inl ⟨rfl,rfl⟩)⟩
  cases g
 .split at g
  .cases g;exact⟨.inr ⟨_,rfl⟩,J false rfl (.inr ⟨rfl,rfl⟩)⟩
  cases g
 cases g
theorem abh{t:TypeId}{k:Nat}(h:aeI P t=some k):(k=0/\∃k',P.underlying t=some (.int k'))\/(k=1/\P.underlying t=some .string)\/(k=2/\P.underlying t=some .bool):=by
 unfold aeI at h;split at h
 .rename_i k' g;cases h;exact .inl ⟨rfl,k',g⟩
 .rename_i g;cases h;exact .inr (.inl ⟨rfl,g⟩)
 .rename_i g;cases h;exact .inr (.inr ⟨rfl,g⟩)
 cases h
theorem aso {f:cK}{r:am cK}{i:Nat}{l:am Nat}(h:aeH P i (f::r)=some l): ∃k ks,l=k::ks /\f.offset=i /\f.name≠ "_" /\aeI P f.type=some k /\P.plainKey f.type=true /\aeH P (i+1) r=some ks:=by
 simp only[aeH]at h;cases g:(aI f.offset i&& !(f.name== "_")&&P.plainKey f.type)
 .rw[g]at h;cases h
 rw[g]at h;simp only[aO]at h;simp only[aT,dJ,beq_eq_false_iff_ne]at g;split at h
 .rename_i k ks j o;cases h;exact⟨k,ks,rfl,aC g.1.1,g.1.2,j,g.2,o⟩
 cases h
theorem as2{ok:Nat->Prop}{k:Nat}{x y:C}{b:Bool}(h:anv k x y=some b){t:TypeId}(j:aeI P t=some k){u v:Value}(l:CR ι w ok x u)(o:CR ι w ok y v)(d:Nat)(w':aB):
 (Op.equalIn (d+1) t u v).run P w'=.ok b w':=by
 unfold anv at h;split at h
 .rename_i p m r n;have i:=y5 l;have hv:=y5 o;subst i;subst hv;cases g:(aI k 0&&wl p r)
  .rw[g]at h;cases h
  rw[g]at h;cases h;rw[aT]at g;have hk:=aC g.1;have:=afF g.2;subst this;subst hk;rcases abh j with⟨_,k',i⟩|⟨h,_⟩|⟨h,_⟩
  .exact run_equalIn_int w' d t p k' m n i
  .cases h
  cases h
 .rename_i m n;have i:=y5 l;have hv:=y5 o;subst i;subst hv;cases g:aI k 1
  .rw[g]at h;cases h
  rw[g]at h;cases h;have hk:=aC g;subst hk;rcases abh j with⟨h,_⟩|⟨_,i⟩|⟨h,_⟩
  .cases h
  .exact run_equalIn_string w' d t m n i
  cases h
 .rename_i m n;have i:=y5 l;have hv:=y5 o;subst i;subst hv;cases g:aI k 2
  .rw[g]at h;cases h
  rw[g]at h;cases h;have hk:=aC g;subst hk;rcases abh j with⟨h,_⟩|⟨h,_⟩|⟨_,i⟩
  .cases h
  .cases h
  exact dD w' d t m n i
 cases h
theorem UU{ok:Nat->Prop}(d:Nat)(X Y:aE Value)(w':aB):∀(o:am cK) (i:Nat) (ks:am Nat),aeH P i o=some ks->∀(xs ys:am C) (b:Bool),CRs ι w ok xs (X.toList.drop i)->CRs ι w ok ys (Y.toList.drop i)->
 Y1 ks xs ys=some b->(Op.eqFields (d+1) X Y o).run P w'=.ok b w'
 |[],i,ks,hf,xs,ys,b,_,_,g=>by
   cases hf;cases xs with
   |nil=>cases ys with
    |nil=>cases g;simp[Op.eqFields]
    |cons y ys=>simp[Y1]at g
   |cons x xs=>simp[Y1]at g
 |f::o,i,ks,hf,xs,ys,b,j,l,g=>by
  obtain⟨k,ks,rfl,h1,h2,h3,h4,h5⟩:=aso hf;cases xs with
  |nil=>simp[Y1]at g
  |cons x xs=>
   cases ys with
   |nil=>simp[Y1]at g
   |cons y ys=>
    simp only[Y1]at g;split at g
    case h_2=>cases g
    rename_i b1 b2 aa ab;cases g;cases p:X.toList.drop i with
    |nil=>rw[p]at j;exact j.elim
    |cons u us=>
     cases r:Y.toList.drop i with
     |nil=>rw[r]at l;exact l.elim
     |cons v vs=>
      rw[p]at j;rw[r]at l;have J:X[i]?=some u:=by
       have:(X.toList.drop i)[0]?=some u:=by rw[p];rfl
       rw[am.getElem?_drop]at this;simpa using this
      have U:Y[i]?=some v:=by
       have:(Y.toList.drop i)[0]?=some v:=by rw[r];rfl
       rw[am.getElem?_drop]at this;simpa using this
      have I:X.toList.drop (i+1)=us:=by rw[<-List.drop_drop,p];rfl
      have R:Y.toList.drop (i+1)=vs:=by rw[<-List.drop_drop,r];rfl
      have ih:=UU d X Y w' o (i+1) ks h5 xs ys b2 (by rw[I];exact j.2) (by rw[R];exact l.2) ab;have ac:=run_part_plain (w:=w') h4 J;have ad:=run_part_plain (w:=w') h4 U;have heq:=as2 aa h3 j.1 l.1 d w';simp only[Op.eqFields,h1,h2,ne_eq,not_false_eq_true,dn,aZ,ac,ad,heq,aM];cases b1
      .simp
      simpa using ih
theorem alg(hr:Rel F N ι s a w)(hd:∀k,o.dst=some k->k<N){b:bX}{t u:TypeId}{x y:aF}(ho:o.op=.binOp b t x y u){z:AOp}(l:KU P b t x y=some z)(h:zK P o.dst z s K):
 (∃neg ks,z=.eqa neg ks (cO x) (cO y))/\zF P F N o a w (λ_=>True) K:=by
 unfold KU at l;split at l
 case h_2=>cases l
 rename_i ks g;have p:∀neg,z=.eqa neg ks (cO x) (cO y)->(b=.eql/\neg=false\/b=.neq/\neg=true)->zF P F N o a w (λ_=>True) K:=by
  intro neg l hb;subst l;unfold azn at g;split at g
  case h_2=>cases g
  rename_i fs hu;cases J:(!P.stoodInHeld t&&!P.eqGuardType P.depth t)
  .rw[J]at g;cases g
  rw[J]at g;simp only[aO]at g;simp only[aT,dJ]at J;simp only[zK]at h;split at h
  case h_2=>exact h.elim
  rename_i xs ys ab ac;split at h
  case h_2=>exact h.elim
  rename_i r j;have U:=jf hr x;have hy:=jf hr y;rw[ab]at U;rw[ac]at hy;obtain⟨X,hX,U⟩:=U;obtain⟨Y,hY,hy⟩:=hy;have R:P.fieldsOf t=fs:=by simp[Program.fieldsOf,hu]
  have aa:P.underlying t=some (.struct (P.fieldsOf t)):=by rw[R];exact hu
  refine zF.put hr hd (v:=.bool (bif neg then !r else r)) ?_ (xh rfl) h;intro w' _;have I:(Op.equalIn 10000 t (.agg X.toArray) (.agg Y.toArray)).run P w'=.ok r w':=by rw[run_equalIn_agg w' 9999 t X.toArray Y.toArray aa J.1,R];exact UU 9998 X.toArray Y.toArray w' fs.toList 0 ks g xs ys r (by simpa using U) (by simpa using hy) j
  have i:(cw b t x y (.agg X.toArray) (.agg Y.toArray)).run P w'=.ok () w':=run_eqGuard_agg w' b t x y _ _ J.2;rcases hb with⟨rfl,rfl⟩|⟨rfl,rfl⟩
  .simp[aH,ho,hX,hY,i,run_eql_struct,I]
  simp[aH,ho,hX,hY,i,run_neq_struct,I]
 split at l
 .cases l;exact⟨⟨false,ks,rfl⟩,p false rfl (.inl ⟨rfl,rfl⟩)⟩
 .cases l;exact⟨⟨true,ks,rfl⟩,p true rfl (.inr ⟨rfl,rfl⟩)⟩
 cases l
theorem aAD{pl i:am (Nat×Pl)}{c:C}{x:D}(h:toD pl c=some (x,i)){p:Nat}{cs:am C}(g:aget pl p=some (.box cs)):aget i p=some (.box cs):=by
 cases c with
 |own q z n=>
  simp only[toD]at h;split at h
  .cases h;rw[vQ];split
   .rename_i e;subst e;rw[g]
   exact g
  cases h
 |d _=>cases h;exact g
 |nil=>cases h;exact g
 |clo f l=>cases l with
  |nil=>cases h;exact g
  |cons _ _=>cases h
 |dead=>cases h
 |sub _ _ _ _=>cases h
 |ptr _ _=>cases h
 |eptr _ _ _ _=>cases h
 |fp _=>cases h
 |iter _=>cases h
 |root q=>
  simp only[toD]at h;split at h
  .rename_i t o;split at h
   .cases h;rw[jr];have j:aI p q=false:=xD λe=>by subst e;rw[g]at o;cases o
    simp[j,g]
   cases h
  cases h
theorem apz:∀{g:am C}{pl i:am (Nat×Pl)}{I:am D}(_:uC pl g=some (I,i)) {p:Nat}{cs:am C}(_:aget pl p=some (.box cs)),aget i p=some (.box cs)
 |[],_,_,_,h,_,_,o=>by cases h;exact o
 |c::g,pl,i,I,h,p,cs,o=>by
  unfold uC at h;cases j:toD pl c with
  |none=>rw[j]at h;cases h
  |some y=>
   obtain⟨x,r⟩:=y;rw[j]at h;simp only at h;cases l:uC r g with
   |none=>rw[l]at h;cases h
   |some z=>
    obtain⟨xs,J⟩:=z;rw[l]at h;cases h;exact apz l (aAD j o)
theorem aiV{ok:Nat->Prop}{b:Nat}:∀{g:am D}{vs:am Value}{off:Nat},CRs ι w ok (g.map .d) vs->(∀j v,vs[j]?=some v->w.cell? ⟨b,off+j,none⟩=some v)->RDc w ok b off g
 |[],_,_,_,_=>by simp only[RDc]
 |d::g,[],_,h,_=>h.elim
 |d::g,v::vs,off,h,i=>by simp only[RDc];refine⟨⟨v,i 0 v rfl,h.1⟩,aiV h.2 λj u l=>?_⟩;rw[show off+1+j=off+(j+1)by omega];exact i (j+1) u (by simpa using l)
theorem JQ(s0:S):∀(R:am aF) {s:S}(_:s.sl=s0.sl) (_:Rel F N ι s a w) {l:am (am D)}{g:am (Nat×Pl)}(_:frz s0 s.pl (R.map cO)=some (l,g)),
 Rel F N ι (s.withPl g) a w/\(∀b,F.ok ι s.pl w b->F.ok ι g w b)/\RDf w (F.ok ι g w) (R.map a.eval) l
 |[],s,hs,hr,l,g,h=>by cases h;exact⟨hr,λ_ h=>h,by simp[RDf]⟩
 |x::r,s,hs,hr,l,g,h=>by
  have hx:CR ι w (F.ok ι s.pl w) (s0.oc (cO x)) (a.eval x):=by
   have:=xj hr x;have e:s.oc (cO x)=s0.oc (cO x):=by unfold S.oc S.o S.tmp;rw[hs]
   rwa[e]at this
  simp only[aX,frz]at h;split at h
  .rename_i ds J;rw[J]at hx;obtain⟨b,o',U,h2,h3⟩:=hx;split at h
   .rename_i l' P hl;cases h;obtain⟨g1,g2,g3⟩:=JQ s0 r hs hr hl;refine⟨g1,g2,?_⟩;simp only[aX,RDf];exact⟨b,o',_,by rw[U],g2 b h2,RDc.keep (λb i=>⟨g2 b i,rfl⟩) b h2 _ _ h3,g3⟩
   cases h
  .rename_i p hp;rw[hp]at hx;obtain⟨b,U,h2⟩:=hx;split at h
   .rename_i cs I;split at h
    case h_2=>cases h
    rename_i ds P J;split at h
    case h_2=>cases h
    rename_i l' ac hl;cases h;obtain⟨b',ab,e1,e2,e3⟩:=hr.places p _ I;rw[U]at e1;cases e1;obtain⟨g1,g2,g3⟩:=ZC hr e3 J;have aa:aget P p=some (.box cs):=apz J I;obtain⟨k1,k2,k3⟩:=Rel.still (y:=.fbox ds) g1 aa rfl rfl (λ_=>de) (λ_=>de) (λm n=>⟨b,U,n b U,aiV (CRs.keep (λb i=>⟨m b i,rfl⟩) (z7.refl w) _ _ g3) λj v hv=>by rw[e2.cell];simpa using hv⟩)
    obtain⟨q1,q2,q3⟩:=JQ s0 r (s:=s.withPl (yN p (.fbox ds) P)) hs k1 hl;refine⟨q1,λb i=>q2 b (k2 b (g2 b i)),?_⟩;simp only[aX,RDf];refine⟨b,0,_,by rw[h2],q2 b (k3 b U),?_,q3⟩;exact aiV (CRs.keep (λb i=>⟨q2 b (k2 b i),rfl⟩) (z7.refl w) _ _ g3) λj v hv=>by rw[e2.cell];simpa using hv
   .rename_i ds I;split at h
    case h_2=>cases h
    rename_i l' P hl;cases h;obtain⟨b',e1,e2,e3⟩:=hr.places p _ I;rw[U]at e1;cases e1;obtain⟨g1,g2,g3⟩:=JQ s0 r hs hr hl;refine⟨g1,g2,?_⟩;simp only[aX,RDf];exact⟨b,0,_,by rw[h2],g2 b e2,RDc.keep (λb i=>⟨g2 b i,rfl⟩) b e2 _ _ e3,g3⟩
   cases h
  cases h
theorem atn(hr:Rel F N ι s a w)(p:∀k,o.dst=some k->k<N){f:FuncId}{first g:aE aF}(J:o.op=.makeFunc (.func f) first g)(r:first.toList.isEmpty=true)
 (h:zK P o.dst (.clof f (g.toList.map cO)) s K):yO P F N o a w K:=by
 simp only[zK]at h;split at h
 .rename_i l R I;have i:first= #[]:=by apply aK.1;simpa using r
  obtain⟨g1,g2,g3⟩:=JQ s g.toList rfl hr I;refine yO.put g1 p (v:=.func (.func f) #[] (g.toList.map a.eval).toArray) ?_ (show VR ι w _ (cV (.d (.fn f l))) _ from ?_) h
  .have j:g.map a.eval=(g.toList.map a.eval).toArray:=by apply aK.1;simp
   simp[aH,J,Instr.makeFunc,i,j]
  simp only[cV,VR,WR,CR,RD];exact⟨_,rfl,g3⟩
 exact h.elim
end
theorem gV{α:Type}{z:Nat}:∀(g:am (am α)) (off:Nat) (new:am (am α)),(∀x∈g,x.length=z)->(∀x∈new,x.length=z)->off+new.length<=g.length->
 (ye g off new).flatten=ye g.flatten (off*z) new.flatten:=by
 intro g off new j J P;have p:∀(l:am (am α)) (n:Nat),(∀x∈l,x.length=z)->n<=l.length->(l.take n).flatten=l.flatten.take (n*z):=by
  intro l;induction l with
  |nil=>grind
  |cons x r o=>
   intro n i R;cases n with
   |zero=>simp
   |succ n=>
    grind[aU]
 have I:∀(l:am (am α)) (n:Nat),(∀x∈l,x.length=z)->n<=l.length->(l.drop n).flatten=l.flatten.drop (n*z):=by
  intro l;induction l with
  |nil=>grind
  |cons x r o=>
   intro n i R;cases n with
   |zero=>simp
   |succ n=>
    have hx:x.length=z:=i x dT;simp only[cB,bA];rw[o n (λy U=>i y (by simp[U])) d9,show(n+1)*z=x.length+n*z by grind,cE]
 simp only[ye,cC];rw[p g off j d8,I g _ j P,vB new J,aU]
theorem acC{α:Type}(l:am α)(off:Nat)(new:am α)(h:off+new.length<=l.length):(ye l off new).length=l.length:=by grind[ye]
section
variable {P:Program}{F:Fr}{N:Nat}{ι:Nat->Gh}{s:S}{a:Act}{w:aB}{o:Oper}{K:S->Prop}
theorem Rel.storeEls(hr:Rel F N ι s a w){p z:Nat}{i g:am (am D)}(U:aget s.pl p=some (.arr z i false)){b:Nat}(R:(ι p).b=some b)(hl:g.length=i.length)(ab:∀e∈g,e.length=z)
 {q:Nat}{J:am D}{vs:am Value}(ae:g.flatten=ye i.flatten q J) (r:CRs ι w (F.ok ι s.pl w) (J.map .d) vs) (hq:q+J.length<=i.length*z):
 ∃w',(storeCells (⟨b,q,none⟩:dv) vs 0).run P w=.ok () w'/\Rel F N ι (s.withPl (yN p (.arr z g false) s.pl)) a w':=by
 obtain⟨ac,hn,af|⟨b',e1,e2,_,e4⟩⟩:=hr.places p _ U
 .grind
 rw[R]at e1;cases e1;obtain⟨old,⟨ty,o⟩,aa⟩:=e4 rfl;have ah:vs.length=J.length:=by have:=r.length;grind
 have l:=cL P b q ty vs 0 old w o d8 (j5 r);simp only[dG]at l;refine⟨_,l,?_⟩;have I:(old.toList.take q++vs++old.toList.drop (q+vs.length)).toArray.size=old.size:=d9
 have hk:=gE hr p (.arr z i false) (.arr z g false) U rfl (λ_=>de) R (old.toList.take q++vs++old.toList.drop (q+vs.length)).toArray;have ag:=z7.setRow w b o I;obtain⟨us,g1,g2,g3⟩:=RDs.vals (ι:=ι) e2;refine hr.write p (.arr z i false) (.arr z g false) U rfl rfl (λ_=>de) R o I ⟨ac,d9,.inr ⟨b,R,?_,(λhf=>by cases hf),(λ_=>⟨_,⟨ty,ck w b old _ ty (0,0) o⟩,d9⟩)⟩⟩;refine QY (ι:=ι) (vs:=ye us q vs) ab ?_ ?_
 .grind[ye,List.map_take,List.map_drop,CRs.keep,CRs.append,CRs.take,CRs.drop]
 intro j v hv;rw[aV,cU w b _ old _ ty (0,0) o];simp only[ye]at hv;have ad:∀j v,us[j]?=some v->old.toList[j]?=some v:=λj v hv=>by have:=g3 j v hv;rw[aV,cj w b j old ty (0,0) o]at this;rw[aE.getElem?_toList];exact this
 simp only[am.getElem?_toArray];rw[am.getElem?_append,am.getElem?_append]at hv⊢;have t1:(us.take q).length=q:=d9
 have t2:(old.toList.take q).length=q:=d9
 simp only[aR,t1,t2]at hv⊢;split at hv
 .rename_i c1;rw[cX c1];split at hv
  .rename_i c2;rw[cX c2];rw[am.getElem?_take]at hv⊢;simp_all
  simp_all
 simp_all[bO]
theorem aie(hr:Rel F N ι s a w){c:C}{v:Value}(l:CR ι w (F.ok ι s.pl w) c v){p z off n:Nat}(h:range c=some (p,z,off,n)){z1:Nat}{g:am (am D)}{r:Bool}(R:aget s.pl p=some (.arr z1 g r)):
 ∃i cap,v=.slice i n cap/\off+n<=g.length+(if n=0 then off else 0)/\(n=0\/∃b,(ι p).b=some b/\i=some ⟨b,off*z,none⟩):=by
 have hn:=(hr.places p _ R).2.1;cases c with
 |own q U m=>
  cases h;rcases l with⟨j,I,J⟩|⟨b,cap,t,j,I,J,P,h5,h6⟩
  .grind
  grind
 |sub q U o m=>
  cases h;obtain⟨i,cp,j,_,_,P⟩:=l<;>grind
 |_=>cases h
theorem alX(hr:Rel F N ι s a w){c:C}{v:Value}(I:CR ι w (F.ok ι s.pl w) c v){l:am (am D)}(h:abO s.pl c=some l):
 ∃i cap,v=.slice i l.length cap/\∃ok:Nat->Prop,(l=[]\/∃b q sz,i=some ⟨b,q,none⟩/\RDs w (F.ok ι s.pl w) b sz q l):=by
 cases c with
 |sub p z off n=>
  simp only[abO]at h;split at h
  .rename_i z1 R fz hp;cases g:aI z z1<;>rw[g]at h
   .cases h
   have g:=aC g;subst g;cases h;obtain⟨i,cp,o,_,_,r⟩:=I;rcases r with r|⟨b,J,P,e3⟩
   .grind
   obtain⟨ab,hn,aa|⟨b',j,U,_⟩⟩:=hr.places p _ hp
   .grind
   rw[J]at j;cases j;refine⟨i,cp,d9,λ_=>True,.inr ⟨b,off*z,z,P,?_⟩⟩;have:=RDs.take n (RDs.drop off U)<;>grind
  cases h
 |_=>obtain⟨i,cap,o,h2⟩:=Kk hr I h;exact⟨i,cap,o,λ_=>True,h2⟩
theorem att{t e:TypeId}(h:bD 0 (zW P e)=true):∃i,P.info? e=some i/\i.size=zW P e/\0<zW P e:=by
 have g:zW P e≠0:=by have:=aS h;omega
 grind[zW]
theorem avM(hr:Rel F N ι s a w)(I:∀k,o.dst=some k->k<N){args:aE aF}{ts:aE TypeId}{x:aF}{t e:TypeId}(ho:o.op=.call {callee:=.builtin .cap,args:=args,argTypes:=ts})
 (R:args.toList=[x]) (aa:ts.toList=[t]) (ht:uj P t=some e) (h:zK P o.dst (.cap (cO x)) s K):zF P F N o a w (λ_=>True) K:=by
 simp only[zK]at h;have hu:=vM ht;have ha:args= #[x]:=aK.1 d9;have U:ts= #[t]:=aK.1 d9;have g:∀b m c,a.eval x=.slice b m c->∀w':aB,True->(aH a.eval o).run P w'=.ok (.value (.int .i64 c)) w':=by intro b m c e1 w' _;simp[aH,ho,bI,bP,builtin,Builtin.cap_,ha,U,e1,aD hu,dS]
 have i:=xj hr x;split at h
 .rename_i l j;rw[j]at i;simp only[CR,RD]at i;obtain⟨ad,m,c,h1,J,r,h4,_⟩:=i;exact zF.put hr I (g _ _ _ h1) (xh rfl) (h c d8 (by grind[maxLen]))
 .rename_i j;rw[j]at i;exact zF.put hr I (g _ _ _ i) (xh rfl) h
 .rename_i p z m j;rw[j]at i;rcases i with⟨_,J,r⟩|⟨b,cap,ty,h1,J,r,h4,h5,_⟩
  .subst J;exact zF.put hr I (g _ _ _ r) (xh rfl) (h 0 (aY _) d8)
  exact zF.put hr I (g _ _ _ r) (xh rfl) (h cap h4 (by grind[maxLen]))
 grind
theorem avP(hr:Rel F N ι s a w)(hd:∀k,o.dst=some k->k<N){args:aE aF}{ts:aE TypeId}{x y:aF}{t u e e':TypeId}(ho:o.op=.call {callee:=.builtin .copy,args:=args,argTypes:=ts})
 (au:args.toList=[x,y]) (a8:ts.toList=[t,u]) (ht:uj P t=some e) (ae:bD 0 (zW P e)=true) (h:zK P o.dst (.cpy (zW P e) (cO x) (cO y)) s K):yO P F N o a w K:=by
 simp only[zK]at h;have hu:=vM ht;obtain⟨i,hi,a6,ae⟩:=att (t:=t) ae;have ha:args= #[x,y]:=aK.1 d9;have R:ts= #[t,u]:=aK.1 d9;have hx:=xj hr x;have hy:=xj hr y;generalize s.oc (cO x)=cx at*;cases I:abO s.pl (s.oc (cO y))with
 |none=>rw[I]at h;exact h.elim
 |some l=>
 rw[I]at h;obtain⟨ad,cap,U,_,r⟩:=alX hr hy I;unfold awi at h;simp only at h;split at h
 ·
  have hx:a.eval x=.slice none 0 0:=hx;refine(zF.put (C:=λ_=>True) hr hd (v:=.int .i64 0) ?_ (xh rfl) h).fine trivial;intro w' _;have aw:(aN (zW P e) 0 (.slice ad l.length cap)).run P w'=.ok #[] w':=by cases ad<;>simp_all[aN,dC,cM]
  simp[aH,ho,bI,bP,builtin,cZ,ha,R,hx,U,aD hu,dS,bN,vK hi,aw]
 split at h
 case h_2=>grind
 rename_i p z off n az;split at h
 case h_2=>grind
 rename_i z1 g hp;cases aa:(aI z z1&&aI z (zW P e))<;>rw[aa]at h
 .grind
 simp only[aO]at h;rw[aT]at aa;have e1:=aC aa.1;have e2:=aC aa.2;subst e1;obtain⟨hl,h⟩:=h;obtain⟨aj,a1,ah,av,ac⟩:=aie hr hx az hp;have ao:Nat.min l.length n=min l.length n:=rfl;have ag:∃j:am Value,j.length=(l.take n).length*zW P e/\CRs ι w (F.ok ι s.pl w) ((l.take n).flatten.map .d) j/\(aN (zW P e) (min l.length n) (.slice ad l.length cap)).run P w=.ok j.toArray w:=by
  have a7:(l.take n).length=min l.length n:=d9
  rcases r with rfl|⟨b,q,sz,rfl,r⟩
  .refine⟨[],dT,by simp[CRs],?_⟩;cases ad<;>simp_all[aN,dC,cM]
  obtain⟨vs,g1,g2,g3⟩:=RDs.vals (ι:=ι) (RDs.take n r);have a9:vs.length=(l.take n).length*zW P e:=by have:=g1.length<;>grind[vB]
  grind[cz,vy]
 obtain⟨j,n1,n2,n3⟩:=ag;have ak:∀x∈g,x.length=z:=by
  obtain⟨_,_,a3|⟨b',_,f2,_⟩⟩:=hr.places p _ hp
  .grind
  grind[RDs.len]
 by_cases aq:n=0
 .subst aq;have af:j=[]:=dW
  subst af;have al:ye g off (l.take 0)=g:=by simp[ye]
  rw[al]at h;have a5:{s with pl:=yN p (.arr z g false) s.pl}={s with pl:=yN p (.arr z g false) s.pl}:=rfl;have hrel:Rel F N ι (s.withPl (yN p (.arr z g false) s.pl)) a w:=by refine hr.sub _ (λk v h=>h) (λq y hq=>?_);have ay:aget (yN p (.arr z g false) s.pl) q=some y:=hq;rw[yG]at ay;by_cases a4:p=q<;>simp_all
  refine yO.of_value (v:=.int .i64 (min l.length 0:Nat)) (w':=w) ?_ (Rel.put hrel o.dst hd _ _ (xh rfl)) h;have J:∀ai,(storeCells ai ([]:am Value) 0).run P w=.ok () w:=λai=>by simp[storeCells]
  have ar:(aN (zW P e) 0 (.slice ad l.length cap)).run P w=.ok #[] w:=d9
  cases aj with
  |none=>simp[aH,ho,bI,bP,builtin,cZ,ha,R,ah,U,aD hu,dS,bN,vK hi,ar]
  |some aj=>simp[aH,ho,bI,bP,builtin,cZ,ha,R,ah,U,aD hu,dS,bN,vK hi,ar,J]
 rcases ac with ac|⟨b,hb,rfl⟩
 .grind
 rw[bO aq]at av;have a2:(l.take n).length<=n:=List.length_take_le n l;have an:∀x∈l.take n,x.length=z:=λx hx=>d9
 have ab:off+(l.take n).length<=g.length:=d8
 have ax:=gV g off (l.take n) ak an ab;obtain⟨w',a0,hrel⟩:=hr.storeEls (P:=P) hp hb (acC g off (l.take n) ab) (λx hx=>by
  grind[ye]) ax n2 (by rw[vB (l.take n) an,<-aU];simp_all[aQ])
 refine yO.of_value (v:=.int .i64 (min l.length n:Nat)) (w':=w') ?_ (Rel.put hrel o.dst hd _ _ (xh rfl)) h;simp[aH,ho,bI,bP,builtin,cZ,ha,R,ah,U,aD hu,dS,bN,vK hi,ao,n3,a0]
theorem avO(hr:Rel F N ι s a w)(hd:∀k,o.dst=some k->k<N){args:aE aF}{ts:aE TypeId}{x:aF}{t e:TypeId}(ho:o.op=.call {callee:=.builtin .clear,args:=args,argTypes:=ts})
 (ai:args.toList=[x]) (a3:ts.toList=[t]) (ht:uj P t=some e) (az:bD 0 (zW P e)=true) {z:am D}{aw:am (Nat×Pl)}(hz:uC [] (qo P e).cells=some (z,aw)) (ag:aI z.length (zW P e)=true) (av:uY P e=true)
 (h:zK P o.dst (.clr (zW P e) z (cO x)) s K):yO P F N o a w K:=by
 simp only[zK]at h;have hu:=vM ht;obtain⟨i,l,hi,a6,a5⟩:=X7 av;have a2:i.size=zW P e:=by grind[zW]
 have ag:=aC ag;have ha:args= #[x]:=aK.1 d9;have R:ts= #[t]:=aK.1 d9;have hx:=xj hr x;generalize s.oc (cO x)=cx at*;have U:(cm e).run P w=.ok l w:=by simp_all[cm,bU]
 have a4:qo P e=ofValue l:=by grind[qo]
 have af:CRs ι w (F.ok ι s.pl w) (z.map .d) l.cells.toList:=by grind[VB,YW,Yf,jq]
 have j:∀{a':Act}{s':S}{w':aB},Rel F N ι s' a' w'->Rel F N ι (s'.put o.dst qO) (a'.put o.dst (.tuple #[])) w':=λao=>Rel.put ao o.dst hd _ _ ⟨[],rfl,trivial⟩
 unfold awh at h;split at h
 .have hx:a.eval x=.slice none 0 0:=hx;refine yO.of_value (v:=.tuple #[]) (w':=w) ?_ (j hr) h;simp[aH,ho,bI,bP,builtin,dm,ha,R,hx,aD hu]
 split at h
 case h_2=>grind
 rename_i p z1 off n aq;split at h
 case h_2=>grind
 rename_i z2 g hp;cases r:(aI z1 z2&&aI z1 (zW P e))<;>rw[r]at h
 .grind
 simp only[aO]at h;rw[aT]at r;have e1:=aC r.1;have e2:=aC r.2;subst e1;obtain⟨ah,ax,ae,aj,J⟩:=aie hr hx aq hp;have aa:∀x∈g,x.length=z1:=by
  obtain⟨_,_,a0|⟨b',_,f2,_⟩⟩:=hr.places p _ hp
  .grind
  grind[RDs.len]
 by_cases ad:n=0
 .subst ad;have ab:ye g off (aL 0 z)=g:=by simp[ye]
  rw[ab]at h;have hrel:Rel F N ι (s.withPl (yN p (.arr z1 g false) s.pl)) a w:=by refine hr.sub _ (λk v h=>h) (λq y hq=>?_);have an:aget (yN p (.arr z1 g false) s.pl) q=some y:=hq;rw[yG]at an;by_cases a1:p=q<;>simp_all
  refine yO.of_value (v:=.tuple #[]) (w':=w) ?_ (j hrel) h;cases ah<;>simp[aH,ho,bI,bP,builtin,dm,ha,R,ae,aD hu]
 rcases J with J|⟨b,hb,rfl⟩
 .grind
 rw[bO ad]at aj;have ac:∀x∈aL n z,x.length=z1:=λx hx=>d9
 have I:off+(aL n z).length<=g.length:=d9
 have al:=gV g off (aL n z) aa ac I;have ak:=XS af n;obtain⟨w',ar,hrel⟩:=hr.storeEls (P:=P) hp hb (acC g off (aL n z) I) (λx hx=>by
  grind[ye]) al ak (by rw[vB (aL n z) ac,<-aU];simp_all[aQ])
 refine yO.of_value (v:=.tuple #[]) (w':=w') ?_ (j hrel) h;have au:(aJ l.cells n).toList=(aL n l.cells.toList).flatten:=by
  have ay:(aL n l.cells.toList).flatten.length=n*l.cells.size:=dW
  have hA:(aJ l.cells n).toList=(List.range (n*l.cells.size)).map (λi=>l.cells[i%l.cells.size]!):=by simp[aJ]
  rw[hA];apply cS
  grind[ue,bF]
 obtain⟨m,rfl⟩:∃m,n=m+1:=⟨n-1,d8⟩;simp[aH,ho,bI,bP,builtin,dm,ha,R,ae,aD hu,U,au,ar]
theorem avX(hr:Rel F N ι s a w)(U:∀k,o.dst=some k->k<N){t e:TypeId}{x:aF}{lo hi:aA aF}(ho:o.op=.slice t x lo hi none)(hu:P.underlying t=some (.slice e)){i:bM}(j:P.info? e=some i)
 (h:zK P o.dst (.slw (zW P e) (cO x) (lo.map cO) (hi.map cO)) s K):zF P F N o a w (λ_=>True) K:=by
 simp only[zK]at h;split at h
 case h_2=>grind
 rename_i lq hb r l;have r:=WV hr r;have l:=WV hr l;have J:=xj hr x;generalize s.oc (cO x)=cx at*;unfold awm at h;split at h
 .rename_i p z n;cases hz:aI z (zW P e)with
  |false=>grind
  |true=>
   rw[hz]at h;have hz:=aC hz;simp only[aO]at h;obtain⟨I,g1,g2,h⟩:=h;have g3:yh lq 0<=(n:Int):=d8
   rcases J with⟨f1,f2,R⟩|⟨b,cap,ty,f1,f2,R,f4,f5,f6⟩
   .subst f2;have g:=λ(w':aB) (_:True)=>ZU (o:=o) (w:=w') hu j ho R r l I d9 d8
    refine zF.put hr U g ?_ h;refine⟨_,_,rfl,d8,d9,.inl d8⟩
   have g:=λ(w':aB) (_:True)=>ZU (o:=o) (w:=w') hu j ho R r l I g1 d8
   refine zF.put hr U g ?_ h;refine⟨_,_,rfl,d8,d8,?_⟩;by_cases hn:(yh hb n).toNat-(yh lq 0).toNat=0
   .grind
   refine .inr ⟨b,f1,?_,d8⟩;refine Eq.trans (bO d8) ?_
   grind[vy]
 .have J:a.eval x=.slice none 0 0:=J;obtain⟨I,g1,g2,h⟩:=h;have g:=λ(w':aB) (_:True)=>ZU (o:=o) (w:=w') hu j ho J r l I d9 d9
  have e1:(yh lq 0).toNat=0:=d8
  have e2:(yh hb ((0:Nat):Int)).toNat=0:=d9
  rw[e1,e2]at g;exact zF.put hr U g (show VR ι w _ (cV .nil) _ from by grind[cV,VR,WR]) h
 grind
theorem adK{α:Type}{c:Bool}{x y:α}(h:WP c x=some y):c=true/\x=y:=by
 cases c
 .cases h
 cases h;grind
theorem avL(hr:Rel F N ι s a w)(r:∀k,o.dst=some k->k<N){b:aG}{args:aE aF}{J:aE TypeId}(I:o.op=.call {callee:=.builtin b,args:=args,argTypes:=J}){z:AOp}(g:U3 P b args.toList J.toList=some z)
 (h:zK P o.dst z s K):yO P F N o a w K:=by
 unfold U3 at g;split at g
 .split at g
  .rename_i x t i j;split at g
   .rename_i e p;cases g;exact(avM hr r I i j p h).fine trivial
   cases g
  cases g
 .split at g
  .rename_i x y t u i j;split at g
   .rename_i e e' p hu;obtain⟨l,rfl⟩:=adK g;rw[aT]at l;exact avP (e':=e') hr r I i j p l.1 h
   cases g
  cases g
 .split at g
  .rename_i x t i j;split at g
   .rename_i e p;split at g
    .rename_i zz U R;obtain⟨l,rfl⟩:=adK g;simp only[aT]at l
     grind[avO]
    cases g
   cases g
  cases g
 cases g
theorem aga{b:aG}{l:am aF}{i:am TypeId}{z:AOp}(g:U3 P b l i=some z):z.quiet=false/\Yu z=false/\∀cs,z≠ .alloc cs:=by
 unfold U3 at g;repeat' split at g
 all_goals first
  |(cases g;done)
  |(obtain⟨_,rfl⟩:=adK g;exact⟨rfl,rfl,λ_ h=>by cases h⟩)
  |(cases g;exact⟨rfl,rfl,λ_ h=>by cases h⟩)
end
section
variable {P:Program}{F:Fr}{N:Nat}{ι:Nat->Gh}{s:S}{a:Act}{w:aB}{o:Oper}{K:S->Prop}
theorem Rel.noRow(hr:Rel F N ι s a w){d sz:Nat}(g:am Nat)(hk:isin d g=true)(j:0<sz)(I:F.h d=none):Rel F N (wV ι d ⟨none,0,.nilFunc,[]⟩) (s.redo g [(d,.arr sz [] false)]) a w:=by
 refine hr.redo g [(d,.arr sz [] false)] _ w (λp i=>qZ ι _ (λe=>by subst e;rw[hk]at i;cases i)) (λ_ _ _=>rfl) (z7.refl w) rfl rfl (Out.refl w) (aY _) ?_ ?_ ?_ (λp x i=>by obtain⟨rfl,_⟩:=zD i;exact I)
 .intro p q i;obtain⟨rfl,rfl⟩:=zD i;exact⟨j,by rw[zO];rfl,.inl ⟨by rw[zO],rfl⟩⟩
 .intro p q b i o;obtain⟨rfl,rfl⟩:=zD i;simp only[foot,zO]at o;cases o
 intro p q r y b i J l;obtain⟨rfl,rfl⟩:=zD i;obtain⟨rfl,rfl⟩:=zD J;exact absurd rfl l
def S.ownNil(s:S)(d p sz:Nat):S:=(s.redo [p] [(p,.arr sz [] false)]).put (some d) (cV (.own p sz 0))
theorem ya{s:S}(d p sz:Nat)(j:0<sz)(r:p<100000)(h:aget s.sl d=some (cV .nil)):Za s (s.ownNil d p sz):=by
 intro F N ι a w hr;have o:F.h p=none:=by
  cases e:F.h p with
  |none=>rfl
  |some g=>have:=hr.hdom p g e;omega
 have hrel:=hr.noRow (d:=p) [p] (by simp[isin]) j o;obtain⟨x,l,i⟩:=hr.slots d _ h;have i:x=.slice none 0 0:=i;refine⟨_,{hrel with slots:=λk v hv=>?_}⟩;have hv:aget (yN d (cV (.own p sz 0)) (s.redo [p] [(p,.arr sz [] false)]).sl) k=some v:=hv;rw[yG]at hv;by_cases e:d=k
 .rw[cX e]at hv;cases hv;subst e;exact⟨x,l,.inl ⟨by rw[zO],rfl,i⟩⟩
 rw[bO e]at hv;exact hrel.slots k v hv
theorem aoC{t u ty e:TypeId}{k:aP}{i:bM}{z:Value}(ht:P.underlying t=some (.slice e))(hu:P.underlying u=some (.int k))(hi:P.info? e=some i)(hz:i.zero=some z){k':aP}{n:Nat}(r:0<n)(J:0<i.size)
 (U:((n:Nat):Int)<=9223372036854775807) (g:n*i.bytes<=140737488355328):
 (aW #[t,u] ty #[.slice none 0 0,.int k' n]).run P w=
  .ok (.slice (some ⟨w.heap.size,0,none⟩) n (bH w n 0 e))
   (w.drew.alloc (.cells ((aJ z.cells n).toList++(aJ z.cells (bH w n 0 e-n)).toList).toArray e)):=by
 have hn:¬(n<=0):=d8
 have hw:di.wrap (n:Int)=n:=by rw[dQ];omega
 have l:¬(9223372036854775807<(n:Int)):=d8
 have R:=growslice_fits (old:=0) (need:=n) (bytes:=i.bytes) d8 g;have o:¬(281474976710656<(n:Int)*(i.bytes:Int)):=by have:((n*i.bytes:Nat):Int)<=((140737488355328:Nat):Int):=Int.ofNat_le.2 g;rw[Int.natCast_mul]at this;omega
 have j:¬(281474976710656<dl n 0*i.bytes):=d8
 have I:¬(n*i.size=0):=by have:0<n*i.size:=Nat.mul_pos r J;omega
 have p:¬((n:Int)<0):=d8
 simp[aW,aD ht,aD hu,cT,bU,cm,hi,hz,hw,l,o,j,I,p,Question.forced,dM,asInt,dL,aN];rw[bO d8];have fin:(aJ z.cells n++aJ z.cells (bH w n 0 e-n))=((aJ z.cells n).toList++(aJ z.cells (bH w n 0 e-n)).toList).toArray:=by apply Array.ext';simp
 rw[<-fin];rfl
theorem alY{t u ty e:TypeId}{k:aP}{i:bM}(g:P.underlying t=some (.slice e))(j:P.underlying u=some (.int k))(hi:P.info? e=some i){k':aP}:
 (aW #[t,u] ty #[.slice none 0 0,.int k' 0]).run P w=.ok (.slice none 0 0) w:=by
 have l:di.wrap 0=0:=by rw[dQ];omega
 simp[aW,aD g,aD j,cT,bU,hi,l,asInt,dL,aN]
theorem aaV(cs:aE Value)(n:Nat):(aJ cs n).toList=(aL n cs.toList).flatten:=by
 have g:(aL n cs.toList).flatten.length=n*cs.size:=by rw[vB (sz:=cs.size) _ (λx r=>by rw[(dz.1 r).2];simp)];simp
 have hA:(aJ cs n).toList=(List.range (n*cs.size)).map (λi=>cs[i%cs.size]!):=by simp[aJ]
 rw[hA];apply cS;intro j;cases o:(aL n cs.toList).flatten[j]? with
 |some v=>
  obtain⟨p,l⟩:=ue _ _ _ _ o;rw[bF]at p l;rw[am.getElem?_map,am.getElem?_range p];rw[aE.getElem?_toList]at l;simp[getElem!_def,l]
 |none=>
  rw[am.getElem?_eq_none_iff,g]at o;rw[am.getElem?_eq_none_iff];simpa using o
theorem atm(hr:Rel F N ι s a w)(hd:∀k,o.dst=some k->k<N){args:aE aF}{ts:aE TypeId}{x y:aF}{t u e:TypeId}{k:aP}(ho:o.op=.call {callee:=.builtin .append,args:=args,argTypes:=ts})
 (J:args.toList=[x,y]) (ao:ts.toList=[t,u]) (ht:uj P t=some e) (hu:P.underlying u=some (.int k)) (ae:bD 0 (zW P e)=true) {z:am D}{av:am (Nat×Pl)}(hz:uC [] (qo P e).cells=some (z,av)) (U:aI z.length (zW P e)=true) (ar:uY P e=true)
 (h:zK P o.dst (.appz (zW P e) (uX P e) z (cO x) (cO y)) s K):yO P F N o a w K:=by
 simp only[zK]at h;split at h
 case h_2=>exact h.elim
 rename_i d m g hx hm;obtain⟨g0,g1,g2,h⟩:=h;have ag:=vM ht;obtain⟨i,zv,hi,aa,au⟩:=X7 ar;have R:i.size=zW P e:=by simp[zW,hi]
 have ai:i.bytes=uX P e:=by simp[uX,hi]
 have U:=aC U;have al:0<i.size:=by rw[R];have:=aS ae;omega
 have ha:args= #[x,y]:=aK.1 (by simpa using J);have an:ts= #[t,u]:=aK.1 (by simpa using ao);have r:=xj hr x;rw[hx]at r;have r:a.eval x=.slice none 0 0:=r;obtain⟨k',aq,_⟩:=ZS hm (jf hr y);obtain⟨n,rfl⟩:∃n:Nat,m=n:=⟨m.toNat,d8⟩;simp only[Int.toNat_natCast]at h g1;have I:∀v w',(aW #[t,u] o.type #[.slice none 0 0,.int k' n]).run P w=.ok v w'->(aH a.eval o).run P w=.ok (.value v) w':=by intro v w' hv;simp[aH,ho,bI,bP,builtin,ha,an,r,aq,hv]
 by_cases hn:n=0
 .subst hn;have hrel:=hr.noRow (d:=d) (sz:=zW P e) [d] (by simp[isin]) d8 (hr.h_slot (hd _ g));refine yO.of_value (ι':=wV ι d ⟨none,0,.nilFunc,[]⟩) (I _ _ (by simpa using alY (ty:=o.type) ag hu hi)) ?_ h;rw[g];exact hrel.put (some d) (λk hk=>by cases hk;exact hd d g) _ _ (.inl ⟨by rw[zO],rfl,rfl⟩)
 have ab:=aoC (w:=w) (ty:=o.type) (k':=k') ag hu hi aa (n:=n) d8 al g2 (by rw[ai];exact g1);obtain⟨l,p⟩:∃l:aE Value,l=((aJ zv.cells n).toList++(aJ zv.cells (bH w n 0 e-n)).toList).toArray:=⟨_,rfl⟩;rw[<-p]at ab;have hw:=NewRow.draw w l e (0,0);have ad:=dN w n 0 e;have aj:=cD w n 0 e (by simp only[maxLen];omega);have ac:l.size=bH w n 0 e*i.size:=by rw[p];simp only[cg,aR,alr aa,au,<-aU];congr 1;omega
 have ah:CRs ι w (F.ok ι s.pl w) (z.map .d) zv.cells.toList:=by
  refine VB hz ?_;have af:qo P e=ofValue zv:=by simp[qo,hi,aa]
  rw[af];refine Yf (YW ι w (F.ok ι s.pl w) zv) ?_;rw[<-af];exact jq hz
 have ak:=XS ah n;have hrel:=hr.newRow hw d (.arr (zW P e) (aL n z) false) [d] (by simp[isin]) n (hr.h_slot (hd _ g)) ⟨d8,by rw[zO];simp,.inr ⟨w.heap.size,by rw[zO],by
  refine QY (ι:=ι) (vs:=(aL n zv.cells.toList).flatten) (λq hq=>?_) ?_ ?_
  .rw[(dz.1 hq).2,U]
  .exact CRs.keep (YF hr hw d _ [d] (by simp[isin]) _) hw.shapes _ _ ak
  intro j v hv;rw[aV,hw.cell,p];have hj:=(am.getElem?_eq_some_iff.1 hv).1;rw[am.getElem?_toArray,am.getElem?_append_left (by rw[aaV];exact hj),aaV];exact hv,(λhf=>by cases hf),(λ_=>⟨l,⟨e,hw.new⟩,by rw[ac,<-R];simp only[List.length_replicate];exact aQ _ ad⟩)⟩⟩
 refine yO.of_value (ι':=wV ι d ⟨some w.heap.size,n,.nilFunc,[]⟩) (I _ _ ab) ?_ h;rw[g];refine hrel.put (some d) (λk hk=>by cases hk;exact hd d g) _ _ ?_;exact .inr ⟨w.heap.size,_,e,by rw[zO],by rw[zO];exact aY _,rfl,ad,aj,by rw[hw.shape,ac,R]⟩
end
section
variable {P:Program}{F:Fr}{N:Nat}{ι:Nat->Gh}{s:S}{a:Act}{w:aB}{o:Oper}{K:S->Prop}
theorem atK{ok:Nat->Prop}:∀{g:am D}{vs:am Value},CRs ι w ok (g.map .d) vs->RDv w ok vs g
 |[],[],_=>by simp only[RDv]
 |[],_::_,h=>h.elim
 |_::_,[],h=>h.elim
 |d::r,v::vs,h=>by simp only[RDv];exact⟨v,vs,rfl,h.1,atK h.2⟩
theorem aev{ok:Nat->Prop}:∀{g:am D}{vs:am Value},RDv w ok vs g->CRs ι w ok (g.map .d) vs
 |[],vs,h=>by simp only[RDv]at h;subst h;trivial
 |d::r,vs,h=>by simp only[RDv]at h;obtain⟨v,l,rfl,i,j⟩:=h;exact⟨i,aev j⟩
theorem avS(hr:Rel F N ι s a w)(I:∀k,o.dst=some k->k<N){t:TypeId}{x:aF}(J:o.op=.makeInterface t x){p:aE cK}(R:P.underlying t=some (.struct p))(h:zK P o.dst (.mki t (cO x)) s K):yO P F N o a w K:=by
 simp only[zK]at h;have j:=aiY hr x;split at h
 .rename_i cs g;rw[g]at j;obtain⟨vs,hv,r⟩:=j;split at h
  .rename_i l U i;obtain⟨g1,g2,g3⟩:=ZC hr r i;refine yO.put g1 I (v:=.iface t (.agg vs.toArray)) ?_ (show VR ι w _ (cV (.d (.ifc t l))) _ from ?_) h
   .simp[aH,J,Instr.makeInterface,aD R,hv]
   simp only[cV,VR,WR,CR,RD];exact⟨_,rfl,atK g3⟩
  exact h.elim
 exact h.elim
theorem avK(hr:Rel F N ι s a w)(J:∀k,o.dst=some k->k<N){t u:TypeId}{x:aF}{c:Bool}(R:o.op=.typeAssert x u t c){fs:aE cK}(U:P.underlying t=some (.struct fs))(hc:c=true)(j:jk P t=true)(h:zK P o.dst (.ast t (qo P t) (cO x)) s K):yO P F N o a w K:=by
 simp only[zK]at h;have I:=xj hr x;subst hc;split at h
 .rename_i u2 l hl;rw[hl]at I;simp only[CR,RD]at I;obtain⟨vs,hv,r⟩:=I;cases p:aI u2 t with
  |true=>
   rw[p]at h;have e:=aC p;subst e;refine yO.put hr J (v:=.tuple #[.agg vs.toArray,.bool true]) (x:=.tup [.agg (l.map .d),.c (.d (.lit (.bool true)))]) ?_ ⟨[.agg vs.toArray,.bool true],rfl,⟨vs,rfl,aev r⟩,?_,trivial⟩ h
   .simp[aH,R,dR,aD U,hv]
   simp[WR,CR,RD,Value.oneCell']
  |false=>
   rw[p]at h;have e:u2≠t:=λe=>by subst e;rw[Nat.beq_refl]at p;cases p
   unfold jk at j;unfold qo at h;cases hi:P.info? t with
   |none=>rw[hi]at j;cases j
   |some i=>
    simp only[hi]at j h;cases g:i.zero with
    |none=>rw[g]at j;cases j
    |some v=>
     simp only[g]at h;refine yO.put hr J (v:=.tuple #[v,.bool false]) (x:=.tup [ofValue v,.c (.d (.lit (.bool false)))]) ?_ ⟨[v,.bool false],rfl,YW _ _ _ _,?_,trivial⟩ h
     .simp[aH,R,dR,aD U,hv,e,cm,bU,hi,g]
     simp[WR,CR,RD,Value.oneCell']
 exact h.elim
theorem adl{m:String}{t f:Nat}:∀{n:Nat},aget (g9 P m n) t=some f->ahT P m t=some f
 |0,h=>by cases h
 |n+1,h=>by
  simp only[g9]at h;split at h
  .rename_i g j;simp only[aget]at h;cases i:aI n t with
   |true=>
    rw[i]at h;have e:=aC i;subst e;cases h;exact j
   |false=>rw[i]at h;exact adl h
  exact adl h
theorem auD{m:String}{t f:Nat}(h:ahT P m t=some f):∃j i x,P.underlying t=some (.struct j)/\P.info? t=some i/\i.methods.find? (λx=>x.name==m)=some x/\x.func=some (f,false)/\x.path= #[]:=by
 unfold ahT at h;split at h
 .rename_i j i o p;split at h
  .rename_i x I;split at h
   .rename_i g r;cases l:x.path.isEmpty with
    |true=>
     rw[l]at h;cases h;exact⟨j,i,x,o,p,I,r,Array.isEmpty_iff.1 l⟩
    |false=>rw[l]at h;cases h
   cases h
  cases h
 cases h
end
section
variable {w:aB}{ok:Nat->Prop}{ag:Bool}
def aaW(ag:Bool)(m:bG)(us:am Value):Prop:=bif ag then m.val=.agg us.toArray else us=[m.val]
theorem RTm.length:∀{vs:am (am T)}{i:am bG}{fp:am Nat},RTm w ok ag vs i fp->vs.length=i.length
 |[],i,fp,h=>by simp only[RTm]at h;rw[h.1];rfl
 |e::r,i,fp,h=>by simp only[RTm]at h;obtain⟨m,j,vs,f,g,rfl,_,_,l,_⟩:=h;simp[RTm.length l]
theorem RTm.focus:∀{vs:am (am T)}{l:am bG}{fp:am Nat}{i:Nat}{e:am T},RTm w ok ag vs l fp->vs[i]?=some e->
 ∃J f P m us,fp=J++f++P/\l[i]?=some m/\aaW ag m us/\RTc w ok e us f/\
  ∀e' o m' j,aaW ag m' j->RTc w ok e' j o->RTm w ok ag (vs.set i e') (l.set i m') (J++o++P)
 |[],l,fp,i,e,_,p=>by simp at p
 |x::r,l,fp,0,e,h,p=>by simp at p;subst p;simp only[RTm]at h;obtain⟨m,I,us,f,g,rfl,R,U,h4,rfl⟩:=h;refine⟨[],f,g,m,us,dT,rfl,R,U,λe' o m' j k1 k2=>?_⟩;simp only[dw,RTm];exact⟨m',I,j,o,g,rfl,k1,k2,h4,dT⟩
 |x::r,l,fp,i+1,e,h,p=>by simp only[RTm]at h;obtain⟨m,I,us,f,g,rfl,R,U,h4,rfl⟩:=h;obtain⟨J,f0,P,m0,aa,rfl,k2,k3,k4,k5⟩:=RTm.focus h4 (show r[i]?=some e by simpa using p);refine⟨f++J,f0,P,m0,aa,dT,by simpa using k2,k3,k4,λe' o m' j l1 l2=>?_⟩;simp only[dx,RTm];exact⟨m,_,us,f,_,rfl,R,U,k5 e' o m' j l1 l2,dT⟩
theorem RTm.snoc:∀{vs:am (am T)}{i:am bG}{fp:am Nat},RTm w ok ag vs i fp->∀{e:am T}{m:bG}{us:am Value}{f:am Nat},aaW ag m us->RTc w ok e us f->RTm w ok ag (vs++[e]) (i++[m]) (fp++f)
 |[],i,fp,h,e,m,us,f,j,l=>by simp only[RTm]at h;obtain⟨rfl,rfl⟩:=h;simp only[dg,RTm];exact⟨m,[],us,f,[],rfl,j,l,⟨rfl,rfl⟩,dT⟩
 |x::r,i,fp,h,e,m,us,f,j,l=>by simp only[RTm]at h;obtain⟨U,p,o,I,g,rfl,J,P,R,rfl⟩:=h;simp only[List.cons_append,RTm];exact⟨U,_,o,I,_,rfl,J,P,RTm.snoc R j l,dT⟩
theorem akp(x y:ByteArray):(x==y)=true↔x=y:=by obtain⟨⟨x⟩⟩:=x;obtain⟨⟨y⟩⟩:=y;show((_:aE UInt8)==_)=true↔_;simp
theorem Km{i:aA aP}{k k':Value}(h:wC i k=true)(g:wC i k'=true):∃b,du (jo i) k k'=some b/\(b=true↔k=k'):=by
 cases i with
 |none=>
  cases k<;>try (cases h;done)
  cases k'<;>try (cases g;done)
  rename_i x y;exact⟨x==y,by simp[jo,du],by rw[akp];simp⟩
 |some κ=>
  cases k<;>try (cases h;done)
  cases k'<;>try (cases g;done)
  rename_i κ1 x κ2 y;simp only[wC,decide_eq_true_eq]at h g;subst h;subst g;exact⟨x==y,by simp[jo,du],dT⟩
theorem adc{l:aA aP}{k:Value}(h:wC l k=true):∀(g:am bG) (j:Nat),(∀m∈g,wC l m.key=true)->(∀m∈g,m.key≠k)->cq (jo l) k g j=some none
 |[],j,_,_=>rfl
 |m::r,j,o,p=>by
  obtain⟨b,I,J⟩:=Km h (o m dT);unfold cq;rw[I];cases b with
  |true=>exact absurd (J.1 rfl).symm (p m dT)
  |false=>exact adc h r (j+1) (λx i=>o x (by simp[i])) (λx i=>p x (by simp[i]))
theorem ade{R:aA aP}{k:Value}(h:wC R k=true):∀(o:am bG) (j i:Nat) (m:bG),(∀m∈o,wC R m.key=true)->(o.map (·.key)).Nodup->o[i]?=some m->m.key=k->cq (jo R) k o j=some (some (j+i,m.val))
 |[],j,i,m,_,_,g,_=>by simp at g
 |x::r,j,0,m,p,_,g,hk=>by simp at g;subst g;obtain⟨b,I,J⟩:=Km h (p x dT);unfold cq;rw[I,J.2 hk.symm];rfl
 |x::r,j,i+1,m,p,P,g,hk=>by
  have l:r[i]?=some m:=by simpa using g
  simp only[aX,List.nodup_cons]at P;obtain⟨b,I,J⟩:=Km h (p x dT);unfold cq;rw[I];cases b with
  |true=>exact absurd (dH.2 ⟨m,cr l,by rw[hk,J.1 rfl]⟩) P.1
  |false=>
   rw[ade h r (j+1) i m (λy U=>p y (by simp[U])) P.2 l hk];rw[show j+1+i=j+(i+1)by omega]
theorem adX{P:Program}{g:TypeId}{i:aA aP}(hk:P.underlying g=some (jo i))(e:Bool)(n:Nat)(k:Value)(w:aB):(Instr.checkKey e (n+1) g k).run P w=.ok () w:=by unfold Instr.checkKey;cases i<;>simp[aD hk,jo]
theorem afN{P:Program}{l:TypeId}{o:aA aP}(hk:P.underlying l=some (jo o)){k:Value}(h:wC o k=true){g:am bG}(p:∀m∈g,wC o m.key=true)(J:(g.map (·.key)).Nodup)(w:aB):
 ((∀m∈g,m.key≠k)->(c6 l k g).run P w=.ok none w)/\(∀i m,g[i]?=some m->m.key=k->(c6 l k g).run P w=.ok (some (i,m.val)) w):=by
 refine⟨λr=>?_,λi m I j=>?_⟩
 .unfold c6;simp only[aZ,aD hk,aM,adc h g 0 p r];rfl
 unfold c6;simp only[aZ,aD hk,aM,ade h g 0 i m p J I j,aV];rfl
end
end Go.AM
