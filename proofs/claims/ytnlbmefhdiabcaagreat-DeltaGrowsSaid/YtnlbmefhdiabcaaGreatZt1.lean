import Derived.Shelf.Strings.Search3
import Derived.Shelf.LaysM
import Derived.Ground.NamesProg
import Derived.Test.YtnlbmefhdiabcaaGreatProg
import Derived.Tactics2
import Derived.KernelRfl
import Derived.WalkKit
import Derived.Laws.StructEq
import Derived.ChangeKeysEq
set_option linter.unusedSimpArgs false
set_option linter.unusedVariables false
set_option maxRecDepth 100000
set_option maxHeartbeats 4000000
theorem Go.ew{p:Prop}(h:p:=by simp;omega):p:=h
theorem Go.eu{p:Prop}(h:p:=by simp_all):p:=h
theorem Go.et{p:Prop}(h:p:=by decide):p:=h
theorem Go.er{p:Prop}(h:p:=by kernel_rfl):p:=h
theorem Go.ep{p:Prop}(h:p:=by simp):p:=h
theorem Go.ek{p:Prop}(h:p:=by grind):p:=h
theorem Go.ej{p:Prop}(h:p:=by omega):p:=h
open _root_ renaming List->am,Option->aA,Array->aD,cond_true->aM,if_neg->bF,if_pos->bU,cond_false->bW,congrArg->bZ,if_true->cK,if_false->dU
open Nat renaming eq_of_beq_eq_true->aB,beq->aH,zero_add->aO,mul_le_mul_right->aP,le_of_ble_eq_true->aR,add_mul->aS,lt_of_lt_of_le->aT,le_refl->aW,blt->bE,le_trans->bX,zero_mul->bY,one_mul->cC,ble->cD,zero_le->cJ,sub_zero->cR,lt_or_ge->dm,add_zero->dJ
open Go renaming Operand->aC,Builtin->aE,execOp->aF,run_underlying->aG,IntKind->bB,resolve->bD,grownCap->bG,invoke->bJ,TypeInfo->bK,setRow_other->bN,BinOp->bV,typeInfo->cc,Result->cA,setRow_heap->cH,run_firstCells_some->cL,grownCap_le_maxLen->cP,FuncId->cS,cell_of_row->cT,eqGuard->cX,zeroValue->cY,run_storeCells_at->cZ,loadCellsFrom->c8,sizeOf->dg,cell_setRow_same->dh,Field->dp,run_loadCells_list->dC,Addr->dD,loadCells->dF,run_equalIn_bool'->dG,loadVar->dK,asIntOf->dL,newRow->dM,grownCap_ge->dN,goInt->dT,Deferred->dV,storeCells->dX,growslice_fits->ef,run_part_plain->eh
open Bool renaming and_eq_true->aI,false_eq_true->cB,not_eq_true'->cG
open Go.Builtin renaming zeroCells->aJ,firstCells->aN,append_->aU,lenOf->bM,copy_->dj,nextslicecap->du,clear_->dv
open Array renaming toList_inj->aK,length_toList->bO
open List renaming replicate->aL,map_cons->aV,flatten_cons->aX,length_append->aZ,mem_of_getElem?->bA,length_take->bI,mem_cons->bL,length_cons->bP,map_append->bS,size_toArray->cE,drop_succ_cons->cM,flatten_append->cN,drop_length_add_append->cQ,exists_mem_of_ne_nil->c9,ext_getElem?->de,zipIdx_cons->dl,mem_of_mem_take->dt,replicate_succ->dx,length_pos_iff->dy,getElem_of_mem->dz,length_drop->dP,nil_append->dY,mem_append->ed
open Go.Result renaming andThen_ok->aQ
open Go.Sem renaming run_bind->aY,run_pure->bC
open Go.World renaming shape?->bH,cell?->dd
open Go.Instr renaming sureAddr->bQ,sliceBounds->bT,fill->cU,loadAt->dn,buildSlice->dQ,sliceBound->dR
open BitVec renaming ofInt->bR
open Go.Region renaming wanted->co
open Option.some renaming injEq->cF
open Go.Deferred renaming ofValue->cI
open Int renaming toNat_zero->cW
open Go.Value renaming pointer->di,int->dw
open Go.Op renaming operands->dq,equal->dI,eqFields->dW
open Go.IntKind renaming i64->dr,wrap_i64->dS
open Go.Conv renaming bytesToString->dE
open Go.Proofs renaming cell_of_shapedOpen_int->dH
open Option renaming getD_some->dO,map_some->dZ,map_none->d9
open ByteArray renaming empty->ea
open Go.Question renaming forced->eb
open Go.Oper renaming upon_enter->ee,wp->ei
namespace Go.Proofs
section
open Go.Shelf
def Tryz.laysM144_ren:Go.Shelf.Ren:=⟨fun|144=>317|143=>325|219=>335|217=>235|225=>338|224=>339|267=>340|266=>275|314=>341|n=>n,fun|9=>9|4=>4|3=>3|5=>5|46=>147|146=>206|51=>205|n=>n,fun|1=>0|n=>n⟩
theorem Tryz.laysM144:Go.Proofs.LaysM.n144 Tryz.prog Tryz.laysM144_ren:={
 mixed:=er
 f143:=Tryz.func325.trans (bZ some er)
 f144:=Tryz.func317.trans (bZ some er)
 f217:=Tryz.func235.trans (bZ some er)
 f219:=Tryz.func335.trans (bZ some er)
 f224:=Tryz.func339.trans (bZ some er)
 f225:=Tryz.func338.trans (bZ some er)
 f266:=Tryz.func275.trans (bZ some er)
 f267:=Tryz.func340.trans (bZ some er)
 f314:=Tryz.func341.trans (bZ some er)
 t3:=Tryz.underlying3
 a3:=Tryz.isAgg3
 z3:=Tryz.sizeOf3
 v3:=Tryz.zeroValue3
 t4:=Tryz.underlying4
 a4:=Tryz.isAgg4
 z4:=Tryz.sizeOf4
 v4:=Tryz.zeroValue4
 t5:=Tryz.underlying5
 a5:=Tryz.isAgg5
 z5:=Tryz.sizeOf5
 v5:=Tryz.zeroValue5
 t9:=Tryz.underlying9
 a9:=Tryz.isAgg9
 z9:=Tryz.sizeOf9
 v9:=Tryz.zeroValue9
 t46:=Tryz.underlying147
 a46:=Tryz.isAgg147
 z46:=Tryz.sizeOf147
 v46:=Tryz.zeroValue147
 t51:=Tryz.underlying205
 a51:=Tryz.isAgg205
 z51:=Tryz.sizeOf205
 v51:=Tryz.zeroValue205
 t146:=Tryz.underlying206
 a146:=Tryz.isAgg206
 z146:=Tryz.sizeOf206
 v146:=Tryz.zeroValue206
 g1:=er
 i3:=er
 i4:=er
 i5:=er
 i9:=er
 i46:=er
 i51:=er
 i146:=er
 m1:=er
 s1_3:=λw h=>dH (zero:= #[.int .i64 0]) (t:=3) h (of_decide_eq_true er) er rfl er er Tryz.underlying3}
end
end Go.Proofs
namespace Go.AM
inductive D where
 |lit (v:Value)
 |sl (l:am (am D))
 |fn (f:cS) (caps:am (am D))
inductive C where
 |dead
 |d (x:D)
 |nil
 |ptr (p off:Nat)
 |eptr (p sz i k:Nat)
 |own (p sz len:Nat)
 |sub (p sz off n:Nat)
 |fp (cells:am D)
 |clo (f:cS) (caps:am Nat)
inductive W where
 |c (x:C)
 |agg (cs:am C)
inductive V where
 |w (x:W)
 |tup (xs:am W)
inductive Pl where
 |box (cells:am C)
 |arr (sz:Nat) (els:am (am D)) (fz:Bool)
 |fbox (ds:am D)
 |gone
structure S where
 sl:am (Nat×V)
 pl:am (Nat×Pl)
def aget{a:Type}:am (Nat×a)->Nat->aA a
 |[],_=>none
 |(k,v)::r,n=>bif aH k n then some v else aget r n
def xf{a:Type}(n:Nat)(v:a):am (Nat×a)->am (Nat×a)
 |[]=> [(n,v)]
 |(k,u)::r=>bif aH k n then(n,v)::r else bif bE n k then(n,v)::(k,u)::r else(k,u)::xf n v r
def isin(n:Nat):am Nat->Bool
 |[]=>false
 |k::r=>bif aH k n then true else isin n r
def QA:Value->C
 |.slice none 0 0=>.nil
 |.bool b=>.d (.lit (.bool b))
 |.int k n=>.d (.lit (.int k n))
 |.string x=>.d (.lit (.string x))
 |.pointer none=>.d (.lit (.pointer none))
 |.map none=>.d (.lit (.map none))
 |.nilFunc=>.d (.lit .nilFunc)
 |.nilIface=>.d (.lit .nilIface)
 |_=>.dead
def ofValue:Value->W
 |.agg cs=>.agg (cs.toList.map QA)
 |v=>.c (QA v)
def awU:V:=.w (.c .dead)
def wQ:V:=.tup []
def S.tmp(s:S)(t:Nat):V:=match aget s.sl t with|some v=>v|none=>awU
def S.put(s:S)(dst:aA Tmp)(v:V):S:=
 match dst with
 |some d=>{s with sl:=xf d v s.sl}
 |none=>s
def arD:C->(C->Prop)->Prop
 |.dead,K=>K .dead
 |.d x,K=>K (.d x)
 |.nil,K=>K .nil
 |.ptr p o,K=>K (.ptr p o)
 |.eptr p z i k,K=>K (.eptr p z i k)
 |.own p z n,K=>K (.own p z n)
 |.sub p z o n,K=>K (.sub p z o n)
 |.fp l,K=>K (.fp l)
 |.clo f l,K=>K (.clo f l)
def abw:am C->(am C->Prop)->Prop
 |[],K=>K []
 |x::r,K=>arD x λx=>abw r λr=>K (x::r)
def akk:W->(W->Prop)->Prop
 |.c x,K=>arD x λx=>K (.c x)
 |.agg cs,K=>abw cs λcs=>K (.agg cs)
def agu:am W->(am W->Prop)->Prop
 |[],K=>K []
 |x::r,K=>akk x λx=>agu r λr=>K (x::r)
def akj:V->(V->Prop)->Prop
 |.w x,K=>akk x λx=>K (.w x)
 |.tup xs,K=>agu xs λxs=>K (.tup xs)
def ame:Pl->(Pl->Prop)->Prop
 |.box cs,K=>abw cs λcs=>K (.box cs)
 |.arr z g true,K=>K (.arr z g true)
 |.arr z g false,K=>K (.arr z g false)
 |.fbox i,K=>K (.fbox i)
 |.gone,K=>K .gone
def agt:am (Nat×V)->(am (Nat×V)->Prop)->Prop
 |[],K=>K []
 |(k,v)::r,K=>akj v λv=>agt r λr=>K ((k,v)::r)
def acQ:am (Nat×Pl)->(am (Nat×Pl)->Prop)->Prop
 |[],K=>K []
 |(k,v)::r,K=>ame v λv=>acQ r λr=>K ((k,v)::r)
def qo:S->(S->Prop)->Prop
 |⟨sl,pl⟩,K=>agt sl λsl=>acQ pl λpl=>K ⟨sl,pl⟩
theorem anZ(x)(K:C->Prop):arD x K=K x:=by cases x<;>rfl
theorem acP:∀(x) (K:am C->Prop),abw x K=K x
 |[],_=>rfl
 |x::r,K=>by simp only[abw,anZ,acP r]
theorem an1(x)(K:W->Prop):akk x K=K x:=by cases x<;>grind[akk,anZ,acP]
theorem akl:∀(x) (K:am W->Prop),agu x K=K x
 |[],_=>rfl
 |x::r,K=>by simp only[agu,an1,akl r]
theorem aeZ(x)(K:V->Prop):akj x K=K x:=by cases x<;>grind[akj,an1,akl]
theorem aw6(x)(K:Pl->Prop):ame x K=K x:=by
 cases x with
 |box cs=>grind[ame,acP]
 |arr z g i=>cases i<;>rfl
 |fbox j=>rfl
 |gone=>rfl
theorem aki:∀(x) (K:am (Nat×V)->Prop),agt x K=K x
 |[],_=>rfl
 |(_,_)::r,K=>by simp only[agt,aeZ,aki r]
theorem ahz:∀(x) (K:am (Nat×Pl)->Prop),acQ x K=K x
 |[],_=>rfl
 |(_,_)::r,K=>by simp only[acQ,aw6,ahz r]
theorem xY(s)(K:S->Prop):qo s K=K s:=by simp_all[qo,aki,ahz]
def axy:C->aA Value
 |.d (.lit v)=>some v
 |.nil=>some (.slice none 0 0)
 |_=>none
def aqm:am C->aA (am Value)
 |[]=>some []
 |x::r=>match axy x,aqm r with
  |some v,some l=>some (v::l)
  |_,_=>none
def aCy:W->aA Value
 |.c x=>axy x
 |.agg cs=>match aqm cs with
   |some l=>some (.agg l.toArray)
   |none=>none
def asj:V->aA Value
 |.w x=>aCy x
 |_=>none
def ab3{b:Type}(P:Program):Sem b->aA b
 |.pure a=>some a
 |.program k=>ab3 P (k P)
 |.mark _ k=>ab3 P k
 |_=>none
def isSome{a:Type}:aA a->Bool|some _=>true|none=>false
def W.cells:W->am C
 |.c x=> [x]
 |.agg cs=>cs
def C.isDead:C->Bool|.dead=>true|_=>false
def solid:am C->Bool
 |[]=>true
 |x::r=>bif x.isDead then false else solid r
def zM{a:Type}(l:am a)(off)(new):=l.take off++new++l.drop (off+new.length)
def C.kill(l:am Nat):C->C
 |.ptr q o=>bif isin q l then .dead else .ptr q o
 |.eptr q sz i k=>bif isin q l then .dead else .eptr q sz i k
 |.own q sz n=>bif isin q l then .dead else .own q sz n
 |.sub q sz o n=>bif isin q l then .dead else .sub q sz o n
 |.clo f g=>bif g.any (λq=>isin q l)then .dead else .clo f g
 |x=>x
def W.kill(l:am Nat):W->W
 |.c x=>.c (x.kill l)
 |.agg cs=>.agg (cs.map (C.kill l))
def V.kill(l:am Nat):V->V
 |.w x=>.w (x.kill l)
 |.tup xs=>.tup (xs.map (W.kill l))
def Pl.kill(l:am Nat):Pl->Pl
 |.box cs=>.box (cs.map (C.kill l))
 |x=>x
def wo{a:Type}(f:Nat->Bool):am (Nat×a)->am (Nat×a)
 |[]=> []
 |(k,v)::r=>bif f k then(k,v)::wo f r else wo f r
def ajH:am (Nat×Pl)->am (Nat×Pl)->am (Nat×Pl)
 |[],pl=>pl
 |(k,x)::r,pl=>xf k x (ajH r pl)
def aqP{a β:Type}(f:a->β):am (Nat×a)->am (Nat×β)
 |[]=> []
 |(k,v)::r=>(k,f v)::aqP f r
def S.redo(s:S)(g:am Nat)(new:am (Nat×Pl)):S:=
 {sl:=aqP (V.kill g) s.sl,pl:=ajH new (aqP (Pl.kill g) (wo (λk=>!isin k g) s.pl))}
def S.place(s:S)(p:Nat)(x):=s.redo [p] [(p,x)]
def vH(pl:am (Nat×Pl))(p:Nat):am (Nat×Pl):=
 match aget pl p with
 |some (.arr sz g _)=>xf p (.arr sz g true) pl
 |_=>pl
def VN(pl:am (Nat×Pl)):C->aA (D×am (Nat×Pl))
 |.d x=>some (x,pl)
 |.nil=>some (.sl [],pl)
 |.own p _ n=>match aget pl p with
   |some (.arr _ g _)=>some (.sl (g.take n),vH pl p)
   |_=>none
 |.clo f []=>some (.fn f [],pl)
 |_=>none
def jN(pl:am (Nat×Pl)):am C->aA (am D×am (Nat×Pl))
 |[]=>some ([],pl)
 |x::r=>match VN pl x with
  |some (y,g)=>match jN g r with
   |some (ys,i)=>some (y::ys,i)
   |none=>none
  |none=>none
def ayz(pl:am (Nat×Pl)):W->aA (W×am (Nat×Pl))
 |.c (.fp l)=>some (.c (.fp l),pl)
 |.c x=>match VN pl x with
   |some (y,g)=>some (.c (.d y),g)
   |none=>none
 |.agg cs=>match jN pl cs with
   |some (ys,g)=>some (.agg (ys.map .d),g)
   |none=>none
def ady(pl:am (Nat×Pl)):am W->aA (am W×am (Nat×Pl))
 |[]=>some ([],pl)
 |x::r=>match ayz pl x with
  |some (y,g)=>match ady g r with
   |some (ys,i)=>some (y::ys,i)
   |none=>none
  |none=>none
structure Res where
 v:V
 pl:am Pl
def C.scalar:C->Bool|.d (.lit _)=>true|_=>false
def W.scalar:W->Bool|.c x=>x.scalar|.agg cs=>cs.all C.scalar
def V.scalar:V->Bool|.w x=>x.scalar|.tup xs=>xs.all W.scalar
def ut{a:Type}:am (aA a)->Nat->aA a
 |[],_=>none
 |x::_,0=>x
 |_::r,n+1=>ut r n
def C.ren(l:am (aA Nat)):C->C
 |.ptr q o=>match ut l q with|some p=>.ptr p o|none=>.dead
 |.eptr q sz i k=>match ut l q with|some p=>.eptr p sz i k|none=>.dead
 |.own q sz k=>match ut l q with|some p=>.own p sz k|none=>.dead
 |.sub _ _ _ _=>.dead
 |.clo f []=>.clo f []
 |.clo _ _=>.dead
 |.d x=>.d x
 |.nil=>.nil
 |.fp l=>.fp l
 |.dead=>.dead
def W.ren(l:am (aA Nat)):W->W|.c x=>.c (x.ren l)|.agg cs=>.agg (cs.map (C.ren l))
def V.ren(l:am (aA Nat)):V->V|.w x=>.w (x.ren l)|.tup xs=>.tup (xs.map (W.ren l))
def Pl.ren(l:am (aA Nat)):Pl->Pl
 |.box cs=>.box (cs.map (C.ren l))
 |.arr z g j=>.arr z g j
 |.fbox i=>.fbox i
 |.gone=>.gone
def Ym:Nat->am Pl->am (Nat×Pl)
 |_,[]=> []
 |n,x::r=>(n,x)::Ym (n+1) r
def ZM:am (Nat×Pl)->am Nat
 |[]=> []
 |(k,_)::r=>k::ZM r
def yS(d):=600000+16*d
def yj:Nat->Nat->am Nat
 |_,0=> []
 |i,n+1=>i::yj (i+1) n
def Xu:am Nat->am Pl->am (aA Nat)
 |n::g,.gone::xs=>none::Xu g xs
 |n::g,_::xs=>some n::Xu g xs
 |_,_=> []
def xD:am Nat->am Pl->am (Nat×Pl)
 |_::g,.gone::xs=>xD g xs
 |n::g,x::xs=>(n,x)::xD g xs
 |_,_=> []
def Uj:Nat->am Nat->am Pl->am Nat
 |m+1,n::g,.gone::xs=>n::Uj m g xs
 |m+1,_::g,_::xs=>Uj m g xs
 |0,n::g,_::xs=>n::Uj 0 g xs
 |_,_,_=> []
def jg:am Nat->Bool
 |[]=>true
 |x::r=>!isin x r&&jg r
def agJ(s:S)(U:am Nat)(nb:Nat)(dst:aA Tmp)(r:Res):=
 (s.redo (Uj U.length (U++yj nb (r.pl.length-U.length)) r.pl)
  (xD (U++yj nb (r.pl.length-U.length)) (r.pl.map (Pl.ren (Xu (U++yj nb (r.pl.length-U.length)) r.pl))))).put dst
  (r.v.ren (Xu (U++yj nb (r.pl.length-U.length)) r.pl))
def Ky(U:am Nat)(nb:Nat)(r:Res):=jg (ZM (xD (U++yj nb (r.pl.length-U.length)) r.pl))
def axR(s g:S)(dst:aA Tmp)(r:Res):S:=
 match dst with
 |some d=>bif r.v.scalar then s.put (some d) r.v
  else agJ g [] (yS d) (some d) r
 |none=>s
def idx(p:Nat):am Nat->aA Nat
 |[]=>none
 |k::r=>bif aH k p then some 0 else match idx p r with|some i=>some (i+1)|none=>none
def C.pk(pl:am (Nat×Pl))(U:am Nat):C->C
 |.own p z n=>match aget pl p with
   |some (.arr _ _ false)=>match idx p U with|some k=>.own k z n|none=>.dead
   |some (.arr _ g true)=>.d (.sl (g.take n))
   |_=>.dead
 |.ptr p o=>match aget pl p with
   |some (.box _)=>match idx p U with|some k=>.ptr k o|none=>.dead
   |some (.fbox i)=>.fp (i.drop o)
   |_=>.dead
 |.d x=>.d x
 |.nil=>.nil
 |.clo f []=>.d (.fn f [])
 |.fp l=>.fp l
 |_=>.dead
def W.pk(pl:am (Nat×Pl))(U:am Nat):W->W|.c x=>.c (x.pk pl U)|.agg cs=>.agg (cs.map (C.pk pl U))
def V.pk(pl:am (Nat×Pl))(U:am Nat):V->V|.w x=>.w (x.pk pl U)|.tup xs=>.tup (xs.map (W.pk pl U))
def aaT(pl:am (Nat×Pl))(U:am Nat)(k p:Nat):Pl:=
 match idx p U with
 |some i=>bif aH i k then
  match aget pl p with
  |some (.box cs)=>.box (cs.map (C.pk pl U))
  |some (.arr z g false)=>.arr z g false
  |_=>.gone
  else .gone
 |none=>.gone
def ZO(pl:am (Nat×Pl))(U:am Nat):Nat->am Nat->am Pl
 |_,[]=> []
 |k,p::r=>aaT pl U k p::ZO pl U (k+1) r
def C.refs:C->am Nat
 |.ptr p _=> [p]
 |.eptr p _ _ _=> [p]
 |.own p _ _=> [p]
 |.sub p _ _ _=> [p]
 |.clo _ g=>g
 |_=> []
def ab7:am C->am Nat
 |[]=> []
 |x::r=>x.refs++ab7 r
def W.refs:W->am Nat
 |.c x=>x.refs
 |.agg cs=>ab7 cs
def Xz:am W->am Nat
 |[]=> []
 |x::r=>x.refs++Xz r
def V.refs:V->am Nat
 |.w x=>x.refs
 |.tup xs=>Xz xs
def wT(pl:am (Nat×Pl)):am Nat->am Nat->am Nat
 |U,[]=>U
 |U,p::r=>match aget pl p with
  |some (.box _)=>bif isin p U then wT pl U r else wT pl (U++[p]) r
  |some (.arr _ _ false)=>bif isin p U then wT pl U r else wT pl (U++[p]) r
  |_=>wT pl U r
def at?:am Nat->Nat->aA Nat
 |[],_=>none
 |x::_,0=>some x
 |_::r,n+1=>at? r n
def Kl(pl:am (Nat×Pl)):Nat->Nat->am Nat->am Nat
 |0,_,U=>U
 |n+1,i,U=>match at? U i with
  |some p=>match aget pl p with
   |some (.box cs)=>Kl pl n (i+1) (wT pl U (ab7 cs))
   |_=>Kl pl n (i+1) U
  |none=>U
def u7(pl)(U l):=Kl pl 40 0 (wT pl U l)
def aGS(pl:am (Nat×Pl))(U:am Nat)(v:V):Res:=⟨v.pk pl U,ZO pl U 0 U⟩
def axK(pl)(U)(v):=aGS pl (u7 pl U v.refs) v
mutual
def RD(w:World)(ok:Nat->Prop):D->Value->Prop
 |.lit v,x=>x=v/\v.oneCell'=true
 |.sl l,x=>∃a n c,x=.slice a n c/\n=l.length/\n<=c/\c<=maxLen/\(l=[]\/∃b o sz,a=some ⟨b,o,none⟩/\ok b/\RDs w ok b sz o l)
 |.fn f g,x=>∃vs:am Value,x=.func (.func f) #[] vs.toArray/\RDf w ok vs g
def RDs(w:World)(ok:Nat->Prop)(b sz:Nat):Nat->am (am D)->Prop
 |_,[]=>True
 |o,e::r=>e.length=sz/\RDc w ok b o e/\RDs w ok b sz (o+sz) r
def RDc(w:World)(ok:Nat->Prop)(b:Nat):Nat->am D->Prop
 |_,[]=>True
 |o,d::r=>(∃v,w.cell? ⟨b,o,none⟩=some v/\RD w ok d v)/\RDc w ok b (o+1) r
def RDf(w:World)(ok:Nat->Prop):am Value->am (am D)->Prop
 |vs,[]=>vs=[]
 |vs,c::r=>∃b o g,vs=.pointer (some ⟨b,o,none⟩)::g/\ok b/\RDc w ok b o c/\RDf w ok g r
end
structure Gh where
 b:aA Nat
 n:Nat
def CR(B:Nat->Gh)(w:World)(ok:Nat->Prop):C->Value->Prop
 |.dead,_=>True
 |.d x,v=>RD w ok x v
 |.nil,v=>v=.slice none 0 0
 |.ptr p off,v=>∃b,(B p).b=some b/\v=.pointer (some ⟨b,off,none⟩)
 |.eptr p sz i k,v=>∃b,(B p).b=some b/\v=.pointer (some ⟨b,i*sz+k,none⟩)
 |.own p sz n,v=>((B p).b=none/\n=0/\v=.slice none 0 0)\/
  ∃b cap t,(B p).b=some b/\n<=(B p).n/\v=.slice (some ⟨b,0,none⟩) n cap/\n<=cap/\cap<=maxLen/\w.shape? b=some (t,cap*sz)
 |.sub p sz off n,v=>∃j c,v=.slice j n c/\n<=c/\c<=maxLen/\(n=0\/∃b,(B p).b=some b/\j=some ⟨b,off*sz,none⟩/\off+n<=(B p).n)
 |.fp cells,v=>∃b o,v=.pointer (some ⟨b,o,none⟩)/\ok b/\RDc w ok b o cells
 |.clo f g,v=>∃l:am Nat,g.map (λp=>(B p).b)=l.map some/\v=.func (.func f) #[] (l.map λb=>di (some ⟨b,0,none⟩)).toArray
def CRs(B:Nat->Gh)(w:World)(ok:Nat->Prop):am C->am Value->Prop
 |[],[]=>True
 |c::cs,v::vs=>CR B w ok c v/\CRs B w ok cs vs
 |_,_=>False
def WR(B:Nat->Gh)(w:World)(ok:Nat->Prop):W->Value->Prop
 |.c x,v=>CR B w ok x v
 |.agg cs,v=>∃vs:am Value,v=.agg vs.toArray/\CRs B w ok cs vs
def qN(B:Nat->Gh)(w:World)(ok:Nat->Prop):am W->am Value->Prop
 |[],[]=>True
 |c::cs,v::vs=>WR B w ok c v/\qN B w ok cs vs
 |_,_=>False
def VR(B:Nat->Gh)(w:World)(ok:Nat->Prop):V->Value->Prop
 |.w x,v=>WR B w ok x v
 |.tup xs,v=>∃vs:am Value,v=.tuple vs.toArray/\qN B w ok xs vs
def RowAt(w:World)(b:Nat)(g):=∃t,w.heap[b]?=some (.cells g t (0,0))
def PR(B:Nat->Gh)(w:World)(ok:Nat->Prop)(p:Nat):Pl->Prop
 |.box cs=>∃b g,(B p).b=some b/\RowAt w b g/\CRs B w ok cs g.toList
 |.arr sz i j=>0<sz/\i.length=(B p).n/\(((B p).b=none/\i=[])\/
  ∃b,(B p).b=some b/\RDs w ok b sz 0 i/\(j=true->ok b)/\(j=false->∃g,RowAt w b g/\i.length*sz<=g.size))
 |.fbox l=>∃b,(B p).b=some b/\ok b/\RDc w ok b 0 l
 |.gone=>False
def Pl.live:Pl->Bool
 |.box _=>true
 |.arr _ _ g=>!g
 |.fbox _=>false
 |.gone=>false
def Owns(B:Nat->Gh)(pl:am (Nat×Pl))(b):=∃p x,aget pl p=some x/\x.live=true/\(B p).b=some b
structure Fr where
 w0:World
 A:Nat->Prop
 M:Nat->Prop
 h:Nat->aA Gh
def Fr.ok(F:Fr)(B:Nat->Gh)(pl:am (Nat×Pl))(w:World)(b):=
 (F.A b\/F.M b\/F.w0.heap.size<=b)/\b<w.heap.size/\¬Owns B pl b
def Out(w w':World):=w'.output=w.output/\w.drawn<=w'.drawn
theorem Out.refl(w):Out w w:=⟨rfl,aW _⟩
theorem Out.trans{a b c}(k:Out b c)(h:Out a b):Out a c:=⟨k.1.trans h.1,bX h.2 k.2⟩
structure Grows(M:Nat->Prop)(w w':World):Prop where
 os:w'.os=w.os
 tape:w'.tape=w.tape
 output:Out w w'
 size:w.heap.size<=w'.heap.size
 block:∀b,b<w.heap.size->¬M b->w'.heap[b]?=w.heap[b]?
 shapes:∀b t m,w.shape? b=some (t,m)->w'.shape? b=some (t,m)
def gl(k):=bE k 1
def Glb(A:Nat->Prop)(w:World):=∀k,gl k=true->A k/\∃m,w.cell? ⟨k,0,none⟩=some (.int .i64 m)
structure Rel(F:Fr)(N:Nat)(B:Nat->Gh)(s:S)(a:Act)(w:World):Prop where
 room:N<=a.tmps.size/\∀g,F.h 599999=some g->a.tmps.size=g.n
 slots:∀k v,aget s.sl k=some v->∃x,a.tmps[k]?=some x/\VR B w (F.ok B s.pl w) v x
 places:∀p x,aget s.pl p=some x->PR B w (F.ok B s.pl w) p x
 inj:∀p q x y b,aget s.pl p=some x->aget s.pl q=some y->p≠q->x.live=true->(B p).b=some b->(B q).b≠some b
 mine:∀b,Owns B s.pl b->(F.M b\/F.w0.heap.size<=b)/\b<w.heap.size
 defers:a.defers=[]
 grows:Grows F.M F.w0 w
 foreign:∀b,F.A b->b<F.w0.heap.size/\¬F.M b
 handed:(∀b,F.M b->b<F.w0.heap.size)/\Glb F.A F.w0
 few:N<=5000
 hdom:∀p g,F.h p=some g->100000<=p/\p<600000
 hkeep:∀p x g,aget s.pl p=some x->F.h p=some g->B p=g
def VO(s t):=∀(F:Fr) (N:Nat) (B:Nat->Gh) (a:Act) (w:World),Rel F N B s a w->∃ι',Rel F N ι' t a w
theorem VO.refl(s):VO s s:=λ_ _ B _ _ h=>⟨B,h⟩
theorem VO.trans{s t u}(h:VO s t)(k:VO t u):VO s u:=λF N B a w hr=>let⟨ι1,g⟩:=h F N B a w hr;k F N ι1 a w g
def aqx(F:Fr)(ι0:Nat->Gh)(m:Nat)(w':World)(r:Res)(v):=
 m<=r.pl.length/\∃B:Nat->Gh,
  let pl:=xD (yj 0 r.pl.length) r.pl
  let ok:=F.ok B pl w'
  VR B w' ok r.v v/\(∀p x,aget pl p=some x->PR B w' ok p x)/\(∀p q x y b,aget pl p=some x->aget pl q=some y->p≠q->(B p).b=some b->(B q).b≠some b)/\
  (∀p x b,aget pl p=some x->(B p).b=some b->F.M b\/F.w0.heap.size<=b)/\(∀p x,aget pl p=some x->x.live=true)/\(∀p x,p<m->aget pl p=some x->B p=ι0 p)
def acp(F)(w')(r)(v):=aqx F (λ_=>⟨none,0⟩) 0 w' r v
def qT(P:Program)(k:Nat):Bool:=
 match P.funcs[k]? with
 |some fn=>fn.body.isSome&& !(fn.name== "runtime.NumGoroutine")
 |none=>false
def Sat(P:Program)(k:Nat)(args:am W)(Q:Res->Prop):=
 qT P k=true/\∀(w:World) (A:Nat->Prop) (g:am Value),((∀b,A b->b<w.heap.size)/\Glb A w)->qN (λ_=>⟨none,0⟩) w A args g->
  Calls P k g.toArray w λe w'=>∃v r,e=.returned v/\Q r/\acp ⟨w,A,λ_=>False,λ_=>none⟩ w' r v/\Grows (λ_=>False) w w'
theorem Sat.mono{P}{k}{args}{Q i:Res->Prop}(h:Sat P k args Q)(J:∀r,Q r->i r):Sat P k args i:=
 ⟨h.1,λw A g j l=>(h.2 w A g j l).mono λ_ _ ⟨v,r,I,o,p⟩=>⟨v,r,I,J r o,p⟩⟩
def Handed(B:Nat->Gh)(hs:am Pl)(b):=∃i x,hs[i]?=some x/\(B i).b=some b
def zH(P:Program)(k:Nat)(args:am W)(hs:am Pl)(Q:Res->Prop):=
 qT P k=true/\∀(w:World) (A:Nat->Prop) (B:Nat->Gh) (g:am Value),(∀b,A b->b<w.heap.size/\¬Handed B hs b)->((∀b,Handed B hs b->b<w.heap.size)/\Glb A w)->
  (∀i x,hs[i]?=some x->PR B w A i x/\x.live=true)->(∀i j x y b,hs[i]?=some x->hs[j]?=some y->i≠j->(B i).b=some b->(B j).b≠some b)->qN B w A args g->
  Calls P k g.toArray w λe w'=>∃v r,e=.returned v/\Q r/\aqx ⟨w,A,Handed B hs,λ_=>none⟩ B hs.length w' r v/\Grows (Handed B hs) w w'
theorem zH.mono{P}{k}{args}{hs}{Q i:Res->Prop}(h:zH P k args hs Q)(U:∀r,Q r->i r):zH P k args hs i:=
 ⟨h.1,λw A B g j l o p I=>(h.2 w A B g j l o p I).mono λ_ _ ⟨v,r,T,J,R⟩=>⟨v,r,T,U r J,R⟩⟩
inductive O where
 |t (n:Nat)
 |k (v:V)
inductive AOp where
 |mov (x:O)
 |pick (c a b:O)
 |alloc (cs:am C)
 |bx (x:O)
 |build (zero:am C) (parts:am (Nat×Nat×O))
 |lits (sz:Nat) (parts:am O)
 |ld (agg:Bool) (sz:Nat) (x:O)
 |st (sz:Nat) (a x:O)
 |nc (x:O)
 |b2s (x:O)
 |s2b (x:O)
 |clo (f:Nat) (caps:am O)
 |clof (f:Nat) (caps:am O)
 |slen (x:O)
 |cap (x:O)
 |cpy (sz:Nat) (x y:O)
 |clr (sz:Nat) (z:am D) (x:O)
 |slw (sz:Nat) (x:O) (lo hi:aA O)
 |bnot (x:O)
 |ineg (x:O)
 |beq (neg:Bool) (x y:O)
 |shf (left:Bool) (x y:O)
 |stop
 |conv (k:bB) (x:O)
 |eqa (neg:Bool) (ks:am Nat) (x y:O)
 |callh (f:Nat) (args:am O)
 |mk (sz bytes:Nat) (z:am D) (n c:O)
 |sli (sz:Nat) (x:O) (lo hi:aA O)
 |sls (x:O) (lo hi:aA O)
 |fa (off:Nat) (x:O)
 |fld (agg:Bool) (sz off:Nat) (x:O)
 |ia (sz:Nat) (x i:O)
 |six (x i:O)
 |ext (x:O) (i:Nat)
 |len (x:O)
 |app (sz bytes:Nat) (x y:O)
 |apps (x y:O)
 |appz (sz bytes:Nat) (z:am D) (x n:O)
 |bin (o:bV) (x y:O)
 |isn (neg:Bool) (x:O)
 |mm (mx:Bool) (x y:O)
 |pure (o:Op) (ty:TypeId)
 |call (f:Nat) (args:am O)
 |calv (x:O) (args:am O)
inductive AI where
 |mk (dst:aA Nat) (g:aA (Nat×Bool)) (isG:Bool) (op:AOp) (drop:am Nat)
inductive ATr where
 |fin
 |run (ops:am AI) (t:ATr)
 |br (a b:ATr)
inductive ACode where
 |skip
 |reg (ops:am AI)
 |seq (a b:ACode)
 |cond (c:O) (a b:ACode)
 |block (id:Nat) (a:ACode)
 |loop (keep:am Nat) (a:ACode)
 |scope (a:ACode)
 |exit (id:Nat)
 |ret
 |tree (t:ATr)
inductive ARes where
 |tmp (t:Nat)
 |cell (a:Nat) (agg:Bool) (sz:Nat)
structure AFun where
 code:ACode
 res:am ARes
def ya(P:Program)(t:TypeId):Nat:=match P.info? t with|some i=>i.size|none=>0
def jy(P:Program)(t:TypeId):Nat:=match P.info? t with|some i=>i.bytes|none=>0
def aa5(P:Program)(t:TypeId):aA Bool:=match P.underlying t with|some (.struct _)=>some true|some (.array _ _)=>some true|some _=>some false|none=>none
def uh(P:Program)(t:TypeId):W:=match P.info? t with|some i=>(match i.zero with|some v=>ofValue v|none=>.c .dead)|none=>.c .dead
def uG(P:Program)(t:TypeId):aA TypeId:=match P.underlying t with|some (.slice e)=>some e|_=>none
def kN(P:Program)(t:TypeId)(f:Nat):aA (Nat×TypeId):=
 match P.underlying t with
 |some (.struct g)=>match g[f]? with|some x=>some (x.offset,x.type)|none=>none
 |_=>none
def wO(P:Program)(t:TypeId)(s:Bool):Bool:=
 match P.underlying t with
 |some .string=>s
 |some (.slice e)=>match P.underlying e with|some (.int .u8)=>!s|_=>false
 |_=>false
def akp(P:Program):am dp->Bool
 |[]=>true
 |f::r=>bif isSome (P.info? f.type)then akp P r else false
def amg(P:Program)(t:TypeId):Bool:=match P.info? t with|some i=>isSome i.zero|none=>false
def jB(P:Program)(t:TypeId):Bool:=match P.info? t with|some i=>(match i.zero with|some z=>aH z.cells.size i.size|none=>false)|none=>false
def agx(P:Program)(t:TypeId):Bool:=
 match P.underlying t with
 |some (.int _)=>true
 |some .string=>true
 |_=>false
def adg:bV->Bool
 |.quo=>true|.rem=>true|.and=>true|.or=>true|.xor=>true|.andNot=>true
 |.add=>true|.sub=>true|.mul=>true|.eql=>true|.neq=>true|.lss=>true|.leq=>true|.gtr=>true|.geq=>true
 |_=>false
def ab2(P:Program)(b:bV)(t:TypeId)(y:aC):aA Bool:=
 match y with
 |.const (.slice none _ _)=>match P.underlying t with
   |some (.slice _)=>match b with
    |.eql=>some false
    |.neq=>some true
    |_=>none
   |_=>none
 |_=>none
def cO:aC->O
 |.tmp t=>.t t
 |.const v=>.k (.w (ofValue v))
 |.global _=>.k awU
 |.func f=>.k (.w (.c (.clo f [])))
def agr(P:Program)(t:TypeId):aA Nat:=
 match P.underlying t with
 |some (.int _)=>some 0
 |some .string=>some 1
 |some .bool=>some 2
 |_=>none
def agq(P:Program):Nat->am dp->aA (am Nat)
 |_,[]=>some []
 |o,f::r=>bif aH f.offset o&& !(f.name== "_")&&P.plainKey f.type then
  match agr P f.type,agq P (o+1) r with
  |some k,some l=>some (k::l)
  |_,_=>none
  else none
def aEl(P:Program)(t:TypeId):aA (am Nat):=
 match P.underlying t with
 |some (.struct g)=>bif !P.stoodInHeld t&&!P.eqGuardType P.depth t then agq P 0 g.toList else none
 |_=>none
def gv(P:Program)(b:bV)(t:TypeId)(x y:aC):aA AOp:=
 match aEl P t with
 |some n=>match b with
  |.eql=>some (.eqa false n (cO x) (cO y))
  |.neq=>some (.eqa true n (cO x) (cO y))
  |_=>none
 |none=>none
def aas(P:Program)(b:UnOp)(t:TypeId)(x:aC):aA AOp:=
 match b with
 |.not=>some (.bnot (cO x))
 |.neg=>match P.underlying t with|some (.int _)=>some (.ineg (cO x))|_=>none
 |_=>none
def J3(P:Program)(b:bV)(t:TypeId)(x y:aC):aA AOp:=
 match b with
 |.eql=>match P.underlying t with|some .bool=>some (.beq false (cO x) (cO y))|_=>none
 |.neq=>match P.underlying t with|some .bool=>some (.beq true (cO x) (cO y))|_=>none
 |.shl=>match P.underlying t with|some (.int _)=>some (.shf true (cO x) (cO y))|_=>none
 |.shr=>match P.underlying t with|some (.int _)=>some (.shf false (cO x) (cO y))|_=>none
 |_=>none
def UT(P:Program)(g dst:TypeId)(x:aC):aA AOp:=
 match P.underlying g with
 |some (.int _)=>match P.underlying dst with
  |some (.int k)=>some (.conv k (cO x))
  |_=>none
 |_=>none
def gU(P:Program)(t:TypeId)(x:aC):aA AOp:=
 match P.underlying t with
 |some .string=>some (.slen (cO x))
 |_=>none
def U6{a:Type}(c:Bool)(x:a):=bif c then some x else none
def aex(P:Program)(t:TypeId):am (Nat×aC)->aA (am (Nat×Nat×O))
 |[]=>some []
 |(i,x)::r=>match kN P t i,aex P t r with
  |some (off,g),some l=>some ((off,ya P g,cO x)::l)
  |_,_=>none
def abz:Nat->am (Nat×aC)->Bool
 |_,[]=>true
 |i,(j,_)::r=>aH i j&&abz (i+1) r
def aft(b:aE)(l:am aC):aA AOp:=
 match b with
 |.min=>match l with|[x,y]=>some (.mm false (cO x) (cO y))|_=>none
 |.max=>match l with|[x,y]=>some (.mm true (cO x) (cO y))|_=>none
 |_=>none
def J6(P:Program)(b:aE)(l:am aC)(g:am TypeId):aA AOp:=
 match b with
 |.cap=>match l,g with
   |[x],[t]=>match uG P t with
     |some _=>some (.cap (cO x))
     |none=>none
   |_,_=>none
 |.copy=>match l,g with
   |[x,y],[t,u]=>match uG P t,P.underlying u with
     |some e,some (.slice _)=>U6 (bE 0 (ya P e)&&jB P e) (.cpy (ya P e) (cO x) (cO y))
     |_,_=>none
   |_,_=>none
 |.clear=>match l,g with
   |[x],[t]=>match uG P t with
     |some e=>match jN [] (uh P e).cells with
      |some (z,_)=>U6 (bE 0 (ya P e)&&aH z.length (ya P e)&&jB P e) (.clr (ya P e) z (cO x))
      |none=>none
     |none=>none
   |_,_=>none
 |_=>none
def cOp(P:Program)(op:Op)(ty:TypeId):aA AOp:=
 match op with
 |.move x=>some (.mov (cO x))
 |.assign x=>some (.mov (cO x))
 |.pick c a b=>some (.pick (cO c) (cO a) (cO b))
 |.alloc t=>some (.alloc (uh P t).cells)
 |.box _ x=>some (.bx (cO x))
 |.build t parts=>match P.underlying t,aex P t parts.toList with
   |some (.struct J),some l=>U6 (akp P J.toList&&solid (uh P t).cells) (.build (uh P t).cells l)
   |_,_=>none
 |.buildSlice t n parts=>match uG P t with
   |some e=>U6 (bE 0 (ya P e)&&aH n parts.toList.length&&cD (n*ya P e) 16777216&&abz 0 parts.toList&&amg P e) (.lits (ya P e) (parts.toList.map λx=>cO x.2))
   |none=>none
 |.load t a=>match aa5 P t with|some g=>some (.ld g (ya P t) (cO a))|none=>none
 |.store t a x=>U6 (isSome (P.info? t)) (.st (ya P t) (cO a) (cO x))
 |.nilCheck x=>some (.nc (cO x))
 |.convert j dst x=>bif wO P j false&&wO P dst true then some (.b2s (cO x))else bif wO P j true&&wO P dst false then some (.s2b (cO x))else match UT P j dst x with
   |some z=>some z
   |none=>some (.pure op ty)
 |.makeFunc (.func f) first o=>U6 first.toList.isEmpty (.clo f (o.toList.map cO))
 |.makeSlice t n c=>match uG P t with
   |some e=>match jN [] (uh P e).cells with
    |some (z,_)=>U6 (bE 0 (ya P e)&&aH z.length (ya P e)) (.mk (ya P e) (jy P e) z (cO n) (cO c))
    |none=>none
   |none=>none
 |.slice t x I r R=>match R,P.underlying t with
   |none,some .string=>some (.sls (cO x) (I.map cO) (r.map cO))
   |none,some (.slice e)=>U6 (isSome (P.info? e)) (.sli (ya P e) (cO x) (I.map cO) (r.map cO))
   |_,_=>none
 |.fieldAddr t x f=>match kN P t f with
   |some (off,p)=>U6 (bE 0 (ya P p)) (.fa off (cO x))
   |none=>none
 |.field t x f=>match kN P t f with
   |some (off,p)=>match aa5 P p with|some g=>some (.fld g (ya P p) off (cO x))|none=>none
   |none=>none
 |.indexAddr t x i=>match uG P t with
   |some e=>U6 (bE 0 (ya P e)) (.ia (ya P e) (cO x) (cO i))
   |none=>none
 |.index t x i=>match P.underlying t with
   |some .string=>some (.six (cO x) (cO i))
   |_=>none
 |.extract x i=>some (.ext (cO x) i)
 |.call {callee:=.builtin .len,args,argTypes}=>match args.toList,argTypes.toList with
   |[x],[t]=>match uG P t with
     |some _=>some (.len (cO x))
     |none=>match gU P t x with
      |some z=>some z
      |none=>some (.pure op ty)
   |_,_=>none
 |.call {callee:=.builtin .append,args,argTypes}=>match args.toList,argTypes.toList with
   |[x,y],[t,u]=>match uG P t,P.underlying u with
     |some e,some (.slice _)=>U6 (bE 0 (ya P e)&&jB P e) (.app (ya P e) (jy P e) (cO x) (cO y))
     |some e,some (.int _)=>match jN [] (uh P e).cells with
      |some (z,_)=>U6 (bE 0 (ya P e)&&aH z.length (ya P e)&&jB P e) (.appz (ya P e) (jy P e) z (cO x) (cO y))
      |none=>none
     |some e,some .string=>U6 (aH (ya P e) 1&&aH (jy P e) 1&&jB P e) (.apps (cO x) (cO y))
     |_,_=>none
   |_,_=>none
 |.call {callee:=.value (.func f),args,argTypes:=_}=>some (.call f (args.toList.map cO))
 |.call {callee:=.value x,args,argTypes:=_}=>some (.calv (cO x) (args.toList.map cO))
 |.call {callee:=.builtin b,args,argTypes}=>match aft b args.toList with
   |some x=>some x
   |none=>match J6 P b args.toList argTypes.toList with
    |some x=>some x
    |none=>some (.pure op ty)
 |.binOp b t x y _=>match ab2 P b t y with
   |some neg=>some (.isn neg (cO x))
   |none=>match gv P b t x y with
    |some z=>some z
    |none=>match J3 P b t x y with
    |some z=>some z
    |none=>bif adg b&&agx P t then some (.bin b (cO x) (cO y))else some (.pure op ty)
 |.unOp b t x=>match aas P b t x with
   |some z=>some z
   |none=>some (.pure op ty)
 |.select _ _=>none
 |_=>some .stop
def u4:am Oper->am Nat
 |[]=> []
 |o::r=>match o.guard with
  |some (j,_)=>bif isin j (u4 r)then u4 r else j::u4 r
  |none=>u4 r
def aqj(ops:am Oper)(j:Nat):aA Tmp:=match ops[j]? with|some o=>o.dst|none=>none
def Y9(all:am Oper)(g:aA (Nat×Bool)):aA (aA (Nat×Bool)):=
 match g with
 |none=>some none
 |some (j,w)=>match aqj all j with
  |some d=>some (some (d,w))
  |none=>none
def aqk(N:Nat):aA Tmp->Bool
 |some d=>bE d N
 |none=>true
def aBK(P:Program)(op:Op)(ty:TypeId):aA AOp:=
 match op with
 |.makeFunc (.func f) first g=>U6 first.toList.isEmpty (.clof f (g.toList.map cO))
 |.call {callee:=.value (.func f),args,argTypes:=_}=>some (.callh f (args.toList.map cO))
 |.slice t x j i none=>match P.underlying t with
   |some (.slice e)=>U6 (isSome (P.info? e)) (.slw (ya P e) (cO x) (j.map cO) (i.map cO))
   |_=>cOp P op ty
 |op=>cOp P op ty
def WT(P)(b)(op)(ty):=bif b then aBK P op ty else cOp P op ty
def Qa(P:Program)(N:Nat)(hs:am Nat)(all:am Oper)(gs:am Nat):am Nat->aA (am AI)
 |[]=>some []
 |i::r=>match all[i]? with
  |some o=>bif aqk N o.dst then
   match WT P (isin i hs) o.op o.type,Y9 all o.guard,Qa P N hs all gs r with
   |some x,some g,some l=>some (.mk o.dst g (isin i gs) x []::l)
   |_,_,_=>none
   else none
  |none=>none
def AOp.quiet:AOp->Bool
 |.mov _=>true|.pick _ _ _=>true|.ld _ _ _=>true|.nc _=>true|.b2s _=>true|.sli _ _ _ _=>true|.sls _ _ _=>true|.fa _ _=>true|.fld _ _ _ _=>true
 |.ia _ _ _=>true|.six _ _=>true|.ext _ _=>true|.len _=>true|.bin _ _ _=>true|.pure _ _=>true|.build _ _=>true|.isn _ _=>true|.mm _ _ _=>true
 |.slen _=>true|.bnot _=>true|.ineg _=>true|.beq _ _ _=>true|.shf _ _ _=>true|.conv _ _=>true|.eqa _ _ _ _=>true
 |_=>false
def AOp.reads:AOp->Bool
 |.ld _ _ _=>true|.b2s _=>true
 |_=>false
def Xj:AOp->Bool
 |.call _ _=>true|.calv _ _=>true|.bx _=>true|.lits _ _=>true|.mk _ _ _ _ _=>true|.s2b _=>true
 |_=>false
def ae4(o:Oper):AOp->Bool
 |.alloc cs=>solid cs&&!isSome o.guard&&isSome o.dst
 |_=>false
def K3(P:Program)(o:Oper):Nat:=
 match cOp P o.op o.type with
 |some x=>bif x.quiet then(bif x.reads then 2 else 1)else bif Xj x then 3 else bif ae4 o x then 4 else 0
 |none=>0
def clsAt(P:Program)(hs:am Nat)(ops:aD Oper)(j:Nat):Nat:=bif isin j hs then 0 else match ops[j]? with|some o=>bif aH (K3 P o) 4&&isin 999999 hs then 3 else K3 P o|none=>0
def alQ{a:Type}(f:a->Bool):am a->Bool|[]=>false|x::r=>bif f x then true else alQ f r
def YQ{a:Type}(f:a->Bool):am a->Bool|[]=>true|x::r=>bif f x then YQ f r else false
def ayh(ops:aD Oper)(d:aA Tmp)(o:Oper):Bool:=
 match d with
 |some t=>!isin t (o.looksAt ops)&&(match o.dst with|some e=>!Nat.beq e t|none=>true)
 |none=>true
def aqS(ops:aD Oper)(x y:Oper):=ayh ops x.dst y&&(match y.dst with|some e=>!isin e (x.looksAt ops)|none=>true)
def waitsFor(ops:aD Oper)(j:Nat)(f:Nat->Bool):Bool:=match ops[j]? with|some o=>alQ (λe=>Region.binds .any e&&f e.on) o.after.toList|none=>true
def dstOf(ops:aD Oper)(j:Nat):aA Tmp:=match ops[j]? with|some o=>o.dst|none=>none
def au3(P:Program)(hs:am Nat)(ops:aD Oper)(o:Oper)(c j:Nat):Bool:=match ops[j]? with|some y=>aqS ops o y&&(aH c 1||cD 1 (clsAt P hs ops j))|none=>false
def depsL(P:Program)(hs:am Nat)(ops:aD Oper)(i:Nat):am Nat->am Nat->am Nat
 |[],T=>T
 |j::r,T=>depsL P hs ops i r (bif !Nat.beq (clsAt P hs ops j) 4&&waitsFor ops j (λn=>aH n i||isin n T)then j::T else T)
def gF(P:Program)(hs:am Nat)(ops:aD Oper)(i:Nat)(r:am Nat):Bool:=
 match ops[i]? with
 |none=>false
 |some o=>
  !isin i r&&YQ (λe=>!Region.binds .any e||(bE e.on ops.size&&!isin e.on (i::r))) o.after.toList&&
  YQ (λj=>!Nat.beq (clsAt P hs ops j) 4||ayh ops (dstOf ops j) o) r&&
  (bif aH (clsAt P hs ops i) 1||aH (clsAt P hs ops i) 2 then YQ (λj=>isin j (depsL P hs ops i r [])||au3 P hs ops o (clsAt P hs ops i) j) r
   else YQ (λj=>aH (clsAt P hs ops j) 4||waitsFor ops j (λn=>isin n (i::r)&&(aH n i||!Nat.beq (clsAt P hs ops n) 4))) r)
def ac9(P:Program)(hs:am Nat)(ops:aD Oper):am Nat->Bool
 |[]=>true
 |i::r=>bif gF P hs ops i r then ac9 P hs ops r else false
def UU(P:Program)(hs:am Nat)(ops:aD Oper):am Nat->Bool
 |[]=>true
 |i::r=>bif aH (clsAt P hs ops i) 4 then YQ (λj=>!Nat.beq (clsAt P hs ops j) 4) r else UU P hs ops r
def afw(P)(hs)(ops)(g):=
 P.follows .mixedOrders&&YQ (λi=>isin i g) (yj 0 ops.size)&&cD g.length ops.size&&UU P hs ops g&&ac9 P hs ops g
def wV(ords:am (Nat×am Nat))(id:Nat):am Nat:=match aget ords (1000000+id)with|some l=>l|none=> []
inductive Tr where
 |fin
 |run (l:am Nat) (t:Tr)
 |br (a b:Tr)
def aEp:Nat->am Nat->am Nat
 |n+1,x::r=>x::aEp n r
 |_,_=> []
def aEh:Nat->am Nat->am Nat
 |n+1,_::r=>aEh n r
 |_,l=>l
def arp:Nat->am Nat->aA (Tr×am Nat)
 |0,_=>none
 |_+1,[]=>none
 |n+1,c::r=>match c with
  |0=>some (.fin,r)
  |1=>match r with
   |k::g=>match arp n (aEh k g)with
    |some (t,i)=>some (.run (aEp k g) t,i)
    |none=>none
   |[]=>none
  |_=>match arp n r with
   |some (a,g)=>match arp n g with
    |some (b,i)=>some (.br a b,i)
    |none=>none
   |none=>none
def QB(i:Nat):am Nat->am Nat
 |[]=> []
 |x::r=>bif aH x i then QB i r else x::QB i r
def aGz:am Nat->Bool|[]=>true|_::_=>false
def ada(P:Program)(hs:am Nat)(ops:aD Oper):am Nat->am Nat->(am Nat->Bool)->Bool
 |[],rest,f=>f rest
 |i::l,rest,f=>bif isin i rest&&gF P hs ops i (QB i rest)then ada P hs ops l (QB i rest) f else false
def afJ(ops:aD Oper)(rest:am Nat)(j:Nat):Bool:=match ops[j]? with|some o=>YQ (λe=>!Region.binds .any e||(bE e.on ops.size&&!isin e.on rest)) o.after.toList|none=>false
def UD:Tr->am Nat
 |.run (j::_) _=> [j]
 |.br a b=>UD a++UD b
 |_=> []
def Qg(P:Program)(hs:am Nat)(ops:aD Oper):Bool->Tr->am Nat->Bool
 |false,.fin,rest=>aGz rest
 |true,.fin,_=>false
 |false,.run l t,rest=>ada P hs ops l rest (Qg P hs ops false t)
 |true,.run l t,rest=>match l with
  |j::l=>isin j rest&&ada P hs ops l (QB j rest) (Qg P hs ops false t)
  |[]=>false
 |b,.br x y,rest=>Qg P hs ops true x rest&&Qg P hs ops true y rest&&(b||(alQ (afJ ops rest) rest&&YQ (λj=>!afJ ops rest j||isin j (UD x++UD y)) rest))
def amJ(P)(hs)(ops)(t):=
 P.follows .mixedOrders&&YQ (λj=>!Nat.beq (clsAt P hs ops j) 4) (yj 0 ops.size)&&Qg P hs ops false t (yj 0 ops.size)
def UC(P:Program)(N:Nat)(hs:am Nat)(all:am Oper)(gs:am Nat):Tr->aA ATr
 |.fin=>some .fin
 |.run l t=>match Qa P N hs all gs l,UC P N hs all gs t with
   |some x,some y=>some (.run x y)
   |_,_=>none
 |.br a b=>match UC P N hs all gs a,UC P N hs all gs b with
   |some x,some y=>some (.br x y)
   |_,_=>none
def Xa(P:Program)(N:Nat)(ords:am (Nat×am Nat))(id:Nat)(ops:aD Oper):Bool->aA ACode
 |false=>(Qa P N (wV ords id) ops.toList (u4 ops.toList) (yj 0 ops.toList.length)).map .reg
 |true=>match aget ords (2000000+id)with
  |some l=>match arp 300 l with
   |some (t,_)=>bif amJ P (wV ords id) ops t then(UC P N (wV ords id) ops.toList (u4 ops.toList) t).map .tree else none
   |none=>none
  |none=>match aget ords id with
   |some g=>bif afw P (wV ords id) ops g then(Qa P N (wV ords id) ops.toList (u4 ops.toList) g).map .reg else none
   |none=>none
def qJ(P:Program)(N:Nat)(ords:am (Nat×am Nat)):Code->aA ACode
 |.skip=>some .skip
 |.region id ops d=>Xa P N ords id ops d
 |.seq a b=>match qJ P N ords a,qJ P N ords b with
   |some x,some y=>some (.seq x y)
   |_,_=>none
 |.cond c a b=>match qJ P N ords a,qJ P N ords b with
   |some x,some y=>some (.cond (cO c) x y)
   |_,_=>none
 |.block i a=>(qJ P N ords a).map (.block i)
 |.loop a=>(qJ P N ords a).map (.loop [])
 |.scope a=>(qJ P N ords a).map .scope
 |.label _=>some .skip
 |.exit i=>some (.exit i)
 |.ret=>some .ret
 |_=>none
def aey(P:Program):am ResultVar->aA (am ARes)
 |[]=>some []
 |.tmp t::r=>(aey P r).map (.tmp t:: ·)
 |.cell a t::r=>match aa5 P t,aey P r with
   |some g,some l=>some (.cell a g (ya P t)::l)
   |_,_=>none
def cFun(P:Program)(ords:am (Nat×am Nat))(k:Nat):aA AFun:=
 match P.funcs[k]? with
 |some fn=>match fn.body with
  |some c=>match qJ P fn.ntmps ords c,aey P fn.results.toList with
   |some x,some r=>bif cD fn.ntmps 5000 then some ⟨x,r⟩else none
   |_,_=>none
  |none=>none
 |none=>none
def AI.erase:AI->AI
 |.mk d g i o _=>.mk d g i o []
def ATr.erase:ATr->ATr
 |.fin=>.fin
 |.run ops t=>.run (ops.map AI.erase) t.erase
 |.br a b=>.br a.erase b.erase
def ACode.erase:ACode->ACode
 |.skip=>.skip
 |.reg ops=>.reg (ops.map AI.erase)
 |.seq a b=>.seq a.erase b.erase
 |.cond c a b=>.cond c a.erase b.erase
 |.block i a=>.block i a.erase
 |.loop _ a=>.loop [] a.erase
 |.scope a=>.scope a.erase
 |.exit i=>.exit i
 |.ret=>.ret
 |.tree t=>.tree t.erase
def AFun.erase(F:AFun):AFun:=⟨F.code.erase,F.res⟩
def Qy:V->aA Int
 |.w (.c (.d (.lit (.int _ n))))=>some n
 |_=>none
def xe:V->aA Bool
 |.w (.c (.d (.lit (.bool b))))=>some b
 |_=>none
def cOf:V->C
 |.w (.c x)=>x
 |_=>.dead
def wOf:V->W
 |.w x=>x
 |_=>.c .dead
def cV(x:C):V:=.w (.c x)
def zh(n):=cV (.d (.lit (.int .i64 n)))
def yf(b):=cV (.d (.lit (.bool b)))
def qn(b:ByteArray):=b.data.toList.map λx=> [D.lit (.int .u8 x.toNat)]
def S.o(s:S):O->V
 |.t n=>s.tmp n
 |.k v=>v
def S.oc(s:S)(x):=cOf (s.o x)
def S.ow(s:S)(x):=wOf (s.o x)
def gX(agg:Bool)(sz:Nat)(cells:am C):aA W:=
 bif agg then(bif cD sz cells.length then some (.agg (cells.take sz))else none)
 else match cells with|x::_=>some (.c x)|[]=>none
def zW(n bytes):=n*bytes<=140737488355328
def aLd(dst:aA Nat)(agg:Bool)(sz:Nat)(x:C)(s:S)(K:S->Prop):Prop:=
 match x with
 |.ptr p off=>match aget s.pl p with
   |some (.box cs)=>match gX agg sz (cs.drop off)with
    |some w=>K (s.put dst (.w w))
    |none=>False
   |some (.fbox j)=>match gX agg sz ((j.drop off).map .d)with
    |some w=>K (s.put dst (.w w))
    |none=>False
   |_=>False
 |.fp cells=>match gX agg sz (cells.map .d)with
   |some w=>K (s.put dst (.w w))
   |none=>False
 |.eptr p z i k=>match aget s.pl p with
   |some (.arr l g _)=>bif aH z l then
    ∃e,g[i]?=some e/\(match gX agg sz ((e.drop k).map .d)with
     |some w=>K (s.put dst (.w w))
     |none=>False)
    else False
   |_=>False
 |_=>False
def aSt(sz:Nat)(x:C)(v:W)(s:S)(K:S->Prop):=
 bif aH v.cells.length sz then
  match x with
  |.ptr p off=>match aget s.pl p with
    |some (.box cs)=>
     bif solid v.cells&&cD (off+v.cells.length) cs.length then
      K {s with pl:=xf p (.box (zM cs off v.cells)) s.pl}
     else False
    |_=>False
  |.eptr p z i k=>match jN s.pl v.cells with
    |some (l,j)=>match aget j p with
     |some (.arr o g false)=>bif aH z o then
      ∃e,g[i]?=some e/\k+l.length<=e.length/\K {s with pl:=xf p (.arr o (g.set i (zM e k l)) false) j}
      else False
     |_=>False
    |none=>False
  |_=>False
 else False
def J7(s:S):am C->am (Nat×Nat×O)->aA (am C)
 |cs,[]=>some cs
 |cs,(off,sz,x)::r=>bif solid (s.ow x).cells&&aH (s.ow x).cells.length sz&&cD (off+sz) cs.length then J7 s (zM cs off (s.ow x).cells) r else none
def akQ(s:S)(sz:Nat)(pl:am (Nat×Pl)):am O->aA (am (am D)×am (Nat×Pl))
 |[]=>some ([],pl)
 |x::r=>bif aH (s.ow x).cells.length sz then
   match jN pl (s.ow x).cells with
   |some (j,g)=>match akQ s sz g r with
    |some (l,i)=>some (j::l,i)
    |none=>none
   |none=>none
  else none
def ye(o:aA Int)(n:Int):Int:=match o with|some m=>m|none=>n
def S.bnd(s:S):aA O->aA (aA Int)
 |none=>some none
 |some x=>match Qy (s.o x)with|some n=>some (some n)|none=>none
def aBq(dst:aA Nat)(sz:Nat)(x:C)(j i:aA Int)(s:S)(K:S->Prop):Prop:=
 match x with
 |.d (.sl g)=>match j with
   |none=>0<=ye i g.length/\ye i g.length<=g.length/\K (s.put dst (cV (.d (.sl (g.take (ye i g.length).toNat)))))
   |some l=>(∀y∈g,y.length=sz)/\0<=l/\l<=ye i g.length/\ye i g.length<=g.length/\
    K (s.put dst (cV (.d (.sl ((g.take (ye i g.length).toNat).drop l.toNat)))))
 |.own p z n=>bif aH z sz then
  match j with
  |none=>0<=ye i n/\ye i n<=n/\K (s.put dst (cV (.own p z (ye i n).toNat)))
  |some l=>match aget s.pl p with
   |some (.arr o g _)=>bif aH z o then 0<=l/\l<=ye i n/\ye i n<=n/\
    K ({s with pl:=vH s.pl p}.put dst (cV (.d (.sl ((g.take (ye i n).toNat).drop l.toNat)))))
    else False
   |_=>False
   else False
 |.nil=>0<=ye j 0/\ye j 0<=ye i 0/\ye i 0<=0/\K (s.put dst (cV .nil))
 |_=>False
def aBr(dst:aA Nat)(x:C)(i g:aA Int)(s:S)(K:S->Prop):Prop:=
 match x with
 |.d (.lit (.string b))=>0<=ye i 0/\ye i 0<=ye g b.size/\ye g b.size<=b.size/\
  K (s.put dst (cV (.d (.lit (.string (b.extract (ye i 0).toNat (ye g b.size).toNat))))))
 |_=>False
def aBs(dst:aA Nat)(sz:Nat)(x:C)(g i:aA Int)(s:S)(K:S->Prop):Prop:=
 match x with
 |.own p z n=>bif aH z sz then 0<=ye g 0/\ye g 0<=ye i n/\ye i n<=n/\K (s.put dst (cV (.sub p z (ye g 0).toNat ((ye i n).toNat-(ye g 0).toNat))))else False
 |.nil=>0<=ye g 0/\ye g 0<=ye i 0/\ye i 0<=0/\K (s.put dst (cV .nil))
 |_=>False
def range:C->aA (Nat×Nat×Nat×Nat)
 |.own p z n=>some (p,z,0,n)
 |.sub p z off n=>some (p,z,off,n)
 |_=>none
def Ul(pl:am (Nat×Pl)):C->aA (am (am D))
 |.d (.sl l)=>some l
 |.nil=>some []
 |.own p _ n=>match aget pl p with
   |some (.arr _ g _)=>some (g.take n)
   |_=>none
 |_=>none
def adj(pl:am (Nat×Pl)):C->aA (am (am D))
 |.sub p z off n=>match aget pl p with
   |some (.arr i g _)=>bif aH z i then some ((g.drop off).take n)else none
   |_=>none
 |x=>Ul pl x
def aBo(dst:aA Nat)(sz:Nat)(x:C)(i:aA (am (am D)))(s:S)(K:S->Prop):Prop:=
 match i with
 |some l=>match x with
  |.nil=>K (s.put dst (zh 0))
  |x=>match range x with
   |some (p,z,off,n)=>match aget s.pl p with
    |some (.arr j g false)=>bif aH z j&&aH z sz then(∀y∈l,y.length=sz)/\
     K ({s with pl:=xf p (.arr j (zM g off (l.take n)) false) s.pl}.put dst (zh (min l.length n:Nat)))
     else False
    |_=>False
   |none=>False
 |none=>False
def aBn(dst:aA Nat)(sz:Nat)(j:am D)(x:C)(s:S)(K:S->Prop):Prop:=
 match x with
 |.nil=>K (s.put dst wQ)
 |x=>match range x with
  |some (p,z,off,n)=>match aget s.pl p with
   |some (.arr i g false)=>bif aH z i&&aH z sz then K ({s with pl:=xf p (.arr i (zM g off (aL n j)) false) s.pl}.put dst wQ)else False
   |_=>False
  |none=>False
def alP(d:Nat)(sz bytes:Nat)(x:C)(new:aA (am (am D)))(s:S)(K:S->Prop):Prop:=
 match new with
 |some l=>
  match x with
  |.nil=>(∀y∈l,y.length=sz)/\zW l.length bytes/\l.length<=9223372036854775807/\
   K ((s.place d (.arr sz l false)).put (some d) (cV (.own d sz l.length)))
  |.own p z n=>match aget s.pl p with
    |some (.arr i g false)=>bif aH z i&&aH z sz then
     (∀y∈l,y.length=sz)/\zW (n+l.length) bytes/\n+l.length<=9223372036854775807/\
      K ((s.redo [p,d] [(d,.arr sz (g.take n++l) false)]).put (some d) (cV (.own d sz (n+l.length))))
     else False
    |_=>False
  |_=>False
 |_=>False
def frz(s:S)(pl:am (Nat×Pl)):am O->aA (am (am D)×am (Nat×Pl))
 |[]=>some ([],pl)
 |x::r=>match s.oc x with
  |.fp i=>match frz s pl r with
    |some (l,g)=>some (i::l,g)
    |none=>none
  |.ptr p 0=>match aget pl p with
    |some (.box cs)=>match jN pl cs with
     |some (i,j)=>match frz s (xf p (.fbox i) j) r with
      |some (l,g)=>some (i::l,g)
      |none=>none
     |none=>none
    |some (.fbox i)=>match frz s pl r with
     |some (l,g)=>some (i::l,g)
     |none=>none
    |_=>none
  |_=>none
def asC(s:S):am O->aA (am Nat)
 |[]=>some []
 |x::r=>match s.oc x,asC s r with
  |.ptr p 0,some l=>some (p::l)
  |_,_=>none
def acq(P:Program)(dst:aA Nat)(f:cS)(args:am W)(s:S)(K:S->Prop):Prop:=
 match ady s.pl args with
 |some (i,g)=>Sat P f i λr=>K (axR s {s with pl:=g} dst r)
 |none=>False
def QL(dst:aA Nat)(U:am Nat):Nat:=
 match dst with
 |some d=>yS d
 |none=>match U with
  |p::_=>10000000+16*p
  |[]=>10000000
def ajG(P:Program)(dst:aA Nat)(f:cS)(args)(s)(K:S->Prop):=
 zH P f (args.map (W.pk s.pl (u7 s.pl [] (Xz args)))) (ZO s.pl (u7 s.pl [] (Xz args)) 0 (u7 s.pl [] (Xz args))) λr=>
  cond (Ky (u7 s.pl [] (Xz args)) (QL dst (u7 s.pl [] (Xz args))) r)
   (K (agJ s (u7 s.pl [] (Xz args)) (QL dst (u7 s.pl [] (Xz args))) dst r)) False
def aer(s:S):am aC->Bool
 |[]=>true
 |x::r=>match asj (s.o (cO x))with
  |some _=>aer s r
  |none=>false
def rho(s:S)(x:aC):Value:=match asj (s.o (cO x))with|some v=>v|none=>undef
def asD (op:Op)(ty:TypeId):Oper:={dst:=none,op,type:=ty,pos:= "",after:= #[],guard:=none}
def awo(P:Program)(dst:aA Nat)(op:Op)(ty)(s)(K:S->Prop):=
 bif aer s op.operands.toList then
  match ab3 P (aF (rho s) (asD op ty))with
  |some (.value v)=>K (s.put dst (.w (ofValue v)))
  |_=>False
 else False
def WQ(b:bV)(k:bB)(x y:Int):Int:=
 match b with
 |.and=>k.wrap (bR k.bits x&&&bR k.bits y).toNat
 |.or=>k.wrap (bR k.bits x|||bR k.bits y).toNat
 |.xor=>k.wrap (bR k.bits x^^^bR k.bits y).toNat
 |_=>k.wrap (bR k.bits x&&& ~~~(bR k.bits y)).toNat
def Wy(left:Bool)(k:bB)(x y:Int):=bif left then k.wrap (x*2^min y.toNat k.bits)else x.fdiv (2^min y.toNat k.bits)
def zl(x y:ByteArray):=x.toList==y.toList
def Wv(x y:ByteArray):=Op.bytesLess x.toList y.toList
def alU(b:bV)(k:bB)(x y:Int):aA Value:=
 match b with
 |.and=>some (.int k (WQ .and k x y))
 |.or=>some (.int k (WQ .or k x y))
 |.xor=>some (.int k (WQ .xor k x y))
 |.andNot=>some (.int k (WQ .andNot k x y))
 |.add=>some (.int k (k.wrap (x+y)))
 |.sub=>some (.int k (k.wrap (x-y)))
 |.mul=>some (.int k (k.wrap (x*y)))
 |.eql=>some (.bool (x==y))
 |.neq=>some (.bool (x !=y))
 |.lss=>some (.bool (decide (x<y)))
 |.leq=>some (.bool (decide (x<=y)))
 |.gtr=>some (.bool (decide (x>y)))
 |.geq=>some (.bool (decide (x>=y)))
 |_=>none
def alV(b:bV)(x y:ByteArray):aA Value:=
 match b with
 |.eql=>some (.bool (zl x y))
 |.neq=>some (.bool (!zl x y))
 |.lss=>some (.bool (Wv x y))
 |.leq=>some (.bool (Wv x y||zl x y))
 |.gtr=>some (.bool (!(Wv x y||zl x y)))
 |.geq=>some (.bool (!Wv x y))
 |_=>none
def Z4:bB->bB->Bool
 |.i8,.i8=>true|.i16,.i16=>true|.i32,.i32=>true|.i64,.i64=>true
 |.u8,.u8=>true|.u16,.u16=>true|.u32,.u32=>true|.u64,.u64=>true
 |_,_=>false
def awn(dst:aA Nat)(b:bV)(x y:C)(s:S)(K:S->Prop):Prop:=
 match x,y with
 |.d (.lit (.int k m)),.d (.lit (.int g n))=>bif Z4 k g then
  match alU b k m n with
  |some v=>K (s.put dst (cV (.d (.lit v))))
  |none=>match b with
   |.quo=>n≠0/\K (s.put dst (cV (.d (.lit (.int k (k.wrap (m.tdiv n)))))))
   |.rem=>n≠0/\K (s.put dst (cV (.d (.lit (.int k (m.tmod n))))))
   |_=>False
   else False
 |.d (.lit (.string m)),.d (.lit (.string n))=>match alV b m n with
   |some v=>K (s.put dst (cV (.d (.lit v))))
   |none=>match b with
    |.add=>m.size+n.size<=9223372036854775807/\K (s.put dst (cV (.d (.lit (.string (m++n))))))
    |_=>False
 |_,_=>False
def yL(g:Bool)(m n:Int):=bif g then(if n>m then n else m)else(if n<m then n else m)
def aMm(dst:aA Nat)(i:Bool)(x y:C)(s:S)(K:S->Prop):Prop:=
 match x,y with
 |.d (.lit (.int k m)),.d (.lit (.int g n))=>bif Z4 k g then K (s.put dst (cV (.d (.lit (.int k (yL i m n))))))else False
 |_,_=>False
def aru(k:Nat)(x y:C):aA Bool:=
 match x,y with
 |.d (.lit (.int g m)),.d (.lit (.int i n))=>bif aH k 0&&Z4 g i then some (m==n)else none
 |.d (.lit (.string m)),.d (.lit (.string n))=>bif aH k 1 then some (zl m n)else none
 |.d (.lit (.bool m)),.d (.lit (.bool n))=>bif aH k 2 then some (m==n)else none
 |_,_=>none
def XN:am Nat->am C->am C->aA Bool
 |[],[],[]=>some true
 |k::g,x::xs,y::ys=>match aru k x y,XN g xs ys with
  |some a,some b=>some (a&&b)
  |_,_=>none
 |_,_,_=>none
def aBp(dst:aA Nat)(neg:Bool)(x:C)(s:S)(K:S->Prop):Prop:=
 match x with
 |.nil=>K (s.put dst (yf (!neg)))
 |.d (.sl l)=>(l=[]->K (s.put dst (yf (!neg))))/\K (s.put dst (yf neg))
 |.own _ _ n=>(n=0->K (s.put dst (yf (!neg))))/\K (s.put dst (yf neg))
 |_=>False
def yg(P:Program)(dst:aA Nat)(op:AOp)(s:S)(K:S->Prop):Prop:=
 match op with
 |.mov x=>K (s.put dst (s.o x))
 |.pick c a b=>match xe (s.o c)with
   |some t=>cond t (K (s.put dst (s.o a))) (K (s.put dst (s.o b)))
   |none=>False
 |.alloc cs=>match dst with
   |some d=>bif solid cs then K ((s.place d (.box cs)).put (some d) (cV (.ptr d 0)))else False
   |none=>False
 |.bx x=>match dst,s.o x with
   |some d,.w w=>bif solid w.cells then K ((s.place d (.box (w.cells.map (C.kill [d])))).put (some d) (cV (.ptr d 0)))else False
   |_,_=>False
 |.build zero parts=>match J7 s zero parts with
   |some cs=>K (s.put dst (.w (.agg cs)))
   |none=>False
 |.lits sz parts=>match dst,akQ s sz s.pl parts with
   |some d,some (I,r)=>K (({s with pl:=r}.place d (.arr sz I false)).put (some d) (cV (.own d sz I.length)))
   |_,_=>False
 |.ld g sz x=>aLd dst g sz (s.oc x) s K
 |.st sz a x=>match dst with
   |none=>aSt sz (s.oc a) (s.ow x) s K
   |some _=>False
 |.nc x=>match s.oc x with
   |.ptr p k=>K (s.put dst (cV (.ptr p k)))
   |.eptr p z i k=>K (s.put dst (cV (.eptr p z i k)))
   |.fp l=>K (s.put dst (cV (.fp l)))
   |_=>False
 |.b2s x=>match Ul s.pl (s.oc x)with
   |some l=>∃b:ByteArray,l=qn b/\K (s.put dst (cV (.d (.lit (.string b)))))
   |none=>False
 |.s2b x=>match dst,s.oc x with
   |some d,.d (.lit (.string b))=>b.size<=9223372036854775807/\K ((s.place d (.arr 1 (qn b) true)).put (some d) (cV (.own d 1 b.size)))
   |_,_=>False
 |.clo f j=>match asC s j with
   |some ps=>K (s.put dst (cV (.clo f ps)))
   |none=>False
 |.clof f j=>match frz s s.pl j with
   |some (l,r)=>K ({s with pl:=r}.put dst (cV (.d (.fn f l))))
   |none=>False
 |.slen x=>match s.oc x with
   |.d (.lit (.string b))=>K (s.put dst (zh b.size))
   |_=>False
 |.cap x=>match s.oc x with
   |.d (.sl l)=>∀c:Nat,l.length<=c->c<=9223372036854775807->K (s.put dst (zh c))
   |.nil=>K (s.put dst (zh 0))
   |.own _ _ n=>∀c:Nat,n<=c->c<=9223372036854775807->K (s.put dst (zh c))
   |_=>False
 |.cpy sz x y=>aBo dst sz (s.oc x) (adj s.pl (s.oc y)) s K
 |.clr sz z x=>aBn dst sz z (s.oc x) s K
 |.slw sz x R J=>match s.bnd R,s.bnd J with
   |some l,some h=>aBs dst sz (s.oc x) l h s K
   |_,_=>False
 |.bnot x=>match xe (s.o x)with
   |some b=>K (s.put dst (yf (!b)))
   |none=>False
 |.ineg x=>match s.oc x with
   |.d (.lit (.int k n))=>K (s.put dst (cV (.d (.lit (.int k (k.wrap (0-n)))))))
   |_=>False
 |.beq neg x y=>match xe (s.o x),xe (s.o y)with
   |some a,some b=>K (s.put dst (yf (bif neg then a !=b else a==b)))
   |_,_=>False
 |.shf left x y=>match s.oc x,s.oc y with
   |.d (.lit (.int k m)),.d (.lit (.int _ n))=>0<=n/\K (s.put dst (cV (.d (.lit (.int k (Wy left k m n))))))
   |_,_=>False
 |.stop=>False
 |.conv k x=>match s.oc x with
   |.d (.lit (.int _ n))=>K (s.put dst (cV (.d (.lit (.int k (k.wrap n))))))
   |_=>False
 |.eqa neg U x y=>match s.o x,s.o y with
   |.w (.agg xs),.w (.agg ys)=>match XN U xs ys with
     |some b=>K (s.put dst (yf (bif neg then !b else b)))
     |none=>False
   |_,_=>False
 |.callh f args=>ajG P dst f (args.map s.ow) s K
 |.mk sz bytes z n c=>match dst,Qy (s.o n),Qy (s.o c)with
   |some d,some n,some c=>0<=n/\n<=c/\zW c.toNat bytes/\c<=9223372036854775807/\
    K ((s.place d (.arr sz (aL n.toNat z) false)).put (some d) (cV (.own d sz n.toNat)))
   |_,_,_=>False
 |.sli sz x R J=>match s.bnd R,s.bnd J with
   |some l,some h=>aBq dst sz (s.oc x) l h s K
   |_,_=>False
 |.sls x R J=>match s.bnd R,s.bnd J with
   |some l,some h=>aBr dst (s.oc x) l h s K
   |_,_=>False
 |.fa off x=>match s.oc x with
   |.ptr p o=>K (s.put dst (cV (.ptr p (o+off))))
   |.eptr p z i k=>K (s.put dst (cV (.eptr p z i (k+off))))
   |.fp cells=>K (s.put dst (cV (.fp (cells.drop off))))
   |_=>False
 |.fld g sz off x=>match s.o x with
   |.w (.agg cs)=>match gX g sz (cs.drop off)with
     |some w=>K (s.put dst (.w w))
     |none=>False
   |_=>False
 |.ia sz x i=>match Qy (s.o i)with
   |some n=>match s.oc x with
    |.d (.sl l)=>0<=n/\∃y,l[n.toNat]?=some y/\y.length=sz/\K (s.put dst (cV (.fp y)))
    |.own p z m=>bif aH z sz then 0<=n/\n<m/\K (s.put dst (cV (.eptr p z n.toNat 0)))else False
    |_=>False
   |none=>False
 |.six x i=>match s.oc x,Qy (s.o i)with
   |.d (.lit (.string b)),some n=>0<=n/\n<b.size/\K (s.put dst (cV (.d (.lit (.int .u8 (b.data.toList.getD n.toNat 0).toNat)))))
   |_,_=>False
 |.ext x i=>match s.o x with
   |.tup xs=>match xs[i]? with
     |some w=>K (s.put dst (.w w))
     |none=>False
   |_=>False
 |.len x=>match s.oc x with
   |.d (.sl l)=>K (s.put dst (zh l.length))
   |.nil=>K (s.put dst (zh 0))
   |.own _ _ n=>K (s.put dst (zh n))
   |_=>False
 |.app sz bytes x y=>match dst with
   |some d=>alP d sz bytes (s.oc x) (Ul s.pl (s.oc y)) s K
   |none=>False
 |.appz sz bytes z x n=>match dst,s.oc x,Qy (s.o n)with
   |some d,.nil,some m=>0<=m/\zW m.toNat bytes/\m<=9223372036854775807/\K ((s.place d (.arr sz (aL m.toNat z) false)).put (some d) (cV (.own d sz m.toNat)))
   |_,_,_=>False
 |.apps x y=>match dst,s.oc y with
   |some d,.d (.lit (.string b))=>alP d 1 1 (s.oc x) (some (qn b)) s K
   |_,_=>False
 |.bin b x y=>awn dst b (s.oc x) (s.oc y) s K
 |.isn neg x=>aBp dst neg (s.oc x) s K
 |.mm mx x y=>aMm dst mx (s.oc x) (s.oc y) s K
 |.pure op ty=>awo P dst op ty s K
 |.call f args=>acq P dst f (args.map s.ow) s K
 |.calv x args=>match s.oc x with
   |.clo f []=>acq P dst f (args.map s.ow) s K
   |.d (.fn f j)=>acq P dst f (args.map s.ow++j.map λT=>W.c (.fp T)) s K
   |_=>False
def split(g:Bool)(dst:aA Nat)(s)(K:S->Prop):=
 bif g then
  match dst with
  |some d=>match xe (s.tmp d)with
   |some b=>cond b (K (s.put dst (yf true))) (K (s.put dst (yf false)))
   |none=>K s
  |none=>K s
 else K s
def S.drop(s:S)(l):={s with sl:=wo (λk=>!isin k l) s.sl}
def yp(P:Program):am AI->S->(S->Prop)->Prop
 |[],s,K=>K s
 |.mk dst g l op drop::rest,s,K=>
   match g with
   |none=>yg P dst op s λo=>split l dst o λj=>qo (j.drop drop) λj=>yp P rest j K
   |some (d,i)=>match s.tmp d with
    |.w (.c (.d (.lit (.bool b))))=>
      bif (bif b then i else !i)then yg P dst op s λo=>split l dst o λj=>qo (j.drop drop) λj=>yp P rest j K
      else qo ((s.put dst wQ).drop drop) λs=>yp P rest s K
    |.tup []=>qo ((s.put dst wQ).drop drop) λs=>yp P rest s K
    |_=>False
inductive E where
 |normal
 |exit (id:Nat)
 |ret
def ab8:am (Nat×V)->am Nat
 |[]=> []
 |(_,v)::r=>v.refs++ab8 r
def U7:am Nat->am (Nat×Pl)->am Nat
 |_,[]=> []
 |g,(p,.box cs)::r=>bif isin p g then ab7 cs++U7 g r else U7 g r
 |g,_::r=>U7 g r
def Ys:am Nat->am Nat->am Nat
 |[],l=>l
 |x::r,l=>bif isin x l then Ys r l else Ys r (x::l)
def S.norm(s:S)(g:am Nat):S:=
 {sl:=wo (λk=>isin k g) s.sl,
  pl:=wo (λk=>isin k (Ys (U7 (Ys (U7 (Ys (ab8 (wo (λk=>isin k g) s.sl)) []) s.pl) (Ys (ab8 (wo (λk=>isin k g) s.sl)) [])) s.pl)
   (Ys (U7 (Ys (ab8 (wo (λk=>isin k g) s.sl)) []) s.pl) (Ys (ab8 (wo (λk=>isin k g) s.sl)) [])))) s.pl}
def abx:am Nat->(am Nat->Prop)->Prop
 |[],K=>K []
 |x::r,K=>abx r λr=>K (x::r)
theorem gD:∀(l) (K:am Nat->Prop),abx l K=K l
 |[],_=>rfl
 |x::r,K=>by simp only[abx,gD r]
def Ki(s:S)(g)(K:S->Prop):=
 abx (Ys (ab8 (wo (λk=>isin k g) s.sl)) []) λi=>abx (Ys (U7 i s.pl) i) λj=>abx (Ys (U7 j s.pl) j) λl=>
  qo ⟨wo (λk=>isin k g) s.sl,wo (λk=>isin k l) s.pl⟩ K
theorem We(s)(g)(K:S->Prop):Ki s g K=K (s.norm g):=by unfold Ki;rw[gD,gD,gD,xY];rfl
def xO(s)(g)(K:S->Prop):=∃t,VO s t/\Ki t g K
theorem zi{s}{g}{K:S->Prop}(h:Ki s g K):xO s g K:=⟨s,VO.refl s,h⟩
def atr(P:Program):ATr->S->(S->Prop)->Prop
 |.fin,s,K=>K s
 |.run ops t,s,K=>yp P ops s λg=>atr P t g K
 |.br a b,s,K=>atr P a s K/\atr P b s K
def X7(P:Program):ACode->(E->S->Prop)->S->Prop
 |.skip,Q,s=>Q .normal s
 |.reg ops,Q,s=>yp P ops s (Q .normal)
 |.seq a b,Q,s=>X7 P a (λe g=>match e with|.normal=>X7 P b Q g|.exit i=>Q (.exit i) g|.ret=>Q .ret g) s
 |.cond c a b,Q,s=>match xe (s.o c)with
   |some t=>cond t (X7 P a Q s) (X7 P b Q s)
   |none=>False
 |.block id a,Q,s=>X7 P a (λe g=>match e with|.normal=>Q .normal g|.exit i=>bif aH i id then Q .normal g else Q (.exit i) g|.ret=>Q .ret g) s
 |.loop j body,Q,s=>∃(I:S->Prop) (μ:S->Nat),xO s j I/\∀g,I g->
  X7 P body (λe l=>match e with|.normal=>xO l j λl=>I l/\μ l<μ g|.exit i=>Q (.exit i) l|.ret=>Q .ret l) g
 |.scope a,Q,s=>X7 P a Q s
 |.exit i,Q,s=>Q (.exit i) s
 |.ret,Q,s=>Q .ret s
 |.tree t,Q,s=>atr P t s (Q .normal)
def aC7(s:S):ARes->aA W
 |.tmp t=>match s.tmp t with|.w w=>some w|_=>none
 |.cell a g sz=>match cOf (s.tmp a)with
   |.ptr p off=>match aget s.pl p with
     |some (.box cs)=>gX g sz (cs.drop off)
     |some (.fbox i)=>gX g sz ((i.drop off).map .d)
     |_=>none
   |_=>none
def agK(s:S):am ARes->aA (am W)
 |[]=>some []
 |x::r=>match aC7 s x,agK s r with
  |some w,some l=>some (w::l)
  |_,_=>none
def aC6(s:S)(l:am ARes):aA V:=
 match agK s l with
 |some [w]=>some (.w w)
 |some ws=>some (.tup ws)
 |none=>none
def j6:Nat->am W->am (Nat×V)
 |_,[]=> []
 |i,w::r=>(i,.w w)::j6 (i+1) r
def aaW(g:am ARes)(U:am Nat)(Q:Res->Prop)(s:S):Prop:=
 match aC6 s g with
 |some v=>Q (axK s.pl U v)
 |none=>False
def aBE(P:Program)(F:AFun)(args:am W)(Q:Res->Prop):=
 qo ⟨j6 0 args,[]⟩ λs=>X7 P F.code (λe s=>match e with|.exit _=>False|.normal=>aaW F.res [] Q s|.ret=>aaW F.res [] Q s) s
def j5(n0:Nat)(hs:am Pl):=yj n0 hs.length
def agj(n0:Nat)(P:Program)(F:AFun)(args:am W)(hs:am Pl)(Q:Res->Prop):=
 qo ⟨j6 0 (args.map (W.ren ((j5 n0 hs).map some))),Ym n0 (hs.map (Pl.ren ((j5 n0 hs).map some)))⟩ λs=>
  X7 P F.code (λe s=>match e with|.exit _=>False|.normal=>aaW F.res (j5 n0 hs) Q s|.ret=>aaW F.res (j5 n0 hs) Q s) s
def aEf(P)(F)(args)(hs)(Q:Res->Prop):=agj 100000 P F args hs Q
section
variable {α β:Type}
theorem qO{m n:Nat}(h:m≠n):aH m n=false:=by grind[aB]
theorem uL(n:Nat):aH n n=true:=Nat.beq_refl n
theorem yY(k)(v)(r:am (Nat×α))(n):aget ((k,v)::r) n=if k=n then some v else aget r n:=by simp_all[aget]
theorem yR(l)(n m)(v:α):aget (xf n v l) m=if n=m then some v else aget l m:=by
 induction l with
 |nil=>grind[xf,yY]
 |cons x r g=>
  obtain⟨k,u⟩:=x;unfold xf;by_cases h:k=n
  .simp_all[yY]
  rw[qO h];cases j:bE n k
  .simp only[bW,yY,g];by_cases i:k=m<;>simp_all[Ne.symm]
  simp_all[yY]
theorem aqI(l)(f:α->β)(m):aget (aqP f l) m=(aget l m).map f:=by induction l<;>grind[aget,aqP]
theorem YT(l:am (Nat×α))(f:Nat->Bool)(m):aget (wo f l) m=if f m=true then aget l m else none:=by
 induction l with
 |nil=>grind[wo,aget]
 |cons x r g=>
  obtain⟨k,u⟩:=x;unfold wo;cases i:f k
  .simp only[bW,g,yY]
   grind
  simp only[aM,yY,g]
  grind
theorem KG(l)(f:Nat->Bool)(m)(v:α)(h:aget (wo f l) m=some v):aget l m=some v/\f m=true:=by grind[YT]
end
theorem yw(n)(l):isin n l=true↔n∈l:=by
 induction l with
 |nil=>simp[isin]
 |cons k r g=>
  unfold isin;by_cases h:k=n<;>simp_all[Ne.symm]
theorem atX(new pl:am (Nat×Pl))(m):aget (ajH new pl) m=match aget new m with|some x=>some x|none=>aget pl m:=by
 induction new with
 |nil=>rfl
 |cons x r g=>
  grind[ajH,yR,yY]
def zP(w w':World)(ok ok':Nat->Prop):=∀b,ok b->ok' b/\w'.heap[b]?=w.heap[b]?
theorem qH{w w':World}{b}(h:w'.heap[b]?=w.heap[b]?)(o):w'.cell? ⟨b,o,none⟩=w.cell? ⟨b,o,none⟩:=by simp[dd,h]
mutual
theorem RD.keep{w w':World}{ok ok':Nat->Prop}(h:zP w w' ok ok'):∀(d:D) (v:Value),RD w ok d v->RD w' ok' d v
 |.lit x,v,g=>by grind[RD]
 |.sl l,v,g=>by
   simp only[RD]at g⊢;obtain⟨a,n,c,j,p,R,T,J⟩:=g;refine⟨a,n,c,j,p,R,T,?_⟩;rcases J with J|⟨b,o,sz,e1,I,P⟩
   .grind
   exact .inr ⟨b,o,sz,e1,(h b I).1,RDs.keep h b I sz l o P⟩
 |.fn f i,v,g=>by simp only[RD]at g⊢;obtain⟨r,j,p⟩:=g;exact⟨r,j,RDf.keep h i r p⟩
theorem RDs.keep{w w':World}{ok ok':Nat->Prop}(h:zP w w' ok ok')(b:Nat)(i:ok b)(sz:Nat):∀(l:am (am D)) (o:Nat),RDs w ok b sz o l->RDs w' ok' b sz o l
 |[],o,_=>by grind[RDs]
 |e::r,o,g=>by simp only[RDs]at g⊢;exact⟨g.1,RDc.keep h b i e o g.2.1,RDs.keep h b i sz r (o+sz) g.2.2⟩
theorem RDc.keep{w w':World}{ok ok':Nat->Prop}(h:zP w w' ok ok')(b:Nat)(g:ok b):∀(l:am D) (o:Nat),RDc w ok b o l->RDc w' ok' b o l
 |[],o,_=>by grind[RDc]
 |d::r,o,i=>by simp only[RDc]at i⊢;obtain⟨⟨v,j,p⟩,I⟩:=i;exact⟨⟨v,by rw[qH (h b g).2];exact j,RD.keep h d v p⟩,RDc.keep h b g r (o+1) I⟩
theorem RDf.keep{w w':World}{ok ok':Nat->Prop}(h:zP w w' ok ok'):∀(l:am (am D)) (i:am Value),RDf w ok i l->RDf w' ok' i l
 |[],i,j=>by grind[RDf]
 |c::r,i,j=>by simp only[RDf]at j⊢;obtain⟨b,o,g,I,p,J,P⟩:=j;exact⟨b,o,g,I,(h b p).1,RDc.keep h b p c o J,RDf.keep h r g P⟩
end
theorem RDc.keep'{w w'}{ok ok':Nat->Prop}(h:zP w w' ok ok')(b):∀(l) (o:Nat),(∀j,o<=j->j<o+l.length->w'.cell? ⟨b,j,none⟩=w.cell? ⟨b,j,none⟩)->RDc w ok b o l->RDc w' ok' b o l
 |[],o,_,_=>by grind[RDc]
 |d::r,o,J,i=>by simp only[RDc]at i⊢;obtain⟨⟨v,p,g⟩,I⟩:=i;refine⟨⟨v,eu,RD.keep h d v g⟩,RDc.keep' h b r (o+1) (λj p g=>J j ej ek) I⟩
theorem RDs.keep'{w w'}{ok ok':Nat->Prop}(h:zP w w' ok ok')(b sz):∀(l) (o:Nat),(∀j,o<=j->j<o+l.length*sz->w'.cell? ⟨b,j,none⟩=w.cell? ⟨b,j,none⟩)->RDs w ok b sz o l->RDs w' ok' b sz o l
 |[],o,_,_=>by grind[RDs]
 |e::r,o,I,g=>by
  simp only[RDs]at g⊢;refine⟨g.1,RDc.keep' h b e o (λj i p=>I j i ?_) g.2.1,RDs.keep' h b sz r (o+sz) (λj i p=>I j ej ?_) g.2.2⟩
  .rw[g.1]at p;simp only[bP,aS,cC];omega
  simp only[bP,aS,cC];omega
theorem RDs.len{w}{ok:Nat->Prop}{b sz}:∀{l:am (am D)}{o:Nat},RDs w ok b sz o l->∀e∈l,e.length=sz
 |[],_,_,e,g=>by cases g
 |x::r,o,i,e,g=>by
  simp only[RDs]at i;rcases bL.1 g with rfl|g
  .exact i.1
  exact RDs.len i.2.2 e g
theorem RDs.get{w}{ok:Nat->Prop}{b sz}:∀{l:am (am D)}{o i:Nat}{e:am D},RDs w ok b sz o l->l[i]?=some e->RDc w ok b (o+i*sz) e
 |[],_,i,e,_,g=>ek
 |x::r,o,0,e,j,g=>by grind[RDs]
 |x::r,o,i+1,e,j,g=>by simp only[RDs]at j;simp at g;have:=RDs.get j.2.2 g;rwa[show o+(i+1)*sz=o+sz+i*sz by rw[aS];omega]
theorem RDs.take{w}{ok:Nat->Prop}{b sz}:∀{l:am (am D)}{o:Nat}(n:Nat),RDs w ok b sz o l->RDs w ok b sz o (l.take n)
 |[],_,n,_=>ek
 |x::r,o,0,g=>by simp[RDs]
 |x::r,o,n+1,g=>by simp only[RDs,List.take_succ_cons]at g⊢;exact⟨g.1,g.2.1,RDs.take n g.2.2⟩
theorem RDs.drop{w}{ok:Nat->Prop}{b sz}:∀{l:am (am D)}{o:Nat}(n:Nat),RDs w ok b sz o l->RDs w ok b sz (o+n*sz) (l.drop n)
 |[],_,n,_=>by simp[RDs]
 |x::r,o,0,g=>ek
 |x::r,o,n+1,g=>by simp only[cM];simp only[RDs]at g;have:=RDs.drop n g.2.2;rwa[show o+(n+1)*sz=o+sz+n*sz by rw[aS];omega]
theorem RDc.drop{w}{ok:Nat->Prop}{b}:∀{l:am D}{o:Nat}(n:Nat),RDc w ok b o l->RDc w ok b (o+n) (l.drop n)
 |[],_,n,_=>by simp[RDc]
 |x::r,o,0,g=>ek
 |x::r,o,n+1,g=>by simp only[cM];simp only[RDc]at g;have:=RDc.drop n g.2<;>grind
def yx(w w':World):=∀b t m,w.shape? b=some (t,m)->w'.shape? b=some (t,m)
theorem yx.refl(w):yx w w:=λ_ _ _ h=>h
section
variable {B ι':Nat->Gh}{w w':World}{ok ok':Nat->Prop}{l:am Nat}
theorem CR.kill(hk:zP w w' ok ok')(hs:yx w w')(hι:∀p,isin p l=false->ι' p=B p)(c)(v)(h:CR B w ok c v):CR ι' w' ok' (c.kill l) v:=by
 cases c with
 |dead=>trivial
 |d x=>exact RD.keep hk x v h
 |nil=>exact h
 |ptr p o=>
  simp only[C.kill];cases J:isin p l
  .obtain⟨b,j,g⟩:=h;exact⟨b,ek,g⟩
  trivial
 |eptr p z i k=>
  simp only[C.kill];cases J:isin p l
  .obtain⟨b,j,g⟩:=h;exact⟨b,ek,g⟩
  trivial
 |own p z n=>
  simp only[C.kill];cases J:isin p l
  .rcases h with⟨j,g,I⟩|⟨b,cap,t,j,g,I,R,T,U⟩
   .exact .inl ⟨ek,g,I⟩
   exact .inr ⟨b,cap,t,ek,ek,I,R,T,hs _ _ _ U⟩
  trivial
 |sub p z o n=>
  simp only[C.kill];cases J:isin p l<;>simp_all[CR]
 |fp cells=>
  obtain⟨b,o,j,g,I⟩:=h;exact⟨b,o,j,(hk b g).1,RDc.keep hk b g _ _ I⟩
 |clo f r=>
  simp only[C.kill];cases J:r.any (λq=>isin q l)
  .obtain⟨P,j,g⟩:=h;refine⟨P,?_,g⟩;rw[<-j];apply List.map_congr_left;simp_all
  trivial
theorem CR.keep(hk:zP w w' ok ok')(hs:yx w w')(c)(v)(h:CR B w ok c v):CR B w' ok' c v:=by
 cases c with
 |dead=>trivial
 |d x=>exact RD.keep hk x v h
 |nil=>exact h
 |ptr p o=>exact h
 |eptr p z i k=>exact h
 |own p z n=>
  rcases h with h|⟨b,cap,t,j,g,l,I,J,P⟩
  .exact .inl h
  exact .inr ⟨b,cap,t,j,g,l,I,J,hs _ _ _ P⟩
 |sub p z o n=>exact h
 |fp cells=>
  obtain⟨b,o,j,g,l⟩:=h;exact⟨b,o,j,(hk b g).1,RDc.keep hk b g _ _ l⟩
 |clo f r=>exact h
theorem CRs.kill(hk:zP w w' ok ok')(hs:yx w w')(g:∀p,isin p l=false->ι' p=B p):∀(cs) (vs:am Value),CRs B w ok cs vs->CRs ι' w' ok' (cs.map (C.kill l)) vs
 |[],[],_=>trivial
 |[],_::_,h=>h
 |_::_,[],h=>h
 |c::cs,v::vs,h=>⟨CR.kill hk hs g c v h.1,CRs.kill hk hs g cs vs h.2⟩
theorem CRs.keep(hk:zP w w' ok ok')(hs:yx w w'):∀(cs) (vs:am Value),CRs B w ok cs vs->CRs B w' ok' cs vs
 |[],[],_=>trivial
 |[],_::_,h=>h
 |_::_,[],h=>h
 |c::cs,v::vs,h=>⟨CR.keep hk hs c v h.1,CRs.keep hk hs cs vs h.2⟩
theorem WR.kill(hk:zP w w' ok ok')(hs:yx w w')(g:∀p,isin p l=false->ι' p=B p)(x)(v)(h:WR B w ok x v):WR ι' w' ok' (x.kill l) v:=by
 cases x with
 |c x=>exact CR.kill hk hs g x v h
 |agg cs=>obtain⟨vs,i,j⟩:=h;exact⟨vs,i,CRs.kill hk hs g cs vs j⟩
theorem WR.keep(hk:zP w w' ok ok')(hs:yx w w')(x)(v)(h:WR B w ok x v):WR B w' ok' x v:=by
 cases x with
 |c x=>exact CR.keep hk hs x v h
 |agg cs=>obtain⟨vs,g,i⟩:=h;exact⟨vs,g,CRs.keep hk hs cs vs i⟩
theorem qN.kill(hk:zP w w' ok ok')(hs:yx w w')(g:∀p,isin p l=false->ι' p=B p):∀(cs) (vs:am Value),qN B w ok cs vs->qN ι' w' ok' (cs.map (W.kill l)) vs
 |[],[],_=>trivial
 |[],_::_,h=>h
 |_::_,[],h=>h
 |c::cs,v::vs,h=>⟨WR.kill hk hs g c v h.1,qN.kill hk hs g cs vs h.2⟩
theorem qN.keep(hk:zP w w' ok ok')(hs:yx w w'):∀(cs) (vs:am Value),qN B w ok cs vs->qN B w' ok' cs vs
 |[],[],_=>trivial
 |[],_::_,h=>h
 |_::_,[],h=>h
 |c::cs,v::vs,h=>⟨WR.keep hk hs c v h.1,qN.keep hk hs cs vs h.2⟩
theorem VR.kill(hk:zP w w' ok ok')(hs:yx w w')(g:∀p,isin p l=false->ι' p=B p)(x)(v)(h:VR B w ok x v):VR ι' w' ok' (x.kill l) v:=by
 cases x with
 |w x=>exact WR.kill hk hs g x v h
 |tup cs=>obtain⟨vs,i,j⟩:=h;exact⟨vs,i,qN.kill hk hs g cs vs j⟩
theorem VR.keep(hk:zP w w' ok ok')(hs:yx w w')(x)(v)(h:VR B w ok x v):VR B w' ok' x v:=by
 cases x with
 |w x=>exact WR.keep hk hs x v h
 |tup cs=>obtain⟨vs,g,i⟩:=h;exact⟨vs,g,qN.keep hk hs cs vs i⟩
end
theorem CRs.length{B:Nat->Gh}{w}{ok:Nat->Prop}:∀{cs:am C}{vs:am Value},CRs B w ok cs vs->cs.length=vs.length
 |[],[],_=>rfl
 |[],_::_,h=>h.elim
 |_::_,[],h=>h.elim
 |_::_,_::_,h=>by simp[CRs.length h.2]
theorem CRs.take{B:Nat->Gh}{w}{ok:Nat->Prop}:∀{cs:am C}{vs:am Value}(n:Nat),CRs B w ok cs vs->CRs B w ok (cs.take n) (vs.take n)
 |[],[],n,_=>ek
 |[],_::_,_,h=>h.elim
 |_::_,[],_,h=>h.elim
 |_::_,_::_,0,_=>by simp[CRs]
 |_::_,_::_,n+1,h=>⟨h.1,CRs.take n h.2⟩
theorem CRs.drop{B:Nat->Gh}{w}{ok:Nat->Prop}:∀{cs:am C}{vs:am Value}(n:Nat),CRs B w ok cs vs->CRs B w ok (cs.drop n) (vs.drop n)
 |[],[],n,_=>ek
 |[],_::_,_,h=>h.elim
 |_::_,[],_,h=>h.elim
 |_::_,_::_,0,h=>h
 |_::_,_::_,n+1,h=>CRs.drop n h.2
theorem CRs.append{B:Nat->Gh}{w}{ok:Nat->Prop}:∀{cs i:am C}{vs j:am Value},CRs B w ok cs vs->CRs B w ok i j->CRs B w ok (cs++i) (vs++j)
 |[],_,[],_,_,g=>g
 |[],_,_::_,_,h,_=>h.elim
 |_::_,_,[],_,h,_=>h.elim
 |_::_,_,_::_,_,h,g=>⟨h.1,CRs.append h.2 g⟩
theorem CR.one{B:Nat->Gh}{w}{ok:Nat->Prop}{c}{v}(h:CR B w ok c v)(j:c.isDead=false):v.oneCell'=true:=by
 cases c with
 |dead=>cases j
 |d x=>cases x with
  |lit u=>grind[CR,RD]
  |sl l=>simp only[CR,RD]at h;obtain⟨_,_,_,rfl,_⟩:=h;rfl
  |fn f l=>simp only[CR,RD]at h;obtain⟨_,rfl,_⟩:=h;rfl
 |nil=>simp only[CR]at h;subst h;rfl
 |ptr p o=>obtain⟨_,_,rfl⟩:=h;rfl
 |eptr p z i k=>obtain⟨_,_,rfl⟩:=h;rfl
 |own p z n=>rcases h with⟨_,_,rfl⟩|⟨_,_,_,_,_,rfl,_⟩<;>rfl
 |sub p z o n=>obtain⟨_,_,rfl,_⟩:=h;rfl
 |fp cells=>obtain⟨_,_,rfl,_⟩:=h;rfl
 |clo f g=>obtain⟨_,_,rfl⟩:=h;rfl
theorem CRs.ones{B:Nat->Gh}{w}{ok:Nat->Prop}:∀{cs:am C}{vs:am Value},CRs B w ok cs vs->solid cs=true->∀v∈vs,v.oneCell'=true
 |[],[],_,_,_,j=>by cases j
 |[],_::_,h,_,_,_=>h.elim
 |_::_,[],h,_,_,_=>h.elim
 |c::cs,v::vs,h,hs,u,i=>by
  unfold solid at hs;cases g:c.isDead
  .rw[g]at hs;rcases bL.1 i with rfl|i
   .exact CR.one h.1 g
   exact CRs.ones h.2 hs u i
  rw[g]at hs;cases hs
theorem Pl.live_kill(x:Pl)(l):(x.kill l).live=x.live:=by cases x<;>rfl
theorem RowAt.cell{w}{b}{g}(h:RowAt w b g)(j):w.cell? ⟨b,j,none⟩=g[j]? :=by obtain⟨t,h⟩:=h;grind[cT]
theorem RowAt.lt{w}{b}{g}(h:RowAt w b g):b<w.heap.size:=by obtain⟨t,h⟩:=h;grind
theorem PR.kill{B ι':Nat->Gh}{w w'}{ok ok':Nat->Prop}{l}(hk:zP w w' ok ok')(hs:yx w w')(hι:∀p,isin p l=false->ι' p=B p)(p)(hp:isin p l=false)(x)
 (I:x.live=true->∀b,(B p).b=some b->w'.heap[b]?=w.heap[b]?) (h:PR B w ok p x):PR ι' w' ok' p (x.kill l):=by
 cases x with
 |box cs=>
  obtain⟨b,g,i,⟨t,j⟩,o⟩:=h;exact⟨b,g,ek,⟨t,by rw[I rfl b i];exact j⟩,CRs.kill hk hs hι cs _ o⟩
 |arr sz P R=>
  obtain⟨h0,hn,h⟩:=h;refine⟨h0,ek,?_⟩;rcases h with⟨i,j⟩|⟨b,i,j,o,T⟩
  .grind
  refine .inr ⟨b,ek,?_,λr=>(hk b (o r)).1,λr=>?_⟩
  .have J:w'.heap[b]?=w.heap[b]? :=by
    cases R
    .exact I rfl b i
    exact(hk b (o rfl)).2
   grind[RDs.keep',qH]
  obtain⟨g,⟨t,U⟩,h6⟩:=T r;subst r;exact⟨g,⟨t,by rw[I rfl b i];exact U⟩,h6⟩
 |fbox ds=>
  obtain⟨b,i,j,o⟩:=h;exact⟨b,ek,(hk b j).1,RDc.keep hk b j _ _ o⟩
 |gone=>exact h.elim
theorem Grows.refl(M:Nat->Prop)(w):Grows M w w:=⟨rfl,rfl,Out.refl w,aW _,λ_ _ _=>rfl,λ_ _ _ h=>h⟩
section
variable {F:Fr}{N:Nat}{B:Nat->Gh}{s:S}{a:Act}{w:World}
theorem S.redo_sl(s:S)(g)(new)(k):aget (s.redo g new).sl k=(aget s.sl k).map (V.kill g):=by grind[S.redo,aqI]
theorem S.redo_pl(s:S)(g:am Nat)(new:am (Nat×Pl))(p):
 aget (s.redo g new).pl p=match aget new p with|some x=>some x|none=>if isin p g=false then(aget s.pl p).map (Pl.kill g)else none:=by grind[S.redo,atX,aqI,YT]
theorem Rel.redoG(hr:Rel F N B s a w)(j)(new)(ι':Nat->Gh)(w')
 (hι:∀p,isin p j=false->ι' p=B p)
 (P:∀b,b<w.heap.size->(∀q y,(isin q j=true\/aget new q≠none)->aget s.pl q=some y->y.live=true->(B q).b≠some b)->w'.heap[b]?=w.heap[b]?)
 (hs:yx w w') (ai:w'.os=w.os) (ae:w'.tape=w.tape) (af:Out w w') (R:w.heap.size<=w'.heap.size)
 (au:∀p x,aget new p=some x->PR ι' w' (F.ok ι' (s.redo j new).pl w') p x)
 (l:∀p x b,aget new p=some x->(ι' p).b=some b->b<w'.heap.size/\(w.heap.size<=b\/∃q y,(isin q j=true\/aget new q≠none)/\aget s.pl q=some y/\y.live=true/\(B q).b=some b))
 (an:∀p q x y b,aget new p=some x->aget new q=some y->p≠q->(ι' p).b=some b->(ι' q).b≠some b)
 (hh:∀p x g,aget new p=some x->F.h p=some g->ι' p=g):
 Rel F N ι' (s.redo j new) a w':=by
 have ab:∀b,Owns ι' (s.redo j new).pl b->(w.heap.size<=b\/Owns B s.pl b)/\b<w'.heap.size:=by
  rintro b ⟨p,x,i,hl,o⟩;rw[S.redo_pl]at i;cases hn:aget new p with
  |some y=>
   simp only[hn]at i;obtain⟨h1,U⟩:=l p y b hn o;refine⟨?_,h1⟩;rcases U with U|⟨q,z,_,h4,h5,h6⟩
   .grind
   exact .inr ⟨q,z,h4,h5,h6⟩
  |none=>
   simp only[hn]at i;split at i
   .rename_i hk;cases J:aget s.pl p with
    |none=>grind
    |some y=>
     rw[J]at i;simp at i;subst i;have ho:Owns B s.pl b:=⟨p,y,J,by grind[Pl.live_kill],ek⟩;exact⟨.inr ho,aT (hr.mine b ho).2 R⟩
   cases i
 have ac:zP w w' (F.ok B s.pl w) (F.ok ι' (s.redo j new).pl w'):=by
  intro b o;obtain⟨h1,U,I⟩:=o;refine⟨⟨h1,aT U R,λho=>?_⟩,P b U (λq y _ T hl hq=>I ⟨q,y,T,hl,hq⟩)⟩
  grind
 refine⟨hr.room,?_,?_,?_,?_,hr.defers,?_,hr.foreign,hr.handed,hr.few,hr.hdom,?_⟩
 rotate_left 5
 .intro p x g i hg;rw[S.redo_pl]at i;cases hn:aget new p with
  |some y=>grind
  |none=>
   simp only[hn]at i;split at i
   .rename_i hk;cases J:aget s.pl p with
    |none=>grind
    |some y=>rw[hι p hk];exact hr.hkeep p y g J hg
   cases i
 .intro k v hv;rw[S.redo_sl]at hv;cases hk:aget s.sl k with
  |none=>grind
  |some u=>
   rw[hk]at hv;simp at hv;subst hv;obtain⟨x,h1,U⟩:=hr.slots k u hk<;>grind[VR.kill]
 .intro p x i;rw[S.redo_pl]at i;cases hn:aget new p with
  |some y=>grind
  |none=>
   simp only[hn]at i;split at i
   .rename_i hk;cases J:aget s.pl p with
    |none=>grind
    |some y=>
     rw[J]at i;simp at i;subst i;refine PR.kill ac hs hι p hk y (λhl b o=>?_) (hr.places p y J);refine P b (hr.mine b ⟨p,y,J,hl,o⟩).2 (λq z hq hz ar ak=>?_);have ad:p≠q:=λe=>ek
     exact hr.inj p q y z b J hz ad hl o ak
   cases i
 .intro p q x y b i T ad hl o hq;rw[S.redo_pl]at i T;cases hn:aget new p with
  |some x'=>
   simp only[hn]at i;cases i;cases hm:aget new q with
   |some y'=>grind
   |none=>
    simp only[hm]at T;split at T
    .rename_i hk;cases aa:aget s.pl q with
     |none=>grind
     |some z=>
      rw[aa]at T;simp at T;rw[hι q hk]at hq;obtain⟨_,U⟩:=l p _ b hn o;have aq:b<w.heap.size:=by
       have hz:=hr.places q z aa;cases z with
       |box cs=>obtain⟨b',ag,e1,e2,_⟩:=hz;rw[hq]at e1;cases e1;exact e2.lt
       |arr sz ao fz=>
        obtain⟨_,_,hz|⟨b',e1,e2,e3,e4⟩⟩:=hz
        .rw[hq]at hz;cases hz.1
        rw[hq]at e1;cases e1;cases fz
        .obtain⟨ag,e5,_⟩:=e4 rfl;exact e5.lt
        exact(e3 rfl).2.1
       |fbox ds=>obtain⟨b',e1,e2,_⟩:=hz;rw[hq]at e1;cases e1;exact e2.2.1
       |gone=>exact hz.elim
      rcases U with U|⟨r,u,I,h4,h5,h6⟩
      .omega
      have al:r≠q:=λe=>by subst e;rcases I with I|I; ·rw[hk]at I;cases I
                          .exact I hm
      exact hr.inj r q u z b h4 aa al h5 h6 hq
    cases T
  |none=>
   simp only[hn]at i;split at i
   .rename_i hk;cases J:aget s.pl p with
    |none=>rw[J]at i;cases i
    |some x'=>
     rw[J]at i;simp at i;subst i;rw[Pl.live_kill]at hl;rw[hι p hk]at o;cases hm:aget new q with
     |some y'=>
      obtain⟨_,U⟩:=l q y' b hm hq;rcases U with U|⟨r,u,I,h4,h5,h6⟩
      .have:=(hr.mine b ⟨p,x',J,hl,o⟩).2;omega
      have aj:p≠r:=λe=>by subst e;rcases I with I|I; ·rw[hk]at I;cases I
                          .exact I hn
      exact hr.inj p r x' u b J h4 aj hl o h6
     |none=>
      simp only[hm]at T;split at T
      .rename_i ah;cases aa:aget s.pl q with
       |none=>rw[aa]at T;cases T
       |some z=>
        rw[hι q ah]at hq;exact hr.inj p q x' z b J aa ad hl o hq
      cases T
   cases i
 .intro b o;obtain⟨h1,U⟩:=ab b o;refine⟨?_,U⟩;rcases h1 with h1|h1
  .exact .inr (bX hr.grows.size h1)
  exact(hr.mine b h1).1
 refine⟨ai.trans hr.grows.os,ae.trans hr.grows.tape,af.trans hr.grows.output,bX hr.grows.size R,λb o hm=>?_,λb t m h=>hs b t m (hr.grows.shapes b t m h)⟩;rw[P b (aT o hr.grows.size) ?_]
 .exact hr.grows.block b o hm
 intro q y _ T hl hq;rcases(hr.mine b ⟨q,y,T,hl,hq⟩).1 with h|h
 .exact hm h
 omega
theorem Rel.redo(hr:Rel F N B s a w)(i)(new)(ι':Nat->Gh)(w')
 (hι:∀p,isin p i=false->ι' p=B p)
 (l:∀b,b<w.heap.size->(∀q y,isin q i=true->aget s.pl q=some y->y.live=true->(B q).b≠some b)->w'.heap[b]?=w.heap[b]?)
 (hs:yx w w') (T:w'.os=w.os) (I:w'.tape=w.tape) (P:Out w w') (o:w.heap.size<=w'.heap.size)
 (U:∀p x,aget new p=some x->PR ι' w' (F.ok ι' (s.redo i new).pl w') p x)
 (j:∀p x b,aget new p=some x->(ι' p).b=some b->b<w'.heap.size/\(w.heap.size<=b\/∃q y,isin q i=true/\aget s.pl q=some y/\y.live=true/\(B q).b=some b))
 (J:∀p q x y b,aget new p=some x->aget new q=some y->p≠q->(ι' p).b=some b->(ι' q).b≠some b)
 (hh:∀p x,aget new p=some x->F.h p=none):
 Rel F N ι' (s.redo i new) a w':=
 hr.redoG i new ι' w' hι (λb R h=>l b R λq y hq=>h q y (.inl hq)) hs T I P o U
  (λp x b hx R=>⟨(j p x b hx R).1,(j p x b hx R).2.imp id λ⟨q,y,h,r⟩=>⟨q,y,.inl h,r⟩⟩) J (λp x g hx hg=>ek)
theorem Rel.h_slot(hr:Rel F N B s a w){d}(i:d<N):F.h d=none:=by
 cases h:F.h d with
 |none=>rfl
 |some g=>have:=hr.hdom d g h;have:=hr.few;omega
theorem Rel.h_big(hr:Rel F N B s a w){i}(j:600000<=i):F.h i=none:=by
 cases h:F.h i with
 |none=>rfl
 |some g=>have:=hr.hdom i g h;omega
theorem PR.keep{B:Nat->Gh}{w}{ok ok':Nat->Prop}(hk:zP w w ok ok'){p}{x}(h:PR B w ok p x):PR B w ok' p x:=by
 cases x with
 |box cs=>obtain⟨b,j,e1,g,i⟩:=h;exact⟨b,j,e1,g,CRs.keep hk (yx.refl w) _ _ i⟩
 |arr sz l P=>
  obtain⟨h0,o,h|⟨b,e1,g,i,r⟩⟩:=h
  .exact⟨h0,o,.inl h⟩
  exact⟨h0,o,.inr ⟨b,e1,RDs.keep' hk b sz l 0 (λ_ _ _=>rfl) g,λI=>(hk b (i I)).1,r⟩⟩
 |fbox J=>obtain⟨b,e1,g,i⟩:=h;exact⟨b,e1,(hk b g).1,RDc.keep hk b g _ _ i⟩
 |gone=>exact h.elim
theorem Rel.sub(hr:Rel F N B s a w)(t)(h1:∀k v,aget t.sl k=some v->aget s.sl k=some v)(r:∀p x,aget t.pl p=some x->aget s.pl p=some x):Rel F N B t a w:=by
 have l:∀b,Owns B t.pl b->Owns B s.pl b:=λb ⟨p,x,e1,j,o⟩=>⟨p,x,r p x e1,j,o⟩
 have i:zP w w (F.ok B s.pl w) (F.ok B t.pl w):=λb I=>⟨⟨I.1,I.2.1,λh=>I.2.2 (l b h)⟩,rfl⟩
 refine⟨hr.room,λk v hv=>?_,λp x J=>?_,λp q x y b J hy=>hr.inj p q x y b (r p x J) (r q y hy),λb I=>hr.mine b (l b I),hr.defers,hr.grows,hr.foreign,hr.handed,hr.few,hr.hdom,λp x g J hg=>hr.hkeep p x g (r p x J) hg⟩
 .obtain⟨x,e1,j⟩:=hr.slots k v (h1 k v hv)
  grind[VR.keep,yx.refl]
 have h:=hr.places p x (r p x J);cases x with
 |box cs=>obtain⟨b,P,e1,j,o⟩:=h;exact⟨b,P,e1,j,CRs.keep i (yx.refl w) _ _ o⟩
 |arr sz R fz=>
  obtain⟨h0,T,h|⟨b,e1,j,o,U⟩⟩:=h
  .exact⟨h0,T,.inl h⟩
  exact⟨h0,T,.inr ⟨b,e1,RDs.keep' i b sz R 0 (λ_ _ _=>rfl) j,λhf=>(i b (o hf)).1,U⟩⟩
 |fbox ds=>obtain⟨b,e1,j,o⟩:=h;exact⟨b,e1,(i b j).1,RDc.keep i b j _ _ o⟩
 |gone=>exact h.elim
theorem Act.put_size(a:Act)(d)(v):(a.put d v).tmps.size=a.tmps.size:=by cases d<;>grind[Act.put]
theorem Act.put_defers(a:Act)(d)(v):(a.put d v).defers=a.defers:=by cases d<;>grind[Act.put]
theorem Rel.put(hr:Rel F N B s a w)(d:aA Tmp)(j:∀k,d=some k->k<N)(v)(x)(o:VR B w (F.ok B s.pl w) v x):Rel F N B (s.put d v) (a.put d x) w:=by
 cases d with
 |none=>exact hr
 |some d=>
  have l:d<a.tmps.size:=aT (j d rfl) hr.room.1;refine⟨by rw[Act.put_size];exact hr.room,λk u g=>?_,hr.places,hr.inj,hr.mine,by rw[Act.put_defers];exact hr.defers,hr.grows,hr.foreign,hr.handed,hr.few,hr.hdom,hr.hkeep⟩;simp only[S.put,yR]at g;simp only[Act.put];by_cases hk:d=k
  .subst hk;simp only[cK]at g;cases g;exact⟨x,ek,o⟩
  rw[bF hk]at g;obtain⟨y,e1,i⟩:=hr.slots k u g;exact⟨y,eu,i⟩
end
section
variable {F:Fr}{N:Nat}{B:Nat->Gh}{s:S}{a:Act}{w:World}
def S.withPl(s:S)(pl):={s with pl:=pl}
theorem uk(pl:am (Nat×Pl))(p q):aget (vH pl p) q=if p=q then(match aget pl p with|some (.arr z g _)=>some (.arr z g true)|x=>x)else aget pl q:=by grind[vH,yR]
theorem Rel.freeze(hr:Rel F N B s a w)(p):Rel F N B (s.withPl (vH s.pl p)) a w:=by
 have U:∀b,Owns B (vH s.pl p) b->Owns B s.pl b:=by
  rintro b ⟨q,x,I,T,h3⟩;rw[uk]at I;split at I
  .rename_i e;subst e;cases J:aget s.pl p with
   |none=>grind
   |some y=>
    rw[J]at I;cases y with
    |arr z R fz=>cases I;cases T
    |_=>cases I;exact⟨p,_,J,T,h3⟩
  exact⟨q,x,I,T,h3⟩
 have i:zP w w (F.ok B s.pl w) (F.ok B (vH s.pl p) w):=λb hb=>⟨⟨hb.1,hb.2.1,λh=>hb.2.2 (U b h)⟩,rfl⟩
 refine⟨hr.room,λk v hv=>?_,λq x hx=>?_,λq r x y b hx hy ac hl hb ad=>?_,λb hb=>hr.mine b (U b hb),hr.defers,hr.grows,hr.foreign,hr.handed,hr.few,hr.hdom,λq x g hx hg=>?_⟩
 rotate_left 3
 .have j:aget (vH s.pl p) q=some x:=hx;rw[uk]at j;split at j
  .rename_i e;subst e;cases J:aget s.pl p with
   |none=>grind
   |some y=>exact hr.hkeep p y g J hg
  exact hr.hkeep q x g j hg
 .obtain⟨x,e1,l⟩:=hr.slots k v hv;exact⟨x,e1,VR.keep i (yx.refl w) v x l⟩
 .have j:aget (vH s.pl p) q=some x:=hx;rw[uk]at j;split at j
  .rename_i e;subst e;cases J:aget s.pl p with
   |none=>grind
   |some y=>
    have h:=hr.places p y J;rw[J]at j;cases y with
    |box cs=>cases j;obtain⟨b,aa,e1,l,P⟩:=h;exact⟨b,aa,e1,l,CRs.keep i (yx.refl w) _ _ P⟩
    |fbox ds=>cases j;obtain⟨b,e1,l,P⟩:=h;exact⟨b,e1,(i b l).1,RDc.keep i b l _ _ P⟩
    |gone=>exact h.elim
    |arr z R fz=>
     cases j;obtain⟨h0,hn,h|⟨b,e1,l,P,e4⟩⟩:=h
     .exact⟨h0,hn,.inl h⟩
     refine⟨h0,hn,.inr ⟨b,e1,RDs.keep' i b z R 0 (λ_ _ _=>rfl) l,λ_=>?_,λhf=>by cases hf⟩⟩;cases fz
     .have ho:Owns B s.pl b:=⟨p,_,J,rfl,e1⟩;refine⟨?_,(hr.mine b ho).2,?_⟩
      .rcases(hr.mine b ho).1 with h|h<;>grind
      rintro⟨q,x,I,T,h3⟩;have o:aget (vH s.pl p) q=some x:=I;rw[uk]at o;split at o
      .rename_i e;subst e;rw[J]at o;cases o;cases T
      rename_i ab;exact hr.inj p q _ x b J o ab rfl e1 h3
     exact(i b (P rfl)).1
  have h:=hr.places q x j;cases x with
  |box cs=>obtain⟨b,aa,e1,l,P⟩:=h;exact⟨b,aa,e1,l,CRs.keep i (yx.refl w) _ _ P⟩
  |fbox ds=>obtain⟨b,e1,l,P⟩:=h;exact⟨b,e1,(i b l).1,RDc.keep i b l _ _ P⟩
  |gone=>exact h.elim
  |arr sz R fz=>
   obtain⟨h0,hn,h|⟨b,e1,l,P,e4⟩⟩:=h
   .exact⟨h0,hn,.inl h⟩
   exact⟨h0,hn,.inr ⟨b,e1,RDs.keep' i b sz R 0 (λ_ _ _=>rfl) l,λhf=>(i b (P hf)).1,e4⟩⟩
 have j:aget (vH s.pl p) q=some x:=hx;have ae:aget (vH s.pl p) r=some y:=hy;rw[uk]at j ae;have I:∃x',aget s.pl q=some x'/\x'.live=true:=by
  split at j
  .rename_i e;subst e;cases J:aget s.pl p with
   |none=>grind
   |some z=>
    rw[J]at j;cases z with
    |arr z R fz=>cases j;cases hl
    |_=>cases j;exact⟨_,rfl,hl⟩
  grind
 have T:∃y',aget s.pl r=some y':=ek
 obtain⟨x',I,o⟩:=I;obtain⟨y',T⟩:=T;exact hr.inj q r x' y' b I T ac o hb ad
theorem aAf(p b)(h:F.ok B s.pl w b):F.ok B (vH s.pl p) w b:=by
 refine⟨h.1,h.2.1,λr=>h.2.2 ?_⟩;obtain⟨q,x,g,i,j⟩:=r;rw[uk]at g;split at g
 .rename_i e;subst e;cases l:aget s.pl p with
  |none=>grind
  |some y=>
   rw[l]at g;cases y with
   |arr z o I=>cases g;cases i
   |_=>cases g;exact⟨p,_,l,i,j⟩
 exact⟨q,x,g,i,j⟩
theorem Rel.still(hr:Rel F N B s a w){p}{x y}(hp:aget s.pl p=some x)(hx:x.live=true)(hy:y.live=false)
 (ab:(∀b,F.ok B s.pl w b->F.ok B (xf p y s.pl) w b)->(∀b,(B p).b=some b->F.ok B (xf p y s.pl) w b)->PR B w (F.ok B (xf p y s.pl) w) p y):
 Rel F N B (s.withPl (xf p y s.pl)) a w/\(∀b,F.ok B s.pl w b->F.ok B (xf p y s.pl) w b)/\(∀b,(B p).b=some b->F.ok B (xf p y s.pl) w b):=by
 have I:∀b,Owns B (xf p y s.pl) b->Owns B s.pl b/\(B p).b≠some b:=by
  rintro b ⟨q,z,h1,h2,h3⟩;rw[yR]at h1;split at h1
  .grind
  rename_i aa;exact⟨⟨q,z,h1,h2,h3⟩,λe=>hr.inj p q x z b hp h1 aa hx e h3⟩
 have j:∀b,F.ok B s.pl w b->F.ok B (xf p y s.pl) w b:=λb l=>⟨l.1,l.2.1,λh=>l.2.2 (I b h).1⟩
 have o:zP w w (F.ok B s.pl w) (F.ok B (xf p y s.pl) w):=λb l=>⟨j b l,rfl⟩
 have J:∀b,(B p).b=some b->F.ok B (xf p y s.pl) w b:=λb l=>by have ho:Owns B s.pl b:=⟨p,x,hp,hx,l⟩;refine⟨?_,(hr.mine b ho).2,λh=>(I b h).2 l⟩;rcases(hr.mine b ho).1 with h|h<;>grind
 refine⟨⟨hr.room,λk v hv=>?_,λq z U=>?_,λq r z u b U hu R hl l T=>?_,λb l=>hr.mine b (I b l).1,hr.defers,hr.grows,hr.foreign,hr.handed,hr.few,hr.hdom,λq z g U hg=>?_⟩,j,J⟩
 .obtain⟨u,e1,e2⟩:=hr.slots k v hv;exact⟨u,e1,VR.keep o (yx.refl w) v u e2⟩
 .have i:aget (xf p y s.pl) q=some z:=U;rw[yR]at i;split at i
  .rename_i e;subst e;cases i;exact ab j J
  exact PR.keep o (hr.places q z i)
 .have i:aget (xf p y s.pl) q=some z:=U;have P:aget (xf p y s.pl) r=some u:=hu;rw[yR]at i P;split at i
  .grind
  split at P
  .rename_i e;subst e;exact hr.inj q p z x b i hp R hl l T
  exact hr.inj q r z u b i P R hl l T
 have i:aget (xf p y s.pl) q=some z:=U;rw[yR]at i;split at i
 .rename_i e;subst e;exact hr.hkeep p x g hp hg
 exact hr.hkeep q z g i hg
theorem asy(hr:Rel F N B s a w){p z n}{v}{sz}{g}{i}(r:aget s.pl p=some (.arr sz g i))(J:z=sz)
 (h:CR B w (F.ok B s.pl w) (.own p z n) v):n<=g.length/\((n=0/\v=.slice none 0 0/\(B p).b=none/\g=[])\/
  ∃b cap t,(B p).b=some b/\v=.slice (some ⟨b,0,none⟩) n cap/\n<=cap/\cap<=maxLen/\w.shape? b=some (t,cap*sz)/\RDs w (F.ok B s.pl w) b sz 0 g):=by
 subst J;obtain⟨h0,U,I⟩:=hr.places p _ r;rcases h with⟨j,l,o⟩|⟨b,cap,t,j,l,o,P,R,T⟩
 .simp_all
 grind
theorem afB(hr:Rel F N B s a w){p z n}{v}{sz}{g}{i}(r:aget s.pl p=some (.arr sz g i))
 (h:CR B w (F.ok B s.pl w) (.own p z n) v):n<=g.length/\((n=0/\v=.slice none 0 0/\(B p).b=none/\g=[])\/
  ∃b cap t,(B p).b=some b/\v=.slice (some ⟨b,0,none⟩) n cap/\n<=cap/\cap<=maxLen/\w.shape? b=some (t,cap*z)/\RDs w (F.ok B s.pl w) b sz 0 g):=by
 obtain⟨h0,T,I⟩:=hr.places p _ r;rcases h with⟨j,l,o⟩|⟨b,cap,t,j,l,o,J,P,R⟩
 .simp_all
 grind
theorem aAj(hr:Rel F N B s a w){p sz n}{g}{I}(U:aget s.pl p=some (.arr sz g I)){b cap}(J:(B p).b=some b)(T:n<=g.length)
 (j:n<=cap) (i:cap<=maxLen):
 RD w (F.ok B (vH s.pl p) w) (.sl (g.take n)) (.slice (some ⟨b,0,none⟩) n cap):=by
 simp only[RD];refine⟨_,_,_,rfl,ew,j,i,?_⟩;have l:=(hr.freeze p).places p (.arr sz g true) (by show aget (vH s.pl p) p=_;simp_all[uk]);obtain⟨_,_,l|⟨P,e1,o,r,R⟩⟩:=l
 .grind
 rw[J]at e1;cases e1;exact .inr ⟨b,0,sz,rfl,r rfl,RDs.take n o⟩
theorem af9(hr:Rel F N B s a w){c}{v}(j:CR B w (F.ok B s.pl w) c v){x}{g}(h:VN s.pl c=some (x,g)):
 Rel F N B (s.withPl g) a w/\(∀b,F.ok B s.pl w b->F.ok B g w b)/\RD w (F.ok B g w) x v:=by
 cases c with
 |d y=>cases h;exact⟨hr,λ_ h=>h,j⟩
 |nil=>cases h;exact⟨hr,λ_ h=>h,by simp only[CR]at j;subst j;simp only[RD];exact⟨none,0,0,rfl,rfl,aW _,cJ _,.inl trivial⟩⟩
 |own p z n=>
  simp only[VN]at h;cases r:aget s.pl p with
  |none=>grind
  |some y=>
   cases y with
   |box cs=>grind
   |fbox T=>grind
   |gone=>grind
   |arr sz I U=>
    simp only[r]at h;cases h;refine⟨hr.freeze p,λb=>aAf p b,?_⟩;obtain⟨hn,h|⟨b,cap,t,J,P,h3,h4,h5,h6⟩⟩:=afB hr r j
    .obtain⟨rfl,rfl,_,_⟩:=h;simp only[RD,List.take_zero];exact⟨none,0,0,rfl,rfl,aW _,cJ _,.inl trivial⟩
    grind[aAj]
 |dead=>cases h
 |sub p z o n=>cases h
 |ptr p o=>cases h
 |eptr p z i k=>cases h
 |fp l=>cases h
 |clo f l=>
  cases l with
  |cons _ _=>cases h
  |nil=>
   cases h;refine⟨hr,λ_ h=>h,?_⟩;obtain⟨R,J,P⟩:=j<;>simp_all[RD,RDf]
theorem Vz:∀{cs:am C}{vs:am Value}{s:S}(_:Rel F N B s a w) (_:CRs B w (F.ok B s.pl w) cs vs) {o:am D}{g:am (Nat×Pl)}(_:jN s.pl cs=some (o,g)),
 Rel F N B (s.withPl g) a w/\(∀b,F.ok B s.pl w b->F.ok B g w b)/\CRs B w (F.ok B g w) (o.map .d) vs
 |[],[],s,hr,_,o,g,h=>by cases h;exact⟨hr,λ_ h=>h,trivial⟩
 |[],_::_,_,_,j,_,_,_=>j.elim
 |_::_,[],_,_,j,_,_,_=>j.elim
 |c::cs,v::vs,s,hr,j,o,g,h=>by
  unfold jN at h;cases p:VN s.pl c with
  |none=>rw[p]at h;cases h
  |some y=>
   obtain⟨y,i⟩:=y;rw[p]at h;simp only[]at h;obtain⟨g1,g2,g3⟩:=af9 hr j.1 p;cases r:jN i cs with
   |none=>rw[r]at h;cases h
   |some z=>
    obtain⟨z,R⟩:=z;rw[r]at h;cases h;have hk:zP w w (F.ok B s.pl w) (F.ok B i w):=λb l=>⟨g2 b l,rfl⟩
    obtain⟨J,I,P⟩:=Vz (s:=s.withPl i) g1 (CRs.keep hk (yx.refl w) _ _ j.2) r;exact⟨J,λb l=>I b (g2 b l),RD.keep (λb l=>⟨I b l,rfl⟩) _ _ g3,P⟩
theorem ayA(hr:Rel F N B s a w){c}{v}(j:WR B w (F.ok B s.pl w) c v){x}{g}(h:ayz s.pl c=some (x,g)):
 Rel F N B (s.withPl g) a w/\(∀b,F.ok B s.pl w b->F.ok B g w b)/\(∀ι',WR ι' w (F.ok B g w) x v):=by
 cases c with
 |c c=>
  by_cases o:∃l,c=.fp l
  .obtain⟨l,rfl⟩:=o;cases h;exact⟨hr,λ_ h=>h,λ_=>j⟩
  have r:(match VN s.pl c with|some (y,g)=>some (W.c (.d y),g)|none=>none)=some (x,g):=by
   rw[<-h];cases c with
   |fp l=>grind
   |_=>rfl
  cases i:VN s.pl c with
  |none=>grind
  |some y=>
   simp only[i]at r;cases r;obtain⟨g1,g2,g3⟩:=af9 hr j i;exact⟨g1,g2,λ_=>g3⟩
 |agg cs=>
  simp only[ayz]at h;cases i:jN s.pl cs with
  |none=>grind
  |some y=>
   simp only[i]at h;cases h;obtain⟨vs,rfl,j⟩:=j;obtain⟨g1,g2,g3⟩:=Vz hr j i;refine⟨g1,g2,λι'=>⟨vs,rfl,?_⟩⟩;clear i j;generalize y.1=p at*;induction p generalizing vs with
   |nil=>cases vs<;>exact g3
   |cons d p I=>cases vs with
    |nil=>exact g3
    |cons v vs=>exact⟨g3.1,I vs g3.2⟩
theorem ahS:∀{cs:am W}{vs:am Value}{s:S}(_:Rel F N B s a w) (_:qN B w (F.ok B s.pl w) cs vs) {o:am W}{g:am (Nat×Pl)}(_:ady s.pl cs=some (o,g)),
 Rel F N B (s.withPl g) a w/\(∀b,F.ok B s.pl w b->F.ok B g w b)/\(∀ι',qN ι' w (F.ok B g w) o vs)
 |[],[],s,hr,_,o,g,h=>by cases h;exact⟨hr,λ_ h=>h,λ_=>trivial⟩
 |[],_::_,_,_,j,_,_,_=>j.elim
 |_::_,[],_,_,j,_,_,_=>j.elim
 |c::cs,v::vs,s,hr,j,o,g,h=>by
  unfold ady at h;cases p:ayz s.pl c with
  |none=>rw[p]at h;cases h
  |some y=>
   obtain⟨y,i⟩:=y;rw[p]at h;simp only[]at h;obtain⟨g1,g2,g3⟩:=ayA hr j.1 p;cases r:ady i cs with
   |none=>rw[r]at h;cases h
   |some z=>
    obtain⟨z,R⟩:=z;rw[r]at h;cases h;have hk:zP w w (F.ok B s.pl w) (F.ok B i w):=λb l=>⟨g2 b l,rfl⟩
    obtain⟨J,I,P⟩:=ahS (s:=s.withPl i) g1 (qN.keep hk (yx.refl w) _ _ j.2) r;exact⟨J,λb l=>I b (g2 b l),λι'=>⟨WR.keep (λb l=>⟨I b l,rfl⟩) (yx.refl w) _ _ (g3 ι'),P ι'⟩⟩
end
theorem anA(B:Nat->Gh)(w)(ok:Nat->Prop)(v):CR B w ok (QA v) v:=by
 unfold QA
 split<;>first
  |trivial
  |rfl
  |(simp only[CR,RD];exact⟨rfl,rfl⟩)
theorem XH(B:Nat->Gh)(w)(ok:Nat->Prop):∀(vs),CRs B w ok (vs.map QA) vs
 |[]=>trivial
 |v::vs=>⟨anA B w ok v,XH B w ok vs⟩
theorem J0(B:Nat->Gh)(w)(ok:Nat->Prop)(v):WR B w ok (ofValue v) v:=by
 unfold ofValue;split
 .exact⟨_,ep,XH B w ok _⟩
 exact anA B w ok _
section
variable {F:Fr}{N:Nat}{B:Nat->Gh}{s:S}{a:Act}{w:World}
theorem ayU(hr:Rel F N B s a w)(t):VR B w (F.ok B s.pl w) (s.tmp t) (a.tmps.getD t undef):=by
 unfold S.tmp;cases h:aget s.sl t with
 |none=>trivial
 |some v=>
  obtain⟨x,g,i⟩:=hr.slots t v h<;>simp_all
theorem jI(hr:Rel F N B s a w)(x):VR B w (F.ok B s.pl w) (s.o (cO x)) (a.eval x):=by
 cases x with
 |tmp t=>exact ayU hr t
 |const v=>exact J0 B w _ v
 |global g=>trivial
 |func f=>exact⟨[],rfl,rfl⟩
theorem qZ(hr:Rel F N B s a w)(x):CR B w (F.ok B s.pl w) (s.oc (cO x)) (a.eval x):=by
 have h:=jI hr x;unfold S.oc cOf;cases e:s.o (cO x)with
 |w y=>rw[e]at h;cases y with
  |c z=>exact h
  |agg cs=>trivial
 |tup xs=>trivial
theorem awm(hr:Rel F N B s a w)(x):WR B w (F.ok B s.pl w) (s.ow (cO x)) (a.eval x):=by
 have h:=jI hr x;unfold S.ow wOf;cases e:s.o (cO x)with
 |w y=>rw[e]at h;exact h
 |tup xs=>trivial
theorem ajF(hr:Rel F N B s a w):∀(l:am aC),qN B w (F.ok B s.pl w) ((l.map cO).map s.ow) (l.map a.eval)
 |[]=>trivial
 |x::r=>⟨awm hr x,ajF hr r⟩
end
def qz(P:Program)(F:Fr)(N:Nat)(o:Oper)(a:Act)(w)(K:S->Prop):=
 ∀(next:Act->World->Prop) (Q:Exit->Act->World->Prop),(∀B s g w',Rel F N B s g w'->K s->next g w')->o.wp P a w next Q
section
variable {P:Program}{F:Fr}{N:Nat}{B:Nat->Gh}{s:S}{a:Act}{w:World}{o:Oper}{K:S->Prop}
theorem qz.of_value{v}{w'}{ι':Nat->Gh}{g}(h:(aF a.eval o).run P w=.ok (.value v) w')(hr:Rel F N ι' g (a.put o.dst v) w')(hk:K g):qz P F N o a w K:=by intro next Q i;unfold ei;rw[h];exact i ι' g _ _ hr hk
theorem qz.of_skip{w'}{ι':Nat->Gh}{g}(h:(aF a.eval o).run P w=.ok .skip w')(hr:Rel F N ι' g (a.put o.dst undef) w')(hk:K g):qz P F N o a w K:=by intro next Q i;unfold ei;rw[h];exact i ι' g _ _ hr hk
theorem qz.put(hr:Rel F N B s a w)(g:∀k,o.dst=some k->k<N){v}{x}(h:(aF a.eval o).run P w=.ok (.value v) w)(i:VR B w (F.ok B s.pl w) x v)(hk:K (s.put o.dst x)):qz P F N o a w K:=
 qz.of_value h (hr.put o.dst g x v i) hk
def zN(P:Program)(F:Fr)(N:Nat)(o:Oper)(a:Act)(w)(C:World->Prop)(K:S->Prop):=
 ∃v ι' g,(∀w',C w'->(aF a.eval o).run P w'=.ok (.value v) w')/\Rel F N ι' g (a.put o.dst v) w/\K g
theorem zN.fine{C:World->Prop}(hC:C w)(h:zN P F N o a w C K):qz P F N o a w K:=
 let⟨_,_,_,g,i,j⟩:=h
 qz.of_value (g w hC) i j
theorem zN.put{C:World->Prop}(hr:Rel F N B s a w)(g:∀k,o.dst=some k->k<N){v}{x}(h:∀w',C w'->(aF a.eval o).run P w'=.ok (.value v) w')(i:VR B w (F.ok B s.pl w) x v)(hk:K (s.put o.dst x)):zN P F N o a w C K:=
 ⟨v,B,_,h,hr.put o.dst g x v i,hk⟩
def u9(w w':World):=w.heap.size<=w'.heap.size/\∀b,b<w.heap.size->w'.heap[b]?=w.heap[b]?
theorem u9.refl(w):u9 w w:=⟨aW _,λ_ _=>rfl⟩
theorem u9.trans{w w' g}(h:u9 w w')(k:u9 w' g):u9 w g:=
 ⟨bX h.1 k.1,λb i=>(k.2 b (aT i h.1)).trans (h.2 b i)⟩
theorem u9.cell{w w'}(h:u9 w w'){b q}{v}(i:w.cell? ⟨b,q,none⟩=some v):w'.cell? ⟨b,q,none⟩=some v:=by
 have j:b<w.heap.size:=by
  rcases dm b w.heap.size with g|g
  .exact g
  simp[dd,aD.getElem?_eq_none g]at i
 simp only[dd,h.2 b j]at i⊢;exact i
def uS(P:Program)(F:Fr)(N:Nat)(o:Oper)(a:Act)(w)(K:S->Prop):=
 ∀(next:Act->World->Prop) (Q:Exit->Act->World->Prop),(∀B s g w',Rel F N B s g w'->K s->u9 w w'->next g w')->o.wp P a w next Q
theorem uS.fine(h:uS P F N o a w K):qz P F N o a w K:=λnext Q i=>h next Q λB s g w' hr hk _=>i B s g w' hr hk
theorem uS.of_value{v}{w'}{ι':Nat->Gh}{g}(i:u9 w w')(h:(aF a.eval o).run P w=.ok (.value v) w')(hr:Rel F N ι' g (a.put o.dst v) w')(hk:K g):uS P F N o a w K:=by intro next Q j;unfold ei;rw[h];exact j ι' g _ _ hr hk i
theorem wZ(b o j):(⟨b,o,none⟩:dD).add j=⟨b,o+j,none⟩:=by grind[Addr.add]
theorem ae2{t}{d}(h:P.underlying t=some d):∃i,P.info? t=some i:=by grind[Program.underlying]
theorem ue{t}{i}(h:P.info? t=some i)(w):(dg t).run P w=.ok (ya P t) w:=by simp_all[dg,cc,ya]
theorem af7{t}{g}(h:aa5 P t=some g):∃i,P.info? t=some i/\∀w,(isAgg t).run P w=.ok g w:=by
 unfold aa5 at h;cases j:P.underlying t with
 |none=>grind
 |some d=>
  obtain⟨i,l⟩:=ae2 j;refine⟨i,l,λw=>?_⟩;rw[j]at h;cases d<;>simp_all[isAgg,aG]
theorem ug{t e}(h:uG P t=some e):P.underlying t=some (.slice e):=by grind[uG]
theorem aa6{t}{f off}{i}(h:kN P t f=some (off,i)):∃g x,P.underlying t=some (.struct g)/\g[f]?=some x/\x.offset=off/\x.type=i:=by grind[kN]
theorem YN{v}{n}{x}{ok:Nat->Prop}(h:Qy v=some n)(g:VR B w ok v x):∃k,x=.int k n/\v=.w (.c (.d (.lit (.int k n)))):=by unfold Qy at h<;>grind[VR,WR,CR,RD]
theorem Vm{v}{b}{x}{ok:Nat->Prop}(h:xe v=some b)(g:VR B w ok v x):x=.bool b:=by unfold xe at h<;>grind[VR,WR,CR,RD]
theorem qf{ok:Nat->Prop}{v x}:CR B w ok (.d (.lit v)) x->x=v:=by grind[CR,RD]
theorem xP{ok:Nat->Prop}{v}(h:v.oneCell'=true):VR B w ok (cV (.d (.lit v))) v:=by grind[cV,VR,WR,CR,RD]
theorem aar(hr:Rel F N B s a w)(i:∀k,o.dst=some k->k<N){x}(g:o.op=.move x\/o.op=.assign x)(h:K (s.put o.dst (s.o (cO x)))):zN P F N o a w (λ_=>True) K:=by refine zN.put hr i ?_ (jI hr x) h;intro w' _;rcases g with g|g<;>simp_all[aF]
theorem aly(hr:Rel F N B s a w)(i:∀k,o.dst=some k->k<N){c x y}(l:o.op=.pick c x y)
 (h:match xe (s.o (cO c))with|some t=>cond t (K (s.put o.dst (s.o (cO x)))) (K (s.put o.dst (s.o (cO y))))|none=>False):zN P F N o a w (λ_=>True) K:=by
 cases g:xe (s.o (cO c))with
 |none=>grind
 |some t=>
  simp only[g]at h;have j:=Vm g (jI hr c);cases t
  .exact zN.put hr i (λw' _=>by simp_all[aF,asBool]) (jI hr y) h
  exact zN.put hr i (λw' _=>by simp_all[aF,asBool]) (jI hr x) h
theorem aoL(hr:Rel F N B s a w)(J:∀k,o.dst=some k->k<N){x}{i}(U:o.op=.extract x i)
 (h:yg P o.dst (.ext (cO x) i) s K):zN P F N o a w (λ_=>True) K:=by
 simp only[yg]at h;have r:=jI hr x;cases e:s.o (cO x)with
 |w y=>grind
 |tup xs=>
  simp only[e]at h;rw[e]at r;obtain⟨vs,hv,l⟩:=r;cases p:xs[i]? with
  |none=>grind
  |some y=>
   simp only[p]at h;have:∀(xs:am W) (vs:am Value) (i:Nat) (y:W),qN B w (F.ok B s.pl w) xs vs->xs[i]?=some y->∃v,vs[i]?=some v/\WR B w (F.ok B s.pl w) y v:=by
    intro xs;induction xs with
    |nil=>grind
    |cons z zs R=>
     intro vs i y j g;cases vs with
     |nil=>exact j.elim
     |cons v vs=>cases i with
      |zero=>simp at g;subst g;exact⟨v,rfl,j.1⟩
      |succ i=>simp at g;simpa using R vs i y j.2 g
   obtain⟨v,T,I⟩:=this xs vs i y l p;refine zN.put hr J ?_ (show VR B w _ (.w y) v from I) h;simp_all[aF,Instr.extract]
theorem atC(hr:Rel F N B s a w)(I:∀k,o.dst=some k->k<N){x}(J:o.op=.nilCheck x)
 (h:yg P o.dst (.nc (cO x)) s K):zN P F N o a w (λ_=>True) K:=by
 simp only[yg]at h;have r:=qZ hr x;cases e:s.oc (cO x)<;>simp only[e]at h<;>rw[e]at r
 case ptr p k=>
  obtain⟨b,g,j⟩:=r;exact zN.put hr I (v:=a.eval x) (λw' _=>by simp_all[aF]) (show VR B w _ (cV (.ptr p k)) _ from⟨b,g,j⟩) h
 case eptr p z i k=>
  obtain⟨b,g,j⟩:=r;exact zN.put hr I (v:=a.eval x) (λw' _=>by simp_all[aF]) (show VR B w _ (cV (.eptr p z i k)) _ from⟨b,g,j⟩) h
 case fp l=>
  obtain⟨b,q,g,j⟩:=r;exact zN.put hr I (v:=a.eval x) (λw' _=>by simp_all[aF]) (show VR B w _ (cV (.fp l)) _ from⟨b,q,g,j⟩) h
theorem aoi(hr:Rel F N B s a w):∀(g:am aC) (j:am Nat),asC s (g.map cO)=some j->∃i:am Nat,j.map (λp=>(B p).b)=i.map some/\g.map a.eval=i.map λb=>di (some ⟨b,0,none⟩)
 |[],j,h=>by cases h;simp_all
 |x::r,j,h=>by
  simp only[aV,asC]at h;have o:=qZ hr x;split at h
  .rename_i p l R T;cases h;rw[R]at o;obtain⟨b,e1,I⟩:=o;obtain⟨i,J,P⟩:=aoi hr r l T;exact⟨b::i,by simp[e1,J],by simp[I,P]⟩
  cases h
theorem aAV(hr:Rel F N B s a w)(r:∀k,o.dst=some k->k<N){f}{first g}(T:o.op=.makeFunc (.func f) first g)(R:first.toList.isEmpty=true)
 (h:yg P o.dst (.clo f (g.toList.map cO)) s K):qz P F N o a w K:=by
 simp only[yg]at h;cases e:asC s (g.toList.map cO)with
 |none=>grind
 |some l=>
  simp only[e]at h;obtain⟨j,p,I⟩:=aoi hr g.toList l e;have i:first= #[]:=ek
  refine qz.put hr r (v:=.func (.func f) #[] (j.map λb=>di (some ⟨b,0,none⟩)).toArray) ?_ (show VR B w _ (cV (.clo f l)) _ from⟨j,p,rfl⟩) h;have J:g.map a.eval=(j.map λb=>di (some ⟨b,0,none⟩)).toArray:=ek
  simp_all[aF,Instr.makeFunc]
theorem asE{α}:∀(e) (v:α),ab3 P e=some v->∀w,e.run P w=.ok v w:=by
 intro e;induction e with
 |pure x=>simp_all[ab3]
 |program k g=>intro v h w;exact g P v h w
 |mark m k g=>intro v h w;exact g v h w
 |_=>intro v h w;cases h
theorem akP{ok:Nat->Prop}:∀(cs) (l vs:am Value),aqm cs=some l->CRs B w ok cs vs->vs=l
 |[],_,[],h,_=>by cases h;rfl
 |[],_,_::_,_,h=>h.elim
 |_::_,_,[],_,h=>h.elim
 |c::cs,l,v::vs,h,j=>by
  simp only[aqm]at h;split at h
  .rename_i u m g o;cases h;have:=akP cs m vs o j.2;subst this;have i:=j.1;unfold axy at g;split at g
   .cases g;rw[qf i]
   .cases g;simp only[CR]at i;rw[i]
   cases g
  cases h
theorem az1{ok:Nat->Prop}{v}{u x}(h:asj v=some u)(g:VR B w ok v x):x=u:=by
 cases v with
 |tup xs=>cases h
 |w y=>
  cases y with
  |c c=>
   simp only[asj,aCy]at h;unfold axy at h;split at h
   .cases h;exact qf (B:=B) (w:=w) (ok:=ok) g
   .cases h;exact g
   cases h
  |agg cs=>
   simp only[asj,aCy]at h;obtain⟨vs,i,j⟩:=g<;>grind[akP]
theorem asH(hr:Rel F N B s a w):∀(l),aer s l=true->∀x∈l,rho s x=a.eval x
 |[],_,_,g=>by cases g
 |y::r,h,x,g=>by
  simp only[aer]at h;split at h
  .rename_i u i;rcases bL.1 g with rfl|g
   .unfold rho;rw[i];exact(az1 i (jI hr x)).symm
   exact asH hr r h x g
  cases h
def avP:Op->Bool
 |.convert _ _ _|.binOp _ _ _ _ _|.unOp _ _ _=>true
 |.call {callee:=.builtin _,args:=_,argTypes:=_}=>true
 |_=>false
theorem aw0{ρ ρ':aC->Value}{o j}(i:avP o.op=true)(l:j.op=o.op)(p:j.type=o.type)(h:∀x∈o.op.operands.toList,ρ x=ρ' x):aF ρ' j=aF ρ o:=by
 unfold aF;rw[l,p];cases r:o.op<;>rw[r]at i h<;>try (cases i;done)
 case convert src dst x=>simp[dq]at h;simp[h]
 case binOp b t x y u=>simp[dq]at h;simp[h.1,h.2]
 case unOp u t x=>simp[dq]at h;simp[h]
 case call c=>
  obtain⟨callee,args,I⟩:=c;cases callee<;>try (cases i;done)
  case builtin b=>
   have g:args.map ρ'=args.map ρ:=by grind[dq,Call.operands]
   simp[bD,g]
theorem uf(hr:Rel F N B s a w)(i:∀k,o.dst=some k->k<N)(j:avP o.op=true)(h:yg P o.dst (.pure o.op o.type) s K):zN P F N o a w (λ_=>True) K:=by
 simp only[yg,awo]at h;cases g:aer s o.op.operands.toList with
 |false=>grind
 |true=>
  rw[g]at h;simp only[aM]at h;split at h
  .rename_i v p;have l:aF a.eval o=aF (rho s) (asD o.op o.type):=aw0 (o:=asD o.op o.type) j rfl rfl (asH hr _ g);exact zN.put hr i (v:=v) (x:=.w (ofValue v)) (λw' _=>by grind[asE]) (J0 B w (F.ok B s.pl w) v) h
  grind
theorem ahE{k k'}(h:Z4 k k'=true):k=k':=by cases k<;>cases k'<;>first|rfl|cases h
theorem aBH{b}{k}{m n}{v}(h:alU b k m n=some v):v.oneCell'=true:=by unfold alU at h;split at h<;>cases h<;>rfl
theorem aBI{b}{m n}{v}(h:alV b m n=some v):v.oneCell'=true:=by unfold alV at h;split at h<;>cases h<;>rfl
theorem aDj{b}{k}{m n}{v}(h:alU b k m n=some v)(t)(w):(binOp b t (.int k m) (.int k n)).run P w=.ok v w:=by unfold alU at h;split at h<;>simp_all[binOp,Op.intArith,Op.intCmp,Op.intBits,WQ]
theorem aDk{b}{m n}{v}(h:alV b m n=some v)(t)(w):(binOp b t (.string m) (.string n)).run P w=.ok v w:=by unfold alV at h;split at h<;>simp_all[binOp,Op.stringOp,zl,Wv]
theorem Zg(b)(t)(x y){u v}(g:(∃k n,u=.int k n)\/∃m,u=.string m)(w):(cX b t x y u v).run P w=.ok () w:=by rcases g with⟨k,n,rfl⟩|⟨m,rfl⟩<;>simp_all[cX]
theorem aoI(hr:Rel F N B s a w)(g:∀k,o.dst=some k->k<N){b}{t u}{x y}(i:o.op=.binOp b t x y u)
 (h:yg P o.dst (.bin b (cO x) (cO y)) s K):zN P F N o a w (λ_=>True) K:=by
 simp only[yg]at h;have l:=qZ hr x;have p:=qZ hr y;generalize s.oc (cO x)=J,s.oc (cO y)=R at*;unfold awn at h;split at h
 .rename_i k m I n;cases hk:Z4 k I with
  |false=>grind
  |true=>
   rw[hk]at h;have:=ahE hk;subst this;simp only[aM]at h;split at h
   .rename_i v j;refine zN.put hr g (v:=v) ?_ (xP (aBH j)) h;intro w' _;simp[aF,i,qf l,qf p,Zg b t x y (.inl ⟨k,m,rfl⟩),aDj j]
   cases b<;>simp only[]at h
   case quo=>
    refine zN.put hr g (v:=.int k (k.wrap (m.tdiv n))) ?_ (xP rfl) h.2;intro w' _;simp[aF,i,qf l,qf p,Zg .quo t x y (.inl ⟨k,m,rfl⟩),binOp,Op.intDiv,h.1]
   case rem=>
    refine zN.put hr g (v:=.int k (m.tmod n)) ?_ (xP rfl) h.2;intro w' _;simp[aF,i,qf l,qf p,Zg .rem t x y (.inl ⟨k,m,rfl⟩),binOp,Op.intDiv,h.1]
 .rename_i m n;split at h
  .rename_i v j;refine zN.put hr g (v:=v) ?_ (xP (aBI j)) h;intro w' _;simp[aF,i,qf l,qf p,Zg b t x y (.inr ⟨m,rfl⟩),aDk j]
  cases b<;>simp only[]at h
  case add=>
   refine zN.put hr g (v:=.string (m++n)) ?_ (xP rfl) h.2;intro w' _;have r:¬((m.size+n.size:Nat):Int)>dr.max:=by
    have:=h.1;have e:dr.max=9223372036854775807:=et
    grind
   simp[aF,i,qf l,qf p,Zg .add t x y (.inr ⟨m,rfl⟩),binOp,Op.stringOp]
   grind
 grind
theorem ak6{t}(h:aa5 P t=some true){b off}{vs:am Value}(r:vs.length=ya P t)(o:∀j v,vs[j]?=some v->w.cell? ⟨b,off+j,none⟩=some v):
 (dK t ⟨b,off,none⟩).run P w=.ok (.agg vs.toArray) w:=by obtain⟨i,p,g⟩:=af7 h;have l:=dC (P:=P) w ⟨b,off,none⟩ vs (λj v I=>by grind[wZ]);simp_all[dK,ue]
theorem ak7{t}(h:aa5 P t=some false){b off}{v}(j:w.cell? ⟨b,off,none⟩=some v):
 (dK t ⟨b,off,none⟩).run P w=.ok v w:=by obtain⟨i,l,g⟩:=af7 h<;>simp_all[dK]
theorem XR{ok:Nat->Prop}{t}{g}(r:aa5 P t=some g){cs}{vs}(i:CRs B w ok cs vs){b off}(I:∀j v,vs[j]?=some v->w.cell? ⟨b,off+j,none⟩=some v)
 {x}(o:gX g (ya P t) cs=some x):∃v,(∀w',u9 w w'->(dK t ⟨b,off,none⟩).run P w'=.ok v w')/\WR B w ok x v:=by
 unfold gX at o;cases g
 .simp only[bW]at o;cases cs with
  |nil=>cases o
  |cons c cs=>
   cases o;cases vs with
   |nil=>exact i.elim
   |cons v vs=>exact⟨v,λw' p=>ak7 r (p.cell (by simpa using I 0 v rfl)),i.1⟩
 simp only[aM]at o;cases l:cD (ya P t) cs.length with
 |false=>grind
 |true=>
  rw[l]at o;cases o;have l:=aR l;refine⟨.agg (vs.take (ya P t)).toArray,λw' p=>ak6 r ?_ (λj v J=>p.cell ?_),_,rfl,CRs.take _ i⟩
  .rw[bI,<-i.length];omega
  grind
theorem RDc.vals{ok:Nat->Prop}{b}:∀{l:am D}{off:Nat},RDc w ok b off l->∃vs,CRs B w ok (l.map .d) vs/\∀j v,vs[j]?=some v->w.cell? ⟨b,off+j,none⟩=some v
 |[],off,_=>⟨[],trivial,λj v h=>by simp at h⟩
 |d::r,off,h=>by
  simp only[RDc]at h;obtain⟨⟨v,p,g⟩,i⟩:=h;obtain⟨vs,o,I⟩:=RDc.vals i;refine⟨v::vs,⟨g,o⟩,λj u J=>?_⟩
  grind
theorem atz(hr:Rel F N B s a w)(hd:∀k,o.dst=some k->k<N){t}{x}(ho:o.op=.load t x){g}(ht:aa5 P t=some g)
 (h:yg P o.dst (.ld g (ya P t) (cO x)) s K):zN P F N o a w (u9 w) K:=by
 simp only[yg]at h;have hx:=qZ hr x;generalize s.oc (cO x)=cx at*;unfold aLd at h;split at h
 .rename_i p off;obtain⟨b,R,h2⟩:=hx;split at h
  .rename_i cs hp;split at h
   .rename_i y I;obtain⟨b',aa,e1,e2,J⟩:=hr.places p _ hp;rw[R]at e1;cases e1;obtain⟨v,hv,l⟩:=XR (b:=b) (off:=off) ht (CRs.drop off J) (λj v hv=>by rw[e2.cell];grind) I
    exact zN.put hr hd (λw' r=>by simp_all[aF,dn,bQ]) (show VR B w _ (.w y) v from l) h
   grind
  .rename_i ds hp;split at h
   .rename_i y I;obtain⟨b',e1,e2,J⟩:=hr.places p _ hp;rw[R]at e1;cases e1;have J:=RDc.drop off J;rw[aO]at J;obtain⟨vs,T,U⟩:=RDc.vals (B:=B) J;obtain⟨v,hv,l⟩:=XR (b:=b) (off:=off) ht T U I;exact zN.put hr hd (λw' r=>by simp_all[aF,dn,bQ]) (show VR B w _ (.w y) v from l) h
   grind
  grind
 .rename_i cells;obtain⟨b,off,R,h2,h3⟩:=hx;split at h
  .rename_i y I;obtain⟨vs,T,U⟩:=RDc.vals (B:=B) h3;obtain⟨v,hv,l⟩:=XR (b:=b) (off:=off) ht T U I;exact zN.put hr hd (λw' r=>by simp_all[aF,dn,bQ]) (show VR B w _ (.w y) v from l) h
  grind
 .rename_i p z i k;obtain⟨b,R,h2⟩:=hx;split at h
  .rename_i z1 ab fz hp;cases hz:aH z z1 with
   |false=>grind
   |true=>
    rw[hz]at h;have hz:=aB hz;subst hz;simp only[aM]at h;obtain⟨e,he,h⟩:=h;split at h
    .rename_i y I;obtain⟨_,_,ac|⟨b',e1,e2,_⟩⟩:=hr.places p _ hp
     .grind
     rw[R]at e1;cases e1;have h3:=RDc.drop k (RDs.get e2 he);rw[aO]at h3;obtain⟨vs,T,U⟩:=RDc.vals (B:=B) h3;obtain⟨v,hv,l⟩:=XR (b:=b) (off:=i*z+k) ht T U I;exact zN.put hr hd (λw' r=>by simp_all[aF,dn,bQ]) (show VR B w _ (.w y) v from l) h
    grind
  grind
 grind
theorem atx(hr:Rel F N B s a w)(T:∀k,o.dst=some k->k<N){t}{x}{f off}{J}(ho:o.op=.fieldAddr t x f)(ht:kN P t f=some (off,J))(hz:bE 0 (ya P J)=true)
 (h:yg P o.dst (.fa off (cO x)) s K):zN P F N o a w (λ_=>True) K:=by
 simp only[yg]at h;obtain⟨fs,y,hu,hy,aa,U⟩:=aa6 ht;have ab:ya P J≠0:=by have:=aR hz;omega
 have j:∃i,P.info? J=some i:=by grind[ya]
 obtain⟨i,hi⟩:=j;have g:∀b q,a.eval x=.pointer (some ⟨b,q,none⟩)->∀w':World,True->(aF a.eval o).run P w'=.ok (.value (.pointer (some ⟨b,q+off,none⟩))) w':=by simp_all[aF,Instr.fieldAt,aG,bQ,fieldPlace,ue,wZ]
 have R:=qZ hr x;cases e:s.oc (cO x)<;>simp only[e]at h<;>rw[e]at R
 case ptr p k=>
  obtain⟨b,r,I⟩:=R;exact zN.put hr T (g b k I) (show VR B w _ (cV (.ptr p (k+off))) _ from⟨b,r,rfl⟩) h
 case eptr p z i k=>
  obtain⟨b,r,I⟩:=R;exact zN.put hr T (g b _ I) (show VR B w _ (cV (.eptr p z i (k+off))) _ from⟨b,r,ek⟩) h
 case fp l=>
  obtain⟨b,q,r,I,h3⟩:=R;exact zN.put hr T (g b _ r) (show VR B w _ (cV (.fp (l.drop off))) _ from⟨b,q+off,rfl,I,RDc.drop off h3⟩) h
theorem aoM(hr:Rel F N B s a w)(hd:∀k,o.dst=some k->k<N){t}{x}{f off}{j}{g}(ho:o.op=.field t x f)(ht:kN P t f=some (off,j))(hg:aa5 P j=some g)
 (h:yg P o.dst (.fld g (ya P j) off (cO x)) s K):zN P F N o a w (λ_=>True) K:=by
 simp only[yg]at h;obtain⟨fs,y,hu,hy,aa,R⟩:=aa6 ht;obtain⟨i,hi,ab⟩:=af7 hg;have hx:=jI hr x;cases e:s.o (cO x)with
 |tup xs=>grind
 |w z=>
  cases z with
  |c c=>grind
  |agg cs=>
   simp only[e]at h;rw[e]at hx;obtain⟨vs,h1,U⟩:=hx;split at h
   .rename_i q l;unfold gX at l;cases g
    .simp only[bW]at l;split at l
     .rename_i c r p;cases l;have:=CRs.drop off U;rw[p]at this;cases I:vs.drop off with
      |nil=>rw[I]at this;exact this.elim
      |cons v vr=>
       rw[I]at this;have hv:vs[off]?=some v:=by
        have:(vs.drop off)[0]?=some v:=ek
        grind
       exact zN.put hr hd (v:=v) (λw' _=>by simp_all[aF,Instr.field,aG,asAgg,part]) (show VR B w _ (.w (.c c)) v from this.1) h
     cases l
    simp only[aM]at l;cases J:cD (ya P j) (cs.drop off).length with
    |false=>grind
    |true=>
     rw[J]at l;cases l;have T:WR B w (F.ok B s.pl w) (.agg ((cs.drop off).take (ya P j))) (.agg ((vs.drop off).take (ya P j)).toArray):=⟨_,rfl,CRs.take _ (CRs.drop off U)⟩;refine zN.put hr hd (v:=.agg ((vs.drop off).take (ya P j)).toArray) ?_ (show VR B w _ (.w (.agg ((cs.drop off).take (ya P j)))) _ from T) h;simp_all[aF,Instr.field,aG,asAgg,part,ue]
   grind
theorem aty(hr:Rel F N B s a w)(hd:∀k,o.dst=some k->k<N){t e}{x y}(ho:o.op=.indexAddr t x y)(ht:uG P t=some e)(hz:bE 0 (ya P e)=true)
 (h:yg P o.dst (.ia (ya P e) (cO x) (cO y)) s K):zN P F N o a w (λ_=>True) K:=by
 simp only[yg]at h;have hu:=ug ht;have aa:ya P e≠0:=by have:=aR hz;omega
 have j:∃i,P.info? e=some i:=by grind[ya]
 obtain⟨i,hi⟩:=j;split at h
 .rename_i n hn;obtain⟨k,hy,_⟩:=YN hn (jI hr y);have g:∀b q m c,a.eval x=.slice (some ⟨b,q,none⟩) m c->0<=n->n<m->∀w':World,True->(aF a.eval o).run P w'=.ok (.value (.pointer (some ⟨b,q+n.toNat*ya P e,none⟩))) w':=by intro b q m c e1 J R w' _;simp[aF,ho,e1,hy,Instr.indexAt,aG hu,dL,J,R,ue hi,wZ]
  have I:=qZ hr x;split at h
  .rename_i l hl;rw[hl]at I;simp only[CR,RD]at I;obtain⟨ad,m,c,T,h2,h3,h4,U⟩:=I;obtain⟨g1,y',g2,g3,g4⟩:=h;rcases U with U|⟨b,q,sz,e1,J,R⟩
   .grind
   subst e1;have ab:n.toNat<l.length:=(am.getElem?_eq_some_iff.1 g2).1;have ac:y'.length=sz:=RDs.len R y' (bA g2);refine zN.put hr hd (g b q m c T g1 ek) (show VR B w _ (cV (.fp y')) _ from⟨b,_,rfl,J,?_⟩) g4
   grind[RDs.get]
  .rename_i p z m hl;rw[hl]at I;cases r:aH z (ya P e)with
   |false=>grind
   |true=>
    rw[r]at h;have r:=aB r;simp only[aM]at h;obtain⟨g1,g2,g3⟩:=h;rcases I with⟨_,h2,_⟩|⟨b,cap,ty,T,h2,h3,h4,U,h6⟩
    .grind
    refine zN.put hr hd (g b 0 m cap h3 g1 g2) (show VR B w _ (cV (.eptr p z n.toNat 0)) _ from⟨b,T,?_⟩) g3
    grind
  grind
 grind
theorem aoQ(hr:Rel F N B s a w)(r:∀k,o.dst=some k->k<N){t}{x y}(R:o.op=.index t x y)(T:P.underlying t=some .string)
 (h:yg P o.dst (.six (cO x) (cO y)) s K):zN P F N o a w (λ_=>True) K:=by
 simp only[yg]at h;split at h
 .rename_i b n J I;obtain⟨k,U,_⟩:=YN I (jI hr y);have g:=qZ hr x;rw[J]at g;have g:=qf g;obtain⟨g1,g2,g3⟩:=h;have i:n.toNat<b.size:=ej
  have j:b[n.toNat]?=some (b.data.toList.getD n.toNat 0):=by
   have l:b[n.toNat]?=some b[n.toNat]:=getElem?_pos b n.toNat i;rw[l];have p:n.toNat<b.data.toList.length:=eu
   simp only[List.getD,am.getElem?_eq_getElem p,dO];rfl
  refine zN.put hr r (v:=.int .u8 (b.data.toList.getD n.toNat 0).toNat) ?_ (xP rfl) g3;simp_all[aF,Instr.index,aG,dL]
 grind
theorem aoO(hr:Rel F N B s a w)(I:∀k,o.dst=some k->k<N){args:aD aC}{U:aD TypeId}{x}{t e}(ho:o.op=.call {callee:=.builtin .len,args:=args,argTypes:=U})
 (R:args.toList=[x]) (aa:U.toList=[t]) (ht:uG P t=some e) (h:yg P o.dst (.len (cO x)) s K):zN P F N o a w (λ_=>True) K:=by
 simp only[yg]at h;have hu:=ug ht;have ha:args= #[x]:=aK.1 ek;have T:U= #[t]:=aK.1 ek;have g:∀b m c,a.eval x=.slice b m c->∀w':World,True->(aF a.eval o).run P w'=.ok (.value (.int .i64 m)) w':=by intro b m c e1 w' _;simp[aF,ho,bD,bJ,builtin,Builtin.len_,ha,T,e1,aG hu,dT]
 have i:=qZ hr x;split at h
 .rename_i l j;rw[j]at i;simp only[CR,RD]at i;obtain⟨ad,m,c,h1,r,_⟩:=i;subst r;exact zN.put hr I (g _ _ _ h1) (xP rfl) h
 .rename_i j;rw[j]at i;exact zN.put hr I (g _ _ _ i) (xP rfl) h
 .rename_i p z m j;rw[j]at i;rcases i with⟨_,r,J⟩|⟨b,cap,ty,h1,r,J,_⟩
  .subst r;exact zN.put hr I (g _ _ _ J) (xP rfl) h
  exact zN.put hr I (g _ _ _ J) (xP rfl) h
 grind
theorem aoN(hr:Rel F N B s a w)(R:∀k,o.dst=some k->k<N){b}{t u}{x y}(ho:o.op=.binOp b t x y u){neg}(hn:ab2 P b t y=some neg)
 (h:yg P o.dst (.isn neg (cO x)) s K):zN P F N o a w (λ_=>True) K:=by
 have hy:∃n c e,y=.const (.slice none n c)/\P.underlying t=some (.slice e)/\((b=.eql/\neg=false)\/(b=.neq/\neg=true)):=by unfold ab2 at hn<;>grind
 obtain⟨J,r,e,rfl,hu,hb⟩:=hy;have g:∀i m c,a.eval x=.slice i m c->∀w':World,True->(aF a.eval o).run P w'=.ok (.value (.bool (if i.isNone then !neg else neg))) w':=by
  intro i m c I w' _;have T:a.eval (.const (.slice none J r))=.slice none J r:=rfl;have heq:(dI t (.slice i m c) (.slice none J r)).run P w'=.ok i.isNone w':=by obtain⟨d,R⟩:∃d,Op.maxDepth=d+1:=⟨_,rfl⟩;rw[dI,R,Op.equalIn];simp only[aY,aG hu,aQ];cases i<;>rfl
  have hg:∀b,(cX b t x (.const (.slice none J r)) (.slice i m c) (.slice none J r)).run P w'=.ok () w':=by simp_all[cX]
  rcases hb with⟨rfl,rfl⟩|⟨rfl,rfl⟩
  .have j:binOp .eql t (.slice i m c) (.slice none J r)=(do pure (.bool (<-dI t (.slice i m c) (.slice none J r)))):=rfl;simp only[aF,ho,I,T,j,aY,hg,heq,aQ,bC]
   grind
  have j:binOp .neq t (.slice i m c) (.slice none J r)=(do pure (.bool (!(<-dI t (.slice i m c) (.slice none J r))))):=rfl;simp only[aF,ho,I,T,j,aY,hg,heq,aQ,bC]
  grind
 have I:=qZ hr x;simp only[yg]at h;generalize s.oc (cO x)=cx at*;unfold aBp at h;split at h
 .have I:a.eval x=.slice none 0 0:=I;exact zN.put hr R (g _ _ _ I) (xP rfl) h
 .rename_i l;simp only[CR,RD]at I;obtain⟨i,m,c,h1,h2,U,h4,h5⟩:=I;cases i with
  |none=>
   rcases h5 with h5|⟨b',q,sz,e1,_⟩
   .exact zN.put hr R (g _ _ _ h1) (xP rfl) (h.1 h5)
   cases e1
  |some i=>exact zN.put hr R (g _ _ _ h1) (xP rfl) h.2
 .rename_i p z m;rcases I with⟨_,h2,U⟩|⟨b',cap,ty,h1,h2,U,_⟩
  .exact zN.put hr R (g _ _ _ U) (xP rfl) (h.1 h2)
  exact zN.put hr R (g _ _ _ U) (xP rfl) h.2
 grind
theorem afu{b}{l}{z}(h:aft b l=some z):∃x y,l=[x,y]/\((b=.min/\z=.mm false (cO x) (cO y))\/(b=.max/\z=.mm true (cO x) (cO y))):=by unfold aft at h<;>grind
theorem atB(hr:Rel F N B s a w)(I:∀k,o.dst=some k->k<N){b}{args:aD aC}{T:aD TypeId}(ho:o.op=.call {callee:=.builtin b,args:=args,argTypes:=T})
 {z}(J:aft b args.toList=some z) (h:yg P o.dst z s K):zN P F N o a w (λ_=>True) K:=by
 obtain⟨x,y,i,r⟩:=afu J;have ha:args= #[x,y]:=aK.1 ek;have key:∀(g:Bool),(b=.min/\g=false\/b=.max/\g=true)->aMm o.dst g (s.oc (cO x)) (s.oc (cO y)) s K->zN P F N o a w (λ_=>True) K:=by
  intro g j h;have l:=qZ hr x;have p:=qZ hr y;generalize s.oc (cO x)=U,s.oc (cO y)=cy at*;unfold aMm at h;split at h
  .rename_i k m R n;cases hk:Z4 k R with
   |false=>grind
   |true=>
    rw[hk]at h;simp only[aM]at h;have l:=qf l;have p:=qf p;refine zN.put hr I (v:=.int k (yL g m n)) ?_ (xP rfl) h;intro w' _;rcases j with⟨rfl,rfl⟩|⟨rfl,rfl⟩
    .simp_all[aF,bD,bJ,builtin,Builtin.min_,Builtin.min2,yL]
    simp_all[aF,bD,bJ,builtin,Builtin.max_,Builtin.max2,yL]
  grind
 rcases r with⟨rfl,rfl⟩|⟨rfl,rfl⟩
 .exact key false (.inl ⟨rfl,rfl⟩) h
 exact key true (.inr ⟨rfl,rfl⟩) h
end
def jA(B:Nat->Gh)(p:Nat)(g:Gh):Nat->Gh:=λq=>if q=p then g else B q
theorem yh(B:Nat->Gh)(p)(g):jA B p g p=g:=by simp[jA]
theorem Zo(B:Nat->Gh){p q}(g)(h:q≠p):jA B p g q=B q:=by grind[jA]
theorem ais{p q}(h:isin q [p]=false):q≠p:=by intro e;simp_all[isin]
theorem arT{p d q}(h:isin q [p,d]=false):q≠p/\q≠d:=by
 refine⟨λe=>?_,λe=>?_⟩
 .simp_all[isin]
 simp_all[isin]
theorem yM{α}{d p}{x y:α}(h:aget [(d,x)] p=some y):p=d/\y=x:=by
 rw[yY]at h;split at h
 .grind
 cases h
section
variable {P:Program}{F:Fr}{N:Nat}{B:Nat->Gh}{s:S}{a:Act}{w:World}{o:Oper}{K:S->Prop}
theorem adk(U:Rel F N B s a w)(g)(new)(ι':Nat->Gh)(w')
 (hι:∀p,isin p g=false->ι' p=B p)
 (j:∀b,b<w.heap.size->(∀q y,isin q g=true->aget s.pl q=some y->y.live=true->(B q).b≠some b)->w'.heap[b]?=w.heap[b]?)
 (l:w.heap.size<=w'.heap.size)
 (i:∀p x b,aget new p=some x->(ι' p).b=some b->b<w'.heap.size/\(w.heap.size<=b\/∃q y,isin q g=true/\aget s.pl q=some y/\y.live=true/\(B q).b=some b)):
 zP w w' (F.ok B s.pl w) (F.ok ι' (s.redo g new).pl w'):=by
 intro b hb;obtain⟨h1,J,r⟩:=hb;refine⟨⟨h1,aT J l,?_⟩,j b J (λq y _ hy P hq=>r ⟨q,y,hy,P,hq⟩)⟩;rintro⟨p,x,o,P,I⟩;rw[S.redo_pl]at o;cases R:aget new p with
 |some y=>
  rcases(i p y b R I).2 with h|⟨q,z,_,h4,h5,h6⟩
  .omega
  exact r ⟨q,z,h4,h5,h6⟩
 |none=>
  simp only[R]at o;split at o
  .rename_i hk;cases T:aget s.pl p with
   |none=>grind
   |some y=>
    rw[T]at o;simp at o;subst o;exact r ⟨p,y,T,by grind[Pl.live_kill],ek⟩
  cases o
structure NewRow(w w':World)(cur:aD Value)(t:TypeId)(mk:Nat×Nat):Prop where
 heap:w'.heap=w.heap.push (.cells cur t mk)
 os:w'.os=w.os
 tape:w'.tape=w.tape
 output:Out w w'
theorem NewRow.old{w w'}{g}{t}{mk}(h:NewRow w w' g t mk){b}(i:b<w.heap.size):w'.heap[b]?=w.heap[b]? :=by rw[h.heap,aD.getElem?_push,bF ej]
theorem NewRow.ext{w w'}{g}{t}{mk}(h:NewRow w w' g t mk):u9 w w':=⟨by rw[h.heap];simp,λ_ i=>h.old i⟩
theorem NewRow.new{w w'}{g}{t}{mk}(h:NewRow w w' g t mk):w'.heap[w.heap.size]?=some (.cells g t mk):=by rw[h.heap];simp
theorem NewRow.size{w w'}{g}{t}{mk}(h:NewRow w w' g t mk):w'.heap.size=w.heap.size+1:=by rw[h.heap];simp
theorem NewRow.shapes{w w'}{g}{t}{mk}(h:NewRow w w' g t mk):yx w w':=by
 intro b ty m j;have l:b<w.heap.size:=by
  rcases dm b w.heap.size with i|i
  .exact i
  simp[bH,aD.getElem?_eq_none i]at j
 simp only[bH,h.old l]at j⊢;exact j
theorem NewRow.cell{w w'}{g}{t}{mk}(h:NewRow w w' g t mk)(j):w'.cell? ⟨w.heap.size,j,none⟩=g[j]? :=cT w' _ j g t mk h.new
theorem NewRow.alloc(w)(g)(t):NewRow w (w.alloc (.cells g t)) g t (0,0):=⟨rfl,rfl,rfl,Out.refl w⟩
theorem NewRow.draw(w)(g)(t)(mk):NewRow w (w.drew.alloc (.cells g t mk)) g t mk:=⟨rfl,rfl,rfl,⟨rfl,Nat.le_succ _⟩⟩
theorem Xx(hr:Rel F N B s a w){w'}{j}{t}{mk}(l:NewRow w w' j t mk)(d)(x)(g)(hk:isin d g=true)(n):
 zP w w' (F.ok B s.pl w) (F.ok (jA B d ⟨some w.heap.size,n⟩) (s.redo g [(d,x)]).pl w'):=by
 refine adk hr g [(d,x)] _ w' (λp o=>Zo B _ ?_) (λb i _=>l.old i) (by rw[l.size];omega) ?_
 .grind
 intro p y b o i;obtain⟨rfl,rfl⟩:=yM o;rw[yh]at i;cases i;exact⟨by rw[l.size];omega,.inl (aW _)⟩
theorem Rel.newRow(hr:Rel F N B s a w){w'}{l}{t}{mk}(i:NewRow w w' l t mk)(d)(x)(g)(hk:isin d g=true)(n)(r:F.h d=none)
 (I:PR (jA B d ⟨some w.heap.size,n⟩) w' (F.ok (jA B d ⟨some w.heap.size,n⟩) (s.redo g [(d,x)]).pl w') d x):Rel F N (jA B d ⟨some w.heap.size,n⟩) (s.redo g [(d,x)]) a w':=by
 refine hr.redo g [(d,x)] _ w' (λp o=>Zo B _ ?_) (λb j _=>i.old j) i.shapes i.os i.tape i.output (by rw[i.size];omega) ?_ ?_ ?_ (λp y o=>by grind[yM])
 .grind
 .grind[yM]
 .intro p y b o j;obtain⟨rfl,rfl⟩:=yM o;rw[yh]at j;cases j;exact⟨by rw[i.size];omega,.inl (aW _)⟩
 grind[yM]
theorem QT{ok:Nat->Prop}{x}{v}(h:WR B w ok x v)(hs:solid x.cells=true):CRs B w ok x.cells v.cells.toList:=by
 cases x with
 |c c=>
  have i:c.isDead=false:=by grind[W.cells,solid]
  have g:=CR.one h i;have j:v.cells.toList=[v]:=by cases v<;>first|rfl|cases g
  rw[j];exact⟨h,trivial⟩
 |agg cs=>
  obtain⟨vs,rfl,h⟩:=h<;>grind[W.cells,Value.cells]
theorem aqu(hr:Rel F N B s a w){w'}{g}{t}{mk}(i:NewRow w w' g t mk)(d)(x)(n){cs}{vs}(h:CRs B w (F.ok B s.pl w) cs vs):
 CRs (jA B d ⟨some w.heap.size,n⟩) w' (F.ok (jA B d ⟨some w.heap.size,n⟩) (s.redo [d] [(d,x)]).pl w') (cs.map (C.kill [d])) vs:=
 CRs.kill (Xx hr i d x [d] (by simp[isin]) n) i.shapes (λ_ j=>Zo B _ (ais j)) cs vs h
theorem aoJ(hr:Rel F N B s a w){d:Nat}(g:o.dst=some d)(p:d<N){cs}{v:Value}{t}(l:CRs B w (F.ok B s.pl w) cs v.cells.toList)
 (i:(aF a.eval o).run P w=.ok (.value (.pointer (some ⟨w.heap.size,0,none⟩))) (w.alloc (.cells v.cells t)))
 (h:K ((s.place d (.box (cs.map (C.kill [d])))).put (some d) (cV (.ptr d 0)))):uS P F N o a w K:=by have j:=NewRow.alloc w v.cells t;have hrel:=hr.newRow j d (.box (cs.map (C.kill [d]))) [d] (by simp[isin]) 0 (hr.h_slot p) ⟨w.heap.size,v.cells,by rw[yh],⟨t,j.new⟩,aqu hr j d _ 0 l⟩;refine uS.of_value j.ext (ι':=jA B d ⟨some w.heap.size,0⟩) i ?_ h;rw[g];exact hrel.put (some d) (λk hk=>ek) _ _ ⟨w.heap.size,by rw[yh],rfl⟩
theorem akO:∀(vs:am Value) (l:am Nat),(vs.map QA).map (C.kill l)=vs.map QA
 |[],_=>rfl
 |v::vs,l=>by
  simp only[aV,akO vs l];congr 1
  unfold QA;split<;>rfl
theorem QN{v}(h:solid (ofValue v).cells=true):(ofValue v).cells=v.cells.toList.map QA:=by
 unfold ofValue at h⊢;split
 .rfl
 rename_i g;simp only[W.cells]at h⊢;cases v<;>first|rfl|grind|(simp[QA,solid,C.isDead]at h)
theorem ahO(hr:Rel F N B s a w)(p:∀k,o.dst=some k->k<N){t}(r:o.op=.alloc t)(h:yg P o.dst (.alloc (uh P t).cells) s K):uS P F N o a w K:=by
 simp only[yg]at h;split at h
 .rename_i d g;cases hs:solid (uh P t).cells with
  |false=>grind
  |true=>
   rw[hs]at h;simp only[aM]at h;unfold uh at hs h;cases j:P.info? t with
   |none=>simp only[j]at hs;cases hs
   |some i=>
    simp only[j]at hs h;cases l:i.zero with
    |none=>simp only[l]at hs;cases hs
    |some v=>
     simp only[l]at hs h;rw[QN hs]at h;rw[<-akO v.cells.toList [d]]at h;refine aoJ hr g (p d g) (t:=t) (XH B w _ v.cells.toList) ?_ h;simp_all[aF,Instr.alloc,cY,cc,newVar,dM]
 grind
theorem atw(hr:Rel F N B s a w)(j:∀k,o.dst=some k->k<N){t}{x}(p:o.op=.box t x)(h:yg P o.dst (.bx (cO x)) s K):uS P F N o a w K:=by
 simp only[yg]at h;split at h
 .rename_i d y g l;cases hs:solid y.cells with
  |false=>grind
  |true=>
   rw[hs]at h;simp only[aM]at h;have i:=jI hr x;rw[l]at i;refine aoJ hr g (j d g) (v:=a.eval x) (t:=t) (QT i hs) ?_ h;simp_all[aF,Instr.box,newVar,dM]
 grind
theorem yx.setRow(w)(g){old cs}{t}{j}(o:w.heap[g]?=some (.cells old t j))(hs:cs.size=old.size):yx w (w.setRow g cs):=by
 intro b ty m l;by_cases i:b=g
 .subst i;simp only[bH,o]at l;simp only[bH,cH w b old cs t j o]
  grind
 simp only[bH,bN w g b cs i];exact l
theorem Rel.write(hr:Rel F N B s a w)(p)(x y)(hp:aget s.pl p=some x)(hx:x.live=true)(hy:y.live=true){b}(hb:(B p).b=some b){old o}{t}(hg:w.heap[b]?=some (.cells old t (0,0)))(hs:o.size=old.size)
 (ag:PR B (w.setRow b o) (F.ok B (xf p y s.pl) (w.setRow b o)) p y):Rel F N B (s.withPl (xf p y s.pl)) a (w.setRow b o):=by
 have I:∀c,Owns B (xf p y s.pl) c↔Owns B s.pl c:=by
  intro c;constructor
  .rintro⟨q,z,R,h2,h3⟩;rw[yR]at R;split at R
   .rename_i e;subst e;exact⟨p,x,hp,hx,h3⟩
   exact⟨q,z,R,h2,h3⟩
  rintro⟨q,z,R,h2,h3⟩;by_cases e:p=q
  .subst e;exact⟨p,y,by simp_all[yR],hy,h3⟩
  exact⟨q,z,by simp_all[yR],h2,h3⟩
 have T:Owns B s.pl b:=⟨p,x,hp,hx,hb⟩;have i:zP w (w.setRow b o) (F.ok B s.pl w) (F.ok B (xf p y s.pl) (w.setRow b o)):=by
  intro c P;have aa:c≠b:=λe=>by subst e;exact P.2.2 T
  exact⟨⟨P.1,by simpa using P.2.1,λho=>P.2.2 ((I c).1 ho)⟩,bN w b c o aa⟩
 have ab:=yx.setRow w b hg hs;refine⟨hr.room,λk v hv=>?_,λq z hz=>?_,λq r z u c hz hu ai hl ah=>?_,λc P=>?_,hr.defers,?_,hr.foreign,hr.handed,hr.few,hr.hdom,λq z g hz hg=>?_⟩
 rotate_left 5
 .have l:aget (xf p y s.pl) q=some z:=hz;rw[yR]at l;split at l
  .rename_i e;subst e;exact hr.hkeep p x g hp hg
  exact hr.hkeep q z g l hg
 .obtain⟨v',e1,U⟩:=hr.slots k v hv;exact⟨v',e1,VR.keep i ab v v' U⟩
 .have l:aget (xf p y s.pl) q=some z:=hz;rw[yR]at l;split at l
  .rename_i e;subst e;cases l;exact ag
  rename_i af;have h:=hr.places q z l;have ae:∀c,(B q).b=some c->c≠b:=λc P e=>by subst e;exact hr.inj p q x z c hp l af hx hb P
  cases z with
  |box cs=>obtain⟨c,J,e1,⟨t',U⟩,e3⟩:=h;exact⟨c,J,e1,⟨t',by grind[bN]⟩,CRs.keep i ab _ _ e3⟩
  |arr sz ac fz=>
   obtain⟨h0,hn,h|⟨c,e1,U,e3,e4⟩⟩:=h
   .exact⟨h0,hn,.inl h⟩
   refine⟨h0,hn,.inr ⟨c,e1,RDs.keep' i c sz ac 0 (λj _ _=>qH (bN w b c o (ae c e1)) j) U,λhf=>(i c (e3 hf)).1,λhf=>?_⟩⟩;obtain⟨J,⟨t',e5⟩,e6⟩:=e4 hf;exact⟨J,⟨t',by grind[bN]⟩,e6⟩
  |fbox ds=>obtain⟨c,e1,U,e3⟩:=h;exact⟨c,e1,(i c U).1,RDc.keep i c U _ _ e3⟩
  |gone=>exact h.elim
 .have l:aget (xf p y s.pl) q=some z:=hz;have aj:aget (xf p y s.pl) r=some u:=hu;rw[yR]at l aj;have R:∃z',aget s.pl q=some z'/\z'.live=true:=ek
  have h2:∃u',aget s.pl r=some u':=ek
  obtain⟨z',R,ad⟩:=R;obtain⟨u',h2⟩:=h2;exact hr.inj q r z' u' c R h2 ai ad ah
 .have:=hr.mine c ((I c).1 P)<;>simp_all
 refine⟨hr.grows.os,hr.grows.tape,hr.grows.output,by simpa using hr.grows.size,λc P hm=>?_,λc t m h=>ab c t m (hr.grows.shapes c t m h)⟩;have aa:c≠b:=by intro e;subst e;rcases(hr.mine c T).1 with h|h<;>grind
 rw[bN w b c o aa];exact hr.grows.block c P hm
theorem aba(o:Rel F N B s a w)(p)(x y)(P:aget s.pl p=some x)(R:x.live=true){b}(J:(B p).b=some b)(g):
 zP w (w.setRow b g) (F.ok B s.pl w) (F.ok B (xf p y s.pl) (w.setRow b g)):=by
 intro c i;have l:c≠b:=λe=>by subst e;exact i.2.2 ⟨p,x,P,R,J⟩
 refine⟨⟨i.1,by simpa using i.2.1,?_⟩,bN w b c g l⟩;rintro⟨q,z,j,r,I⟩;rw[yR]at j;split at j
 .grind
 exact i.2.2 ⟨q,z,j,r,I⟩
theorem afN{t}{i}(o:P.info? t=some i){b off}{old}{ty}(l:w.heap[b]?=some (.cells old ty (0,0))){v}(p:v.cells.toList.length=ya P t)(g:off+v.cells.toList.length<=old.size)
 (j:∀u∈v.cells.toList,u.oneCell'=true):(storeVar t ⟨b,off,none⟩ v).run P w=.ok () (w.setRow b (old.toList.take off++v.cells.toList++old.toList.drop (off+v.cells.toList.length)).toArray):=by have h:=cZ P b off ty v.cells.toList 0 old w l ek j;simp_all[storeVar,ue]
theorem ZI{ok:Nat->Prop}:∀{i:am D}{vs:am Value},CRs B w ok (i.map .d) vs->∀v∈vs,v.oneCell'=true
 |[],[],_,_,j=>by cases j
 |[],_::_,h,_,_=>h.elim
 |_::_,[],h,_,_=>h.elim
 |d::i,v::vs,h,u,g=>by
  rcases bL.1 g with rfl|g
  .exact CR.one h.1 rfl
  exact ZI h.2 u g
theorem YH{g}:∀{cs:am C}{pl:am (Nat×Pl)}{j:am D},jN pl cs=some (j,g)->solid cs=true:=by
 intro cs;induction cs with
 |nil=>intros;rfl
 |cons c cs I=>
  intro pl j h;simp only[jN]at h;split at h
  .rename_i y o l;split at h
   .rename_i ys i p;have e:i=g:=ek
    subst e;unfold solid;have r:c.isDead=false:=by cases c<;>first|rfl|cases l
    grind
   cases h
  cases h
theorem WL{ok:Nat->Prop}{b sz}:∀{i:am (am D)}{off:Nat}{vs:am Value},(∀e∈i,e.length=sz)->CRs B w ok (i.flatten.map .d) vs->(∀j v,vs[j]?=some v->w.cell? ⟨b,off+j,none⟩=some v)->RDs w ok b sz off i
 |[],_,_,_,_,_=>by grind[RDs]
 |e::r,off,vs,R,J,g=>by
  simp only[RDs];simp only[aX,bS]at J;have P:e.length=sz:=R e ep;have o:∀(e:am D) (rest:am C) (vs:am Value) (off:Nat),CRs B w ok (e.map .d++rest) vs->(∀j v,vs[j]?=some v->w.cell? ⟨b,off+j,none⟩=some v)->RDc w ok b off e/\CRs B w ok rest (vs.drop e.length):=by
   intro e;induction e with
   |nil=>grind[RDc]
   |cons d e ih=>
    intro rest vs off h l;cases vs with
    |nil=>exact h.elim
    |cons v vs=>
     obtain⟨p,I⟩:=ih rest vs (off+1) h.2 (λj u hu=>by have:=l (j+1) u ek;grind);refine⟨?_,ek⟩;simp only[RDc];exact⟨⟨v,by simpa using l 0 v rfl,h.1⟩,p⟩
  obtain⟨p,I⟩:=o e _ vs off J g;refine⟨P,p,WL (λx U=>R x (by simp[U])) I (λj v T=>?_)⟩;rw[am.getElem?_drop]at T;have:=g _ v T;rw[P]at this;rwa[show off+sz+j=off+(sz+j)by omega]
theorem RDs.vals{ok:Nat->Prop}{b sz}:∀{g:am (am D)}{off:Nat},RDs w ok b sz off g->∃vs,CRs B w ok (g.flatten.map .d) vs/\vs.length=g.length*sz/\∀j v,vs[j]?=some v->w.cell? ⟨b,off+j,none⟩=some v
 |[],off,_=>⟨[],trivial,ep,λj v h=>by simp at h⟩
 |e::r,off,h=>by
  simp only[RDs]at h;obtain⟨P,p,I⟩:=h;obtain⟨i,e1,J⟩:=RDc.vals (B:=B) p;obtain⟨l,g1,g2,g3⟩:=RDs.vals I;have o:i.length=sz:=by rw[<-e1.length];grind
  refine⟨i++l,by grind[CRs.append],ek,λj v R=>?_⟩
  grind
theorem aDO(hr:Rel F N B s a w){t}{x y}(ho:o.op=.store t x y){i}(hi:P.info? t=some i)
 (h:yg P o.dst (.st (ya P t) (cO x) (cO y)) s K):qz P F N o a w K:=by
 simp only[yg]at h;split at h
 case h_2=>grind
 rename_i ac;have hx:=qZ hr x;have hy:=awm hr y;generalize s.oc (cO x)=cx,s.ow (cO y)=wy at*;unfold aSt at h;cases hl:aH wy.cells.length (ya P t)with
 |false=>grind
 |true=>
  rw[hl]at h;simp only[aM]at h;have hl:=aB hl;split at h
  .rename_i p off;split at h
   .rename_i cs hp;cases hs:solid wy.cells&&cD (off+wy.cells.length) cs.length with
    |false=>grind
    |true=>
     rw[hs]at h;simp only[aM]at h;rw[aI]at hs;have aj:=aR hs.2;obtain⟨b,h1,h2⟩:=hx;obtain⟨b',old,e1,⟨ty,e2⟩,e3⟩:=hr.places p _ hp;rw[h1]at e1;cases e1;have T:=QT hy hs.1;have R:(a.eval y).cells.toList.length=wy.cells.length:=T.length.symm;have az:cs.length=old.size:=by simpa using e3.length
     have ad:=afN (P:=P) hi (b:=b) (off:=off) e2 (v:=a.eval y) ek ek (CRs.ones T hs.1);obtain⟨J,ah⟩:∃J:aD Value,J=(old.toList.take off++(a.eval y).cells.toList++old.toList.drop (off+(a.eval y).cells.toList.length)).toArray:=⟨_,rfl⟩;rw[<-ah]at ad;have ab:J.size=old.size:=ek
     have hk:=aba hr p (.box cs) (.box (zM cs off wy.cells)) hp rfl h1 J;have ag:=yx.setRow w b e2 ab;have I:=CRs.append (CRs.append (CRs.take off e3) T) (CRs.drop (off+wy.cells.length) e3);have an:J.toList=old.toList.take off++(a.eval y).cells.toList++old.toList.drop (off+wy.cells.length):=ek
     rw[<-an]at I;have hrel:=hr.write p (.box cs) (.box (zM cs off wy.cells)) hp rfl rfl h1 e2 ab ⟨b,J,h1,⟨ty,cH w b old J ty (0,0) e2⟩,CRs.keep hk ag _ _ I⟩;refine qz.of_skip (ι':=B) (w':=w.setRow b J) (by grind[aF,Instr.storeAt,bQ,aY,bC,aQ]) ?_ h;rw[ac];exact hrel
   grind
  .rename_i p z l k;split at h
   .rename_i ds a2 ai;split at h
    .rename_i z1 g hp;cases hz:aH z z1 with
     |false=>grind
     |true=>
      rw[hz]at h;have hz:=aB hz;subst hz;simp only[aM]at h;obtain⟨e,he,aj,h⟩:=h;have T:=QT hy (YH ai);obtain⟨af,ax,ae⟩:=Vz hr T ai;have R:(a.eval y).cells.toList.length=wy.cells.length:=T.length.symm;have ao:ds.length=wy.cells.length:=by rw[<-R];simpa using ae.length
      obtain⟨b,h1,h2⟩:=hx;obtain⟨ar,hn,a0|⟨b',e1,e2,_,e4⟩⟩:=af.places p _ hp
      .grind
      rw[h1]at e1;cases e1;obtain⟨old,⟨ty,hg⟩,aq⟩:=e4 rfl;have aa:l<g.length:=(am.getElem?_eq_some_iff.1 he).1;have av:e.length=z:=RDs.len e2 e (bA he);have au:l*z+k+ds.length<=old.size:=by have:(l+1)*z<=g.length*z:=aP _ aa;rw[aS,cC]at this;omega
      have ad:=afN (P:=P) hi (b:=b) (off:=l*z+k) hg (v:=a.eval y) ek ek (ZI ae);have ab:(old.toList.take (l*z+k)++(a.eval y).cells.toList++old.toList.drop (l*z+k+(a.eval y).cells.toList.length)).toArray.size=old.size:=ek
      have hk:=aba af p (.arr z g false) (.arr z (g.set l (zM e k ds)) false) hp rfl h1 (old.toList.take (l*z+k)++(a.eval y).cells.toList++old.toList.drop (l*z+k+(a.eval y).cells.toList.length)).toArray;have ag:=yx.setRow w b hg ab;obtain⟨vs,g1,g2,g3⟩:=RDs.vals (B:=B) e2;have al:(g.set l (zM e k ds)).flatten=zM g.flatten (l*z+k) ds:=by
       have I:=RDs.len e2;have:∀(g:am (am D)) (l:Nat),(∀x∈g,x.length=z)->g[l]?=some e->(g.set l (zM e k ds)).flatten=zM g.flatten (l*z+k) ds:=by
        intro g;induction g with
        |nil=>grind
        |cons x r ih=>
         intro l I he;have hx:x.length=z:=I x ep;cases l with
         |zero=>
          simp at he;subst he;simp only[List.set_cons_zero,aX,zM,bY,aO]
          grind
         |succ l=>
          simp at he;simp only[List.set_cons_succ,aX];rw[ih l (λy hy=>I y (by simp[hy])) he];simp only[zM];rw[show(l+1)*z+k=x.length+(l*z+k)by grind,List.take_length_add_append,show x.length+(l*z+k)+ds.length=x.length+(l*z+k+ds.length)by omega,cQ]
          grind
       grind
      have a1:vs.length=g.length*z:=g2;have hrel:=af.write p (.arr z g false) (.arr z (g.set l (zM e k ds)) false) hp rfl rfl h1 hg ab ⟨ar,ek,.inr ⟨b,h1,by
       refine WL (B:=B) (vs:=zM vs (l*z+k) (a.eval y).cells.toList) ?_ ?_ ?_
       .intro q hq;rcases List.mem_or_eq_of_mem_set hq with hq|rfl
        .grind[RDs.len]
        grind[zM]
       .rw[al];simp only[zM,bS,List.map_take,List.map_drop];refine CRs.keep hk ag _ _ ?_;rw[R,<-ao];exact CRs.append (CRs.append (CRs.take _ g1) ae) (CRs.drop _ g1)
       intro j v U;rw[aO,dh w b _ old _ ty (0,0) hg];simp only[zM]at U;have ak:∀j v,vs[j]?=some v->old.toList[j]?=some v:=λj v U=>by have:=g3 j v U;rw[aO,cT w b j old ty (0,0) hg]at this;rw[aD.getElem?_toList];exact this
       have aw:j<vs.length:=by have:=(am.getElem?_eq_some_iff.1 U).1;simp only[aZ,bI,dP,R]at this;have:(l+1)*z<=g.length*z:=aP _ aa;rw[aS,cC]at this;omega
       have ay:vs.length<=old.toList.length:=ek
       simp only[am.getElem?_toArray];rw[am.getElem?_append,am.getElem?_append]at U⊢;have t1:(vs.take (l*z+k)).length=l*z+k:=by rw[bI];have:(l+1)*z<=g.length*z:=aP _ aa;rw[aS,cC]at this;omega
       have t2:(old.toList.take (l*z+k)).length=l*z+k:=by rw[bI,bO];omega
       simp only[aZ,t1,t2]at U⊢;split at U
       .rename_i c1;rw[bU c1];split at U
        .rename_i c2;rw[bU c2];rw[am.getElem?_take]at U⊢;rw[bU c2]at U⊢
         grind
        rename_i c2;rw[bF c2];exact U
       rename_i c1;rw[bF c1];rw[am.getElem?_drop]at U⊢;exact ak _ v U,(λhf=>by cases hf),(λ_=>⟨_,⟨ty,cH w b old _ ty (0,0) hg⟩,ek⟩)⟩⟩
      refine qz.of_skip (ι':=B) (w':=w.setRow b (old.toList.take (l*z+k)++(a.eval y).cells.toList++old.toList.drop (l*z+k+(a.eval y).cells.toList.length)).toArray) (hr:=?_) (hk:=h) (h:=?_)
      .grind[aF,Instr.storeAt,bQ,aY,bC,aQ]
      rw[ac];exact hrel
    grind
   grind
  grind
end
section
variable {P:Program}{F:Fr}{N:Nat}{B:Nat->Gh}{s:S}{a:Act}{w:World}{o:Oper}{K:S->Prop}
theorem anY(off):∀(i) (k:Nat) (g:aD Value),off+k+i.length<=g.size->
 (i.zipIdx k).foldl (λcs (x:Value×Nat)=>cs.setIfInBounds (off+x.2) x.1) g=(zM g.toList (off+k) i).toArray
 |[],k,g,_=>by simp[zM]
 |v::r,k,g,h=>by
  simp only[dl,List.foldl_cons];simp only[bP]at h;rw[anY off r (k+1) (g.setIfInBounds (off+k) v) ek];congr 1
  simp only[zM,Array.toList_setIfInBounds,bP]
  grind[list_seg_step]
theorem anV(place:Nat->aA (Nat×Nat))(g)(i off sz)(v)(rest)(o:place i=some (off,sz))(I:v.cells.toList.length=sz)(l:off+sz<=g.size):
 cU place g ((i,v)::rest)=cU place (zM g.toList off v.cells.toList).toArray rest:=by
 have p:v.cells.size=sz:=ek
 have j:=anY off v.cells.toList 0 g ek;simp only[dJ]at j;have r:v.cells.zipIdx.foldl (λcs (x:Value×Nat)=>cs.setIfInBounds (off+x.2) x.1) g=(zM g.toList off v.cells.toList).toArray:=by rw[<-j,<-Array.foldl_toList];simp
 rw[cU];simp only[o];rw[bF ek];congr 1
theorem ae3:∀(I),akp P I=true->∃l,I.mapM (λf=>(P.info? f.type).map λi=>(f.offset,i.size))=some l/\∀(j:Nat) (f:dp),I[j]?=some f->l[j]?=some (f.offset,ya P f.type)
 |[],_=>⟨[],rfl,λj f h=>by simp at h⟩
 |f::r,h=>by
  unfold akp at h;cases p:P.info? f.type with
  |none=>rw[p]at h;cases h
  |some i=>
   rw[p]at h;obtain⟨l,J,R⟩:=ae3 r h;refine⟨(f.offset,i.size)::l,by simp[List.mapM_cons,p,J],λj g o=>?_⟩;cases j with
   |zero=>simp at o;subst o;simp[ya,p]
   |succ j=>simp at o;simpa using R j g o
theorem akc(hr:Rel F N B s a w){t}{fs}(hu:P.underlying t=some (.struct fs)){g:am (Nat×Nat)}(aa:∀(j:Nat) (f:dp),fs.toList[j]?=some f->g[j]?=some (f.offset,ya P f.type)):
 ∀(parts) (l:am (Nat×Nat×O)) (cs o:am C) (vs:am Value),aex P t parts=some l->CRs B w (F.ok B s.pl w) cs vs->J7 s cs l=some o->
  ∃p,cU (λx=>g[x]?) vs.toArray (parts.map λx=>(x.1,a.eval x.2))=some p.toArray/\CRs B w (F.ok B s.pl w) o p
 |[],l,cs,o,vs,r,U,I=>by cases r;cases I;exact⟨vs,rfl,U⟩
 |(i,x)::parts,l,cs,o,vs,r,U,I=>by
  unfold aex at r;split at r
  .rename_i off J l' ht hl;cases r;unfold J7 at I;cases hc:solid (s.ow (cO x)).cells&&aH (s.ow (cO x)).cells.length (ya P J)&&cD (off+ya P J) cs.length with
   |false=>grind
   |true=>
    rw[hc]at I;simp only[aM]at I;rw[aI,aI]at hc;obtain⟨⟨c1,T⟩,c3⟩:=hc;have T:=aB T;have c3:=aR c3;obtain⟨ac,f,e1,e2,e3,e4⟩:=aa6 ht;rw[hu]at e1;cases e1;have hp:g[i]?=some (off,ya P J):=ek
    have hx:=QT (awm hr x) c1;have ab:(a.eval x).cells.toList.length=ya P J:=by rw[<-hx.length,T]
    have ad:cs.length=vs.length:=U.length;have R:CRs B w (F.ok B s.pl w) (zM cs off (s.ow (cO x)).cells) (zM vs off (a.eval x).cells.toList):=by grind[zM,CRs.append,CRs.take,CRs.drop]
    obtain⟨p,g1,g2⟩:=akc hr hu aa parts l' _ o _ hl R I;refine⟨p,?_,g2⟩;rw[aV,anV _ vs.toArray i off (ya P J) (a.eval x) _ hp ab ew];exact g1
  cases r
theorem ahP(hr:Rel F N B s a w)(hd:∀k,o.dst=some k->k<N){t}{parts:aD (Nat×aC)}(ho:o.op=.build t parts){J:aD dp}(hu:P.underlying t=some (.struct J)){l:am (Nat×Nat×O)}
 (hl:aex P t parts.toList=some l) (hi:akp P J.toList=true) (j:solid (uh P t).cells=true) (h:yg P o.dst (.build (uh P t).cells l) s K):zN P F N o a w (λ_=>True) K:=by
 simp only[yg]at h;split at h
 .rename_i cs g;obtain⟨I,h1,T⟩:=ae3 J.toList hi;unfold uh at j g;cases p:P.info? t with
  |none=>simp only[p]at j;cases j
  |some it=>
   simp only[p]at j g;cases r:it.zero with
   |none=>simp only[r]at j;cases j
   |some z=>
    simp only[r]at j g;rw[QN j]at g;obtain⟨vs,g1,g2⟩:=akc hr hu T parts.toList l _ cs _ hl (XH B w _ z.cells.toList) g;have U:P.built t (parts.map λ(i,x)=>(i,a.eval x)).toList=some vs.toArray:=by simp_all[Program.built]
    have R:=λ(w':World)=>run_build (P:=P) w' t (parts.map λ(i,x)=>(i,a.eval x)) vs.toArray U
    exact zN.put hr hd (λw' _=>by simp_all[aF]) (show VR B w _ (.w (.agg cs)) _ from⟨vs,rfl,g2⟩) h
 grind
theorem anU{sz}:∀(j:am Value) (i:Nat) (g:aD Value),(∀v∈j,v.cells.toList.length=sz)->(i+j.length)*sz=g.size->∀(parts),
 parts=(j.zipIdx i).map (λx=>(x.2,x.1))->cU (λi=>some (i*sz,sz)) g parts=some (g.toList.take (i*sz)++(j.map λv=>v.cells.toList).flatten).toArray
 |[],i,g,_,hs,parts,p=>by simp_all[cU,List.take_of_length_le]
 |v::r,i,g,I,hs,parts,p=>by
  subst p;have o:=I v ep;simp only[bP]at hs;have P:(i+(r.length+1))*sz=i*sz+sz+r.length*sz:=by rw[aS,aS,cC];omega
  simp only[dl,aV];rw[anV _ g i (i*sz) sz v _ rfl o ej];have l:(zM g.toList (i*sz) v.cells.toList).length=g.size:=by grind[zM]
  rw[anU r (i+1) _ (λu J=>I u (by simp[J])) (by simp only[cE,l];rw[<-hs];congr 1;omega) _ rfl];congr 2
  simp only[aX];rw[<-List.append_assoc];congr 1
  simp only[zM];rw[show(i+1)*sz=i*sz+sz by grind];have R:(g.toList.take (i*sz)).length=i*sz:=ek
  grind
theorem ahB:∀(parts) (i:Nat),abz i parts=true->(parts.map λx=>(x.1,a.eval x.2))=((parts.map λx=>a.eval x.2).zipIdx i).map λx=>(x.2,x.1)
 |[],_,_=>rfl
 |(j,x)::r,i,h=>by simp only[abz,aI]at h;have:=aB h.1;subst this;simp only[aV,dl,ahB r (i+1) h.2]
theorem afs{sz}(I:S)(a):∀{parts:am aC}{s:S}(_:Rel F N B s a w) (_:∀x∈parts,WR B w (F.ok B s.pl w) (I.ow (cO x)) (a.eval x)) {g:am (am D)}{i:am (Nat×Pl)}(_:akQ I sz s.pl (parts.map cO)=some (g,i)),
 Rel F N B (s.withPl i) a w/\(∀b,F.ok B s.pl w b->F.ok B i w b)/\g.length=parts.length/\(∀e∈g,e.length=sz)/\(∀x∈parts,(a.eval x).cells.toList.length=sz)/\
  CRs B w (F.ok B i w) (g.flatten.map .d) ((parts.map λx=>(a.eval x).cells.toList).flatten)
 |[],s,hr,_,g,i,h=>by cases h;exact⟨hr,λ_ h=>h,rfl,λe P=>(by cases P),λx p=>(by cases p),trivial⟩
 |x::parts,s,hr,p,g,i,h=>by
  simp only[aV,akQ]at h;cases j:aH (I.ow (cO x)).cells.length sz with
  |false=>grind
  |true=>
   rw[j]at h;have j:=aB j;simp only[aM]at h;split at h
   .rename_i T o J;split at h
    .rename_i es ab U;cases h;have l:=QT (p x ep) (YH J);obtain⟨g1,g2,g3⟩:=Vz hr l J;have hk:zP w w (F.ok B s.pl w) (F.ok B o w):=λb j=>⟨g2 b j,rfl⟩
     obtain⟨k1,R,k3,k4,k5,k6⟩:=afs I a (s:=s.withPl o) g1 (λy r=>WR.keep hk (yx.refl w) _ _ (p y (by simp[r]))) U;have aa:T.length=sz:=by rw[<-j,l.length];simpa using g3.length
     refine⟨k1,λb j=>R b (g2 b j),by simp[k3],λe P=>?_,λy r=>?_,?_⟩
     .grind
     .rcases bL.1 r with rfl|r
      .rw[<-l.length,j]
      grind
     simp only[aX,bS,aV];exact CRs.append (CRs.keep (λb j=>⟨R b j,rfl⟩) (yx.refl w) _ _ g3) k6
    cases h
   cases h
theorem NewRow.shape{w w'}{g}{t}{mk}(h:NewRow w w' g t mk):w'.shape? w.heap.size=some (t,g.size):=by simp[bH,h.new]
theorem alx(hr:Rel F N B s a w)(hd:∀k,o.dst=some k->k<N){t e}{n}{parts}(ho:o.op=.buildSlice t n parts)(ht:uG P t=some e)(J:bE 0 (ya P e)=true)(hn:aH n parts.toList.length=true)
 (T:cD (n*ya P e) 16777216=true) (ah:abz 0 parts.toList=true) (r:amg P e=true) (h:yg P o.dst (.lits (ya P e) (parts.toList.map λx=>cO x.2)) s K):uS P F N o a w K:=by
 simp only[yg]at h;have hu:=ug ht;have J:0<ya P e:=aR J;have hn:=aB hn;have T:=aR T;unfold amg at r;cases hi:P.info? e with
 |none=>grind
 |some i=>
  simp only[hi]at r;cases hz:i.zero with
  |none=>rw[hz]at r;cases r
  |some z=>
   have aj:ya P e=i.size:=by grind[ya]
   split at h
   .rename_i d R ak ac aa;have ad:(parts.toList.map λx=>cO x.2)=(parts.toList.map (·.2)).map cO:=ep
    rw[ad]at aa;obtain⟨g1,g2,g3,g4,g5,g6⟩:=afs s a hr (λx _=>awm hr x) aa;have g:=anU (sz:=ya P e) (parts.toList.map λx=>a.eval x.2) 0 ((Array.range (n*ya P e)).map ((if n*ya P e=0 then #[]else z.cells)[· %(if n*ya P e=0 then #[]else z.cells).size]!)) (λv hv=>ek) (by simp[hn]) _ (ahB parts.toList 0 ah)
    simp only[bY,List.take_zero,dY]at g;obtain⟨p,U⟩:∃p:aD Value,p=((parts.toList.map λx=>a.eval x.2).map λv=>v.cells.toList).flatten.toArray:=⟨_,rfl⟩;rw[<-U]at g;have ab:p.toList=((parts.toList.map (·.2)).map λx=>(a.eval x).cells.toList).flatten:=by rw[U,List.map_map,List.map_map];rfl
    have ag:p.size=n*ya P e:=by
     have h1:p.size=p.toList.length:=ep
     rw[h1,ab];have:∀(l:am aC),(∀x∈l,(a.eval x).cells.toList.length=ya P e)->((l.map λx=>(a.eval x).cells.toList).flatten).length=l.length*ya P e:=by intro l;induction l<;>grind
     grind
    have af:(aF a.eval o).run P w=.ok (.value (.slice (some ⟨w.heap.size,0,none⟩) n n)) (w.alloc (.cells p e)):=by
     have ae:¬n*i.size>16777216:=ek
     rw[aj]at g;have I:(parts.map λ(i,x)=>(i,a.eval x)).toList=parts.toList.map λx=>(x.1,a.eval x.2):=ep
     by_cases h0:n*i.size=0
     .rw[bU h0]at g;simp only[aF,ho,dQ,aY,aG hu,aQ,dg,cc,run_program,hi,bC,bF ae,bU h0,I,g,dM,run_newObj];rfl
     rw[bF h0]at g;simp only[aF,ho,dQ,aY,aG hu,aQ,dg,cc,run_program,hi,bC,bF ae,bF h0,cY,hz,I,g,dM,run_newObj];rfl
    have hw:=NewRow.alloc w p e;have hrel:=Rel.newRow g1 hw d (.arr (ya P e) R false) [d] (by simp[isin]) R.length (g1.h_slot (hd _ (by assumption))) ⟨J,by rw[yh],.inr ⟨w.heap.size,by rw[yh],by refine WL (B:=B) (vs:=p.toList) g4 ?_ (λj v hv=>eu);rw[ab];exact CRs.keep (Xx g1 hw d _ [d] (by simp[isin]) R.length) hw.shapes _ _ g6,(λhf=>by cases hf),(λ_=>⟨p,⟨e,hw.new⟩,ek⟩)⟩⟩
    refine uS.of_value hw.ext (ι':=jA B d ⟨some w.heap.size,R.length⟩) af ?_ h;rw[ac];refine hrel.put (some d) (λk hk=>ek) _ _ ?_;have ai:R.length=n:=ek
    refine .inr ⟨w.heap.size,n,e,by rw[yh],by simp_all[yh],by rw[ai],eu,?_,by rw[hw.shape,ag]⟩;have:n*1<=n*ya P e:=Nat.mul_le_mul_left _ J
    grind[maxLen]
   grind
end
section
variable {P:Program}{F:Fr}{N:Nat}{B:Nat->Gh}{s:S}{a:Act}{w:World}{o:Oper}{K:S->Prop}
theorem Uz{ok:Nat->Prop}:∀{cs:am C}{z:am D}{pl:am (Nat×Pl)}{vs:am Value},jN [] cs=some (z,pl)->CRs B w ok cs vs->CRs B w ok (z.map .d) vs
 |[],z,pl,vs,h,i=>by cases h;grind
 |_::_,_,_,[],_,i=>i.elim
 |c::cs,z,pl,v::vs,h,i=>by
  simp only[jN]at h;split at h
  .rename_i y o g;have j:o=[]:=by
    cases c with
    |clo f l=>cases l<;>grind[VN]
    |_=>simp only[VN,aget]at g<;>cases g<;>rfl
   subst j;split at h
   .rename_i ys r p;cases h;refine⟨?_,Uz p i.2⟩;cases c with
    |clo f l=>cases l with
     |nil=>
      simp only[VN]at g;cases g;obtain⟨I,g1,g2⟩:=i.1<;>simp_all[CR,RD,RDf]
     |cons _ _=>grind[VN]
    |d x=>simp only[VN]at g;cases g;exact i.1
    |nil=>
     simp only[VN]at g;cases g;have:=i.1;simp only[CR]at this;subst this;simp only[CR,RD];exact⟨none,0,0,rfl,rfl,aW _,cJ _,.inl trivial⟩
    |_=>simp only[VN,aget]at g;cases g
   cases h
  cases h
theorem uy(l):∀(n j) (v:Value),(aL n l).flatten[j]?=some v->j<n*l.length/\l[j%l.length]?=some v
 |0,j,v,h=>by simp at h
 |n+1,j,v,h=>by
  simp only[dx,aX,am.getElem?_append]at h;rw[aS,cC];split at h
  .grind[Nat.mod_eq_of_lt]
  rename_i o;obtain⟨g,i⟩:=uy l n _ v h
  grind[Nat.mod_eq_sub_mod]
theorem QD{ok:Nat->Prop}{z}{vs}(h:CRs B w ok (z.map .d) vs):∀(n),CRs B w ok ((aL n z).flatten.map .d) (aL n vs).flatten
 |0=>trivial
 |n+1=>by simp only[dx,aX,bS];exact CRs.append h (QD h n)
theorem atA(hr:Rel F N B s a w)(hd:∀k,o.dst=some k->k<N){t e}{x y}(ho:o.op=.makeSlice t x y)(ht:uG P t=some e){z}{ah}(J:jN [] (uh P e).cells=some (z,ah))
 (p:bE 0 (ya P e)=true) (l:aH z.length (ya P e)=true) (h:yg P o.dst (.mk (ya P e) (jy P e) z (cO x) (cO y)) s K):uS P F N o a w K:=by
 simp only[yg]at h;have hu:=ug ht;have p:0<ya P e:=aR p;have l:=aB l;split at h
 .rename_i d n c U hn hc;obtain⟨k1,hx,_⟩:=YN hn (jI hr x);obtain⟨k2,hy,_⟩:=YN hc (jI hr y);obtain⟨g1,g2,g3,g4,h⟩:=h;unfold uh at J;cases hi:P.info? e with
  |none=>grind[ya]
  |some i=>
   simp only[hi]at J;cases R:i.zero with
   |none=>simp only[R]at J;cases J
   |some v=>
    simp only[R]at J;have ac:=YH J;rw[QN ac]at J;have aj:ya P e=i.size:=by grind[ya]
    have ai:jy P e=i.bytes:=by grind[jy]
    have r:(i.bytes:Int)*c<=281474976710656:=by grind[zW]
    have ab:=run_make (P:=P) w t e i v hu hi R k1 k2 n c g1 g2 r g4;obtain⟨g,I⟩:∃g,g=madeCells v.cells (c.toNat*i.size):=⟨_,rfl⟩;rw[<-I]at ab;have ae:g.size=c.toNat*ya P e:=by grind[size_madeCells]
    have T:=NewRow.alloc w g e;have ad:=Uz J (XH B w (F.ok B s.pl w) v.cells.toList);have ag:v.cells.toList.length=ya P e:=by rw[<-l];simpa using ad.length.symm
    have aa:n.toNat<=c.toNat:=ej
    have hrel:=hr.newRow T d (.arr (ya P e) (aL n.toNat z) false) [d] (by simp[isin]) n.toNat (hr.h_slot (hd _ (by assumption))) ⟨p,by grind[yh],.inr ⟨w.heap.size,by rw[yh],by
     refine WL (B:=B) (vs:=(aL n.toNat v.cells.toList).flatten) (λq hq=>ek) ?_ ?_
     .exact CRs.keep (Xx hr T d _ [d] (by simp[isin]) n.toNat) T.shapes _ _ (QD ad n.toNat)
     intro j u hj;obtain⟨j1,j2⟩:=uy _ _ _ _ hj;rw[aO,T.cell,I];rw[ag]at j1 j2;have af:j<c.toNat*i.size:=by
      have:n.toNat*ya P e<=c.toNat*ya P e:=aP _ aa
      grind
     have ak:v.cells.size=ya P e:=ek
     simp only[madeCells,aD.getElem?_map,aD.getElem?_range,af,cK,dZ,cF]
     grind,(λhf=>by cases hf),(λ_=>⟨g,⟨e,T.new⟩,by simp_all[aP]⟩)⟩⟩
    refine uS.of_value T.ext (v:=.slice (some ⟨w.heap.size,0,none⟩) n.toNat c.toNat) (w':=w.alloc (.cells g e)) (ι':=jA B d ⟨some w.heap.size,n.toNat⟩) ?_ ?_ h
    .grind[aF,aY,aQ,bC]
    rw[U];refine hrel.put (some d) (λk hk=>ek) _ _ ?_;exact .inr ⟨w.heap.size,c.toNat,e,by rw[yh],by simp_all[yh],rfl,aa,by grind[maxLen],by rw[T.shape,ae]⟩
 grind
theorem VP(hr:Rel F N B s a w){x}{l}(h:s.bnd (x.map cO)=some l):(x=none/\l=none)\/∃y k n,x=some y/\l=some n/\a.eval y=.int k n:=by
 cases x with
 |none=>cases h;grind
 |some y=>
  simp only[dZ,S.bnd]at h;cases g:Qy (s.o (cO y))with
  |none=>grind
  |some n=>
   rw[g]at h;cases h;obtain⟨k,i,_⟩:=YN g (jI hr y)
   grind
theorem Y3(k)(i:Int)(y:Nat)(code)(h0:0<=i)(g:i<=y):(dR (.int k i) y code).run P w=.ok i.toNat w:=by simp_all[dR,dL]
theorem ak5(b)(len cap:Nat)(j i)(l h)(I:(j=none/\l=none)\/∃k n,j=some (.int k n)/\l=some n)(r:(i=none/\h=none)\/∃k n,i=some (.int k n)/\h=some n)
 (h0:0<=ye l 0) (p:ye l 0<=ye h len) (o:ye h len<=cap):(bT b len cap j i none).run P w=.ok ((ye l 0).toNat,(ye h len).toNat,cap) w:=by
 rcases I with⟨rfl,rfl⟩|⟨k,n,rfl,rfl⟩<;>rcases r with⟨rfl,rfl⟩|⟨k',g,rfl,rfl⟩<;>simp only[ye]at h0 p o⊢
 .simp[bT]
 .simp_all[bT,Y3]
 .simp_all[bT,Y3]
 have e:((g.toNat:Nat):Int)=g:=Int.toNat_of_nonneg ej;simp[bT,Y3 k' g cap _ ej o,Y3 k n g.toNat _ h0 ek]
theorem agC{x}{l}(h:(x=none/\l=none)\/∃y k n,x=some y/\l=some n/\a.eval y=.int k n):(x.map a.eval=none/\l=none)\/∃k n,x.map a.eval=some (.int k n)/\l=some n:=ek
theorem YO{t e}(hu:P.underlying t=some (.slice e)){i}(T:P.info? e=some i){x}{j g:aA aC}(ho:o.op=.slice t x j g none){p:aA dD}{len cap}(hx:a.eval x=.slice p len cap)
 {l h:aA Int}(U:(j=none/\l=none)\/∃y k n,j=some y/\l=some n/\a.eval y=.int k n) (R:(g=none/\h=none)\/∃y k n,g=some y/\h=some n/\a.eval y=.int k n)
 (h0:0<=ye l 0) (r:ye l 0<=ye h len) (I:ye h len<=cap):
 (aF a.eval o).run P w=.ok (.value (.slice (if cap=(ye l 0).toNat then p else p.map (·.add ((ye l 0).toNat*ya P e))) ((ye h len).toNat-(ye l 0).toNat) (cap-(ye l 0).toNat))) w:=by have J:=ak5 (P:=P) (w:=w) true len cap (j.map a.eval) (g.map a.eval) l h (agC U) (agC R) h0 r I;simp only[aF,ho,d9,Instr.sliceAt,Instr.slice,hx,aY,aG hu,aQ,J,ue T,bC]
theorem aoR(hr:Rel F N B s a w)(hd:∀k,o.dst=some k->k<N){t e}{x}{lo hi:aA aC}(ho:o.op=.slice t x lo hi none)(hu:P.underlying t=some (.slice e)){i}(J:P.info? e=some i)
 (h:yg P o.dst (.sli (ya P e) (cO x) (lo.map cO) (hi.map cO)) s K):zN P F N o a w (λ_=>True) K:=by
 simp only[yg]at h;split at h
 case h_2=>grind
 rename_i lq r hl hh;have hl:=VP hr hl;have hh:=VP hr hh;have hx:=qZ hr x;generalize s.oc (cO x)=cx at*;unfold aBq at h;split at h
 .rename_i j;simp only[CR,RD]at hx;obtain⟨ad,m,c,e1,e2,e3,e4,e5⟩:=hx;cases lq with
  |none=>
   obtain⟨g1,g2,h⟩:=h;have g:=λ(w':World) (_:True)=>YO (o:=o) (w:=w') hu J ho e1 hl hh (by simp[ye]) (by grind[ye]) ek
   simp only[ye,cW,bY,cR]at g;have R:(if c=0 then ad else ad.map (·.add 0))=ad:=by simp_all[Addr.add]
   simp only[R]at g;refine zN.put hr hd g ?_ h;simp only[cV,VR,WR,CR,RD];have I:(j.take (ye r j.length).toNat).length=(ye r j.length).toNat:=ek
   refine⟨ad,_,_,rfl,?_,?_,e4,?_⟩
   .rw[I,e2];rfl
   .grind[ye]
   rcases e5 with e5|⟨b,q,sz,f1,f2,f3⟩
   .grind
   right;grind[RDs.take]
  |some l=>
   obtain⟨g0,g1,g2,g3,h⟩:=h;have g:=λ(w':World) (_:True)=>YO (o:=o) (w:=w') hu J ho e1 hl hh (by grind[ye]) (by grind[ye]) ek
   simp only[ye]at g;refine zN.put hr hd g ?_ h;simp only[cV,VR,WR,CR,RD];have I:((j.take (ye r j.length).toNat).drop l.toNat).length=(ye r j.length).toNat-l.toNat:=ek
   refine⟨_,_,_,rfl,?_,?_,ej,?_⟩
   .rw[I,e2];rfl
   .grind[ye]
   by_cases ab:(j.take (ye r j.length).toNat).drop l.toNat=[]
   .grind
   have ae:l.toNat<(ye r j.length).toNat:=ek
   rcases e5 with e5|⟨b,q,sz,f1,f2,f3⟩
   .grind
   right
   have aa:j≠ []:=λe=>ek
   obtain⟨y,hy⟩:∃y,y∈j:=c9 j aa;have af:sz=ya P e:=by grind[RDs.len]
   refine⟨b,q+l.toNat*sz,sz,?_,f2,RDs.drop _ (RDs.take _ f3)⟩;refine Eq.trans (bF ek) ?_
   grind[wZ]
 .rename_i p z n;cases hz:aH z (ya P e)with
  |false=>grind
  |true=>
   rw[hz]at h;have hz:=aB hz;simp only[aM]at h;cases lq with
   |none=>
    obtain⟨g1,g2,h⟩:=h;rcases hx with⟨f1,f2,f3⟩|⟨b,cap,ty,f1,f2,f3,f4,f5,f6⟩
    .subst f2;have h0:ye r ((0:Nat):Int)=0:=ej
     have g:=λ(w':World) (_:True)=>YO (o:=o) (w:=w') hu J ho f3 hl hh (by simp[ye]) (by grind[ye]) ej
     simp only[h0]at g;rw[h0]at h;simp only[ye,cW,bY,cR,cK]at g;exact zN.put hr hd g (show VR B w _ (cV (.own p z 0)) _ from .inl ⟨f1,rfl,rfl⟩) h
    have g:=λ(w':World) (_:True)=>YO (o:=o) (w:=w') hu J ho f3 hl hh (by simp[ye]) (by grind[ye]) ej
    simp only[ye,cW,bY,cR]at g;have R:(if cap=0 then some (⟨b,0,none⟩:dD)else(some (⟨b,0,none⟩:dD)).map (·.add 0))=some ⟨b,0,none⟩:=by grind[Addr.add]
    simp only[R]at g;refine zN.put hr hd g (show VR B w _ (cV (.own p z (ye r n).toNat)) _ from .inr ⟨b,cap,ty,f1,ej,rfl,ej,f5,f6⟩) h
   |some l=>
    simp only[]at h;split at h
    .rename_i z1 j fz hp;cases U:aH z z1 with
     |false=>grind
     |true=>
      rw[U]at h;have U:=aB U;simp only[aM]at h;obtain⟨g1,g2,g3,h⟩:=h;obtain⟨k1,k2|⟨b,cap,ty,f1,f3,f4,f5,f6,f7⟩⟩:=asy hr hp U hx
      .obtain⟨k2,k3,k4,k5⟩:=k2;subst k2;have h0:ye r ((0:Nat):Int)=0:=ej
       have ac:l=0:=ej
       subst ac;have g:=λ(w':World) (_:True)=>YO (o:=o) (w:=w') hu J ho k3 hl hh (by simp[ye]) (by grind[ye]) ej
       simp only[h0]at g;rw[h0]at h;simp only[ye,cW,bY,cR,cK]at g;refine⟨_,B,_,g,(hr.freeze p).put o.dst hd _ _ ?_,h⟩;simp only[cV,VR,WR,CR,RD,k5];exact⟨none,0,0,rfl,ep,aW _,cJ _,.inl ep⟩
      have g:=λ(w':World) (_:True)=>YO (o:=o) (w:=w') hu J ho f3 hl hh (by grind[ye]) (by grind[ye]) ej
      simp only[ye]at g;have I:((j.take (ye r n).toNat).drop l.toNat).length=(ye r n).toNat-l.toNat:=ek
      refine⟨_,B,_,g,(hr.freeze p).put o.dst hd _ _ ?_,h⟩;have T:=aAj hr hp f1 (n:=(ye r n).toNat) ej (cap:=cap) ej f5;simp only[cV,VR,WR,CR];simp only[RD]at T⊢;obtain⟨ad,m,c,e1,e2,e3,e4,e5⟩:=T;cases e1;refine⟨_,_,_,rfl,by rw[I];rfl,by grind[ye],ej,?_⟩;by_cases ab:(j.take (ye r n).toNat).drop l.toNat=[]
      .grind
      have ae:l.toNat<(ye r n).toNat:=ek
      rcases e5 with e5|⟨b',q,sz,q1,q2,q3⟩
      .grind
      right
      cases q1;have aa:j.take (ye r n).toNat≠ []:=λe=>ek
      obtain⟨y,hy⟩:∃y,y∈j.take (ye r n).toNat:=c9 _ aa;have af:sz=ya P e:=by rw[<-RDs.len q3 y hy,RDs.len f7 y (dt hy),<-U,hz]
      refine⟨b,0+l.toNat*sz,sz,?_,q2,RDs.drop _ q3⟩;refine Eq.trans (bF ek) ?_
      grind[wZ]
    grind
 .have hx:a.eval x=.slice none 0 0:=hx;obtain⟨g1,g2,g3,h⟩:=h;have g:=λ(w':World) (_:True)=>YO (o:=o) (w:=w') hu J ho hx hl hh g1 g2 g3
  have e1:(ye lq 0).toNat=0:=ej
  have e2:(ye r ((0:Nat):Int)).toNat=0:=ek
  simp only[e1,e2,bY,cK,cR]at g;exact zN.put hr hd g (show VR B w _ (cV .nil) _ from rfl) h
 grind
theorem aoS(hr:Rel F N B s a w)(R:∀k,o.dst=some k->k<N){t}{x}{r i:aA aC}(T:o.op=.slice t x r i none)(U:P.underlying t=some .string)
 (h:yg P o.dst (.sls (cO x) (r.map cO) (i.map cO)) s K):zN P F N o a w (λ_=>True) K:=by
 simp only[yg]at h;split at h
 case h_2=>grind
 rename_i l I j g;have j:=VP hr j;have g:=VP hr g;have hx:=qZ hr x;generalize s.oc (cO x)=cx at*;unfold aBr at h;split at h
 .rename_i b;obtain⟨g1,g2,g3,h⟩:=h;have p:=qf hx;have J:=λ(w':World)=>ak5 (P:=P) (w:=w') false b.size b.size (r.map a.eval) (i.map a.eval) l I (agC j) (agC g) g1 g2 g3
  refine zN.put hr R (v:=.string (b.extract (ye l 0).toNat (ye I b.size).toNat)) ?_ (xP rfl) h;intro w' _;simp only[aF,T,d9,Instr.sliceAt,Instr.slice,p,aY,aG U,aQ,bC];simp_all
 grind
theorem adR{t}(h:wO P t true=true):P.underlying t=some .string:=by grind[wO]
theorem ae5{t}(h:wO P t false=true):∃e,P.underlying t=some (.slice e)/\P.underlying e=some (.int .u8):=by grind[wO]
theorem Jp(b):(qn b).flatten=b.data.toList.map λx=>D.lit (.int .u8 x.toNat):=by unfold qn;induction b.data.toList<;>grind
theorem anC{ok:Nat->Prop}:∀(l:am UInt8) (vs:am Value),CRs B w ok ((l.map λx=>D.lit (.int .u8 x.toNat)).map .d) vs->vs=l.map λ(x)=>dw .u8 x.toNat
 |[],[],_=>rfl
 |[],_::_,h=>h.elim
 |_::_,[],h=>h.elim
 |x::l,v::vs,h=>by have g:=qf h.1;simp only[aV,g,anC l vs h.2]
theorem KE{ok:Nat->Prop}:∀(l:am UInt8),CRs B w ok ((l.map λx=>D.lit (.int .u8 x.toNat)).map .d) (l.map λ(x)=>dw .u8 x.toNat)
 |[]=>trivial
 |x::l=>⟨by simp only[CR,RD];exact⟨trivial,rfl⟩,KE l⟩
theorem kD(hr:Rel F N B s a w){c}{v}(r:CR B w (F.ok B s.pl w) c v){l}(h:Ul s.pl c=some l):
 ∃j cap,v=.slice j l.length cap/\(l=[]\/∃b q sz,j=some ⟨b,q,none⟩/\RDs w (F.ok B s.pl w) b sz q l):=by
 cases c with
 |d x=>
  cases x with
  |lit u=>cases h
  |fn f l=>cases h
  |sl g=>
   cases h<;>grind[CR,RD]
 |nil=>cases h;exact⟨none,0,r,.inl rfl⟩
 |own p z n=>
  simp only[Ul]at h;cases I:aget s.pl p with
  |none=>grind
  |some y=>
   cases y with
   |box cs=>grind
   |fbox cs=>grind
   |gone=>grind
   |arr sz g P=>
    simp only[I]at h;cases h;obtain⟨hn,h|⟨b,cap,t,R,T,U,h4,h5,J⟩⟩:=afB hr I r
    .grind
    exact⟨some ⟨b,0,none⟩,cap,ek,.inr ⟨b,0,sz,rfl,RDs.take n J⟩⟩
 |dead=>cases h
 |sub p z o n=>cases h
 |ptr p o=>cases h
 |eptr p z i k=>cases h
 |fp l=>cases h
 |clo f l=>cases h
theorem aoG(hr:Rel F N B s a w)(hd:∀k,o.dst=some k->k<N){t u}{x}(ho:o.op=.convert t u x)(ht:wO P t false=true)(hu:wO P u true=true)
 (h:yg P o.dst (.b2s (cO x)) s K):zN P F N o a w (u9 w) K:=by
 simp only[yg]at h;obtain⟨e,h1,h2⟩:=ae5 ht;have h3:=adR hu;split at h
 .rename_i l hl;obtain⟨b,rfl,h⟩:=h;obtain⟨T,cap,U,g⟩:=kD hr (qZ hr x) hl;refine zN.put hr hd (v:=.string b) ?_ (xP rfl) h;intro w' R;have I:(dE (.slice T (qn b).length cap)).run P w'=.ok (.string b) w':=by
   rcases g with he|⟨r,q,sz,rfl,g⟩
   .have aa:b.data.toList=[]:=by grind[qn]
    have hb:b=ea:=by cases b with|mk d=>have:d= #[]:=aK.1 ek;subst this;rfl
    rw[he];cases T<;>simp_all[dE,dF,c8]
   obtain⟨vs,g1,g2,g3⟩:=RDs.vals (B:=B) g;rw[Jp]at g1;have ab:=anC _ _ g1;have p:vs.length=(qn b).length:=by grind[qn]
   have i:=dC (P:=P) w' ⟨r,q,none⟩ vs (λj v U=>by rw[wZ];exact R.cell (g3 j v U));rw[p]at i;have J:vs=(b.data.toList.map λ(x:UInt8)=>(x.toNat:Int)).map (dw .u8):=eu
   rw[J]at i;rw[run_bytesToString w' _ _ _ (b.data.toList.map λ(x:UInt8)=>(x.toNat:Int)) i,foldl_push_byteCells];congr 2
   cases b with|mk d=>simp[ea,ByteArray.emptyWithCapacity];rfl
  grind[aF,aY,run_convert_bytes_string,aQ,bC]
 grind
theorem aoP(hr:Rel F N B s a w)(hd:∀k,o.dst=some k->k<N){t u}{x}(ho:o.op=.convert t u x)(ht:wO P t true=true)(hu:wO P u false=true)
 (h:yg P o.dst (.s2b (cO x)) s K):uS P F N o a w K:=by
 simp only[yg]at h;have h1:=adR ht;obtain⟨e,h2,h3⟩:=ae5 hu;split at h
 .rename_i d b r hx;have J:=qZ hr x;rw[hx]at J;have ad:=qf J;obtain⟨ac,h⟩:=h;have I:=run_bytes_of_string (P:=P) w t u e b h1 h2 h3;obtain⟨g,l⟩:∃g,g=bytesRow b (bG w b.size 0 e):=⟨_,rfl⟩;rw[<-l]at I;have U:=dN w b.size 0 e;have aa:=cP w b.size 0 e (by grind[maxLen]);have T:g.size=bG w b.size 0 e:=by simp_all[bytesRow]
  have R:=NewRow.draw w g e (g.size,g.size+1);have ab:(qn b).length=b.size:=by simp[qn]
  have hrel:=hr.newRow R d (.arr 1 (qn b) true) [d] (by simp[isin]) b.size (hr.h_slot (hd _ (by assumption))) ⟨ej,by grind[yh],.inr ⟨w.heap.size,by rw[yh],by
   refine WL (B:=B) (vs:=b.data.toList.map λ(x:UInt8)=>dw .u8 x.toNat) (λq hq=>by grind[qn]) ?_ ?_
   .grind[Jp,KE]
   intro j v hv;rw[aO,R.cell,l,bytesRow]
   grind,(λ_=>⟨.inr (.inr hr.grows.size),eu,by
    rintro⟨p,y,q1,q2,q3⟩;have i:aget (s.redo [d] [(d,Pl.arr 1 (qn b) true)]).pl p=some y:=q1;rw[S.redo_pl]at i;cases hn:aget [(d,Pl.arr 1 (qn b) true)] p with
    |some z=>simp only[hn]at i;cases i;obtain⟨_,rfl⟩:=yM hn;cases q2
    |none=>
     simp only[hn]at i;split at i
     .rename_i hk;cases hp:aget s.pl p with
      |none=>grind
      |some z=>
       rw[hp]at i;simp at i;subst i;rw[Zo B _ (ais hk)]at q3;rw[Pl.live_kill]at q2;have:=(hr.mine _ ⟨p,z,hp,q2,q3⟩).2;omega
     grind⟩),(λhf=>by cases hf)⟩⟩
  refine uS.of_value R.ext (v:=.slice (some ⟨w.heap.size,0,none⟩) b.size (bG w b.size 0 e)) (w':=w.drew.alloc (.cells g e (g.size,g.size+1))) (ι':=jA B d ⟨some w.heap.size,b.size⟩) ?_ ?_ h
  .grind[aF,aY,aQ,bC]
  rw[r];refine hrel.put (some d) (λk hk=>ek) _ _ ?_;exact .inr ⟨w.heap.size,_,e,by rw[yh],by simp_all[yh],rfl,U,aa,by rw[R.shape,T];simp⟩
 grind
end
section
variable {P:Program}{F:Fr}{N:Nat}{B:Nat->Gh}{s:S}{a:Act}{w:World}{o:Oper}{K:S->Prop}
structure Src(P:Program)(w:World)(size n:Nat)(y:Value)(news:am Value):Prop where
 len:∀w',(bM y).run P w'=.ok n w'
 cells:∀w',w'.heap=w.heap->(aN size n y).run P w'=.ok news.toArray w'
def agO(P:Program)(u):=P.underlying u=some .string\/∃e,P.underlying u=some (.slice e)
theorem ak4{t u ty e}{i}(r:P.underlying t=some (.slice e))(j:agO P u)(p:P.info? e=some i){y}{g}(hs:Src P w i.size 0 y g):
 (aU #[t,u] ty #[.slice none 0 0,y]).run P w=.ok (.slice none 0 0) w:=by have l:=hs.len w;have o:=hs.cells w rfl;rcases j with j|⟨e',j⟩<;>simp[aU,aG r,aG j,dg,cc,p,l,o]
theorem ak3{t u ty e}{i}(ht:P.underlying t=some (.slice e))(R:agO P u)(hi:P.info? e=some i){y}{n}{l}(hs:Src P w i.size n y l)
 {g j p}{o}{te}(hg:w.heap[g]?=some (.cells o te (0,0))) (h1:∀v∈l,v.oneCell'=true) (r:j+n<=p) (T:j*i.size+l.length<=o.size):
 (aU #[t,u] ty #[.slice (some ⟨g,0,none⟩) j p,y]).run P w=
  .ok (.slice (some ⟨g,0,none⟩) (j+n) p) (w.setRow g (o.toList.take (j*i.size)++l++o.toList.drop (j*i.size+l.length)).toArray):=by
 have e1:=hs.len w;have U:=hs.cells w rfl;have J:=cZ P g (j*i.size) te l 0 o w hg ek h1;simp only[dJ]at J;have I:(⟨g,0,none⟩:dD).add (j*i.size)=⟨g,j*i.size,none⟩:=by simp_all[wZ]
 rcases R with R|⟨e',R⟩<;>simp[aU,aG ht,aG R,dg,cc,hi,e1,U,r,I,J]
theorem amU{t u ty e}{i}{z}(ht:P.underlying t=some (.slice e))(J:agO P u)(hi:P.info? e=some i)(hz:i.zero=some z){y}{n}{l}(hs:Src P w i.size n y l)
 {R}{g j}{o}(ho:∀w',w'.heap=w.heap->(aN i.size g (.slice R g j)).run P w'=.ok o.toArray w') (hg:j<g+n) (aa:((g+n:Nat):Int)<=9223372036854775807)
 (p:(g+n)*i.bytes<=140737488355328):
 (aU #[t,u] ty #[.slice R g j,y]).run P w=
  .ok (.slice (some ⟨w.heap.size,0,none⟩) (g+n) (bG w (g+n) j e))
   (w.drew.alloc (.cells (o++l++(aJ z.cells (bG w (g+n) j e-(g+n))).toList).toArray e)):=by
 have e1:=hs.len w;have U:=hs.cells w.drew rfl;have e3:=ho w.drew rfl;have hn:¬(g+n<=j):=ej
 have I:¬(9223372036854775807<((g:Int)+(n:Int))):=ej
 have T:=ef hg p;have r:¬(281474976710656<du (g+n) j*i.bytes):=ej
 have fin:(o.toArray++(l.toArray++aJ z.cells (bG w (g+n) j e-(g+n))))=(o++(l++(aJ z.cells (bG w (g+n) j e-(g+n))).toList)).toArray:=ek
 rcases J with J|⟨e',J⟩<;>
 .simp[aU,aG ht,aG J,dg,cc,cY,hi,hz,e1,hn,I,r,eb,U,e3,dM];simp only[bG]at fin⊢;rw[<-fin];exact⟨trivial,rfl⟩
theorem u0{a:Type}{sz}:∀(l:am (am a)),(∀y∈l,y.length=sz)->l.flatten.length=l.length*sz
 |[],_=>ep
 |x::r,h=>by simp only[aX,aZ,bP,h x ep,u0 r (λy g=>h y (by simp[g])),aS];omega
theorem aFH(hr:Rel F N B s a w){c}{v}(J:CR B w (F.ok B s.pl w) c v){l}(h:Ul s.pl c=some l){size}(T:∀y∈l,y.length=size):
 ∃i,Src P w size l.length v i/\i.length=l.length*size/\CRs B w (F.ok B s.pl w) (l.flatten.map .d) i:=by
 obtain⟨I,cap,rfl,g⟩:=kD hr J h;have o:∀w',(bM (.slice I l.length cap)).run P w'=.ok l.length w':=λw'=>by simp[bM]
 rcases g with rfl|⟨b,q,sz,rfl,g⟩
 .refine⟨[],⟨o,λw' _=>?_⟩,ep,trivial⟩;cases I<;>simp_all[aN,dF,c8]
 obtain⟨vs,g1,g2,g3⟩:=RDs.vals (B:=B) g;have p:vs.length=l.length*size:=by have:=g1.length<;>grind[u0]
 refine⟨vs,⟨o,λw' r=>?_⟩,p,g1⟩;exact cL (P:=P) w' size l.length ⟨b,q,none⟩ l.length cap vs p (λj u R=>by rw[wZ];have:=g3 j u R;simpa[dd,r]using this)
theorem ays(w)(B:Nat->Gh)(ok:Nat->Prop)(b):∃g,Src P w 1 (qn b).length (.string b) g/\g.length=(qn b).length*1/\CRs B w ok ((qn b).flatten.map .d) g:=by
 have i:(qn b).length=b.size:=by simp[qn]
 refine⟨b.data.toList.map λ(x:UInt8)=>dw .u8 x.toNat,⟨λw'=>by simp_all[bM],λw' _=>?_⟩,eu,by grind[Jp,KE]⟩;rw[i];have j:(b.extract 0 b.size).data=b.data:=by grind[ByteArray.extract_zero_size]
 simp only[aN,j,bC];congr 1
 grind
theorem ao0{ok:Nat->Prop}{g:am D}{vs}(h:CRs B w ok (g.map .d) vs):∀v∈vs,v.oneCell'=true:=ZI h
theorem aoZ{z}{i:bK}(_:i.zero=some z)(n):(aJ z.cells n).toList.length=n*z.cells.size:=by simp[aJ]
theorem ack(hr:Rel F N B s a w)(hd:∀k,o.dst=some k->k<N){d:Nat}(aj:o.dst=some d){t u e}{i}{z}(ht:P.underlying t=some (.slice e))(hu:agO P u)(hi:P.info? e=some i)(hz:i.zero=some z)
 (bo:z.cells.size=i.size) (ar:0<i.size) {x}{xv y}(hx:CR B w (F.ok B s.pl w) x xv)
 (au:∀v w',(aU #[t,u] o.type #[xv,y]).run P w=.ok v w'->(aF a.eval o).run P w=.ok (.value v) w')
 {l}(hl:(∀q∈l,q.length=i.size)->∃T,Src P w i.size l.length y T/\T.length=l.length*i.size/\CRs B w (F.ok B s.pl w) (l.flatten.map .d) T)
 (h:alP d i.size i.bytes x (some l) s K):qz P F N o a w K:=by
 unfold alP at h;simp only[]at h
 have al:∀(I:am Nat) (hk:isin d I=true) (ad:aA dD) (g ab:Nat) (R:am Value) (aa:am (am D)),aa.length=g->(∀q∈aa,q.length=i.size)->(∀q∈l,q.length=i.size)->xv=.slice ad g ab->
  R.length=g*i.size->CRs B w (F.ok B s.pl w) (aa.flatten.map .d) R->(∀w',w'.heap=w.heap->(aN i.size g (.slice ad g ab)).run P w'=.ok R.toArray w')->
  ab<g+l.length->g+l.length<=9223372036854775807->(g+l.length)*i.bytes<=140737488355328->
  K ((s.redo I [(d,.arr i.size (aa++l) false)]).put (some d) (cV (.own d i.size (g+l.length))))->qz P F N o a w K:=by
  intro I hk ad g ab R aa bs a2 bh a6 bk bi bj a7 bq bd hK;obtain⟨T,af,a4,ay⟩:=hl bh;subst a6;have ae:=amU (ty:=o.type) ht hu hi hz af bj a7 ej bd;obtain⟨U,aq⟩:∃U:aD Value,U=(R++T++(aJ z.cells (bG w (g+l.length) ab e-(g+l.length))).toList).toArray:=⟨_,rfl⟩;rw[<-aq]at ae;have hw:=NewRow.draw w U e (0,0);have bf:=dN w (g+l.length) ab e;have bg:=cP w (g+l.length) ab e (by grind[maxLen]);have an:U.size=bG w (g+l.length) ab e*i.size:=by rw[aq];simp only[cE,aZ,bk,a4,aoZ hz,bo,<-aS];congr 1;omega
  have hrel:=hr.newRow hw d (.arr i.size (aa++l) false) I hk (g+l.length) (hr.h_slot (hd _ (by assumption))) ⟨ar,by grind[yh],.inr ⟨w.heap.size,by rw[yh],by
   refine WL (B:=B) (vs:=R++T) (λq hq=>?_) ?_ ?_
   .grind
   .simp only[cN,bS];exact CRs.keep (Xx hr hw d _ I hk _) hw.shapes _ _ (CRs.append bi ay)
   intro j v hv;rw[aO,hw.cell,aq]
   grind,(λhf=>by cases hf),(λ_=>⟨U,⟨e,hw.new⟩,by simp_all[aP]⟩)⟩⟩
  refine qz.of_value (ι':=jA B d ⟨some w.heap.size,g+l.length⟩) (au _ _ ae) ?_ hK;rw[aj];refine hrel.put (some d) (λk hk=>ek) _ _ ?_;exact .inr ⟨w.heap.size,_,e,by rw[yh],by simp_all[yh],rfl,bf,bg,by rw[hw.shape,an]⟩
 have aw:∀(I:am Nat) (hk:isin d I=true),l=[]->xv=.slice none 0 0->K ((s.redo I [(d,.arr i.size [] false)]).put (some d) (cV (.own d i.size 0)))->qz P F N o a w K:=by
  intro I hk ah a6 hK;subst ah a6;obtain⟨T,af,_,_⟩:=hl (λq hq=>by cases hq);have ae:=ak4 (ty:=o.type) ht hu hi af;have hrel:Rel F N (jA B d ⟨none,0⟩) (s.redo I [(d,.arr i.size [] false)]) a w:=by
   refine hr.redo I [(d,.arr i.size [] false)] _ w (λp hp=>Zo B _ (λe=>ek)) (λ_ _ _=>rfl) (yx.refl w) rfl rfl (Out.refl w) (aW _) ?_ ?_ ?_ (λp x hp=>by obtain⟨rfl,_⟩:=yM hp;exact hr.h_slot (hd _ (by assumption)))
   .intro p q hp;obtain⟨rfl,rfl⟩:=yM hp;exact⟨ar,by grind[yh],.inl ⟨by rw[yh],rfl⟩⟩
   .grind[yM,yh]
   grind[yM]
  refine qz.of_value (ι':=jA B d ⟨none,0⟩) (au _ _ ae) ?_ hK;rw[aj];exact hrel.put (some d) (λk hk=>ek) _ _ (.inl ⟨by rw[yh],rfl,rfl⟩)
 split at h
 .obtain⟨g1,g2,g3,h⟩:=h;simp only[CR]at hx;by_cases ah:l=[]
  .subst ah;exact aw [d] (by simp[isin]) rfl hx h
  have az:0<l.length:=dy.2 ah;refine al [d] (by simp[isin]) none 0 0 [] [] rfl (λq hq=>by cases hq) g1 hx ep trivial (λw' _=>by simp[aN]) ej ej (by grind[zW]) ?_
  grind[S.place]
 .rename_i p zz n;split at h
  .rename_i z1 aa hp;cases a1:aH zz z1&&aH zz i.size with
   |false=>grind
   |true=>
    rw[a1]at h;rw[aI]at a1;have bc:=aB a1.1;have bn:=aB a1.2;simp only[aM]at h;obtain⟨g1,g2,g3,h⟩:=h;obtain⟨k1,k2|⟨b,cap,ty,f1,f3,f4,f5,f6,f7⟩⟩:=asy hr hp bc hx
    .obtain⟨k2,k3,k4,k5⟩:=k2;subst k2 k5;simp only[List.take_nil,dY,aO]at h;have ax:isin d [p,d]=true:=by unfold isin;cases aH p d<;>simp[isin]
     by_cases ah:l=[]
     .subst ah;exact aw [p,d] ax rfl k3 h
     have az:0<l.length:=dy.2 ah;refine al [p,d] ax none 0 0 [] [] rfl (λq hq=>by cases hq) g1 k3 ep trivial (λw' _=>by simp[aN]) ej ej (by simpa[zW]using g2) ?_;simpa using h
    have ax:isin d [p,d]=true:=by unfold isin;cases aH p d<;>simp[isin]
    have bp:z1=i.size:=by rw[<-bc,bn]
    subst bp;have a2:∀q∈aa.take n,q.length=i.size:=λq hq=>RDs.len f7 q (dt hq)
    have a0:(aa.take n).length=n:=by rw[bI,Nat.min_eq_left k1]
    obtain⟨R,o1,o2,o3⟩:=RDs.vals (B:=B) (RDs.take n f7);rw[a0]at o2;by_cases ac:n+l.length<=cap
    ·
     obtain⟨T,af,a4,ay⟩:=hl g1;obtain⟨_,_,az|⟨b',e1,_,_,e4⟩⟩:=hr.places p _ hp
     .rw[f1]at az;cases az.1
     rw[f1]at e1;cases e1;obtain⟨U,⟨te,hg⟩,_⟩:=e4 rfl;have an:U.size=cap*i.size:=by simp only[bH,hg,cF,Prod.mk.injEq]at f6;exact f6.2
     have a8:n*i.size+T.length<=U.size:=by rw[a4,an,<-aS];exact aP _ ac
     have ae:=ak3 (ty:=o.type) ht hu hi af hg (ao0 ay) ac a8;obtain⟨J,ag⟩:∃J:aD Value,J=(U.toList.take (n*i.size)++T++U.toList.drop (n*i.size+T.length)).toArray:=⟨_,rfl⟩;rw[<-ag]at ae;rw[<-f3]at ae;have ao:J.size=U.size:=by rw[ag];simp only[cE,aZ,bI,dP,bO];omega
     have a5:R=U.toList.take (n*i.size):=by
      apply de;intro j;by_cases hj:j<R.length
      .have h1:=o3 j R[j] (am.getElem?_eq_getElem hj);rw[aO,cT w b j U te (0,0) hg]at h1;rw[am.getElem?_eq_getElem hj,am.getElem?_take,bU ej,aD.getElem?_toList,h1]
      rw[am.getElem?_eq_none ej,am.getElem?_eq_none (by rw[bI,bO];omega)]
     have bb:b<w.heap.size:=(aD.getElem?_eq_some_iff.1 hg).1;have hι:∀q,isin q [p,d]=false->jA B d ⟨some b,n+l.length⟩ q=B q:=λq hq=>Zo B _ (arT hq).2
     have av:∀c,c<w.heap.size->(∀q y,isin q [p,d]=true->aget s.pl q=some y->y.live=true->(B q).b≠some c)->(w.setRow b J).heap[c]?=w.heap[c]? :=λc _ hc=>by
      have be:c≠b:=λe=>by subst e;exact hc p _ (by unfold isin;simp) hp rfl f1
      exact bN w b c J be
     have ba:w.heap.size<=(w.setRow b J).heap.size:=ep
     have ak:∀q x c,aget [(d,Pl.arr i.size (aa.take n++l) false)] q=some x->(jA B d ⟨some b,n+l.length⟩ q).b=some c->c<(w.setRow b J).heap.size/\(w.heap.size<=c\/∃r y,isin r [p,d]=true/\aget s.pl r=some y/\y.live=true/\(B r).b=some c):=by intro q x c hq hc;obtain⟨rfl,rfl⟩:=yM hq;rw[yh]at hc;cases hc;exact⟨by simpa using bb,.inr ⟨p,_,by unfold isin;simp,hp,rfl,f1⟩⟩
     have a3:=adk hr [p,d] [(d,.arr i.size (aa.take n++l) false)] (jA B d ⟨some b,n+l.length⟩) (w.setRow b J) hι av ba ak;have a9:=yx.setRow w b hg ao;have hrel:=hr.redo [p,d] [(d,.arr i.size (aa.take n++l) false)] (jA B d ⟨some b,n+l.length⟩) (w.setRow b J) hι av a9 rfl rfl ⟨rfl,aW _⟩ ba (by
      intro q x hq;obtain⟨rfl,rfl⟩:=yM hq;refine⟨ar,by rw[yh];simp[a0],.inr ⟨b,by rw[yh],?_,(λhf=>by cases hf),(λ_=>⟨J,⟨te,cH w b U J te (0,0) hg⟩,by rw[ao,an];simp only[aZ,a0];exact aP _ ac⟩)⟩⟩
      refine WL (B:=B) (vs:=R++T) (λr ai=>?_) ?_ ?_
      .rcases ed.1 ai with ai|ai
       .exact a2 r ai
       exact g1 r ai
      .simp only[cN,bS];exact CRs.keep a3 a9 _ _ (CRs.append o1 ay)
      .intro j v hv;rw[aO,dh w b j U J te (0,0) hg,ag];have hj:=(am.getElem?_eq_some_iff.1 hv).1;rw[am.getElem?_toArray,<-a5,am.getElem?_append_left hj];exact hv) ak (by intro q r x y c hq ai bl;obtain⟨rfl,rfl⟩:=yM hq;obtain⟨rfl,rfl⟩:=yM ai;exact absurd rfl bl) (λq x hq=>by obtain⟨rfl,_⟩:=yM hq;exact hr.h_slot (hd _ (by assumption)))
     refine qz.of_value (ι':=jA B d ⟨some b,n+l.length⟩) (au _ _ ae) ?_ h;rw[aj];refine hrel.put (some d) (λk hk=>by cases hk;exact hd d aj) _ _ ?_;exact .inr ⟨b,cap,te,by rw[yh],by rw[yh];exact aW _,rfl,ac,f5,by simp only[bH,cH w b U J te (0,0) hg,ao,an]⟩
    refine al [p,d] ax (some ⟨b,0,none⟩) n cap R (aa.take n) a0 a2 g1 f3 o2 o1 (λw' bm=>?_) ej ej g2 h;exact cL (P:=P) w' i.size n ⟨b,0,none⟩ n cap R o2 (λj v hv=>by rw[wZ];have:=o3 j v hv;simpa[dd,bm]using this)
  grind
 grind
theorem QR{e}(h:jB P e=true):∃i z,P.info? e=some i/\i.zero=some z/\z.cells.size=i.size:=by grind[jB,aB]
theorem aAS(hr:Rel F N B s a w)(hd:∀k,o.dst=some k->k<N){args}{U}{x y}{t u e e'}(ho:o.op=.call {callee:=.builtin .append,args:=args,argTypes:=U})
 (I:args.toList=[x,y]) (ab:U.toList=[t,u]) (ht:uG P t=some e) (hu:P.underlying u=some (.slice e')) (g:bE 0 (ya P e)=true) (j:jB P e=true)
 (h:yg P o.dst (.app (ya P e) (jy P e) (cO x) (cO y)) s K):qz P F N o a w K:=by
 simp only[yg]at h;have ha:args= #[x,y]:=aK.1 ek;have aa:U= #[t,u]:=aK.1 ek;obtain⟨i,z,hi,hz,T⟩:=QR j;have R:ya P e=i.size:=by grind[ya]
 have J:jy P e=i.bytes:=by grind[jy]
 have g:0<i.size:=eu
 split at h
 .rename_i d r;cases hl:Ul s.pl (s.oc (cO y))with
  |none=>grind[alP]
  |some l=>
   rw[hl,R,J]at h;refine ack hr hd r (ug ht) (.inr ⟨e',hu⟩) hi hz T g (qZ hr x) (y:=a.eval y) ?_ (λp=>aFH hr (qZ hr y) hl p) h;simp_all[aF,bD,bJ,builtin]
 grind
theorem ayo(hr:Rel F N B s a w)(hd:∀k,o.dst=some k->k<N){args}{U}{x y}{t u e}(ho:o.op=.call {callee:=.builtin .append,args:=args,argTypes:=U})
 (I:args.toList=[x,y]) (ac:U.toList=[t,u]) (ht:uG P t=some e) (hu:P.underlying u=some .string) (p:(aH (ya P e) 1&&aH (jy P e) 1)=true) (g:jB P e=true)
 (h:yg P o.dst (.apps (cO x) (cO y)) s K):qz P F N o a w K:=by
 simp only[yg]at h;have ha:args= #[x,y]:=aK.1 ek;have ab:U= #[t,u]:=aK.1 ek;obtain⟨i,z,hi,hz,T⟩:=QR g;rw[aI]at p;have J:i.size=1:=by grind[aB,ya]
 have aa:i.bytes=1:=by grind[aB,jy]
 split at h
 .rename_i d b j hy;have r:=qZ hr y;rw[hy]at r;have R:=qf r;refine ack hr hd j (ug ht) (.inl hu) hi hz T ej (qZ hr x) (y:=a.eval y) ?_ (l:=qn b) ?_ ek
  .simp_all[aF,bD,bJ,builtin]
  intro _;rw[R,J];exact ays w B _ b
 grind
end
section
variable {P:Program}{F:Fr}{N:Nat}{B:Nat->Gh}{s:S}{a:Act}{w:World}{o:Oper}{K:S->Prop}
theorem alz(hr:Rel F N B s a w)(J:∀k,o.dst=some k->k<N){args:aD aC}{p:aD TypeId}{x}{t}(R:o.op=.call {callee:=.builtin .len,args:=args,argTypes:=p})
 (j:args.toList=[x]) (T:p.toList=[t]) {z}(i:gU P t x=some z) (h:yg P o.dst z s K):z=.slen (cO x)/\zN P F N o a w (λ_=>True) K:=by
 unfold gU at i;split at i
 .rename_i U;cases i;refine⟨rfl,?_⟩;have r:args= #[x]:=aK.1 ek;have l:p= #[t]:=aK.1 ek;simp only[yg]at h;have g:=qZ hr x;split at h
  .rename_i b I;rw[I]at g;have g:=qf g;refine zN.put hr J (v:=.int .i64 b.size) ?_ (xP rfl) h;intro w' _;simp[aF,R,bD,bJ,builtin,Builtin.len_,r,l,g,aG U,dT]
  grind
 cases i
theorem alw(hr:Rel F N B s a w)(p:∀k,o.dst=some k->k<N){i dst}{x}(r:o.op=.convert i dst x){z}(g:UT P i dst x=some z)(h:yg P o.dst z s K):
 (∃k,z=.conv k (cO x))/\zN P F N o a w (λ_=>True) K:=by
 unfold UT at g;split at g
 .rename_i J hs;split at g
  .rename_i k I;cases g;refine⟨⟨k,rfl⟩,?_⟩;simp only[yg]at h;have j:=qZ hr x;split at h
   .rename_i k' n l;rw[l]at j;have j:=qf j;refine zN.put hr p (v:=.int k (k.wrap n)) ?_ (xP rfl) h;intro w' _;simp[aF,r,j,convert,aG hs,aG I,Conv.intToInt]
   grind
  cases g
 cases g
theorem atD(hr:Rel F N B s a w)(l:∀k,o.dst=some k->k<N){b}{t}{x}(p:o.op=.unOp b t x){z}(g:aas P b t x=some z)(h:yg P o.dst z s K):
 (z=.bnot (cO x)\/z=.ineg (cO x))/\zN P F N o a w (λ_=>True) K:=by
 unfold aas at g;split at g
 .cases g;refine⟨.inl rfl,?_⟩;simp only[yg]at h;split at h
  .rename_i b j;have i:=Vm j (jI hr x);refine zN.put hr l (v:=.bool (!b)) ?_ (xP rfl) h;simp_all[aF,Op.unary]
  grind
 .split at g
  .cases g;refine⟨.inr rfl,?_⟩;simp only[yg]at h;have i:=qZ hr x;split at h
   .rename_i k n j;rw[j]at i;have i:=qf i;refine zN.put hr l (v:=.int k (k.wrap (0-n))) ?_ (xP rfl) h;simp_all[aF,Op.unary,Op.intArith]
   grind
  cases g
 cases g
theorem aoH(hr:Rel F N B s a w)(R:∀k,o.dst=some k->k<N){b}{t u}{x y}(T:o.op=.binOp b t x y u){z}(r:J3 P b t x y=some z)(h:yg P o.dst z s K):
 ((∃neg,z=.beq neg (cO x) (cO y))\/∃l,z=.shf l (cO x) (cO y))/\zN P F N o a w (λ_=>True) K:=by
 have J:∀neg,z=.beq neg (cO x) (cO y)->P.underlying t=some .bool->(b=.eql/\neg=false\/b=.neq/\neg=true)->zN P F N o a w (λ_=>True) K:=by
  intro neg r ht I;subst r;simp only[yg]at h;split at h
  .rename_i p q hp hq;have g:=Vm hp (jI hr x);have i:=Vm hq (jI hr y);refine zN.put hr R (v:=.bool (bif neg then p !=q else p==q)) ?_ (xP rfl) h;intro w' _;have he:(dI t (.bool p) (.bool q)).run P w'=.ok (p==q) w':=dG w' 9999 t p q ht;rcases I with⟨rfl,rfl⟩|⟨rfl,rfl⟩<;>simp_all[aF,cX,binOp,bne]
  grind
 have aa:∀l,z=.shf l (cO x) (cO y)->(b=.shl/\l=true\/b=.shr/\l=false)->zN P F N o a w (λ_=>True) K:=by
  intro l r I;subst r;simp only[yg]at h;have g:=qZ hr x;have i:=qZ hr y;split at h
  .rename_i k m k1 n U hn;rw[U]at g;rw[hn]at i;have g:=qf g;have i:=qf i;have j:¬n<0:=ek
   refine zN.put hr R (v:=.int k (Wy l k m n)) ?_ (xP rfl) h.2;intro w' _;rcases I with⟨rfl,rfl⟩|⟨rfl,rfl⟩
   .simp[aF,T,g,i,cX,binOp,Op.shift,j,Wy]
   simp[aF,T,g,i,cX,binOp,Op.shift,j,Wy]
  grind
 unfold J3 at r<;>grind
theorem acN{t}{k}(h:agr P t=some k):(k=0/\∃k',P.underlying t=some (.int k'))\/(k=1/\P.underlying t=some .string)\/(k=2/\P.underlying t=some .bool):=by grind[agr]
theorem aw5 {f}{r}{i}{l}(h:agq P i (f::r)=some l): ∃k j,l=k::j /\f.offset=i /\f.name≠ "_" /\agr P f.type=some k /\P.plainKey f.type=true /\agq P (i+1) r=some j:=by
 simp only[agq]at h;cases g:(aH f.offset i&& !(f.name== "_")&&P.plainKey f.type)
 .grind
 rw[g]at h;simp only[aM]at h;simp only[aI,cG,beq_eq_false_iff_ne]at g
 grind[aB]
theorem ax2{ok:Nat->Prop}{k}{x y}{b}(h:aru k x y=some b){t}(l:agr P t=some k){u v}(o:CR B w ok x u)(p:CR B w ok y v)(d)(w'):
 (Op.equalIn (d+1) t u v).run P w'=.ok b w':=by
 unfold aru at h;split at h
 .rename_i r m I n;have i:=qf o;have j:=qf p;subst i;subst j;cases g:(aH k 0&&Z4 r I)
  .grind
  rw[g]at h;cases h;rw[aI]at g;have hk:=aB g.1;have:=ahE g.2;subst this;subst hk;rcases acN l with⟨_,k',i⟩|⟨h,_⟩|⟨h,_⟩
  .grind[run_equalIn_int]
  .cases h
  cases h
 .rename_i m n;have i:=qf o;have j:=qf p;subst i;subst j;cases g:aH k 1
  .grind
  rw[g]at h;cases h;have hk:=aB g;subst hk;rcases acN l with⟨h,_⟩|⟨_,i⟩|⟨h,_⟩
  .cases h
  .exact run_equalIn_string w' d t m n i
  cases h
 .grind[qf,aB,acN,dG]
 cases h
theorem JT{ok:Nat->Prop}(d)(X Y)(w'):∀(p) (i:Nat) (g:am Nat),agq P i p=some g->∀(xs ys) (b:Bool),CRs B w ok xs (X.toList.drop i)->CRs B w ok ys (Y.toList.drop i)->
 XN g xs ys=some b->(dW (d+1) X Y p).run P w'=.ok b w'
 |[],i,g,hf,xs,ys,b,_,_,j=>by
   cases hf;cases xs with
   |nil=>cases ys<;>simp_all[dW,XN]
   |cons x xs=>grind[XN]
 |f::p,i,g,hf,xs,ys,b,l,o,j=>by
  obtain⟨k,g,rfl,h1,h2,h3,h4,h5⟩:=aw5 hf;cases xs with
  |nil=>grind[XN]
  |cons x xs=>
   cases ys with
   |nil=>grind[XN]
   |cons y ys=>
    simp only[XN]at j;split at j
    case h_2=>cases j
    rename_i b1 b2 aa ab;cases j;cases r:X.toList.drop i with
    |nil=>rw[r]at l;exact l.elim
    |cons u us=>
     cases R:Y.toList.drop i with
     |nil=>rw[R]at o;exact o.elim
     |cons v vs=>
      rw[r]at l;rw[R]at o;have J:X[i]?=some u:=by
       have:(X.toList.drop i)[0]?=some u:=ek
       grind
      have U:Y[i]?=some v:=by
       have:(Y.toList.drop i)[0]?=some v:=ek
       grind
      have I:X.toList.drop (i+1)=us:=by rw[<-List.drop_drop,r];rfl
      have T:Y.toList.drop (i+1)=vs:=by rw[<-List.drop_drop,R];rfl
      have ih:=JT d X Y w' p (i+1) g h5 xs ys b2 (by rw[I];exact l.2) (by rw[T];exact o.2) ab;have ac:=eh (w:=w') h4 J;have ad:=eh (w:=w') h4 U;have heq:=ax2 aa h3 l.1 o.1 d w';simp only[dW,h1,h2,ne_eq,not_false_eq_true,cK,aY,ac,ad,heq,aQ];cases b1<;>simp_all
theorem aoK(hr:Rel F N B s a w)(hd:∀k,o.dst=some k->k<N){b}{t u}{x y}(ho:o.op=.binOp b t x y u){z}(j:gv P b t x y=some z)(h:yg P o.dst z s K):
 (∃neg J,z=.eqa neg J (cO x) (cO y))/\zN P F N o a w (λ_=>True) K:=by
 unfold gv at j;split at j
 case h_2=>cases j
 rename_i J g;have ab:∀neg,z=.eqa neg J (cO x) (cO y)->(b=.eql/\neg=false\/b=.neq/\neg=true)->zN P F N o a w (λ_=>True) K:=by
  intro neg j hb;subst j;unfold aEl at g;split at g
  case h_2=>cases g
  rename_i fs hu;cases l:(!P.stoodInHeld t&&!P.eqGuardType P.depth t)
  .grind
  rw[l]at g;simp only[aM]at g;simp only[aI,cG]at l;simp only[yg]at h;split at h
  case h_2=>grind
  rename_i xs ys U aa;split at h
  case h_2=>grind
  rename_i r i;have I:=jI hr x;have hy:=jI hr y;rw[U]at I;rw[aa]at hy;obtain⟨X,hX,I⟩:=I;obtain⟨Y,hY,hy⟩:=hy;have R:P.fieldsOf t=fs:=by grind[Program.fieldsOf]
  have T:P.underlying t=some (.struct (P.fieldsOf t)):=ek
  refine zN.put hr hd (v:=.bool (bif neg then !r else r)) ?_ (xP rfl) h;intro w' _;have ac:(Op.equalIn 10000 t (.agg X.toArray) (.agg Y.toArray)).run P w'=.ok r w':=by rw[run_equalIn_agg w' 9999 t X.toArray Y.toArray T l.1,R];exact JT 9998 X.toArray Y.toArray w' fs.toList 0 J g xs ys r (by simpa using I) ek i
  have p:(cX b t x y (.agg X.toArray) (.agg Y.toArray)).run P w'=.ok () w':=run_eqGuard_agg w' b t x y _ _ l.2;rcases hb with⟨rfl,rfl⟩|⟨rfl,rfl⟩<;>simp_all[aF,run_eql_struct,run_neq_struct]
 grind
theorem aFQ{pl g}{c}{x}(h:VN pl c=some (x,g)){p}{cs}(i:aget pl p=some (.box cs)):aget g p=some (.box cs):=by
 cases c with
 |own q z n=>
  grind[VN,uk]
 |d _=>cases h;exact i
 |nil=>cases h;exact i
 |clo f l=>cases l with
  |nil=>cases h;exact i
  |cons _ _=>cases h
 |dead=>cases h
 |sub _ _ _ _=>cases h
 |ptr _ _=>cases h
 |eptr _ _ _ _=>cases h
 |fp _=>cases h
theorem atM:∀{g:am C}{pl i:am (Nat×Pl)}{I:am D}(_:jN pl g=some (I,i)) {p:Nat}{cs:am C}(_:aget pl p=some (.box cs)),aget i p=some (.box cs)
 |[],_,_,_,h,_,_,o=>by cases h;exact o
 |c::g,pl,i,I,h,p,cs,o=>by
  unfold jN at h;cases j:VN pl c with
  |none=>rw[j]at h;cases h
  |some y=>
   obtain⟨x,r⟩:=y;rw[j]at h;simp only at h;cases l:jN r g with
   |none=>rw[l]at h;cases h
   |some z=>
    obtain⟨xs,J⟩:=z;rw[l]at h;cases h;exact atM l (aFQ j o)
theorem alK{ok:Nat->Prop}{b}:∀{g:am D}{vs:am Value}{off:Nat},CRs B w ok (g.map .d) vs->(∀j v,vs[j]?=some v->w.cell? ⟨b,off+j,none⟩=some v)->RDc w ok b off g
 |[],_,_,_,_=>by grind[RDc]
 |d::g,[],_,h,_=>h.elim
 |d::g,v::vs,off,h,i=>by simp only[RDc];refine⟨⟨v,i 0 v rfl,h.1⟩,alK h.2 λj u l=>?_⟩;rw[show off+1+j=off+(j+1)by omega];exact i (j+1) u (by simpa using l)
theorem acR(U:S):∀(R:am aC) {s:S}(_:s.sl=U.sl) (_:Rel F N B s a w) {l:am (am D)}{g:am (Nat×Pl)}(_:frz U s.pl (R.map cO)=some (l,g)),
 Rel F N B (s.withPl g) a w/\(∀b,F.ok B s.pl w b->F.ok B g w b)/\RDf w (F.ok B g w) (R.map a.eval) l
 |[],s,hs,hr,l,g,h=>by cases h;exact⟨hr,λ_ h=>h,by simp[RDf]⟩
 |x::r,s,hs,hr,l,g,h=>by
  have hx:CR B w (F.ok B s.pl w) (U.oc (cO x)) (a.eval x):=by
   have:=qZ hr x;have e:s.oc (cO x)=U.oc (cO x):=by unfold S.oc S.o S.tmp;rw[hs]
   rwa[e]at this
  simp only[aV,frz]at h;split at h
  .rename_i ds J;rw[J]at hx;obtain⟨b,o',T,h2,h3⟩:=hx;split at h
   .rename_i l' P hl;cases h;obtain⟨g1,g2,g3⟩:=acR U r hs hr hl;refine⟨g1,g2,?_⟩;simp only[aV,RDf];exact⟨b,o',_,by rw[T],g2 b h2,RDc.keep (λb i=>⟨g2 b i,rfl⟩) b h2 _ _ h3,g3⟩
   cases h
  .rename_i p hp;rw[hp]at hx;obtain⟨b,T,h2⟩:=hx;split at h
   .rename_i cs I;split at h
    case h_2=>cases h
    rename_i ds P J;split at h
    case h_2=>cases h
    rename_i l' ac hl;cases h;obtain⟨b',ab,e1,e2,e3⟩:=hr.places p _ I;rw[T]at e1;cases e1;obtain⟨g1,g2,g3⟩:=Vz hr e3 J;have aa:aget P p=some (.box cs):=atM J I;obtain⟨k1,k2,k3⟩:=Rel.still (y:=.fbox ds) g1 aa rfl rfl (λm n=>⟨b,T,n b T,alK (CRs.keep (λb i=>⟨m b i,rfl⟩) (yx.refl w) _ _ g3) λj v hv=>by rw[e2.cell];simpa using hv⟩)
    obtain⟨q1,q2,q3⟩:=acR U r (s:=s.withPl (xf p (.fbox ds) P)) hs k1 hl;refine⟨q1,λb i=>q2 b (k2 b (g2 b i)),?_⟩;simp only[aV,RDf];refine⟨b,0,_,by rw[h2],q2 b (k3 b T),?_,q3⟩;exact alK (CRs.keep (λb i=>⟨q2 b (k2 b i),rfl⟩) (yx.refl w) _ _ g3) λj v hv=>by rw[e2.cell];simpa using hv
   .rename_i ds I;split at h
    case h_2=>cases h
    rename_i l' P hl;cases h;obtain⟨b',e1,e2,e3⟩:=hr.places p _ I;rw[T]at e1;cases e1;obtain⟨g1,g2,g3⟩:=acR U r hs hr hl;refine⟨g1,g2,?_⟩;simp only[aV,RDf];exact⟨b,0,_,by rw[h2],g2 b e2,RDc.keep (λb i=>⟨g2 b i,rfl⟩) b e2 _ _ e3,g3⟩
   cases h
  cases h
theorem ayq(hr:Rel F N B s a w)(j:∀k,o.dst=some k->k<N){f}{first g}(R:o.op=.makeFunc (.func f) first g)(J:first.toList.isEmpty=true)
 (h:yg P o.dst (.clof f (g.toList.map cO)) s K):qz P F N o a w K:=by
 simp only[yg]at h;split at h
 .rename_i l r p;have i:first= #[]:=ek
  obtain⟨g1,g2,g3⟩:=acR s g.toList rfl hr p;refine qz.put g1 j (v:=.func (.func f) #[] (g.toList.map a.eval).toArray) ?_ (show VR B w _ (cV (.d (.fn f l))) _ from ?_) h
  .have I:g.map a.eval=(g.toList.map a.eval).toArray:=ek
   simp_all[aF,Instr.makeFunc]
  simp only[cV,VR,WR,CR,RD];exact⟨_,rfl,g3⟩
 grind
end
theorem abv{α}{z}:∀(g) (off:Nat) (new:am (am α)),(∀x∈g,x.length=z)->(∀x∈new,x.length=z)->off+new.length<=g.length->
 (zM g off new).flatten=zM g.flatten (off*z) new.flatten:=by
 intro g off new j I J;have e1:∀(l:am (am α)) (n:Nat),(∀x∈l,x.length=z)->n<=l.length->(l.take n).flatten=l.flatten.take (n*z):=by
  intro l;induction l with
  |nil=>grind
  |cons x r o=>
   intro n i P;cases n with
   |zero=>simp
   |succ n=>
    grind[aS]
 have p:∀(l:am (am α)) (n:Nat),(∀x∈l,x.length=z)->n<=l.length->(l.drop n).flatten=l.flatten.drop (n*z):=by
  intro l;induction l with
  |nil=>grind
  |cons x r o=>
   intro n i P;cases n with
   |zero=>simp
   |succ n=>
    have T:x.length=z:=i x ep;simp only[cM,aX];rw[o n (λy R=>i y (by simp[R])) ek,show(n+1)*z=x.length+n*z by grind,cQ]
 simp only[zM,cN];rw[e1 g off j ej,p g _ j J,u0 new I,aS]
theorem ad8{α}(l)(off)(new:am α)(h:off+new.length<=l.length):(zM l off new).length=l.length:=by grind[zM]
section
variable {P:Program}{F:Fr}{N:Nat}{B:Nat->Gh}{s:S}{a:Act}{w:World}{o:Oper}{K:S->Prop}
theorem Rel.storeEls(hr:Rel F N B s a w){p z}{i g}(U:aget s.pl p=some (.arr z i false)){b}(T:(B p).b=some b)(hl:g.length=i.length)(ab:∀e∈g,e.length=z)
 {q}{R}{vs}(ae:g.flatten=zM i.flatten q R) (I:CRs B w (F.ok B s.pl w) (R.map .d) vs) (hq:q+R.length<=i.length*z):
 ∃w',(dX (⟨b,q,none⟩:dD) vs 0).run P w=.ok () w'/\Rel F N B (s.withPl (xf p (.arr z g false) s.pl)) a w':=by
 obtain⟨ac,hn,af|⟨b',e1,e2,_,e4⟩⟩:=hr.places p _ U
 .grind
 rw[T]at e1;cases e1;obtain⟨old,⟨ty,r⟩,aa⟩:=e4 rfl;have ah:vs.length=R.length:=by have:=I.length;grind
 have l:=cZ P b q ty vs 0 old w r ej (ZI I);simp only[dJ]at l;refine⟨_,l,?_⟩;have J:(old.toList.take q++vs++old.toList.drop (q+vs.length)).toArray.size=old.size:=ek
 have hk:=aba hr p (.arr z i false) (.arr z g false) U rfl T (old.toList.take q++vs++old.toList.drop (q+vs.length)).toArray;have ag:=yx.setRow w b r J;obtain⟨us,g1,g2,g3⟩:=RDs.vals (B:=B) e2;refine hr.write p (.arr z i false) (.arr z g false) U rfl rfl T r J ⟨ac,ek,.inr ⟨b,T,?_,(λhf=>by cases hf),(λ_=>⟨_,⟨ty,cH w b old _ ty (0,0) r⟩,ek⟩)⟩⟩;refine WL (B:=B) (vs:=zM us q vs) ab ?_ ?_
 .grind[zM,List.map_take,List.map_drop,CRs.keep,CRs.append,CRs.take,CRs.drop]
 intro j v o;rw[aO,dh w b _ old _ ty (0,0) r];simp only[zM]at o;have ad:∀j v,us[j]?=some v->old.toList[j]?=some v:=λj v o=>by have:=g3 j v o;rw[aO,cT w b j old ty (0,0) r]at this;rw[aD.getElem?_toList];exact this
 simp only[am.getElem?_toArray];rw[am.getElem?_append,am.getElem?_append]at o⊢;have t1:(us.take q).length=q:=ek
 have t2:(old.toList.take q).length=q:=ek
 simp only[aZ,t1,t2]at o⊢;split at o
 .rename_i c1;rw[bU c1];split at o
  .rename_i c2;rw[bU c2];rw[am.getElem?_take]at o⊢;simp_all
  simp_all
 simp_all[bF]
theorem akX(hr:Rel F N B s a w){c}{v}(l:CR B w (F.ok B s.pl w) c v){p z off n}(h:range c=some (p,z,off,n)){U}{g}{r}(R:aget s.pl p=some (.arr U g r)):
 ∃i cap,v=.slice i n cap/\off+n<=g.length+(if n=0 then off else 0)/\(n=0\/∃b,(B p).b=some b/\i=some ⟨b,off*z,none⟩):=by
 have hn:=(hr.places p _ R).2.1;cases c with
 |own q T m=>
  cases h;rcases l with⟨j,I,J⟩|⟨b,cap,t,j,I,J,P,h5,h6⟩
  .grind
  grind
 |sub q T o m=>
  cases h;obtain⟨i,cp,j,_,_,P⟩:=l<;>grind
 |_=>cases h
theorem apT(hr:Rel F N B s a w){c}{v}(I:CR B w (F.ok B s.pl w) c v){l}(h:adj s.pl c=some l):
 ∃i cap,v=.slice i l.length cap/\∃ok:Nat->Prop,(l=[]\/∃b q sz,i=some ⟨b,q,none⟩/\RDs w (F.ok B s.pl w) b sz q l):=by
 cases c with
 |sub p z off n=>
  simp only[adj]at h;split at h
  .rename_i z1 P fz U;cases g:aH z z1<;>rw[g]at h
   .cases h
   have g:=aB g;subst g;cases h;obtain⟨i,cp,o,_,_,r⟩:=I;rcases r with r|⟨b,e1,J,e3⟩
   .grind
   obtain⟨ab,hn,aa|⟨b',j,R,_⟩⟩:=hr.places p _ U
   .grind
   rw[e1]at j;cases j;refine⟨i,cp,ek,λ_=>True,.inr ⟨b,off*z,z,J,?_⟩⟩;have:=RDs.take n (RDs.drop off R)<;>grind
  cases h
 |_=>obtain⟨i,cap,o,T⟩:=kD hr I h;exact⟨i,cap,o,λ_=>True,T⟩
theorem ayw{t e:TypeId}(h:bE 0 (ya P e)=true):∃i,P.info? e=some i/\i.size=ya P e/\0<ya P e:=by
 have g:ya P e≠0:=by have:=aR h;omega
 grind[ya]
theorem aAU(hr:Rel F N B s a w)(I:∀k,o.dst=some k->k<N){args:aD aC}{U:aD TypeId}{x}{t e}(ho:o.op=.call {callee:=.builtin .cap,args:=args,argTypes:=U})
 (R:args.toList=[x]) (aa:U.toList=[t]) (ht:uG P t=some e) (h:yg P o.dst (.cap (cO x)) s K):zN P F N o a w (λ_=>True) K:=by
 simp only[yg]at h;have hu:=ug ht;have ha:args= #[x]:=aK.1 ek;have T:U= #[t]:=aK.1 ek;have g:∀b m c,a.eval x=.slice b m c->∀w':World,True->(aF a.eval o).run P w'=.ok (.value (.int .i64 c)) w':=by intro b m c e1 w' _;simp[aF,ho,bD,bJ,builtin,Builtin.cap_,ha,T,e1,aG hu,dT]
 have i:=qZ hr x;split at h
 .rename_i l j;rw[j]at i;simp only[CR,RD]at i;obtain⟨ad,m,c,h1,J,r,h4,_⟩:=i;exact zN.put hr I (g _ _ _ h1) (xP rfl) (h c ej (by grind[maxLen]))
 .rename_i j;rw[j]at i;exact zN.put hr I (g _ _ _ i) (xP rfl) h
 .rename_i p z m j;rw[j]at i;rcases i with⟨_,J,r⟩|⟨b,cap,ty,h1,J,r,h4,h5,_⟩
  .subst J;exact zN.put hr I (g _ _ _ r) (xP rfl) (h 0 (aW _) ej)
  exact zN.put hr I (g _ _ _ r) (xP rfl) (h cap h4 (by grind[maxLen]))
 grind
theorem aAX(hr:Rel F N B s a w)(hd:∀k,o.dst=some k->k<N){args}{ts}{x y}{t u e e':TypeId}(ho:o.op=.call {callee:=.builtin .copy,args:=args,argTypes:=ts})
 (ar:args.toList=[x,y]) (a7:ts.toList=[t,u]) (ht:uG P t=some e) (ac:bE 0 (ya P e)=true) (h:yg P o.dst (.cpy (ya P e) (cO x) (cO y)) s K):qz P F N o a w K:=by
 simp only[yg]at h;have hu:=ug ht;obtain⟨i,hi,a5,ac⟩:=ayw (t:=t) ac;have ha:args= #[x,y]:=aK.1 ek;have R:ts= #[t,u]:=aK.1 ek;have hx:=qZ hr x;have hy:=qZ hr y;generalize s.oc (cO x)=cx at*;cases I:adj s.pl (s.oc (cO y))with
 |none=>rw[I]at h;exact h.elim
 |some l=>
 rw[I]at h;obtain⟨ad,cap,T,_,r⟩:=apT hr hy I;unfold aBo at h;simp only at h;split at h
 ·
  have hx:a.eval x=.slice none 0 0:=hx;refine(zN.put (C:=λ_=>True) hr hd (v:=.int .i64 0) ?_ (xP rfl) h).fine trivial;intro w' _;have av:(aN (ya P e) 0 (.slice ad l.length cap)).run P w'=.ok #[] w':=by cases ad<;>simp_all[aN,dF,c8]
  simp[aF,ho,bD,bJ,builtin,dj,ha,R,hx,T,aG hu,dT,bM,ue hi,av]
 split at h
 case h_2=>grind
 rename_i p z off n ay;split at h
 case h_2=>grind
 rename_i z1 g hp;cases U:(aH z z1&&aH z (ya P e))<;>rw[U]at h
 .grind
 simp only[aM]at h;rw[aI]at U;have e1:=aB U.1;have e2:=aB U.2;subst e1;obtain⟨hl,h⟩:=h;obtain⟨ai,a0,ag,au,ab⟩:=akX hr hx ay hp;have an:Nat.min l.length n=min l.length n:=rfl;have af:∃j:am Value,j.length=(l.take n).length*ya P e/\CRs B w (F.ok B s.pl w) ((l.take n).flatten.map .d) j/\(aN (ya P e) (min l.length n) (.slice ad l.length cap)).run P w=.ok j.toArray w:=by
  have a6:(l.take n).length=min l.length n:=ek
  rcases r with rfl|⟨b,q,sz,rfl,r⟩
  .refine⟨[],ep,by simp[CRs],?_⟩;cases ad<;>simp_all[aN,dF,c8]
  obtain⟨vs,g1,g2,g3⟩:=RDs.vals (B:=B) (RDs.take n r);have a8:vs.length=(l.take n).length*ya P e:=by have:=g1.length<;>grind[u0]
  grind[cL,wZ]
 obtain⟨j,n1,n2,n3⟩:=af;have aj:∀x∈g,x.length=z:=by
  obtain⟨_,_,a2|⟨b',_,f2,_⟩⟩:=hr.places p _ hp
  .grind
  grind[RDs.len]
 by_cases ao:n=0
 .subst ao;have ae:j=[]:=eu
  subst ae;have ak:zM g off (l.take 0)=g:=by simp[zM]
  rw[ak]at h;have a4:{s with pl:=xf p (.arr z g false) s.pl}={s with pl:=xf p (.arr z g false) s.pl}:=rfl;have hrel:Rel F N B (s.withPl (xf p (.arr z g false) s.pl)) a w:=by refine hr.sub _ (λk v h=>h) (λq y hq=>?_);have ax:aget (xf p (.arr z g false) s.pl) q=some y:=hq;rw[yR]at ax;by_cases a3:p=q<;>simp_all
  refine qz.of_value (v:=.int .i64 (min l.length 0:Nat)) (w':=w) ?_ (Rel.put hrel o.dst hd _ _ (xP rfl)) h;have J:∀ah,(dX ah ([]:am Value) 0).run P w=.ok () w:=λah=>by simp[dX]
  have aq:(aN (ya P e) 0 (.slice ad l.length cap)).run P w=.ok #[] w:=ek
  cases ai with
  |none=>simp[aF,ho,bD,bJ,builtin,dj,ha,R,ag,T,aG hu,dT,bM,ue hi,aq]
  |some ai=>simp[aF,ho,bD,bJ,builtin,dj,ha,R,ag,T,aG hu,dT,bM,ue hi,aq,J]
 rcases ab with ab|⟨b,hb,rfl⟩
 .grind
 rw[bF ao]at au;have a1:(l.take n).length<=n:=List.length_take_le n l;have al:∀x∈l.take n,x.length=z:=λx hx=>ek
 have aa:off+(l.take n).length<=g.length:=ej
 have aw:=abv g off (l.take n) aj al aa;obtain⟨w',az,hrel⟩:=hr.storeEls (P:=P) hp hb (ad8 g off (l.take n) aa) (λx hx=>by
  grind[zM]) aw n2 (by rw[u0 (l.take n) al,<-aS];simp_all[aP])
 refine qz.of_value (v:=.int .i64 (min l.length n:Nat)) (w':=w') ?_ (Rel.put hrel o.dst hd _ _ (xP rfl)) h;simp[aF,ho,bD,bJ,builtin,dj,ha,R,ag,T,aG hu,dT,bM,ue hi,an,n3,az]
theorem aAW(hr:Rel F N B s a w)(hd:∀k,o.dst=some k->k<N){args}{ts}{x}{t e}(ho:o.op=.call {callee:=.builtin .clear,args:=args,argTypes:=ts})
 (ai:args.toList=[x]) (a3:ts.toList=[t]) (ht:uG P t=some e) (az:bE 0 (ya P e)=true) {z}{aw}(hz:jN [] (uh P e).cells=some (z,aw)) (ag:aH z.length (ya P e)=true) (av:jB P e=true)
 (h:yg P o.dst (.clr (ya P e) z (cO x)) s K):qz P F N o a w K:=by
 simp only[yg]at h;have hu:=ug ht;obtain⟨i,l,hi,a6,a5⟩:=QR av;have a2:i.size=ya P e:=by grind[ya]
 have ag:=aB ag;have ha:args= #[x]:=aK.1 ek;have R:ts= #[t]:=aK.1 ek;have U:=qZ hr x;generalize s.oc (cO x)=cx at*;have T:(cY e).run P w=.ok l w:=by simp_all[cY,cc]
 have a4:uh P e=ofValue l:=by grind[uh]
 have af:CRs B w (F.ok B s.pl w) (z.map .d) l.cells.toList:=by grind[Uz,J0,QT,YH]
 have j:∀{a':Act}{s':S}{w':World},Rel F N B s' a' w'->Rel F N B (s'.put o.dst wQ) (a'.put o.dst (.tuple #[])) w':=λao=>Rel.put ao o.dst hd _ _ ⟨[],rfl,trivial⟩
 unfold aBn at h;split at h
 .have U:a.eval x=.slice none 0 0:=U;refine qz.of_value (v:=.tuple #[]) (w':=w) ?_ (j hr) h;simp[aF,ho,bD,bJ,builtin,dv,ha,R,U,aG hu]
 split at h
 case h_2=>grind
 rename_i p z1 off n aq;split at h
 case h_2=>grind
 rename_i z2 g hp;cases r:(aH z1 z2&&aH z1 (ya P e))<;>rw[r]at h
 .grind
 simp only[aM]at h;rw[aI]at r;have e1:=aB r.1;have e2:=aB r.2;subst e1;obtain⟨ah,ax,ae,aj,J⟩:=akX hr U aq hp;have aa:∀x∈g,x.length=z1:=by
  obtain⟨_,_,a0|⟨b',_,f2,_⟩⟩:=hr.places p _ hp
  .grind
  grind[RDs.len]
 by_cases ad:n=0
 .subst ad;have ab:zM g off (aL 0 z)=g:=by simp[zM]
  rw[ab]at h;have hrel:Rel F N B (s.withPl (xf p (.arr z1 g false) s.pl)) a w:=by refine hr.sub _ (λk v h=>h) (λq y hq=>?_);have an:aget (xf p (.arr z1 g false) s.pl) q=some y:=hq;rw[yR]at an;by_cases a1:p=q<;>simp_all
  refine qz.of_value (v:=.tuple #[]) (w':=w) ?_ (j hrel) h;cases ah<;>simp[aF,ho,bD,bJ,builtin,dv,ha,R,ae,aG hu]
 rcases J with J|⟨b,hb,rfl⟩
 .grind
 rw[bF ad]at aj;have ac:∀x∈aL n z,x.length=z1:=λx U=>ek
 have I:off+(aL n z).length<=g.length:=ek
 have al:=abv g off (aL n z) aa ac I;have ak:=QD af n;obtain⟨w',ar,hrel⟩:=hr.storeEls (P:=P) hp hb (ad8 g off (aL n z) I) (λx U=>by
  grind[zM]) al ak (by rw[u0 (aL n z) ac,<-aS];simp_all[aP])
 refine qz.of_value (v:=.tuple #[]) (w':=w') ?_ (j hrel) h;have au:(aJ l.cells n).toList=(aL n l.cells.toList).flatten:=by
  have ay:(aL n l.cells.toList).flatten.length=n*l.cells.size:=eu
  have hA:(aJ l.cells n).toList=(List.range (n*l.cells.size)).map (λi=>l.cells[i%l.cells.size]!):=by simp[aJ]
  rw[hA];apply de
  grind[uy,bO]
 obtain⟨m,rfl⟩:∃m,n=m+1:=⟨n-1,ej⟩;simp[aF,ho,bD,bJ,builtin,dv,ha,R,ae,aG hu,T,au,ar]
theorem aAY(hr:Rel F N B s a w)(T:∀k,o.dst=some k->k<N){t e}{x}{lo hi:aA aC}(U:o.op=.slice t x lo hi none)(hu:P.underlying t=some (.slice e)){i}(j:P.info? e=some i)
 (h:yg P o.dst (.slw (ya P e) (cO x) (lo.map cO) (hi.map cO)) s K):zN P F N o a w (λ_=>True) K:=by
 simp only[yg]at h;split at h
 case h_2=>grind
 rename_i lq hb r l;have r:=VP hr r;have l:=VP hr l;have J:=qZ hr x;generalize s.oc (cO x)=cx at*;unfold aBs at h;split at h
 .rename_i p z n;cases hz:aH z (ya P e)with
  |false=>grind
  |true=>
   rw[hz]at h;have hz:=aB hz;simp only[aM]at h;obtain⟨I,g1,g2,h⟩:=h;have g3:ye lq 0<=(n:Int):=ej
   rcases J with⟨f1,f2,R⟩|⟨b,cap,ty,f1,f2,R,f4,f5,f6⟩
   .subst f2;have g:=λ(w':World) (_:True)=>YO (o:=o) (w:=w') hu j U R r l I ek ej
    refine zN.put hr T g ?_ h;refine⟨_,_,rfl,ej,ek,.inl ej⟩
   have g:=λ(w':World) (_:True)=>YO (o:=o) (w:=w') hu j U R r l I g1 ej
   refine zN.put hr T g ?_ h;refine⟨_,_,rfl,ej,ej,?_⟩;by_cases hn:(ye hb n).toNat-(ye lq 0).toNat=0
   .grind
   refine .inr ⟨b,f1,?_,ej⟩;refine Eq.trans (bF ej) ?_
   grind[wZ]
 .have J:a.eval x=.slice none 0 0:=J;obtain⟨I,g1,g2,h⟩:=h;have g:=λ(w':World) (_:True)=>YO (o:=o) (w:=w') hu j U J r l I ek ek
  have e1:(ye lq 0).toNat=0:=ej
  have e2:(ye hb ((0:Nat):Int)).toNat=0:=ek
  rw[e1,e2]at g;exact zN.put hr T g (show VR B w _ (cV .nil) _ from by grind[cV,VR,WR]) h
 grind
theorem afx{α}{c}{x y:α}(h:U6 c x=some y):c=true/\x=y:=by
 cases c
 .cases h
 cases h;grind
theorem aAT(hr:Rel F N B s a w)(r:∀k,o.dst=some k->k<N){b}{args}{J}(I:o.op=.call {callee:=.builtin b,args:=args,argTypes:=J}){z}(g:J6 P b args.toList J.toList=some z)
 (h:yg P o.dst z s K):qz P F N o a w K:=by
 unfold J6 at g;split at g
 .split at g
  .rename_i x t i j;split at g
   .rename_i e p;cases g;exact(aAU hr r I i j p h).fine trivial
   cases g
  cases g
 .split at g
  .rename_i x y t u i j;split at g
   .rename_i e e' p U;obtain⟨l,rfl⟩:=afx g;rw[aI]at l;exact aAX (e':=e') hr r I i j p l.1 h
   cases g
  cases g
 .split at g
  .rename_i x t i j;split at g
   .rename_i e p;split at g
    .rename_i zz T R;obtain⟨l,rfl⟩:=afx g;simp only[aI]at l
     grind[aAW]
    cases g
   cases g
  cases g
 cases g
theorem ah6{b}{l}{i}{z}(g:J6 P b l i=some z):z.quiet=false/\Xj z=false/\∀cs,z≠ .alloc cs:=by
 unfold J6 at g;repeat' split at g
 all_goals first
  |(cases g;done)
  |(obtain⟨_,rfl⟩:=afx g;exact⟨rfl,rfl,λ_ h=>by cases h⟩)
  |(cases g;exact⟨rfl,rfl,λ_ h=>by cases h⟩)
end
section
variable {P:Program}{F:Fr}{N:Nat}{B:Nat->Gh}{s:S}{a:Act}{w:World}{o:Oper}{K:S->Prop}
theorem Rel.noRow(hr:Rel F N B s a w){d sz}(g)(hk:isin d g=true)(i:0<sz)(l:F.h d=none):Rel F N (jA B d ⟨none,0⟩) (s.redo g [(d,.arr sz [] false)]) a w:=by
 refine hr.redo g [(d,.arr sz [] false)] _ w (λp j=>Zo B _ (λe=>ek)) (λ_ _ _=>rfl) (yx.refl w) rfl rfl (Out.refl w) (aW _) ?_ ?_ ?_ (λp x j=>by grind[yM])
 .intro p q j;obtain⟨rfl,rfl⟩:=yM j;exact⟨i,by grind[yh],.inl ⟨by rw[yh],rfl⟩⟩
 .grind[yM,yh]
 grind[yM]
def S.ownNil(s:S)(d p sz:Nat):=(s.redo [p] [(p,.arr sz [] false)]).put (some d) (cV (.own p sz 0))
theorem zx{s}(d p sz)(l:0<sz)(I:p<100000)(h:aget s.sl d=some (cV .nil)):VO s (s.ownNil d p sz):=by
 intro F N B a w hr;have r:F.h p=none:=by
  cases e:F.h p with
  |none=>rfl
  |some g=>have:=hr.hdom p g e;omega
 have hrel:=hr.noRow (d:=p) [p] (by simp[isin]) l r;obtain⟨x,o,j⟩:=hr.slots d _ h;have j:x=.slice none 0 0:=j;refine⟨_,{hrel with slots:=λk v i=>?_}⟩;have i:aget (xf d (cV (.own p sz 0)) (s.redo [p] [(p,.arr sz [] false)]).sl) k=some v:=i;rw[yR]at i;by_cases e:d=k
 .rw[bU e]at i;cases i;subst e;exact⟨x,o,.inl ⟨by rw[yh],rfl,j⟩⟩
 rw[bF e]at i;exact hrel.slots k v i
theorem asR{t u ty e}{k}{i}{z}(ht:P.underlying t=some (.slice e))(hu:P.underlying u=some (.int k))(U:P.info? e=some i)(hz:i.zero=some z){k'}{n}(r:0<n)(J:0<i.size)
 (T:((n:Nat):Int)<=9223372036854775807) (g:n*i.bytes<=140737488355328):
 (aU #[t,u] ty #[.slice none 0 0,.int k' n]).run P w=
  .ok (.slice (some ⟨w.heap.size,0,none⟩) n (bG w n 0 e))
   (w.drew.alloc (.cells ((aJ z.cells n).toList++(aJ z.cells (bG w n 0 e-n)).toList).toArray e)):=by
 have hn:¬(n<=0):=ej
 have hw:dr.wrap (n:Int)=n:=by grind[dS]
 have l:¬(9223372036854775807<(n:Int)):=ej
 have R:=ef (old:=0) (need:=n) (bytes:=i.bytes) ej g;have o:¬(281474976710656<(n:Int)*(i.bytes:Int)):=ek
 have j:¬(281474976710656<du n 0*i.bytes):=ej
 have I:¬(n*i.size=0):=by have:0<n*i.size:=Nat.mul_pos r J;omega
 have p:¬((n:Int)<0):=ej
 simp[aU,aG ht,aG hu,dg,cc,cY,U,hz,hw,l,o,j,I,p,eb,dM,asInt,dL,aN];rw[bF ej];have fin:(aJ z.cells n++aJ z.cells (bG w n 0 e-n))=((aJ z.cells n).toList++(aJ z.cells (bG w n 0 e-n)).toList).toArray:=ek
 rw[<-fin];rfl
theorem apU{t u ty e}{k}{i}(j:P.underlying t=some (.slice e))(l:P.underlying u=some (.int k))(g:P.info? e=some i){k'}:
 (aU #[t,u] ty #[.slice none 0 0,.int k' 0]).run P w=.ok (.slice none 0 0) w:=by
 have o:dr.wrap 0=0:=by grind[dS]
 simp[aU,aG j,aG l,dg,cc,g,o,asInt,dL,aN]
theorem anx(cs)(n):(aJ cs n).toList=(aL n cs.toList).flatten:=by
 have g:(aL n cs.toList).flatten.length=n*cs.size:=eu
 have hA:(aJ cs n).toList=(List.range (n*cs.size)).map (λi=>cs[i%cs.size]!):=by simp[aJ]
 rw[hA];apply de
 grind[uy,bO]
theorem ayp(hr:Rel F N B s a w)(hd:∀k,o.dst=some k->k<N){args}{ts}{x y}{t u e}{k}(ho:o.op=.call {callee:=.builtin .append,args:=args,argTypes:=ts})
 (ac:args.toList=[x,y]) (au:ts.toList=[t,u]) (ht:uG P t=some e) (hu:P.underlying u=some (.int k)) (ar:bE 0 (ya P e)=true) {z}{aq}(hz:jN [] (uh P e).cells=some (z,aq)) (aa:aH z.length (ya P e)=true) (an:jB P e=true)
 (h:yg P o.dst (.appz (ya P e) (jy P e) z (cO x) (cO y)) s K):qz P F N o a w K:=by
 simp only[yg]at h;split at h
 case h_2=>grind
 rename_i d m g hx hm;obtain⟨g0,g1,g2,h⟩:=h;have T:=ug ht;obtain⟨i,zv,hi,ab,ao⟩:=QR an;have aj:i.size=ya P e:=by grind[ya]
 have ad:i.bytes=jy P e:=by grind[jy]
 have aa:=aB aa;have ai:0<i.size:=eu
 have ha:args= #[x,y]:=aK.1 ek;have ak:ts= #[t,u]:=aK.1 ek;have r:=qZ hr x;rw[hx]at r;have r:a.eval x=.slice none 0 0:=r;obtain⟨k',al,_⟩:=YN hm (jI hr y);obtain⟨n,rfl⟩:∃n:Nat,m=n:=⟨m.toNat,ej⟩;simp only[Int.toNat_natCast]at h g1;have I:∀v w',(aU #[t,u] o.type #[.slice none 0 0,.int k' n]).run P w=.ok v w'->(aF a.eval o).run P w=.ok (.value v) w':=by intro v w' hv;simp[aF,ho,bD,bJ,builtin,ha,ak,r,al,hv]
 by_cases hn:n=0
 .subst hn;have hrel:=hr.noRow (d:=d) (sz:=ya P e) [d] (by simp[isin]) ej (hr.h_slot (hd _ g));refine qz.of_value (ι':=jA B d ⟨none,0⟩) (I _ _ (by simpa using apU (ty:=o.type) T hu hi)) ?_ h;rw[g];exact hrel.put (some d) (λk hk=>ek) _ _ (.inl ⟨by rw[yh],rfl,rfl⟩)
 have R:=asR (w:=w) (ty:=o.type) (k':=k') T hu hi ab (n:=n) ej ai g2 (by rw[ad];exact g1);obtain⟨l,p⟩:∃l:aD Value,l=((aJ zv.cells n).toList++(aJ zv.cells (bG w n 0 e-n)).toList).toArray:=⟨_,rfl⟩;rw[<-p]at R;have J:=NewRow.draw w l e (0,0);have af:=dN w n 0 e;have ag:=cP w n 0 e (by grind[maxLen]);have ae:l.size=bG w n 0 e*i.size:=by rw[p];simp only[cE,aZ,aoZ ab,ao,<-aS];congr 1;omega
 have U:CRs B w (F.ok B s.pl w) (z.map .d) zv.cells.toList:=by grind[Uz,uh,QT,J0,YH]
 have ah:=QD U n;have hrel:=hr.newRow J d (.arr (ya P e) (aL n z) false) [d] (by simp[isin]) n (hr.h_slot (hd _ g)) ⟨ej,by grind[yh],.inr ⟨w.heap.size,by rw[yh],by
  refine WL (B:=B) (vs:=(aL n zv.cells.toList).flatten) (λq hq=>?_) ?_ ?_
  .grind
  .exact CRs.keep (Xx hr J d _ [d] (by simp[isin]) _) J.shapes _ _ ah
  intro j v hv;rw[aO,J.cell,p]
  grind[anx],(λhf=>by cases hf),(λ_=>⟨l,⟨e,J.new⟩,by simp_all[aP]⟩)⟩⟩
 refine qz.of_value (ι':=jA B d ⟨some w.heap.size,n⟩) (I _ _ R) ?_ h;rw[g];refine hrel.put (some d) (λk hk=>ek) _ _ ?_;exact .inr ⟨w.heap.size,_,e,by rw[yh],by simp_all[yh],rfl,af,ag,by rw[J.shape,ae,aj]⟩
end
theorem ui:∀(n i q),(yj i n)[q]?=if q<n then some (i+q)else none
 |0,i,q=>by simp[yj]
 |n+1,i,0=>by simp[yj]
 |n+1,i,q+1=>by
  simp only[yj,am.getElem?_cons_succ,ui n (i+1) q];by_cases h:q<n
  .rw[bU h,bU ej];congr 1;omega
  simp_all[bF]
theorem alG:∀(n i),(yj i n).length=n
 |0,_=>rfl
 |n+1,i=>by simp[yj,alG n]
def Pl.isGone:Pl->Bool|.gone=>true|_=>false
theorem ahG(n)(g)(x)(xs):Xu (n::g) (x::xs)=(if x.isGone=true then none else some n)::Xu g xs:=by grind[Xu,Pl.isGone]
theorem Zq(n)(g)(x)(xs):xD (n::g) (x::xs)=if x.isGone=true then xD g xs else(n,x)::xD g xs:=by grind[xD,Pl.isGone]
theorem azX(m n)(g)(x)(xs):Uj (m+1) (n::g) (x::xs)=if x.isGone=true then n::Uj m g xs else Uj m g xs:=by grind[Uj,Pl.isGone]
theorem aks(x:Pl)(l):(x.ren l).isGone=x.isGone:=by cases x<;>rfl
theorem aCz(x:Pl)(l):(x.ren l).live=x.live:=by cases x<;>rfl
theorem Qz:∀(L) (g:am Pl) (q p:Nat),ut (Xu L g) q=some p↔ ∃x,L[q]?=some p/\g[q]?=some x/\x.isGone=false
 |[],g,q,p=>by grind[Xu,ut]
 |n::i,[],q,p=>by grind[Xu,ut]
 |n::i,x::xs,0,p=>by grind[ahG,ut]
 |n::i,x::xs,q+1,p=>by rw[ahG];simp only[ut,Qz i xs q p,am.getElem?_cons_succ]
theorem WD:∀(L) (g:am Pl) (p:Nat) (y:Pl),aget (xD L g) p=some y->∃q:Nat,L[q]?=some p/\g[q]?=some y/\y.isGone=false
 |[],g,p,y,h=>by grind[xD,aget]
 |n::r,[],p,y,h=>by grind[xD,aget]
 |n::r,x::xs,p,y,h=>by
  rw[Zq]at h;cases o:x.isGone
  .simp only[o,cB,dU,yY]at h;split at h
   .rename_i e;subst e;cases h;exact⟨0,rfl,rfl,o⟩
   obtain⟨q,i,j,l⟩:=WD r xs p y h;exact⟨q+1,by simpa using i,by simpa using j,l⟩
  simp only[o,cK]at h;obtain⟨q,i,j,l⟩:=WD r xs p y h;exact⟨q+1,by simpa using i,by simpa using j,l⟩
theorem anz:∀(L) (g:am Pl) (q p:Nat) (y:Pl),L[q]?=some p->g[q]?=some y->y.isGone=false->isin p (ZM (xD L g))=true
 |[],_,q,p,y,h,_,_=>by simp at h
 |_::_,[],q,p,y,_,h,_=>by simp at h
 |n::r,x::xs,0,p,y,j,l,o=>by simp_all[Zq,ZM,isin]
 |n::r,x::xs,q+1,p,y,j,l,o=>by
  have i:=anz r xs q p y (by simpa using j) (by simpa using l) o;rw[Zq];cases I:x.isGone
  .rw[yw]at i⊢;simp[ZM,i]
  simpa using i
theorem atU:∀(L) (j:am Pl),jg (ZM (xD L j))=true->∀(q g p:Nat) (y o:Pl),L[q]?=some p->j[q]?=some y->y.isGone=false->L[g]?=some p->j[g]?=some o->o.isGone=false->q=g
 |[],_,_,q,_,_,_,_,h,_,_,_,_,_=>by simp at h
 |_::_,[],_,q,_,_,_,_,_,h,_,_,_,_=>by simp at h
 |n::l,x::xs,hd,q,g,p,y,o,r,I,R,J,P,T=>by
  have U:jg (ZM (xD l xs))=true:=by rw[Zq]at hd;cases hg:x.isGone<;>simp_all[ZM,jg]
  have i:x.isGone=false->isin n (ZM (xD l xs))=false:=λhg=>by simp_all[Zq,ZM,jg]
  cases q with
  |zero=>cases g with
   |zero=>rfl
   |succ g=>
    simp at r I;subst r;subst I;have:=anz l xs g _ o (by simpa using J) (by simpa using P) T;rw[i R]at this;cases this
  |succ q=>cases g with
   |zero=>
    simp at J P;subst J;subst P;have:=anz l xs q _ y (by simpa using r) (by simpa using I) R;rw[i T]at this;cases this
   |succ g=>rw[atU l xs U q g p y o (by simpa using r) (by simpa using I) R (by simpa using J) (by simpa using P) T]
theorem aau:∀(L) (g:am Pl) (q p:Nat) (y:Pl),L[q]?=some p->g[q]?=some y->y.isGone=false->aget (xD L g) p≠none
 |[],_,q,p,y,h,_,_=>by simp at h
 |_::_,[],q,p,y,_,h,_=>by simp at h
 |n::j,x::xs,0,p,y,l,o,i=>by grind[Zq,yY]
 |n::j,x::xs,q+1,p,y,l,o,i=>by
  have I:=aau j xs q p y ek ek i;rw[Zq];cases r:x.isGone
  .simp only[cB,dU,yY]
   grind
  grind
theorem agA:∀(L) (g:am Pl) (m p:Nat),isin p (Uj m L g)=true↔ ∃q x,L[q]?=some p/\g[q]?=some x/\(q<m->x.isGone=true)
 |[],g,m,p=>by grind[Uj,isin]
 |n::l,[],m,p=>by grind[Uj,isin]
 |n::l,x::xs,0,p=>by
  simp only[Uj,yw,bL];rw[<-yw,agA l xs 0 p];constructor
  .rintro(h|⟨q,y,i,j,o⟩)
   .exact⟨0,x,by simp[h],rfl,λh=>ej⟩
   exact⟨q+1,y,by simpa using i,by simpa using j,λh=>ej⟩
  rintro⟨q,y,i,j,o⟩;cases q with
  |zero=>simp at i;exact .inl i.symm
  |succ q=>exact .inr ⟨q,y,by simpa using i,by simpa using j,λh=>ej⟩
 |n::l,x::xs,m+1,p=>by
  rw[azX];have r:=agA l xs m p;cases I:x.isGone
  .simp only[cB,dU,r]
   grind
  simp only[cK,yw,bL];rw[<-yw,r];constructor
  .rintro(h|⟨q,y,i,j,o⟩)
   .exact⟨0,x,by simp[h],rfl,λ_=>I⟩
   grind
  grind
theorem ahx:∀(n i) (g:am Pl),(∀p,isin p (ZM (xD (yj i n) g))=true->i<=p)/\jg (ZM (xD (yj i n) g))=true
 |0,i,g=>by grind[yj,xD,ZM,isin,jg]
 |n+1,i,[]=>by grind[xD,ZM,isin,jg]
 |n+1,i,x::xs=>by
  obtain⟨l,o⟩:=ahx n (i+1) xs;simp only[yj,Zq];cases x.isGone
  .simp only[cB,dU,ZM,jg,o,Bool.and_true,cG];refine⟨λp j=>?_,?_⟩
   .rw[yw,bL]at j;rcases j with rfl|j
    .simp_all
    have:=l p ((yw _ _).2 j);omega
   grind
  simp only[cK]
  grind
theorem ao3(l):∀(n p),aget (Ym n l) p=if n<=p then l[p-n]? else none:=by
 induction l with
 |nil=>grind[Ym,aget]
 |cons x r i=>
  intro n p;simp only[Ym,yY,i];by_cases h:n=p
  .grind
  by_cases g:n<=p
  .rw[bF h,bU ej,bU g,show p-n=(p-(n+1))+1 by omega];simp
  rw[bF h,bF ej,bF g]
section
variable {P:Program}{F:Fr}{N:Nat}{B:Nat->Gh}{s:S}{a:Act}{w:World}{o:Oper}{K:S->Prop}
theorem Z8{f:cS}(h:qT P f=true)(args)(w):(callFunc f args).run P w=.ok (.enter f args) w:=by
 unfold qT at h;cases g:P.funcs[f]? with
 |none=>grind
 |some fn=>
  simp only[g,aI,cG]at h;obtain⟨i,j⟩:=h;have l:¬fn.body=none:=ek
  simp_all[callFunc]
theorem yx.of_grows{w w'}(h:Grows (λ_=>False) w w'):yx w w':=by
 intro b t m i;have j:b<w.heap.size:=by
  rcases dm b w.heap.size with g|g
  .exact g
  simp[bH,aD.getElem?_eq_none g]at i
 simp only[bH,h.block b j (λh=>h)]at i⊢;exact i
theorem Rel.grown(hr:Rel F N B s a w){w'}(i:Grows (λ_=>False) w w'):Rel F N B s a w':=by
 have g:zP w w' (F.ok B s.pl w) (F.ok B s.pl w'):=λb l=>⟨⟨l.1,aT l.2.1 i.size,l.2.2⟩,i.block b l.2.1 (λh=>h)⟩
 have U:=yx.of_grows i;refine⟨hr.room,λk v hv=>?_,λp x hx=>?_,hr.inj,λb l=>⟨(hr.mine b l).1,aT (hr.mine b l).2 i.size⟩,hr.defers,?_,hr.foreign,hr.handed,hr.few,hr.hdom,hr.hkeep⟩
 .obtain⟨x,e1,r⟩:=hr.slots k v hv<;>grind[VR.keep]
 .have h:=hr.places p x hx;cases x with
  |fbox ds=>obtain⟨b,e1,r,I⟩:=h;exact⟨b,e1,(g b r).1,RDc.keep g b r _ _ I⟩
  |gone=>exact h.elim
  |box cs=>obtain⟨b,o,e1,⟨t,r⟩,I⟩:=h;exact⟨b,o,e1,⟨t,by rw[i.block b (RowAt.lt ⟨t,r⟩) (λh=>h)];exact r⟩,CRs.keep g U _ _ I⟩
  |arr sz R fz=>
   obtain⟨h0,hn,h|⟨b,e1,r,I,e4⟩⟩:=h
   .exact⟨h0,hn,.inl h⟩
   have J:b<w.heap.size:=by
    cases fz
    .obtain⟨o,P,_⟩:=e4 rfl;exact P.lt
    exact(I rfl).2.1
   refine⟨h0,hn,.inr ⟨b,e1,RDs.keep' g b sz R 0 (λj _ _=>qH (i.block b J (λh=>h)) j) r,λT=>(g b (I T)).1,λT=>?_⟩⟩;obtain⟨o,⟨t,P⟩,e6⟩:=e4 T;exact⟨o,⟨t,by rw[i.block b J (λh=>h)];exact P⟩,e6⟩
 refine⟨i.os.trans hr.grows.os,i.tape.trans hr.grows.tape,i.output.trans hr.grows.output,bX hr.grows.size i.size,λb l hm=>?_,λb t m h=>i.shapes b t m (hr.grows.shapes b t m h)⟩;rw[i.block b (aT l hr.grows.size) (λh=>h)];exact hr.grows.block b l hm
theorem anB{B ι':Nat->Gh}{w w'}{ok ok':Nat->Prop}{c}{v}(hs:c.scalar=true)(h:CR B w ok c v):CR ι' w' ok' c v:=by
 cases c with
 |d x=>cases x with
  |lit u=>grind[CR,RD]
  |sl l=>cases hs
  |fn f l=>cases hs
 |_=>cases hs
theorem anD{B ι':Nat->Gh}{w w'}{ok ok':Nat->Prop}{x}{v}(hs:x.scalar=true)(h:WR B w ok x v):WR ι' w' ok' x v:=by
 cases x with
 |c c=>exact anB hs h
 |agg cs=>
  obtain⟨vs,i,g⟩:=h;refine⟨vs,i,?_⟩;clear i;simp only[W.scalar]at hs;induction cs generalizing vs with
  |nil=>cases vs with|nil=>trivial|cons _ _=>exact g.elim
  |cons c cs j=>cases vs with
   |nil=>exact g.elim
   |cons v vs=>
    simp only[List.all_cons,aI]at hs;exact⟨anB hs.1 g.1,j hs.2 vs g.2⟩
theorem ayT{B ι':Nat->Gh}{w w'}{ok ok':Nat->Prop}{x}{v}(hs:x.scalar=true)(h:VR B w ok x v):VR ι' w' ok' x v:=by
 cases x with
 |w x=>exact anD hs h
 |tup cs=>
  obtain⟨vs,i,g⟩:=h;refine⟨vs,i,?_⟩;clear i;simp only[V.scalar]at hs;induction cs generalizing vs with
  |nil=>cases vs with|nil=>trivial|cons _ _=>exact g.elim
  |cons c cs j=>cases vs with
   |nil=>exact g.elim
   |cons v vs=>
    simp only[List.all_cons,aI]at hs;exact⟨anD hs.1 g.1,j hs.2 vs g.2⟩
section ren
variable {B ι':Nat->Gh}{w w':World}{ok ok':Nat->Prop}{l:am (aA Nat)}
theorem ayP(hk:zP w w ok ok')(j:∀q p,ut l q=some p->ι' p=B q){c}{v}(h:CR B w ok c v):CR ι' w ok' (c.ren l) v:=by
 cases c with
 |d x=>exact RD.keep hk _ _ h
 |nil=>exact h
 |own q sz k=>
  grind[C.ren,CR]
 |ptr q o=>
  grind[C.ren,CR]
 |eptr q z i k=>
  grind[C.ren,CR]
 |fp l=>exact CR.keep hk (yx.refl w) (.fp l) v h
 |clo f g=>cases g with
  |nil=>exact h
  |cons _ _=>trivial
 |dead=>trivial
 |sub _ _ _ _=>trivial
theorem alL(hk:zP w w ok ok')(g:∀q p,ut l q=some p->ι' p=B q):∀{cs:am C}{vs:am Value},CRs B w ok cs vs->CRs ι' w ok' (cs.map (C.ren l)) vs
 |[],[],_=>trivial
 |[],_::_,h=>h.elim
 |_::_,[],h=>h.elim
 |_::_,_::_,h=>⟨ayP hk g h.1,alL hk g h.2⟩
theorem ayV(hk:zP w w ok ok')(g:∀q p,ut l q=some p->ι' p=B q){x}{v}(h:WR B w ok x v):WR ι' w ok' (x.ren l) v:=by
 cases x with
 |c x=>exact ayP hk g h
 |agg cs=>obtain⟨vs,i,j⟩:=h;exact⟨vs,i,alL hk g j⟩
theorem alO(hk:zP w w ok ok')(g:∀q p,ut l q=some p->ι' p=B q):∀{cs:am W}{vs:am Value},qN B w ok cs vs->qN ι' w ok' (cs.map (W.ren l)) vs
 |[],[],_=>trivial
 |[],_::_,h=>h.elim
 |_::_,[],h=>h.elim
 |_::_,_::_,h=>⟨ayV hk g h.1,alO hk g h.2⟩
theorem aF6(hk:zP w w ok ok')(g:∀q p,ut l q=some p->ι' p=B q){x}{v}(h:VR B w ok x v):VR ι' w ok' (x.ren l) v:=by
 cases x with
 |w x=>exact ayV hk g h
 |tup cs=>obtain⟨vs,i,j⟩:=h;exact⟨vs,i,alO hk g j⟩
theorem ayQ(hk:zP w w ok ok')(J:∀q p,ut l q=some p->ι' p=B q){q p}(U:ι' p=B q){x}(h:PR B w ok q x):PR ι' w ok' p (x.ren l):=by
 cases x with
 |box cs=>obtain⟨b,j,e1,g,i⟩:=h;exact⟨b,j,ek,g,alL hk J i⟩
 |arr sz o R=>
  obtain⟨h0,T,h|⟨b,e1,g,i,r⟩⟩:=h
  .exact⟨h0,ek,.inl ek⟩
  exact⟨h0,ek,.inr ⟨b,ek,RDs.keep' hk b sz o 0 (λ_ _ _=>rfl) g,λI=>(hk b (i I)).1,r⟩⟩
 |fbox P=>obtain⟨b,e1,g,i⟩:=h;exact⟨b,ek,(hk b g).1,RDc.keep hk b g _ _ i⟩
 |gone=>exact h.elim
end ren
theorem PR.lt{B:Nat->Gh}{w}{ok:Nat->Prop}{p}{x}(h:PR B w ok p x)(i:x.live=true){b}(l:(B p).b=some b):b<w.heap.size:=by
 cases x with
 |box cs=>obtain⟨o,g,e1,j,r⟩:=h;rw[l]at e1;cases e1;exact j.lt
 |arr sz P R=>
  cases R with
  |true=>cases i
  |false=>
   obtain⟨h0,U,h|⟨o,e1,j,r,I⟩⟩:=h
   .grind
   rw[l]at e1;cases e1;obtain⟨g,J,_⟩:=I rfl;exact J.lt
 |fbox T=>cases i
 |gone=>cases i
theorem ahL(hr:Rel F N B s a w){dst:aA Tmp}(hd:∀k,dst=some k->k<N){U}(hU:∀p∈U,∃x,aget s.pl p=some x/\x.live=true){nb}(ao:∀i,F.h (nb+i)=none){M:Nat->Prop}(hM:∀b,M b↔ ∃p∈U,(B p).b=some b)
 {h0:Nat->aA Gh}{w'}{v}{r}(ak:aqx ⟨w,F.ok B s.pl w,M,h0⟩ (λi=>B (U.getD i 0)) U.length w' r v) (hg:Grows M w w') (aq:Ky U nb r=true):
 ∃ι',Rel F N ι' (agJ s U nb dst r) (a.put dst v) w':=by
 obtain⟨hm,ιr,h1,h2,h3,h4,h5,h6⟩:=ak
 let L:am Nat:=U++yj nb (r.pl.length-U.length)
 let ls:=Xu L r.pl
 let NP:=xD L (r.pl.map (Pl.ren ls))
 let KL:=Uj U.length L r.pl
 have av:jg (ZM (xD L r.pl))=true:=aq;have ag:∀q,q<U.length->L[q]?=U[q]? :=λq hq=>am.getElem?_append_left hq
 have af:∀q p,U.length<=q->L[q]?=some p->p=nb+(q-U.length):=λq p hq hp=>by grind[ui]
 have R:∀q x,aget (xD (yj 0 r.pl.length) r.pl) q=some x↔r.pl[q]?=some x/\x.isGone=false:=λq x=>by
  constructor
  .intro h;obtain⟨q',g1,g2,g3⟩:=WD _ _ _ _ h;rw[ui]at g1;split at g1
   .cases g1;rw[aO];grind
   cases g1
  rintro⟨g1,g2⟩;have ai:q<r.pl.length:=(am.getElem?_eq_some_iff.1 g1).1;have au:(yj 0 r.pl.length)[q]?=some q:=by rw[ui,bU ai,aO]
  have:=aau _ _ q q x au g1 g2;cases hz:aget (xD (yj 0 r.pl.length) r.pl) q with
  |none=>grind
  |some y=>
   obtain⟨q',g3,g4,g5⟩:=WD _ _ _ _ hz;rw[ui]at g3;split at g3
   .cases g3;rw[aO]at g1;grind
   cases g3
 let ι':Nat->Gh:=λp=>open Classical in if h:isin p KL=true/\∃q,ut ls q=some p then ιr h.2.choose else B p
 have ar:∀q q' p,ut ls q=some p->ut ls q'=some p->q=q':=λq q' p g1 g2=>by
  obtain⟨x,e1,l,J⟩:=(Qz L r.pl q p).1 g1;obtain⟨y,T,e5,e6⟩:=(Qz L r.pl q' p).1 g2
  grind[atU]
 have hι:∀p,isin p KL=false->ι' p=B p:=λp hp=>by
  simp only[ι'];rw[dif_neg]
  grind
 have j:∀q p,ut ls q=some p->ι' p=ιr q:=λq p hq=>by
  by_cases hk:isin p KL=true
  .have an:isin p KL=true/\∃q,ut ls q=some p:=⟨hk,q,hq⟩;simp only[ι'];rw[dif_pos an];congr 1
   grind
  grind[Qz,agA]
 have P:∀p y,aget NP p=some y->∃q x,ut ls q=some p/\r.pl[q]?=some x/\x.isGone=false/\y=x.ren ls/\L[q]?=some p:=λp y hy=>by
  obtain⟨q,e1,l,J⟩:=WD _ _ _ _ hy
  grind[aks,Qz]
 have aw:∀p,p∈U->isin p KL=true\/aget NP p≠none:=λp hp=>by
  obtain⟨i,hi,az⟩:=dz hp;have ax:U[i]?=some p:=ek
  have al:L[i]?=some p:=ek
  have ai:i<r.pl.length:=ej
  cases aa:(r.pl[i]).isGone
  .right
   refine aau L _ i p ((r.pl[i]).ren ls) al ek (by grind[aks])
  grind[agA]
 have o:∀b,M b->∃q y,(isin q KL=true\/aget NP q≠none)/\aget s.pl q=some y/\y.live=true/\(B q).b=some b:=λb hb=>ek
 have ad:∀b,b<w.heap.size->(∀q y,(isin q KL=true\/aget NP q≠none)->aget s.pl q=some y->y.live=true->(B q).b≠some b)->w'.heap[b]?=w.heap[b]? :=λb hb h=>hg.block b hb λay=>ek
 have ab:zP w' w' (Fr.ok ⟨w,F.ok B s.pl w,M,h0⟩ ιr (xD (yj 0 r.pl.length) r.pl) w') (F.ok ι' (s.redo KL NP).pl w'):=by
  intro b hb;obtain⟨I,b2,b3⟩:=hb;refine⟨⟨?_,b2,?_⟩,rfl⟩
  .rcases I with I|I|I
   .exact I.1
   .obtain⟨q,y,_,l,J,T⟩:=o b I;rcases(hr.mine b ⟨q,y,l,J,T⟩).1 with h|h
    .grind
    grind
   exact .inr (.inr (bX hr.grows.size I))
  rintro⟨p,x,q1,q2,q3⟩;rw[S.redo_pl]at q1;cases hn:aget NP p with
  |some y=>
   simp only[hn]at q1;cases q1;obtain⟨q,z,e1,l,J,rfl,_⟩:=P p _ hn;rw[j q p e1]at q3;rw[aCz]at q2;exact b3 ⟨q,z,(R q z).2 ⟨l,J⟩,q2,q3⟩
  |none=>
   simp only[hn]at q1;split at q1
   .rename_i hk;cases hp:aget s.pl p with
    |none=>rw[hp]at q1;cases q1
    |some y=>
     rw[hp]at q1;simp at q1;subst q1;rw[hι p hk]at q3;rw[Pl.live_kill]at q2;have ho:Owns B s.pl b:=⟨p,y,hp,q2,q3⟩;rcases I with I|I|I
     .exact I.2.2 ho
     .obtain⟨q,z,e1,l,J,T⟩:=o b I
      have ac:p≠q:=λe=>by subst e;rcases e1 with e1|e1; ·rw[hk]at e1;cases e1
                          .exact e1 hn
      exact hr.inj p q y z b hp l ac q2 q3 T
     have h7:=(hr.mine b ho).2;have h8:w.heap.size<=b:=I;omega
   cases q1
 have hrel:=hr.redoG KL NP ι' w' hι ad hg.shapes hg.os hg.tape hg.output hg.size (by
  intro p y hy;obtain⟨q,x,e1,l,J,rfl,_⟩:=P p y hy;exact ayQ ab j (j q p e1) (h2 q x ((R q x).2 ⟨l,J⟩))) (by
  intro p y b hy hb;obtain⟨q,x,e1,l,J,rfl,_⟩:=P p y hy;rw[j q p e1]at hb;have ae:=(R q x).2 ⟨l,J⟩;refine⟨(h2 q x ae).lt (h5 q x ae) hb,?_⟩;rcases h4 q x b ae hb with h|h
  .exact .inr (o b h)
  .exact .inl h) (by
  intro p q x y b hx hy ac hb hq;obtain⟨p',x',e1,l,J,rfl,_⟩:=P p x hx;obtain⟨q',y',T,e5,e6,rfl,_⟩:=P q y hy;rw[j p' p e1]at hb;rw[j q' q T]at hq;refine h3 p' q' x' y' b ((R p' x').2 ⟨l,J⟩) ((R q' y').2 ⟨e5,e6⟩) (λe=>ac ?_) hb hq;subst e;rw[e1]at T;cases T;rfl) (by
  intro p y g hy aa;obtain⟨q,x,e1,l,J,rfl,T⟩:=P p y hy;have aj:q<U.length:=by
   rcases dm q U.length with h|h
   .exact h
   have:=af q p h T;rw[this,ao]at aa;cases aa
  rw[j q p e1,h6 q x aj ((R q x).2 ⟨l,J⟩)];have ah:U[q]?=some p:=by rw[<-ag q aj];exact T
  obtain⟨z,e5,_⟩:=hU p (bA ah);have:=hr.hkeep p z g e5 aa;simp only[List.getD,ah,dO];exact this)
 exact⟨ι',hrel.put dst hd _ _ (aF6 ab j h1)⟩
theorem axS(hr:Rel F N B s a w)(hd:∀k,o.dst=some k->k<N){j:am (Nat×Pl)}(P:Rel F N B (s.withPl j) a w){w'}{v}{r}(g:acp ⟨w,F.ok B j w,λ_=>False,λ_=>none⟩ w' r v)(J:Grows (λ_=>False) w w'):
 ∃ι',Rel F N ι' (axR s {s with pl:=j} o.dst r) (a.put o.dst v) w':=by
 cases l:o.dst with
 |none=>exact⟨B,hr.grown J⟩
 |some d=>
  simp only[axR];cases hs:r.v.scalar
  .simp only[bW];have aa:=hd d l;refine ahL P (dst:=some d) (λk hk=>ek) (U:=[]) (λp R=>by cases R) (nb:=yS d) (λi=>hr.h_big (by grind[yS])) (M:=λ_=>False) (λb=>ep) (h0:=λ_=>none) ?_ J ?_
   .obtain⟨_,ιr,I,T,h3,h4,h5,h6⟩:=g;exact⟨cJ _,ιr,I,T,h3,h4,h5,λp x R=>ek⟩
   exact(ahx _ _ _).2
  simp only[aM];obtain⟨_,ιr,I,_⟩:=g;exact⟨B,(hr.grown J).put (some d) (λk hk=>ek) _ _ (ayT hs I)⟩
theorem Rel.glb(hr:Rel F N B s a w):Glb (F.ok B s.pl w) w:=λk hk=>by
 obtain⟨g,m,j⟩:=hr.handed.2 k hk;obtain⟨i,l⟩:=hr.foreign k g;refine⟨⟨.inl g,aT i hr.grows.size,λo=>?_⟩,m,?_⟩
 .rcases(hr.mine k o).1 with h|h<;>grind
 rw[qH (hr.grows.block k i l) 0];exact j
theorem aa4(hr:Rel F N B s a w)(U:∀k,o.dst=some k->k<N){f:cS}{ws}{g}(J:qN B w (F.ok B s.pl w) ws g)(j:qT P f=true->(aF a.eval o).run P w=.ok (.enter f g.toArray) w)
 (h:acq P o.dst f ws s K):uS P F N o a w K:=by
 unfold acq at h;split at h
 .rename_i ds R p;obtain⟨T,h⟩:=h;obtain⟨g1,g2,g3⟩:=ahS hr J p;intro next Q hn;unfold ei;rw[j T];rw[ee];refine(h w (F.ok B R w) g ⟨λb l=>l.2.1,g1.glb⟩ (g3 _)).mono ?_;rintro e w' ⟨v,r,rfl,hk,i,I⟩;obtain⟨ι',hrel⟩:=axS (o:=o) hr U g1 i I;exact hn ι' _ _ _ hrel hk ⟨I.size,λb l=>I.block b l (λh=>h)⟩
 grind
theorem agh{a β:Type}(f:a->β)(xs:aD a):xs.map f=(xs.toList.map f).toArray:=ek
theorem alu(hr:Rel F N B s a w)(g:∀k,o.dst=some k->k<N){f}{args}{i}(l:o.op=.call {callee:=.value (.func f),args:=args,argTypes:=i})
 (h:yg P o.dst (.call f (args.toList.map cO)) s K):uS P F N o a w K:=by
 simp only[yg]at h;refine aa4 hr g (ajF hr args.toList) (λj=>?_) h
 grind[aF,bD,cI,Act.eval,bJ,Z8,agh]
theorem ajE{ok:Nat->Prop}:∀{xs ys:am W}{g vs:am Value},qN B w ok xs g->qN B w ok ys vs->qN B w ok (xs++ys) (g++vs)
 |[],_,[],_,_,h=>h
 |[],_,_::_,_,h,_=>h.elim
 |_::_,_,[],_,h,_=>h.elim
 |_::_,_,_::_,_,h,i=>⟨h.1,ajE h.2 i⟩
theorem auZ{ok:Nat->Prop}:∀{g:am (am D)}{vs:am Value},RDf w ok vs g->qN B w ok (g.map λi=>W.c (.fp i)) vs
 |[],vs,h=>by simp only[RDf]at h;subst h;trivial
 |c::r,vs,h=>by simp only[RDf]at h;obtain⟨b,o,I,rfl,j,l,p⟩:=h;exact⟨⟨b,o,rfl,j,l⟩,auZ p⟩
theorem alv(hr:Rel F N B s a w)(r:∀k,o.dst=some k->k<N){x}{args}{T}(U:o.op=.call {callee:=.value x,args:=args,argTypes:=T})
 (h:yg P o.dst (.calv (cO x) (args.toList.map cO)) s K):uS P F N o a w K:=by
 simp only[yg]at h;have g:=qZ hr x;split at h
 .rename_i f j;rw[j]at g;obtain⟨I,J,p⟩:=g;have i:I=[]:=eu
  subst i;refine aa4 hr r (ajF hr args.toList) (λR=>?_) h
  grind[aF,bD,cI,bJ,Z8,agh]
 .rename_i f l j;rw[j]at g;simp only[CR,RD]at g;obtain⟨vs,J,p⟩:=g;refine aa4 hr r (ajE (ajF hr args.toList) (auZ p)) (λR=>?_) h
  grind[aF,bD,cI,bJ,Z8,agh]
 grind
theorem y7{α}{c}{x y:α}(h:U6 c x=some y):c=true/\x=y:=by
 cases c
 .cases h
 cases h;grind
theorem Qw{α}{x:aA α}(h:isSome x=true):∃y,x=some y:=by
 cases x with
 |none=>cases h
 |some y=>grind
theorem aes(hr:Rel F N B s a w)(r:∀k,o.dst=some k->k<N){x}(j:cOp P o.op o.type=some x)(h:yg P o.dst x s K):qz P F N o a w K:=by
 unfold cOp at j;split at j
 .rename_i y p;cases j;exact(aar hr r (.inl p) h).fine trivial
 .rename_i y p;cases j;exact(aar hr r (.inr p) h).fine trivial
 .rename_i c y z p;cases j;exact(aly hr r p h).fine trivial
 .rename_i t p;cases j;exact(ahO hr r p h).fine
 .rename_i t y p;cases j;exact(atw hr r p h).fine
 .rename_i t parts p;split at j
  .rename_i fs l U hl;obtain⟨I,rfl⟩:=y7 j;rw[aI]at I;exact(ahP hr r p U hl I.1 I.2 h).fine trivial
  cases j
 .rename_i t n parts p;split at j
  .rename_i e J;obtain⟨I,rfl⟩:=y7 j;simp only[aI]at I;exact(alx hr r p J I.1.1.1.1 I.1.1.1.2 I.1.1.2 I.1.2 I.2 h).fine
  cases j
 .rename_i t y p;split at j
  .rename_i g J;cases j;exact(atz hr r p J h).fine (u9.refl _)
  cases j
 .rename_i t y z p;obtain⟨I,rfl⟩:=y7 j;obtain⟨i,hi⟩:=Qw I<;>grind[aDO]
 .rename_i y p;cases j;exact(atC hr r p h).fine trivial
 .rename_i ab dst y p;cases h1:wO P ab false&&wO P dst true
  .rw[h1]at j;cases h2:wO P ab true&&wO P dst false
   .rw[h2]at j;simp only[bW]at j;cases T:UT P ab dst y with
    |none=>simp only[T]at j;cases j;exact(uf hr r (by rw[p];rfl) h).fine trivial
    |some z=>simp only[T]at j;cases j;exact(alw hr r p T h).2.fine trivial
   rw[h2]at j;cases j;rw[aI]at h2;exact(aoP hr r p h2.1 h2.2 h).fine
  rw[h1]at j;cases j;rw[aI]at h1;exact(aoG hr r p h1.1 h1.2 h).fine (u9.refl _)
 .grind[y7,aAV]
 .rename_i t n c p;split at j
  .rename_i e J;split at j
   .rename_i z ae hz;obtain⟨I,rfl⟩:=y7 j;rw[aI]at I;exact(atA hr r p J hz I.1 I.2 h).fine
   cases j
  cases j
 .rename_i t y lo hi mx p;split at j
  .rename_i U;cases j;exact(aoS hr r p U h).fine trivial
  .rename_i e U;obtain⟨I,rfl⟩:=y7 j;obtain⟨i,ac⟩:=Qw I;exact(aoR hr r p U ac h).fine trivial
  cases j
 .rename_i t y f p;split at j
  .rename_i off ft J;obtain⟨I,rfl⟩:=y7 j;exact(atx hr r p J I h).fine trivial
  cases j
 .rename_i t y f p;split at j
  .rename_i off ft J;split at j
   .rename_i g hg;cases j;exact(aoM hr r p J hg h).fine trivial
   cases j
  cases j
 .rename_i t y i p;split at j
  .rename_i e J;obtain⟨I,rfl⟩:=y7 j;exact(aty hr r p J I h).fine trivial
  cases j
 .rename_i t y i p;split at j
  .rename_i U;cases j;exact(aoQ hr r p U h).fine trivial
  cases j
 .rename_i y i p;cases j;exact(aoL hr r p h).fine trivial
 .rename_i args ts p;split at j
  .rename_i y t R aa;split at j
   .rename_i e J;cases j;exact(aoO hr r p R aa J h).fine trivial
   cases T:gU P t y with
   |none=>simp only[T]at j;cases j;exact(uf hr r (by rw[p];rfl) h).fine trivial
   |some z=>simp only[T]at j;cases j;exact(alz hr r p R aa T h).2.fine trivial
  cases j
 .rename_i args ts p;split at j
  .rename_i y z t u R aa;split at j
   .rename_i e e' J U;obtain⟨I,rfl⟩:=y7 j;rw[aI]at I
    grind[aAS]
   .rename_i e k J U;split at j
    .rename_i zz ae af;obtain⟨I,rfl⟩:=y7 j;simp only[aI]at I
     grind[ayp]
    cases j
   .rename_i e J U;obtain⟨I,rfl⟩:=y7 j;rw[aI]at I
    grind[ayo]
   cases j
  cases j
 .rename_i f args ts p;cases j;exact(alu hr r p h).fine
 .rename_i y args ts p ad;cases j;exact(alv hr r ad h).fine
 .rename_i b args ts h1 h2 p;cases hm:aft b args.toList with
  |some y=>simp only[hm]at j;cases j;exact(atB hr r p hm h).fine trivial
  |none=>
   simp only[hm]at j;cases hb:J6 P b args.toList ts.toList with
   |some y=>grind[aAT]
   |none=>simp only[hb]at j;cases j;exact(uf hr r (by rw[p];rfl) h).fine trivial
 .rename_i b t y z u p;cases hn:ab2 P b t z with
  |some neg=>simp only[hn]at j;cases j;exact(aoN hr r p hn h).fine trivial
  |none=>
  simp only[hn]at j;cases T:gv P b t y z with
  |some q=>simp only[T]at j;cases j;exact(aoK hr r p T h).2.fine trivial
  |none=>
  simp only[T]at j;cases h4:J3 P b t y z with
  |some q=>simp only[h4]at j;cases j;exact(aoH hr r p h4 h).2.fine trivial
  |none=>
  simp only[h4]at j;cases h1:adg b&&agx P t
  .rw[h1]at j;cases j;exact(uf hr r (by rw[p];rfl) h).fine trivial
  rw[h1]at j;cases j;exact(aoI hr r p h).fine trivial
 .rename_i u t y p;cases h4:aas P u t y with
  |some q=>simp only[h4]at j;cases j;exact(atD hr r p h4 h).2.fine trivial
  |none=>simp only[h4]at j;cases j;exact(uf hr r (by rw[p];rfl) h).fine trivial
 .cases j
 cases j;exact h.elim
theorem Qj{pl}:∀(l U),(U.Nodup/\∀p∈U,∃x,aget pl p=some x/\x.live=true)->(wT pl U l).Nodup/\∀p∈wT pl U l,∃x,aget pl p=some x/\x.live=true
 |[],U,h=>h
 |p::r,U,h=>by
  have step:∀x,aget pl p=some x->x.live=true->(bif isin p U then wT pl U r else wT pl (U++[p]) r).Nodup/\∀q∈(bif isin p U then wT pl U r else wT pl (U++[p]) r),∃x,aget pl q=some x/\x.live=true:=λx T P=>by
   cases o:isin p U
   .have R:p∉U:=λh=>by rw[(yw p U).2 h]at o;cases o
    refine Qj r (U++[p]) ⟨?_,λq g=>?_⟩
    .rw[List.nodup_append];exact⟨h.1,ep,λa J b j=>by simp at j;subst j;exact λe=>R (e▸J)⟩
    rcases ed.1 g with g|g
    .exact h.2 q g
    simp at g;subst g;exact⟨x,T,P⟩
   exact Qj r U h
  unfold wT;split
  .rename_i cs i;exact step _ i rfl
  .rename_i z I i;exact step _ i rfl
  exact Qj r U h
theorem adi{pl}:∀(n i) (U:am Nat),(U.Nodup/\∀p∈U,∃x,aget pl p=some x/\x.live=true)->(Kl pl n i U).Nodup/\∀p∈Kl pl n i U,∃x,aget pl p=some x/\x.live=true
 |0,_,U,h=>h
 |n+1,i,U,h=>by
  unfold Kl;split
  .split
   .exact adi n (i+1) _ (Qj _ U h)
   exact adi n (i+1) U h
  exact h
theorem aip:∀{U:am Nat}{p k:Nat},idx p U=some k->U[k]?=some p
 |[],p,k,h=>by grind[idx]
 |q::r,p,k,h=>by
  unfold idx at h;by_cases e:q=p
  .grind[uL]
  rw[qO e]at h;simp only[bW]at h;split at h
  .rename_i i g;cases h;simpa using aip g
  cases h
theorem an4:∀{U:am Nat}{p k:Nat},U.Nodup->U[k]?=some p->idx p U=some k
 |[],p,k,_,h=>by simp at h
 |q::r,p,0,g,h=>by simp_all[idx]
 |q::r,p,k+1,g,h=>by
  rw[List.nodup_cons]at g;have hr:r[k]?=some p:=by simpa using h
  have i:q≠p:=λe=>by subst e;exact g.1 (bA hr)
  unfold idx;rw[qO i,an4 g.2 hr];rfl
theorem aEa(hr:Rel F N B s a w){ok':Nat->Prop}(hk:zP w w (F.ok B s.pl w) ok'){U}{ι':Nat->Gh}(hι:∀k p,U[k]?=some p->ι' k=B p){c}{v}(r:CR B w (F.ok B s.pl w) c v):CR ι' w ok' (c.pk s.pl U) v:=by
 cases c with
 |d x=>exact RD.keep hk _ _ r
 |nil=>exact r
 |fp l=>exact CR.keep (B:=ι') hk (yx.refl w) (.fp l) v r
 |clo f g=>cases g<;>simp_all[C.pk,CR,RD,RDf]
 |dead=>trivial
 |sub _ _ _ _=>trivial
 |eptr p z i k=>trivial
 |ptr p o=>
  simp only[C.pk];split
  .grind[CR,aip]
  .rename_i ds P;obtain⟨b,e1,R⟩:=r;obtain⟨b',I,T,J⟩:=hr.places p _ P;rw[e1]at I;cases I;have J:=RDc.drop o J;rw[aO]at J;exact⟨b,o,R,(hk b T).1,RDc.keep hk b T _ _ J⟩
  trivial
 |own p sz n=>
  simp only[C.pk];split
  .grind[CR,aip]
  .rename_i z j P;obtain⟨hn,⟨h1,h2,h3,h4⟩|⟨b,cap,t,h1,h2,h3,h4,h5,h6⟩⟩:=afB hr P r
   .subst h1;subst h2;subst h4;simp only[CR,RD];exact⟨none,0,0,rfl,rfl,aW _,cJ _,.inl ep⟩
   have aa:=hr.places p _ P;obtain⟨_,_,hf|⟨b',e1,R,I,T⟩⟩:=aa
   .grind
   rw[h1]at e1;cases e1;have:RD w (F.ok B s.pl w) (.sl (j.take n)) v:=by subst h2;simp only[RD];exact⟨_,_,_,rfl,ew,h3,h4,.inr ⟨b,0,z,rfl,I rfl,RDs.take n R⟩⟩
   exact CR.keep (B:=ι') hk (yx.refl w) (.d (.sl (j.take n))) v this
  trivial
theorem aqv(hr:Rel F N B s a w){ok':Nat->Prop}(hk:zP w w (F.ok B s.pl w) ok'){U}{ι':Nat->Gh}(g:∀k p,U[k]?=some p->ι' k=B p):∀{cs:am C}{vs:am Value},CRs B w (F.ok B s.pl w) cs vs->CRs ι' w ok' (cs.map (C.pk s.pl U)) vs
 |[],[],_=>trivial
 |[],_::_,h=>h.elim
 |_::_,[],h=>h.elim
 |_::_,_::_,h=>⟨aEa hr hk g h.1,aqv hr hk g h.2⟩
theorem aEd(hr:Rel F N B s a w){ok':Nat->Prop}(hk:zP w w (F.ok B s.pl w) ok'){U}{ι':Nat->Gh}(g:∀k p,U[k]?=some p->ι' k=B p){x}{v}(h:WR B w (F.ok B s.pl w) x v):WR ι' w ok' (x.pk s.pl U) v:=by
 cases x with
 |c x=>exact aEa hr hk g h
 |agg cs=>obtain⟨vs,i,j⟩:=h;exact⟨vs,i,aqv hr hk g j⟩
theorem aqC(hr:Rel F N B s a w){ok':Nat->Prop}(hk:zP w w (F.ok B s.pl w) ok'){U}{ι':Nat->Gh}(g:∀k p,U[k]?=some p->ι' k=B p):∀{cs:am W}{vs:am Value},qN B w (F.ok B s.pl w) cs vs->qN ι' w ok' (cs.map (W.pk s.pl U)) vs
 |[],[],_=>trivial
 |[],_::_,h=>h.elim
 |_::_,[],h=>h.elim
 |_::_,_::_,h=>⟨aEd hr hk g h.1,aqC hr hk g h.2⟩
theorem aHj(hr:Rel F N B s a w){ok':Nat->Prop}(hk:zP w w (F.ok B s.pl w) ok'){U}{ι':Nat->Gh}(g:∀k p,U[k]?=some p->ι' k=B p){x}{v}(h:VR B w (F.ok B s.pl w) x v):VR ι' w ok' (x.pk s.pl U) v:=by
 cases x with
 |w x=>exact aEd hr hk g h
 |tup cs=>obtain⟨vs,i,j⟩:=h;exact⟨vs,i,aqC hr hk g j⟩
theorem aab(pl)(U):∀(l) (k i:Nat),(ZO pl U k l)[i]?=(l[i]?).map λp=>aaT pl U (k+i) p
 |[],k,i=>by simp[ZO]
 |p::r,k,0=>by simp[ZO]
 |p::r,k,i+1=>by simp only[ZO,am.getElem?_cons_succ,aab pl U r (k+1) i];rw[show k+1+i=k+(i+1)by omega]
theorem afF(pl)(U):∀(l) (k:Nat),(ZO pl U k l).length=l.length
 |[],_=>rfl
 |_::r,k=>by simp[ZO,afF pl U r (k+1)]
theorem afE(hr:Rel F N B s a w){ok':Nat->Prop}(hk:zP w w (F.ok B s.pl w) ok'){U}{ι':Nat->Gh}(hι:∀k p,U[k]?=some p->ι' k=B p){k p}(hp:U[k]?=some p)(j:(aaT s.pl U k p).isGone=false):
 idx p U=some k/\(∃x,aget s.pl p=some x/\x.live=true)/\PR ι' w ok' k (aaT s.pl U k p)/\(aaT s.pl U k p).live=true:=by
 unfold aaT at j⊢;split at j
 case h_2=>cases j
 rename_i i T;cases J:aH i k
 .rw[J]at j;cases j
 have P:=aB J;subst P;rw[J]at j;simp only[aM]at j;split at j
 .rename_i cs g;refine⟨T,⟨_,g,rfl⟩,?_⟩;obtain⟨b,l,e1,o,r⟩:=hr.places p _ g;exact⟨⟨b,l,ek,o,aqv hr hk hι r⟩,rfl⟩
 .rename_i z I g;refine⟨T,⟨_,g,rfl⟩,?_⟩;refine⟨?_,rfl⟩;obtain⟨h0,hn,R|⟨b,e1,o,r,e4⟩⟩:=hr.places p _ g
  .exact⟨h0,ek,.inl ek⟩
  exact⟨h0,ek,.inr ⟨b,ek,RDs.keep' hk b z I 0 (λ_ _ _=>rfl) o,λR=>(hk b (r R)).1,e4⟩⟩
 cases j
theorem aCO(dst)(U):600000<=QL dst U:=by unfold QL<;>grind[yS]
theorem auQ(hr:Rel F N B s a w)(hd:∀k,o.dst=some k->k<N){f}{args}{ts}(ho:o.op=.call {callee:=.value (.func f),args:=args,argTypes:=ts})
 (h:yg P o.dst (.callh f (args.toList.map cO)) s K):qz P F N o a w K:=by
 simp only[yg,ajG]at h
 let U:=u7 s.pl [] (Xz ((args.toList.map cO).map s.ow))
 have hU:U.Nodup/\∀p∈U,∃x,aget s.pl p=some x/\x.live=true:=adi 40 0 _ (Qj _ [] ⟨List.nodup_nil,λ_ h=>by cases h⟩)
 let ι0:Nat->Gh:=λi=>B (U.getD i 0)
 have aa:∀k p,U[k]?=some p->ι0 k=B p:=λk p hp=>ek
 have ad:zP w w (F.ok B s.pl w) (F.ok B s.pl w):=λb g=>⟨g,rfl⟩
 obtain⟨hc,h⟩:=h;have ai:=aqC hr ad aa (ajF hr args.toList);have l:∀i x,(ZO s.pl U 0 U)[i]?=some x->∃p,U[i]?=some p/\x=aaT s.pl U i p/\x.isGone=false:=λi x T=>by
  rw[aab,aO]at T;cases hp:U[i]? with
  |none=>grind
  |some p=>
   rw[hp]at T;simp at T;refine⟨p,rfl,T.symm,?_⟩;subst T;obtain⟨y,e1,R⟩:=hU.2 p (bA hp);have hi:=an4 hU.1 hp;unfold aaT;simp only[hi,uL,aM,e1];cases y with
   |box cs=>rfl
   |arr z aj fz=>cases fz<;>first|rfl|cases R
   |fbox ds=>cases R
   |gone=>cases R
 have hM:∀b,Handed ι0 (ZO s.pl U 0 U) b↔ ∃p∈U,(B p).b=some b:=λb=>by
  constructor
  .rintro⟨i,x,h1,h2⟩<;>grind
  rintro⟨p,hp,e⟩;obtain⟨i,hi,ak⟩:=dz hp;have af:U[i]?=some p:=ek
  exact⟨i,aaT s.pl U i p,by rw[aab,af,aO];rfl,ek⟩
 have J:∀b,Handed ι0 (ZO s.pl U 0 U) b->Owns B s.pl b:=λb g=>by obtain⟨p,hp,e⟩:=(hM b).1 g;obtain⟨x,e1,R⟩:=hU.2 p hp;exact⟨p,x,e1,R,e⟩
 have ac:=h w (F.ok B s.pl w) ι0 (args.toList.map a.eval) (λb g=>⟨g.2.1,λhh=>g.2.2 (J b hh)⟩) ⟨λb g=>(hr.mine b (J b g)).2,hr.glb⟩
  (λi x T=>by
   obtain⟨p,e1,R,e3⟩:=l i x T;subst R;obtain⟨_,_,g1,g2⟩:=afE hr ad aa e1 e3
   grind)
  (λi j x y b T hy ag g hj=>by
   obtain⟨p,e1,_,_⟩:=l i x T;obtain⟨q,R,_,_⟩:=l j y hy;rw[aa i p e1]at g;rw[aa j q R]at hj;obtain⟨x',e3,e4⟩:=hU.2 p (bA e1);obtain⟨y',e5,e6⟩:=hU.2 q (bA R);refine hr.inj p q x' y' b e3 e5 (λe=>ag ?_) e4 g hj
   grind[List.getElem_inj])
  ai
 intro next Q hn;unfold ei;have ae:(aF a.eval o).run P w=.ok (.enter f (args.toList.map a.eval).toArray) w:=by grind[aF,bD,cI,Act.eval,bJ,Z8,agh]
 rw[ae,ee];refine ac.mono ?_;rintro e w' ⟨v,r,rfl,hk,ab,hg⟩;cases I:Ky U (QL o.dst U) r
 .have hk:cond (Ky U (QL o.dst U) r) (K (agJ s U (QL o.dst U) o.dst r)) False:=hk;rw[I]at hk;exact hk.elim
 have hk:cond (Ky U (QL o.dst U) r) (K (agJ s U (QL o.dst U) o.dst r)) False:=hk;rw[I]at hk;have ah:∀i,F.h (QL o.dst U+i)=none:=λi=>hr.h_big (bX (aCO o.dst U) (Nat.le_add_right _ _))
 rw[afF]at ab;obtain⟨ι',hrel⟩:=ahL hr hd hU.2 ah hM (h0:=λ_=>none) ab hg I;exact hn ι' _ _ _ hrel hk
def Cop(P:Program)(o:Oper)(x):=∃b,WT P b o.op o.type=some x
theorem anQ(hr:Rel F N B s a w)(l:∀k,o.dst=some k->k<N){x}(J:Cop P o x)(h:yg P o.dst x s K):qz P F N o a w K:=by
 obtain⟨b,g⟩:=J;cases b
 .exact aes hr l g h
 simp only[WT,aM]at g;unfold aBK at g;split at g
 .grind[y7,ayq]
 .grind[auQ]
 .rename_i t x T R r;split at g
  .rename_i e I;obtain⟨p,rfl⟩:=y7 g;obtain⟨i,j⟩:=Qw p;exact(aAY hr l r I j h).fine trivial
  grind[aes]
 grind[aes]
end
theorem Act.put_same{a:Act}{d:Nat}{x}(h:a.tmps[d]?=some x):a.put (some d) x=a:=by
 cases a with
 |mk tmps defers=>
  simp only[Act.put]at h⊢;congr 1
  grind
section
variable {P:Program}{F:Fr}{N:Nat}{B:Nat->Gh}{s:S}{a:Act}{w:World}{K:S->Prop}
theorem Rel.drop(hr:Rel F N B s a w)(l):Rel F N B (s.drop l) a w:=
 hr.sub _ (λ_ _ h=>(KG _ _ _ _ h).1) (λ_ _ h=>h)
theorem Rel.norm(hr:Rel F N B s a w)(g):Rel F N B (s.norm g) a w:=
 hr.sub _ (λ_ _ h=>(KG _ _ _ _ h).1) (λ_ _ h=>(KG _ _ _ _ h).1)
theorem Rel.look(hr:Rel F N B s a w){d}{v}(h:s.tmp d=v)(i:v≠awU):∃x,a.tmps[d]?=some x/\VR B w (F.ok B s.pl w) v x:=by
 unfold S.tmp at h;split at h
 .rename_i v' g;subst h;exact hr.slots d _ g
 grind
theorem anJ(hr:Rel F N B s a w){d}{b}(h:s.tmp d=yf b):a.tmps[d]?=some (.bool b):=by obtain⟨x,g,i⟩:=hr.look h (by intro h;cases h);rw[g];exact bZ some i.1
theorem ahF{v}{b}(h:xe v=some b):v=yf b:=by
 unfold xe at h;split at h
 .cases h;rfl
 cases h
theorem QC(hr:Rel F N B s a w){dst}(l:∀k,dst=some k->k<N){g}(h:split g dst s K):∃j,Rel F N B j a w/\K j:=by
 unfold split at h;cases g with
 |false=>grind
 |true=>
  simp only[aM]at h;cases dst with
  |none=>grind
  |some d=>
   simp only at h;cases i:xe (s.tmp d)with
   |none=>grind
   |some b=>
    rw[i]at h;have i:=ahF i;have p:=anJ hr i;have o:=hr.put (some d) l (yf b) (.bool b) ⟨rfl,rfl⟩
    grind[Act.put_same]
theorem azq{o:Oper}(h:aqk N o.dst=true):∀k,o.dst=some k->k<N:=by intro k hk;rw[hk]at h;exact aR h
theorem ayM{ops:aD Oper}{j d:Nat}(h:aqj ops.toList j=some d)(tmps:aD Value):yielded ops tmps j=match tmps[d]? with|some (.bool b)=>some b|_=>none:=by grind[aqj,yielded]
theorem adu(hr:Rel F N B s a w){ops}{o}{x}{g}(p:Y9 ops.toList o.guard=some g)
 {r}{drop}{rest}(h:yp P (.mk o.dst g r x drop::rest) s K):
 (co o (yielded ops a.tmps)=true/\yg P o.dst x s λs1=>split r o.dst s1 λs2=>yp P rest (s2.drop drop) K)\/
 (co o (yielded ops a.tmps)=false/\yp P rest ((s.put o.dst wQ).drop drop) K):=by
 cases i:o.guard with
 |none=>
  grind[Y9,yp,xY,co]
 |some jw=>
  obtain⟨j,I⟩:=jw;rw[i]at p;simp only[Y9]at p;cases l:aqj ops.toList j with
  |none=>grind
  |some d=>
   rw[l]at p;simp only[cF]at p;subst p;have J:=ayM l a.tmps;simp only[yp]at h;split at h
   .rename_i b R;have T:=anJ hr R;rw[T]at J;simp only at J
    cases b<;>cases I<;>simp only[Bool.not_true,Bool.not_false,aM,bW,xY]at h<;>
     first
      |exact .inl ⟨by simp[co,i,J],h⟩
      |exact .inr ⟨by simp[co,i,J],h⟩
   .rename_i R;obtain⟨v,h1,U⟩:=hr.look R (by intro h;cases h);obtain⟨vs,h3,h4⟩:=U<;>grind[xY,co]
   grind
theorem ahZ(B:Nat->Gh)(w)(ok:Nat->Prop):VR B w ok wQ undef:=⟨[],rfl,trivial⟩
theorem aqY{ops}{hs gs}{Q:Exit->Act->World->Prop}(hQ:∀B s a w,Rel F N B s a w->K s->Q .normal a w):
 ∀(l) (xs:am AI),Qa P N hs ops.toList gs l=some (xs.map AI.erase)->∀(B:Nat->Gh) (s:S) (a:Act) (w:World),Rel F N B s a w->yp P xs s K->wpOps P ops Q l a w:=by
 intro l;induction l with
 |nil=>
  intro xs j B s a w hr h;cases xs with
  |nil=>exact hQ B s a w hr h
  |cons x r=>grind[Qa]
 |cons i l ih=>
  intro xs j B s a w hr h;simp only[Qa]at j;split at j
  case h_2=>cases j
  rename_i o ho;have T:ops[i]?=some o:=ek
  cases hd:aqk N o.dst with
  |false=>grind
  |true=>
   rw[hd]at j;simp only[aM]at j;split at j
   case h_2=>cases j
   rename_i x g ys ab hg I;cases xs with
   |nil=>grind
   |cons y rest=>
    cases y with
    |mk d1 g1 ac ad drop=>
     simp only[cF,aV,AI.erase,List.cons.injEq,AI.mk.injEq,and_true]at j;obtain⟨⟨rfl,rfl,rfl,rfl⟩,rfl⟩:=j;have p:=azq hd;simp only[wpOps,T];rcases adu hr hg h with⟨hw,J⟩|⟨hw,J⟩
     .rw[bU hw];refine .inl (anQ hr p ⟨_,ab⟩ J _ _ λι1 s1 a1 w1 U hk=>?_);obtain⟨s2,aa,R⟩:=QC U p hk;exact ih rest I ι1 _ a1 w1 (aa.drop drop) R
     rw[bF ek];exact ih rest I B _ _ w ((hr.put o.dst p wQ undef (ahZ _ _ _)).drop drop) J
theorem Jf(n):∀i,yj i n=List.range' i n:=by induction n<;>grind[yj,List.range'_succ]
end
theorem ayL{P}{Q:Exit->Act->World->Prop}{a}{w}{c}{σ:Type}(I:σ->Act->World->Prop)(μ:σ->Nat)(x₀)(h₀:I x₀ a w)
 (round:∀x a w,I x a w->c.wp P (Exit.then (λo w'=>∃U,I U o w'/\μ U<μ x) Q) a w):(Code.loop c).wp P Q a w:=by
 intro b k cs
 have key:∀n x a w,μ x=n->I x a w->
  ∃e o w',Q e o w'/\Arrives P (lone (b.at a (.code c:: .inLoop c::k)) cs w) b k cs e o w':=by
  intro n;induction n using Nat.strongRecOn with
  |_ n ih=>
   intro x a w hn hI;obtain⟨e,p,r,i,g⟩:=round x a w hI b (.inLoop c::k) cs;cases e with
   |normal=>
    obtain⟨x₁,J,R⟩:=i;obtain⟨e₂,a₂,w₂,T,j⟩:=ih (μ x₁) (hn▸R) x₁ p r rfl J;exact⟨e₂,a₂,w₂,T,.of_steps (Steps.trans g (.one step_inLoop)) j⟩
   |exit id=>exact⟨_,p,r,i,.pass (x:=.inLoop c) rfl (λ_ _=>.inl ep) g⟩
   |goto l=>exact⟨_,p,r,i,.pass (x:=.inLoop c) rfl (λ_ _=>.inl ep) g⟩
   |ret=>exact⟨_,p,r,i,.pass (x:=.inLoop c) rfl (λ_ _=>.inl ep) g⟩
   |panic ch=>exact⟨_,p,r,i,.pass (x:=.inLoop c) rfl (λ_ _=>.inl ep) g⟩
   |outgrown=>exact⟨_,p,r,i,.pass (x:=.inLoop c) rfl (λ_ _=>.inl ep) g⟩
 obtain⟨e,o,w',i,g⟩:=key _ x₀ a w rfl h₀;exact⟨e,o,w',i,.of_steps (.one step_loop) g⟩
section
variable {P:Program}{F:Fr}{N:Nat}
def Vis(F)(N)(K:S->Prop)(a)(w):=∃B s,Rel F N B s a w/\K s
def up(F:Fr)(N:Nat)(Q:E->S->Prop):Exit->Act->World->Prop
 |.normal=>Vis F N (Q .normal)
 |.exit i=>Vis F N (Q (.exit i))
 |.ret=>Vis F N (Q .ret)
 |_=>λ_ _=>False
end
end Go.AM
