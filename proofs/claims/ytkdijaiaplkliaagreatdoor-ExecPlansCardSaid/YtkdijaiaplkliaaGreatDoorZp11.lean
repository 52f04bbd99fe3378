import Derived.Shelf.SlSortCmp.Whole1
import Derived.Shelf.Small.Wraps
import Derived.Shelf.Sort.Plain
import Derived.Shelf.SlGeneric
import Derived.Ground.SlsfProg
import Derived.Ground.NamesProg
import Derived.Test.YtkdijaiaplkliaaGreatDoorProg
import Derived.Deep.RegionHeld3
import Derived.Shelf.SlSortCmp.NoneTotal
import Derived.Shelf.Slices.In.SortNone
import Derived.Lib.QuoteLoop
import Derived.Lib.ItoaNum
import Derived.Test.YtkdijaiaplkliaaGreatDoorZp10
set_option linter.unusedSimpArgs false
set_option linter.unusedVariables false
set_option maxRecDepth 100000
set_option maxHeartbeats 4000000
open _root_ renaming List->am,cond_false->aA,cond_true->aB,congrArg->aD,decide_eq_false->aJ,of_decide_eq_true->aL,if_neg->aO,Option->aP,of_decide_eq_false->bA,if_pos->bG,Array->bV,decide_eq_false_iff_not->bY,decide_eq_true_eq->cd,decide_eq_true->cz,Inhabited->cR,or_false->cY
open Go.AM.Sat renaming w->aC,mono->bC
open Go.IntKind renaming i64->aE,wrap_i64->cL
open Nat renaming zero_le->aF,le_refl->aY,le_of_ble_eq_true->bU,le_trans->cM,add_zero->cP,lt_or_ge->dd,mul_one->dn,strongRecOn->du
open List renaming getElem_mem->aG,take->aH,mem_singleton->aK,mem_cons->aM,length_append->aQ,drop_eq_nil_of_le->aR,replicate->aT,append_assoc->aW,map_cons->aX,take_of_length_le->aZ,nil_append->bB,sizeOf_lt_of_mem->bD,take_append_drop->bE,cons_append->bF,eq_nil_of_length_eq_zero->bI,pairwise_cons->bL,mem_append->bM,filter_cons->bQ,filter_eq_nil_iff->bS,pairwise_iff_getElem->bW,map_congr_left->bX,append_nil->bZ,flatMap_cons->cg,drop_drop->cj,not_mem_nil->ck,drop_length->cm,length_map->cq,map_append->cr,foldl_cons->cw,getElem_of_mem->cA,mem_map->cB,filter_append->cD,take_length->cK,filter_eq_self->c6,mem_cons_self->c8,pairwise_map->c9,getD->dg,mem_flatMap->dh,length_cons->di,length_drop->dl,length_take->dm,length_nil->dt
open Go renaming IntKind->aI,World->aV
open And renaming intro->aN
open Go.Utf8 renaming decode->aS
open Option renaming map_eq_some_iff->aU
open Bool renaming or_eq_false_iff->bH,and_eq_true->bK,false_or->bO,true_and->bT,or_eq_true->b9,false_and->cC,not_true->cG,and_eq_false_iff->cS,and_true->c7
open Int renaming le_refl->bJ,ofNat->cJ
open List.cons renaming injEq->bN
open UInt8 renaming toNat_lt->bP,ofNat->dq
open Go.World renaming shape?->bR,cell?->cT
open List.Pairwise renaming nil->cE
open Go.Lib renaming cell_of_heap->cH,compareInt->dw
open Exists renaming intro->cN
open Eq renaming trans->cU
open Go.Value renaming int->cX
open Go.Shelf renaming Ren->de
open Go.AM.Za renaming trans->df
open Go.Proofs.YtkdijaiaplkliaaGreatDoor.Ex renaming tyE->dj,meas->dv
open Option.some renaming inj->dr
namespace Go.Proofs.YtkdijaiaplkliaaGreatDoor
open Go Go.AM
section
attribute [local irreducible] Sat zA zX
theorem axK{s:S}(ac:am Col)(P:am (am Val))(bc:am Col)(br:am (am Val))(cols:am Col)(g p:Int)(left o:am Int)(F:ByteArray->am Int)(m0:Bkt)
 (ae:P.length<=20000) (af:br.length<=1000000) (ag:left.length<=100000) (ah:o.length<=100000) (hm:Bk F m0) (hF:∀k,(F k).length<=1000000/\∀i∈F k,0<=i/\i<br.length)
 (hx:∀x∈P,x.length<=100000/\zS x.length left/\(0<=g/\g<x.length)/\∀v∈x,VS v/\v.n<9223372036854775807) (hy:∀y∈br,zS y.length o/\(0<=p/\p<y.length))
 (h0:y8 s [3,5,6,8,9,10,11,12,13,50] (· =mjS ac P bc br cols g p left o m0 [])):
 zX (mwpR Pg T8.f (yU.l 0)) [3,5,6,8,9,10,11,12,13,50] (ZF 0 (Wz (mwpR Pg T8.f mjRest) (ZZ yU.A.res [] (DQ ⟨.w (Tbl.w ⟨cols,P.map λx=>x++ZK left o g p br (λk=>YB br p (F k)) x⟩),[]⟩)))) s:=by
 have R:∀l,(YB br p l).length<=l.length/\∀i∈YB br p l,i∈l:=λl=>by unfold YB;have hp:=jH (JL br p) (l.filter λi=>!((nV br p i).k==0));exact⟨by rw[hp.length_eq];grind,λi hi=>(List.mem_filter.1 (hp.mem_iff.1 hi)).1⟩
 refine aCm ac P bc br cols g p left o m0 hm.1 (λx hx=>by rw[(hm.2.1 x hx).1];grind) (λr hr=>(hy r hr).2) h0 (λm seen hM J=>?_);clear h0;have aa:∀x∈m,x.2=YB br p (F x.1):=λx hx=>by
  obtain⟨j,hj⟩:=List.mem_iff_getElem?.1 hx;have I:j<m0.length:=by rw[<-hM.len];grind
  have h1:=hM.vs j x m0[j] hj (am.getElem?_eq_getElem I);rw[bG (J j I)]at h1;have h2:x.1=m0[j].1:=by
   have a1:(m.map (·.1))[j]?=some x.1:=d9
   rw[hM.ks,am.getElem?_map,am.getElem?_eq_getElem I]at a1
   grind
  rw[h1,h2,(hm.2.1 _ (aG I)).1]
 have ab:∀k,YB br p (F k)≠ []->∃x∈m,x.1=k:=λk hk=>by
  have ai:F k≠ []:=λe=>hk (by rw[e];rfl)
  obtain⟨x,hx,e⟩:=hm.2.2 k ai;have:k∈m.map (·.1):=by rw[hM.ks];grind
  grind
 have ad:=λ(Q:E->S->Prop) (s:S)=>aCn (Q:=Q) (s:=s) bc br cols g p left o m P (λk=>YB br p (F k)) ae af ag ah (by rw[hM.ks];exact hm.1) aa ab (λk=>⟨cM (R _).1 (hF k).1,λi hi=>(hF k).2 i ((R _).2 i hi)⟩) hx hy
 have hD:=am9 m;clear aa ab R hM J hm hF hx hy;unfold xM mjS
 conv=>whnf
 rw[zy];refine ad _ _ ⟨_,(uG 16 1 127 1 d8 d8 rfl).trans (Qu 13 (.root 50) (bkD m) _ rfl (by show(match AM.T.toD (.mpi false (Zc m) (Q4 m) seen)with|some x=>_|none=>_)=_;simp only[AM.T.toD,hD];rfl)),?_⟩ ?_
 .exact rfl
 have hR:∀U:am (am Val),(zg U).take U.length=zg U:=λU=>by grind[zy]
 generalize(P.map λx=>x++ZK left o g p br (λk=>YB br p (F k)) x)=U at*;unfold xM Ud;(conv=>whnf);refine⟨rfl,?_⟩;show Res.mk (.w (.agg [.d (.sl (zl cols)),.d (.sl ((zg U).take U.length))])) []=_;rw[hR];rfl
theorem ajZ(st:Stp)(a b:Tbl)(cols:am Col)(ah:st.cols.length<=100000)(J:a.rows.length<=20000)(l:b.rows.length<=1000000)(P:b.cols.length<=1000000)(U:(oth (st.cols++[sFrom]) 0 b.cols).length<=100000)
 (hx:∀x∈a.rows,x.length<=100000/\zS x.length (zi a.cols st.cols)/\(0<=zf a.cols sFrom/\zf a.cols sFrom<x.length)/\∀v∈x,VS v/\v.n<9223372036854775807)
 (p:∀y∈b.rows,zS y.length (zi b.cols st.cols)/\zS y.length (oth (st.cols++[sFrom]) 0 b.cols)/\(0<=zf b.cols sFrom/\zf b.cols sFrom<y.length)/\∀v∈y,VS v):
 Sat Pg QH [st.w,a.w,b.w,.c (.d (.sl (zl cols)))]
  (λr=>r=⟨.w (Tbl.w ⟨cols,a.rows.map λx=>x++ZK (zi a.cols st.cols) (oth (st.cols++[sFrom]) 0 b.cols) (zf a.cols sFrom) (zf b.cols sFrom) b.rows (λk=>YB b.rows (zf b.cols sFrom) (uw (zi b.cols st.cols) k 0 b.rows)) x⟩),[]⟩):=by
 obtain⟨o,ar⟩:=a;obtain⟨j,br⟩:=b;obtain⟨op,⟨eo,nm,⟨vk,vn,vs⟩,av⟩,an,g,aq,ao,n,ay⟩:=st;rw[uB];simp only at ah J l P U hx p⊢;have ak:=xC o (.d (.sl (zg ar))) sFrom ⟨_,rfl⟩;have al:=xC j (.d (.sl (zg br))) sFrom ⟨_,rfl⟩;have ai:=uD o (.sl (zg ar)) g d8;have aj:=uD j (.sl (zg br)) g d8;have ab:=ad8 j (.sl (zg br)) (g++[sFrom]) P;have af:=uy g d8;have ad:dY kZ [Tbl.w ⟨j,br⟩,.c (.d (.sl (aH ((zp g).length+(aH 1 (zp [sFrom])).length) (aH (zp g).length (zp g)++aH 1 (zp [sFrom])))))] (rC (.d (.sl (zh (oth (g++[sFrom]) 0 j))))):=by
  rw[show aH ((zp g).length+(aH 1 (zp [sFrom])).length) (aH (zp g).length (zp g)++aH 1 (zp [sFrom]))=zp (g++[sFrom])by grind[zp]]
  exact ab
 have aw:(zi o g).length=g.length:=by simp[zi]
 have ax:(zi j g).length=g.length:=by simp[zi]
 have R:=afR j br (zi j g) l d8 (λr hr=>(p r hr).1) (λr hr=>(p r hr).2.2.2);generalize zi o g=left at*;generalize zi j g=right at*;generalize zf o sFrom=ae at*;generalize zf j sFrom=th at*;obtain⟨F,hF⟩:∃F:ByteArray->am Int,F= λk=>uw right k 0 br:=⟨_,rfl⟩
 have I:∀k,(F k).length<=1000000/\∀i∈F k,0<=i/\i<br.length:=λk=>by rw[hF];refine⟨cM (ahq right k 0 br) l,λn hn=>?_⟩;have:=anb right k 0 br n hn;omega
 rw[show(λk=>YB br th (uw right k 0 br))= λk=>YB br th (F k)by rw[hF]];rw[<-hF]at R;clear hF;have ag:=λ(s:S) (m:Bkt) (hm:Bk F m)=>axK (s:=s) o ar j br cols ae th left (oth (g++[sFrom]) 0 j) F m J l d8 U hm I (λx h=>hx x h) (λy h=>⟨(p y h).2.1,(p y h).2.2.1⟩)
 generalize oth (g++[sFrom]) 0 j=au at*;clear hx p I;refine zC ?_;refine yU.s T8 ?_;refine aC ak ?_;refine aC al ?_
 repeat' (first
  |(refine bC ai ?_;rintro _ rfl;conv=>whnf)
  |(refine bC aj ?_;rintro _ rfl;conv=>whnf)
  |(refine bC af ?_;rintro _ (⟨aa,rfl⟩|rfl)<;>conv=>whnf)
  |(refine⟨dT,by unfold yz;simp only[zP];simp;omega,by simp only[zP];simp;omega,?_⟩;conv=>whnf)
  |(refine⟨dT,by unfold yz;simp,dT,?_⟩;conv=>whnf)
  |(refine bC ad ?_;rintro _ rfl;conv=>whnf)
  |(subst aa;refine bC ab ?_;rintro _ rfl;conv=>whnf)
  |(refine bC R ?_;rintro _ ⟨m,hm,rfl⟩;conv=>whnf)
  |(refine aN ?_ ?_<;>conv=>whnf))
 all_goals refine ag _ m hm ⟨_,azb [.tmp 6,.tmp 10] rfl,?_⟩
 all_goals conv=>whnf
 all_goals rfl
end
section
open Go Go.AM Go.Sort Go.Shelf
def aAW{X:Type}(P:Program)(g:FuncId)(i:am (am D))(δ:X->D)(j:X->X->Int):Prop:=
 ∀(x y:X) (W:aV) (A:Nat->Prop) (u v:Value) (vs:am Value),(∀b,A b->b<W.heap.size)->RD W A (δ x) u->RD W A (δ y) v->RDf W A vs i->
  Calls P g (#[u,v]++vs.toArray) W λe w'=>e=.returned (.int .i64 (j x y))/\∃q os,w'=grow (W.drewN q) os
section
variable {P:Program}{ρ:Ren}{X:Type}
abbrev KJ(w:aV)(A:Nat->Prop)(δ:X->D):={p:Value×X //RD w A (δ p.2) p.1}
theorem aqX{w:aV}{A:Nat->Prop}{δ:X->D}{b:Nat}:∀(xs:am X) (o:Nat),RDs w A b 1 o (xs.map λx=> [δ x])->∃g:am (KJ w A δ),g.map (λp=>p.1.2)=xs/\∀j p,g[j]?=some p->w.cell? ⟨b,o+j,none⟩=some p.1.1
 |[],_,_=>⟨[],rfl,λj p h=>by simp at h⟩
 |x::r,o,h=>by
  simp only[aX,RDs,RDc]at h;obtain⟨_,⟨⟨v,P,i⟩,_⟩,l⟩:=h;obtain⟨g,I,J⟩:=aqX r (o+1) l;refine⟨⟨(v,x),i⟩::g,by simp[I],λj p R=>?_⟩;cases j with
  |zero=>grind
  |succ j=>
   have:=J j p d9;rw[<-this];congr 2;omega
theorem arA{w:aV}{ok:Nat->Prop}{δ:X->D}{b:Nat}:∀(xs:am X) (o:Nat),(∀j x,xs[j]?=some x->∃v,w.cell? ⟨b,o+j,none⟩=some v/\RD w ok (δ x) v)->RDs w ok b 1 o (xs.map λx=> [δ x])
 |[],_,_=>by grind[RDs]
 |x::r,o,h=>by
  simp only[aX,RDs,RDc];refine⟨rfl,⟨?_,trivial⟩,arA r (o+1) λj x l=>?_⟩
  .exact h 0 x rfl
  obtain⟨v,g,i⟩:=h (j+1) x d9;exact⟨v,by rw[<-g];congr 2;omega,i⟩
theorem Y2{α:Type} [cR α](enc:α->Value)(w:aV)(g m:Nat)(j:bV α)(os:bV Obj){b:Nat}(l:b<w.heap.size)(i:b≠g):(sortWorld enc w g 0 m j os).heap[b]?=w.heap[b]? :=by unfold sortWorld;rw[heap_grow_old _ _ dW];simp only[putRow,mapBlock,heap_ahead];rw[bV.getElem?_modify,aO (Ne.symm i)]
theorem Y3{α:Type} [cR α](enc:α->Value)(w:aV)(g m:Nat)(i:bV α)(os:bV Obj){c:bV Value}{e:TypeId}{j:Nat×Nat}(l:w.heap[g]?=some (.cells c e j)):
 (sortWorld enc w g 0 m i os).heap[g]?=some (.cells (putCells enc 0 i c) e j):=by have o:g<w.heap.size:=(bV.getElem?_eq_some_iff.1 l).1;unfold sortWorld;rw[heap_grow_old _ _ dW];simp only[putRow,mapBlock,heap_ahead];rw[bV.getElem?_modify,bG rfl,l];rfl
theorem Xg{α:Type} [cR α](enc:α->Value)(g:bV α)(c:bV Value):(putCells enc 0 g c).size=c.size:=by simp[putCells]
theorem acj{α:Type} [cR α](enc:α->Value)(g:bV α)(c:bV Value){j:Nat}(l:j<g.size)(i:j<c.size):(putCells enc 0 g c)[j]?=some (enc g[j]!):=by grind[putCells]
theorem apd(L:SlLaysF.n6 P ρ)(ai:xZ P (ρ.f 6)=true)(δ:X->D)(cf:X->X->Int)(hO:SWO (λx y=>decide (cf x y<0)))(g:FuncId)
 (R:am (am D)) (a5:xZ P g=true) (hc:aAW P g R δ cf) (xs:am X) (ba:xs≠ []) (bf:xs.length<4611686018427387904):
 zA P (ρ.f 6) [.c (.own 0 1 xs.length),.c (.d (.fn g R))] [.arr 1 (xs.map λx=> [δ x]) false]
  (λr=>∃ys:am X,ys.Perm xs/\ys.Pairwise (λa b=>¬cf b a<0)/\r=⟨.tup [],[.arr 1 (ys.map λx=> [δ x]) false]⟩):=by
 refine⟨ai,λw A ι vals hA hH hP be hW=>?_⟩;obtain⟨⟨_,hn,a0⟩,_⟩:=hP 0 _ rfl;rw[cq]at hn;rcases a0 with⟨_,h0⟩|⟨b,hb,az,_,ao⟩
 .simp_all
 obtain⟨bg,⟨te,U⟩,ad⟩:=ao rfl;rw[cq,dn]at ad;have af:Go.AM.Handed ι [.arr 1 (xs.map λx=> [δ x]) false] b:=⟨0,_,rfl,hb⟩;have a4:b<w.heap.size:=hH.1 b af;have ah:∀l,A l->l≠b:=λl h e=>(hA l h).2 (e▸af)
 match vals,hW with
 |[],hW=>exact hW.elim
 |[_],hW=>exact hW.2.elim
 |_::_::_::_,hW=>exact hW.2.2.elim
 |[v1,v2],hW=>
 obtain⟨au,av,_⟩:=hW;have av:∃vs:am Value,v2=.func (.func g) #[] vs.toArray/\RDf w A vs R:=by have:RD w A (.fn g R) v2:=av<;>grind[RD]
 obtain⟨vs,rfl,bd⟩:=av;have au:∃cap,v1=.slice (some ⟨b,0,none⟩) xs.length cap:=by
  rcases au with⟨h,_⟩|⟨l,cap,t,h1,h2,h3,_⟩
  .grind
  grind
 obtain⟨cap,rfl⟩:=au;obtain⟨ds,a6,a2⟩:=aqX xs 0 az;have ax:ds.length=xs.length:=d9
 obtain⟨d0,bh⟩:∃d0,d0∈ds:=List.exists_mem_of_ne_nil ds (λe=>ba d9);have:cR (KJ w A δ):=⟨d0⟩;have ay:OneCell (λp:KJ w A δ=>p.1.1):=λp=>CR.one (ι:=ι) (w:=w) (ok:=A) (c:=.d (δ p.1.2)) p.2 rfl
 have aw:SWO (ltOf λx y:KJ w A δ=>cf x.1.2 y.1.2):=⟨λx=>hO.irrefl _,λx y z=>hO.trans _ _ _,λx y z=>hO.ntrans _ _ _⟩;have ag:Holds (λp:KJ w A δ=>p.1.1) w b 0 ds.toArray:=by
  intro j hj;have aj:j<ds.length:=d9
  constructor
  .grind
  simp only[aV.frozen?,U];simp
 have an:CmpLays1 P g vs.toArray (λp:KJ w A δ=>p.1.1) (λx y=>cf x.1.2 y.1.2) b 0 ds.toArray.size w:=by
  intro m os dk bi x y;have hk:zR w (sortWorld (λp:KJ w A δ=>p.1.1) w b 0 m dk os) A A:=λl h=>⟨h,Y2 _ w b m dk os (hA l h).1 (ah l h)⟩
  have bc:∀l,A l->l<(sortWorld (λp:KJ w A δ=>p.1.1) w b 0 m dk os).heap.size:=λl h=>by grind[sortWorld,size_grow,size_putRow,heap_ahead]
  exact hc x.1.2 y.1.2 (sortWorld (λp:KJ w A δ=>p.1.1) w b 0 m dk os) A x.1.1 y.1.1 vs bc (RD.keep hk _ _ x.2) (RD.keep hk _ _ y.2) (RDf.keep hk _ _ bd)
 have eg:∀args w,(callFunc g args).run P w=.ok (.enter g args) w:=λargs w=>Zo a5 args w
 have ac:=Any.slices_SortFunc L (λp:KJ w A δ=>p.1.1) ay (λx y=>cf x.1.2 y.1.2) aw g vs.toArray b 0 cap ds.toArray w eg an ag a4 d9;rw[show ds.toArray.size=xs.length by grind]at ac;refine ac.mono ?_;rintro e w' ⟨rfl,o,n,os,aq,ar,rfl⟩;obtain⟨p1,_,p3⟩:=aq;have aa:o.size=xs.length:=by rw[p1];simp[ax]
 have a1:(o.toList.map λp=>p.1.2).length=xs.length:=by simp[aa]
 refine⟨_,_,rfl,⟨o.toList.map λp=>p.1.2,?_,?_,rfl⟩,⟨aY _,ι,?_,?_,?_,?_,?_,?_⟩,?_⟩
 .have:o.toList.Perm ds:=by
   have e1:o.extract 0 xs.length=o:=by rw[<-aa];simp
   have e2:ds.toArray.extract 0 xs.length=ds.toArray:=by rw[<-ax];simp
   rw[e1,e2]at p3;exact p3
  rw[<-a6];exact this.map _
 .rw[c9,bW];intro i j hi hj a8;have a7:i<o.size:=by simpa using hi
  have aj:j<o.size:=by simpa using hj
  have:=ar i j (aF _) a8 (by rw[<-aa];exact aj);rw[getElem!_pos o j aj,getElem!_pos o i a7]at this;simpa[ltOf]using this
 .exact⟨[],rfl,trivial⟩
 .intro p x hp;have hp:aget [(0,Pl.arr 1 ((o.toList.map λp=>p.1.2).map λx=> [δ x]) false)] p=some x:=hp;obtain⟨rfl,rfl⟩:=zD hp;have ae:=Y3 (λp:KJ w A δ=>p.1.1) w b n o os U;have al:zR w (sortWorld (λp:KJ w A δ=>p.1.1) w b 0 n o os) A (Fr.ok ⟨w,A,Go.AM.Handed ι [.arr 1 (xs.map λx=> [δ x]) false],λ_=>none⟩ ι (yR (zY 0 1) [Pl.arr 1 ((o.toList.map λp=>p.1.2).map λx=> [δ x]) false]) (sortWorld (λp:KJ w A δ=>p.1.1) w b 0 n o os)):=by
   intro l h;refine⟨⟨.inl h,?_,?_⟩,Y2 _ w b n o os (hA l h).1 (ah l h)⟩
   .have:=(hA l h).1;unfold sortWorld;rw[size_grow,size_putRow,heap_ahead];omega
   rintro⟨p,x,J,_,I⟩;have J:aget [(0,Pl.arr 1 ((o.toList.map λp=>p.1.2).map λx=> [δ x]) false)] p=some x:=J;obtain⟨rfl,rfl⟩:=zD J;have I:(ι 0).b=some l:=I;rw[hb]at I;exact ah l h (dr I).symm
  refine⟨Nat.one_pos,by rw[cq,a1,hn],.inr ⟨b,hb,?_,(λh=>by cases h),λ_=>⟨_,⟨te,ae⟩,by rw[Xg,cq,a1,dn];exact ad⟩⟩⟩;refine arA _ 0 λj x hj=>?_
  rw[am.getElem?_map]at hj;cases ab:o.toList[j]? with
  |none=>rw[ab]at hj;cases hj
  |some q=>
   rw[ab]at hj;cases hj;have ak:j<o.size:=by have:=(am.getElem?_eq_some_iff.1 ab).1;simpa using this
   refine⟨q.1.1,?_,RD.keep al _ _ q.2⟩;simp only[cT,ae];rw[Nat.zero_add,acj _ _ _ ak d8,getElem!_pos o j ak];rw[bV.getElem?_toList,bV.getElem?_eq_getElem ak]at ab;simp[dr ab]
 .intro p q x y l J hy bb;have J:aget [(0,Pl.arr 1 ((o.toList.map λp=>p.1.2).map λx=> [δ x]) false)] p=some x:=J;have hy:aget [(0,Pl.arr 1 ((o.toList.map λp=>p.1.2).map λx=> [δ x]) false)] q=some y:=hy;obtain⟨rfl,_⟩:=zD J;obtain⟨rfl,_⟩:=zD hy;exact absurd rfl bb
 .intro p x l J I;have J:aget [(0,Pl.arr 1 ((o.toList.map λp=>p.1.2).map λx=> [δ x]) false)] p=some x:=J;obtain⟨rfl,rfl⟩:=zD J;have I:(ι 0).b=some l:=I;rw[hb]at I;cases I;exact .inl af
 .intro p x J;have J:aget [(0,Pl.arr 1 ((o.toList.map λp=>p.1.2).map λx=> [δ x]) false)] p=some x:=J;obtain⟨rfl,rfl⟩:=zD J;rfl
 .intro p x _ _;rfl
 refine⟨rfl,rfl,rfl,?_,λl a3 hm=>?_,λl t m hs=>?_⟩
 .unfold sortWorld;rw[size_grow,size_putRow,heap_ahead];omega
 .exact Y2 _ w b n o os a3 (λe=>hm (e▸af))
 by_cases e:l=b
 .subst e;simp only[bR,U]at hs;simp only[bR,Y3 (λp:KJ w A δ=>p.1.1) w l n o os U,Xg];exact hs
 have a9:l<w.heap.size:=by
  rcases dd l w.heap.size with h|h
  .exact h
  simp[bR,bV.getElem?_eq_none h]at hs
 simp only[bR,Y2 _ w b n o os a9 e];exact hs
end
end
end Go.Proofs.YtkdijaiaplkliaaGreatDoor
namespace Go.Proofs
section
open Go.Shelf
def Tryz.lays122_ren:de:=⟨fun|122=>100|215=>151|n=>n,fun|3=>3|4=>4|n=>n,fun|n=>n⟩
theorem Tryz.lays122:Go.Proofs.Lays.n122 Tryz.prog Tryz.lays122_ren:={
 mixed:=dU
 f122:=Tryz.func100.trans (aD some dU)
 f215:=Tryz.func151.trans (aD some dU)
 t3:=Tryz.underlying3
 a3:=Tryz.isAgg3
 z3:=Tryz.sizeOf3
 v3:=Tryz.zeroValue3
 t4:=Tryz.underlying4
 a4:=Tryz.isAgg4
 z4:=Tryz.sizeOf4
 v4:=Tryz.zeroValue4}
def Tryz.sortInts_ren:de:=⟨fun|6=>138|15=>178|14=>177|28=>215|29=>216|20=>186|21=>208|22=>209|23=>210|24=>211|25=>212|26=>213|27=>214|46=>232|47=>233|48=>234|49=>235|50=>236|57=>259|n=>n,fun|22=>149|24=>3|25=>171|3=>3|39=>228|0=>0|53=>288|55=>290|4=>4|46=>282|45=>281|50=>78|5=>5|9=>9|66=>302|70=>306|76=>323|77=>100|n=>n,fun|n=>n⟩
theorem Tryz.sortInts:Go.Proofs.SlLaysF.n6 Tryz.prog Tryz.sortInts_ren:={
 mixed:=dU
 f6:=⟨Tryz.f138.name,dV,Tryz.func138.trans (aD some dU)⟩
 f14:=⟨Tryz.f177.name,dV,Tryz.func177.trans (aD some dU)⟩
 f15:=Tryz.func178.trans (aD some dU)
 f20:=⟨Tryz.f186.name,dV,Tryz.func186.trans (aD some dU)⟩
 f21:=⟨Tryz.f208.name,dV,Tryz.func208.trans (aD some dU)⟩
 f22:=⟨Tryz.f209.name,dV,Tryz.func209.trans (aD some dU)⟩
 f23:=⟨Tryz.f210.name,dV,Tryz.func210.trans (aD some dU)⟩
 f24:=⟨Tryz.f211.name,dV,Tryz.func211.trans (aD some dU)⟩
 f25:=⟨Tryz.f212.name,dV,Tryz.func212.trans (aD some dU)⟩
 f26:=⟨Tryz.f213.name,dV,Tryz.func213.trans (aD some dU)⟩
 f27:=⟨Tryz.f214.name,dV,Tryz.func214.trans (aD some dU)⟩
 f28:=Tryz.func215.trans (aD some dU)
 f29:=Tryz.func216.trans (aD some dU)
 f46:=⟨Tryz.f232.name,dV,Tryz.func232.trans (aD some dU)⟩
 f47:=Tryz.func233.trans (aD some dU)
 f48:=Tryz.func234.trans (aD some dU)
 f49:=⟨Tryz.f235.name,dV,Tryz.func235.trans (aD some dU)⟩
 f50:=⟨Tryz.f236.name,dV,Tryz.func236.trans (aD some dU)⟩
 f57:=⟨Tryz.f259.name,dV,Tryz.func259.trans (aD some dU)⟩
 t0:=Tryz.underlying0
 a0:=Tryz.isAgg0
 z0:=Tryz.sizeOf0
 v0:=Tryz.zeroValue0
 t3:=Tryz.underlying3
 a3:=Tryz.isAgg3
 z3:=Tryz.sizeOf3
 v3:=Tryz.zeroValue3
 t4:=Tryz.underlying4
 a4:=Tryz.isAgg4
 z4:=Tryz.sizeOf4
 v4:=Tryz.zeroValue4
 t5:=Tryz.underlying5
 a5:=Tryz.isAgg5
 z5:=Tryz.sizeOf5
 v5:=Tryz.zeroValue5
 t9:=Tryz.underlying9
 a9:=Tryz.isAgg9
 z9:=Tryz.sizeOf9
 v9:=Tryz.zeroValue9
 t22:=Tryz.underlying149
 a22:=Tryz.isAgg149
 z22:=Tryz.sizeOf149
 v22:=Tryz.zeroValue149
 a24:=Tryz.isAgg3
 z24:=Tryz.sizeOf3
 t25:=Tryz.underlying171
 a25:=Tryz.isAgg171
 z25:=Tryz.sizeOf171
 v25:=Tryz.zeroValue171
 t39:=Tryz.underlying228
 a39:=Tryz.isAgg228
 z39:=Tryz.sizeOf228
 v39:=Tryz.zeroValue228
 t45:=Tryz.underlying281
 a45:=Tryz.isAgg281
 z45:=Tryz.sizeOf281
 v45:=Tryz.zeroValue281
 t46:=Tryz.underlying282
 a46:=Tryz.isAgg282
 z46:=Tryz.sizeOf282
 v46:=Tryz.zeroValue282
 t50:=Tryz.underlying78
 a50:=Tryz.isAgg78
 z50:=Tryz.sizeOf78
 v50:=Tryz.zeroValue78
 t53:=Tryz.underlying288
 a53:=Tryz.isAgg288
 z53:=Tryz.sizeOf288
 v53:=Tryz.zeroValue288
 t55:=Tryz.underlying290
 a55:=Tryz.isAgg290
 z55:=Tryz.sizeOf290
 v55:=Tryz.zeroValue290
 t66:=Tryz.underlying302
 a66:=Tryz.isAgg302
 z66:=Tryz.sizeOf302
 v66:=Tryz.zeroValue302
 t70:=Tryz.underlying306
 a70:=Tryz.isAgg306
 z70:=Tryz.sizeOf306
 v70:=Tryz.zeroValue306
 t76:=Tryz.underlying323
 a76:=Tryz.isAgg323
 z76:=Tryz.sizeOf323
 v76:=Tryz.zeroValue323
 t77:=Tryz.underlying100
 a77:=Tryz.isAgg100
 z77:=Tryz.sizeOf100
 v77:=Tryz.zeroValue100}
def Tryz.lays189_ren:de:=⟨fun|189=>184|125=>178|257=>221|128=>215|129=>216|294=>243|295=>244|296=>245|297=>246|298=>247|299=>248|216=>249|300=>250|301=>251|328=>269|329=>233|330=>234|331=>270|332=>271|215=>151|343=>282|n=>n,fun|28=>149|3=>3|46=>228|0=>0|51=>288|53=>290|4=>4|183=>282|182=>281|131=>78|5=>5|9=>9|218=>302|222=>306|228=>323|229=>100|n=>n,fun|n=>n⟩
theorem Tryz.lays189:Go.Proofs.Lays.n189 Tryz.prog Tryz.lays189_ren:={
 mixed:=dU
 f125:=Tryz.func178.trans (aD some dU)
 f128:=Tryz.func215.trans (aD some dU)
 f129:=Tryz.func216.trans (aD some dU)
 f189:=Tryz.func184.trans (aD some dU)
 f215:=Tryz.func151.trans (aD some dU)
 f216:=Tryz.func249.trans (aD some dU)
 f257:=Tryz.func221.trans (aD some dU)
 f294:=Tryz.func243.trans (aD some dU)
 f295:=Tryz.func244.trans (aD some dU)
 f296:=Tryz.func245.trans (aD some dU)
 f297:=Tryz.func246.trans (aD some dU)
 f298:=Tryz.func247.trans (aD some dU)
 f299:=Tryz.func248.trans (aD some dU)
 f300:=Tryz.func250.trans (aD some dU)
 f301:=Tryz.func251.trans (aD some dU)
 f328:=Tryz.func269.trans (aD some dU)
 f329:=Tryz.func233.trans (aD some dU)
 f330:=Tryz.func234.trans (aD some dU)
 f331:=Tryz.func270.trans (aD some dU)
 f332:=Tryz.func271.trans (aD some dU)
 f343:=Tryz.func282.trans (aD some dU)
 t0:=Tryz.underlying0
 a0:=Tryz.isAgg0
 z0:=Tryz.sizeOf0
 v0:=Tryz.zeroValue0
 t3:=Tryz.underlying3
 a3:=Tryz.isAgg3
 z3:=Tryz.sizeOf3
 v3:=Tryz.zeroValue3
 t4:=Tryz.underlying4
 a4:=Tryz.isAgg4
 z4:=Tryz.sizeOf4
 v4:=Tryz.zeroValue4
 t5:=Tryz.underlying5
 a5:=Tryz.isAgg5
 z5:=Tryz.sizeOf5
 v5:=Tryz.zeroValue5
 t9:=Tryz.underlying9
 a9:=Tryz.isAgg9
 z9:=Tryz.sizeOf9
 v9:=Tryz.zeroValue9
 t28:=Tryz.underlying149
 a28:=Tryz.isAgg149
 z28:=Tryz.sizeOf149
 v28:=Tryz.zeroValue149
 t46:=Tryz.underlying228
 a46:=Tryz.isAgg228
 z46:=Tryz.sizeOf228
 v46:=Tryz.zeroValue228
 t51:=Tryz.underlying288
 a51:=Tryz.isAgg288
 z51:=Tryz.sizeOf288
 v51:=Tryz.zeroValue288
 t53:=Tryz.underlying290
 a53:=Tryz.isAgg290
 z53:=Tryz.sizeOf290
 v53:=Tryz.zeroValue290
 t131:=Tryz.underlying78
 a131:=Tryz.isAgg78
 z131:=Tryz.sizeOf78
 v131:=Tryz.zeroValue78
 t182:=Tryz.underlying281
 a182:=Tryz.isAgg281
 z182:=Tryz.sizeOf281
 v182:=Tryz.zeroValue281
 t183:=Tryz.underlying282
 a183:=Tryz.isAgg282
 z183:=Tryz.sizeOf282
 v183:=Tryz.zeroValue282
 t218:=Tryz.underlying302
 a218:=Tryz.isAgg302
 z218:=Tryz.sizeOf302
 v218:=Tryz.zeroValue302
 t222:=Tryz.underlying306
 a222:=Tryz.isAgg306
 z222:=Tryz.sizeOf306
 v222:=Tryz.zeroValue306
 t228:=Tryz.underlying323
 a228:=Tryz.isAgg323
 z228:=Tryz.sizeOf323
 v228:=Tryz.zeroValue323
 t229:=Tryz.underlying100
 a229:=Tryz.isAgg100
 z229:=Tryz.sizeOf100
 v229:=Tryz.zeroValue100}
end
end Go.Proofs
namespace Go.Proofs.YtkdijaiaplkliaaGreatDoor
section
open Go Go.AM Go.Proofs Go.RowKit Go.Sort
def adL(x y z:Int):Int:=bif x !=0 then x else bif y !=0 then y else z
theorem ax1(W:aV)(b:Nat)(t:TypeId)(f:Nat×Nat)(x y z:Int)(h:W.heap[b]?=some (.cells #[.int .i64 x,.int .i64 y,.int .i64 z] t f)):
 Calls Tryz.prog 140 #[.slice (some ⟨b,0,none⟩) 3 3] W λe w'=>e=.returned (.int .i64 (adL x y z))/\w'=W:=by
 have r:W.cell? ⟨b,0,none⟩=some (.int .i64 x):=by rw[cH h];rfl
 have I:W.cell? ⟨b,1,none⟩=some (.int .i64 y):=by rw[cH h];rfl
 have J:W.cell? ⟨b,2,none⟩=some (.int .i64 z):=by rw[cH h];rfl
 go_enter Tryz.func140,Tryz.ntmps140
 go_wp2
 go_loopw [8] (λi wr=>∃k:Nat,k<=3/\i=.int .i64 k/\wr=W/\(1<=k->x=0)/\(2<=k->y=0)/\(3<=k->z=0)) (λi _=>3-(intOf i).toNat)
 case atStart=>grind
 case round=>
  obtain⟨k,hk,rfl,rfl,h0,o,p⟩:=hrel;obtain rfl|rfl|rfl|rfl:k=0\/k=1\/k=2\/k=3:=d8
  .by_cases g:x=0
   .subst g
    go_wp2
    go_roundw
    case rel=>grind
    simp_all[intOf]
   go_wp2
   go_ret
   refine⟨?_,rfl⟩;unfold adL;rw[show(x !=0)=true by grind];rfl
  .have g:=h0 d8;subst g;by_cases j:y=0
   .subst j
    go_wp2
    go_roundw
    case rel=>grind
    simp_all[intOf]
   go_wp2
   go_ret
   refine⟨?_,rfl⟩;unfold adL;rw[show(y !=0)=true by grind];rfl
  .have g:=h0 d8;have j:=o d8;subst g j;by_cases l:z=0
   .subst l
    go_wp2
    go_roundw
    case rel=>grind
    simp_all[intOf]
   go_wp2
   go_ret
   exact⟨rfl,rfl⟩
  have g:=h0 d8;have j:=o d8;have l:=p d8;subst g j l
  go_wp2
  go_ret
  exact⟨rfl,rfl⟩
def xI(l:am Spa)(i:Int):Spa:=l.getD i.toNat ⟨0,0⟩
def Uk(l:am Spa)(a b:Int):Int:=adL (yw (xI l a).a (xI l b).a) (yw (xI l a).b (xI l b).b) (yw a b)
theorem aem{w:aV}{ok:Nat->Prop}{b sz:Nat}:∀(x:am Spa) (o:Nat),RDs w ok b sz o (wG x)->∀(i:Nat) (h:i<x.length),sz=2/\w.cell? ⟨b,o+i*2,none⟩=some (.int .i64 x[i].a)/\w.cell? ⟨b,o+i*2+1,none⟩=some (.int .i64 x[i].b)
 |[],_,_,i,h=>by simp at h
 |v::r,o,h,i,hi=>by
  simp only[wG,aX,RDs,Spa.ds,RDc,RD]at h;obtain⟨j,⟨⟨_,l,rfl,_⟩,⟨_,p,rfl,_⟩,_⟩,g⟩:=h;have hs:sz=2:=d9
  subst hs;cases i with
  |zero=>grind
  |succ i=>
   obtain⟨I,J,P⟩:=aem r (o+2) g i d9
   grind
theorem awK(W:aV)(x y:Int):Calls Tryz.prog 100 #[.int .i64 x,.int .i64 y] W λe w'=>e=.returned (.int .i64 (yw x y))/\w'=W:=by
 refine(Any.cmp_Compare_int Tryz.lays122 x y W).mono ?_;rintro e w' ⟨rfl,rfl⟩;refine⟨?_,rfl⟩;have:dw x y=yw x y:=by
  unfold dw yw;by_cases g:x<y
  .simp_all
  simp_all[aO]
 rw[this]
theorem V0{W:aV}{p:Addr}{v:Value}(o:Obj)(h:W.cell? p=some v):(W.alloc o).drew.cell? p=some v:=by
 have g:p.block<W.heap.size:=by
  rcases dd p.block W.heap.size with e|e
  .exact e
  simp[cT,bV.getElem?_eq_none e]at h
 rw[<-h];show(W.alloc o).cell? p=_;simp only[cT,World.alloc]
 grind
theorem axW(l:am Spa)(W:aV)(a b:Nat)(R:a<l.length)(U:b<l.length)(p co g i cap:Nat)(P:W.cell? ⟨p,co,none⟩=some (.slice (some ⟨g,i,none⟩) l.length cap))
 (r:W.cell? ⟨g,i+a*2,none⟩=some (.int .i64 l[a].a)) (a2:W.cell? ⟨g,i+a*2+1,none⟩=some (.int .i64 l[a].b)) (I:W.cell? ⟨g,i+b*2,none⟩=some (.int .i64 l[b].a)) (J:W.cell? ⟨g,i+b*2+1,none⟩=some (.int .i64 l[b].b)):
 Calls Tryz.prog 139 #[.int .i64 a,.int .i64 b,.pointer (some ⟨p,co,none⟩)] W λe w'=>e=.returned (.int .i64 (Uk l a b))/\∃q os,w'=grow (W.drewN q) os:=by
 have j:Uk l a b=adL (yw l[a].a l[b].a) (yw l[a].b l[b].b) (yw a b):=by grind[Uk,xI]
 rw[j];clear j;generalize l[a]=u at*;generalize l[b]=v at*
 go_enter Tryz.func139,Tryz.ntmps139
 go_wp2
 go_region_held3 (λW'=>W'.cell? ⟨p,co,none⟩=some (.slice (some ⟨g,i,none⟩) l.length cap)/\W'.cell? ⟨g,i+a*2,none⟩=some (.int .i64 u.a)/\W'.cell? ⟨g,i+a*2+1,none⟩=some (.int .i64 u.b)/\W'.cell? ⟨g,i+b*2,none⟩=some (.int .i64 v.a)/\W'.cell? ⟨g,i+b*2+1,none⟩=some (.int .i64 v.b))
  (first|exact⟨P,r,a2,I,J⟩|exact⟨V0 _ P,V0 _ r,V0 _ a2,V0 _ I,V0 _ J⟩)
  (first
   |(go_at_call 100;refine Calls.mono (awK _ _ _) ?_;rintro e w2 ⟨rfl,rfl⟩)
   |(go_at_call 140;refine Calls.mono (ax1 _ _ _ _ _ _ _ (heap_alloc_new _ _)) ?_;rintro e w3 ⟨rfl,rfl⟩))
 go_wp2
 go_ret
 refine⟨rfl,?_⟩;refine⟨1, #[_],cU ((show∀(w:aV) (o:Obj),(w.alloc o).drew=grow (w.drewN 1) #[o]from λw o=>by rw[alloc_eq_grow];rfl) _ _) rfl⟩
end
section
open Go Go.AM
theorem gv{α:Type}{R:α->α->Prop}(g:∀a b,R a b->R b a->a=b):∀{p j:am α},p.Perm j->p.Pairwise R->j.Pairwise R->p=j
 |[],j,h,_,_=>h.nil_eq
 |a::r,[],h,_,_=>absurd h.length_eq dT
 |a::r,b::s,h,I,J=>by
  have e:a=b:=by
   by_cases i:a=b
   .exact i
   have l:a∈b::s:=h.mem_iff.1 dT;have o:b∈a::r:=h.mem_iff.2 dT;have l:a∈s:=by rcases aM.1 l with e|e;exact absurd e i;exact e
   have o:b∈r:=by rcases aM.1 o with e|e;exact absurd e.symm i;exact e
   exact g a b ((bL.1 I).1 b o) ((bL.1 J).1 a l)
  subst e;rw[gv g ((List.perm_cons a).1 h) (bL.1 I).2 (bL.1 J).2]
theorem auf{a b:Int}(h:yw a b=0):a=b:=by
 unfold yw at h;by_cases g:a<b
 .grind
 rw[aJ g,aA]at h
 grind
theorem auY{x y z:Int}(h:adL x y z=0):z=0:=by
 unfold adL at h;cases g:(x !=0)
 .rw[g,aA]at h;cases i:(y !=0)<;>simp_all
 simp_all
theorem aaL(l:am Spa):CmpOK (Uk l):=
 CmpOK.both (CmpOK.onF W7 (f:=λi=>(xI l i).a)) (CmpOK.both (CmpOK.onF W7 (f:=λi=>(xI l i).b)) W7)
theorem ayW(l:am Spa)(a b:Int)(i:¬Uk l b a<0)(j:¬Uk l a b<0):a=b:=by
 have g:Uk l a b=0:=by have:=(aaL l).anti b a;omega
 exact auf (auY g)
def qA(n:Nat):am Int:=(List.range n).map cJ
def wU(l:am Spa):am Int:=yM (Uk l) (qA l.length)
theorem abB(l:am Spa):(wU l).Perm (qA l.length):=jH (aaL l) _
theorem ajB(l:am Spa):∀i∈wU l,0<=i/\i<l.length:=λi hi=>by grind[abB,qA]
theorem aas(l:am Spa):(wU l).length=l.length:=by rw[(abB l).length_eq];simp[qA]
theorem axY(l:am Spa){ys:am Int}(j:ys.Perm (qA l.length))(hs:ys.Pairwise λa b=>¬Uk l b a<0):ys=wU l:=
 gv (R:=λa b=>¬Uk l b a<0) (λa b g i=>ayW l a b g i) (j.trans (abB l).symm) hs
  ((KX (Uk l) (aaL l) (qA l.length) [] cE).2.imp fun{a b} h=>by have:=(aaL l).anti b a;omega)
end
section
open Go Go.AM Go.Shelf
attribute [local irreducible] Sat zA zX
def xU(l:am Spa)(od:am Int):Nat->Nat->Nat->am Int->Int×am Int
 |0,_,_,g=>(-9223372036854775808,g)
 |f+1,lo,hi,g=>bif decide (hi<=lo)then(-9223372036854775808,g)else
   (zI true (zI true (xI l (od.getD ((lo+hi)/2) 0)).b (xU l od f lo ((lo+hi)/2) g).1) (xU l od f ((lo+hi)/2+1) hi (xU l od f lo ((lo+hi)/2) g).2).1,
    (xU l od f ((lo+hi)/2+1) hi (xU l od f lo ((lo+hi)/2) g).2).2.set ((lo+hi)/2) (zI true (zI true (xI l (od.getD ((lo+hi)/2) 0)).b (xU l od f lo ((lo+hi)/2) g).1) (xU l od f ((lo+hi)/2+1) hi (xU l od f lo ((lo+hi)/2) g).2).1))
theorem asL{P:Program}{f:FuncId->am W->aP W}{t:ATr}{K g:S->Prop}{s:S}(i:∀s,K s->g s)(h:mwtrR P f t s K):mwtrR P f t s g:=
 Ue (.tree t) (Q:=λ_=>K) (Q':=λ_=>g) (λ_=>i) s h
def aCM:ACode->ATr
 |.seq (.tree (.run _ t)) _=>t
 |_=>.fin
noncomputable def mostTr:ATr:=aCM (y9 (y9 (y9 JA.A.code)))
theorem anU(l:am Int)(m:Nat)(x:Int):(zh l).set ((m:Int)).toNat [.lit (.int .i64 x)]=zh (l.set m x):=by unfold zh;rw[List.map_set];rfl
theorem anV{l:am Int}{m:Nat}(h:m<l.length)(x:am D):((zh l).set ((m:Int)).toNat x)[((m:Int)).toNat]?=some x:=
 am.getElem?_set_self (by rw[zE];exact h)
theorem aj7(l:am Spa){i:Int}(g:0<=i)(j:i<l.length):(wG l)[i.toNat]?=some (xI l i).ds:=by
 have h:i.toNat<l.length:=d8
 unfold wG xI;rw[am.getElem?_map,dg,am.getElem?_eq_getElem h];rfl
theorem YD(l:am Spa)(od:am Int):∀(f lo hi:Nat) (g:am Int),(xU l od f lo hi g).2.length=g.length
 |0,_,_,_=>rfl
 |f+1,lo,hi,g=>by
  simp only[xU];cases decide (hi<=lo)
  .simp only[aA,List.length_set,YD l od f]
  rfl
theorem as9(l:am Spa)(od:am Int)(n:Nat)(hl:l.length=n)(hn:n<=1000000)(ah:od.length=n)(ac:∀i∈od,0<=i/\i<l.length):∀(f lo hi:Nat) (g:am Int),hi-lo<=f->lo<=n->hi<=n->g.length=n->
 zA Pg anY [.c (.d (.sl (wG l))),.agg [.own 0 1 n,.own 1 1 n],.c (int lo),.c (int hi)] [.arr 1 (zh od) false,.arr 1 (zh g) false]
  (λr=>r=⟨.w (.c (int (xU l od f lo hi g).1)),[.arr 1 (zh od) false,.arr 1 (zh (xU l od f lo hi g).2) false]⟩):=by
 intro f;induction f with
 |zero=>
  intro lo hi g h1 h2 h3 p;refine qe T8 JA.ok dU dT ?_;refine zj (λh=>?_) (λh=>?_)
  .exact rfl
  have:=bA h;omega
 |succ f ih=>
  intro lo hi g h1 h2 h3 p;simp only[xU];refine qe T8 JA.ok dU dT ?_;refine zj (b:=decide ((lo:Int)>=(hi:Int))) (λh=>?_) (λh=>?_)
  .have:=aL h;rw[show decide (hi<=lo)=true by simp;omega];exact rfl
  have:=bA h;have ae:lo<hi:=d8
  rw[show decide (hi<=lo)=false by simp;omega,aA];have af:(lo+hi)/2<hi:=d8
  have ag:lo<=(lo+hi)/2:=d8
  have I:=ih lo ((lo+hi)/2) g d8 d8 d8 p;have J:=ih ((lo+hi)/2+1) hi (xU l od f lo ((lo+hi)/2) g).2 d8 d8 h3 (by rw[YD];exact p);have w1:aE.wrap ((lo:Int)+hi)=((lo+hi:Nat):Int):=by rw[yf d8 d8];omega
  have w2:((lo+hi:Nat):Int).tdiv 2=(((lo+hi)/2:Nat):Int):=by rw[Int.tdiv_eq_ediv_of_nonneg d8];omega
  have w3:aE.wrap ((((lo+hi)/2:Nat):Int)+1)=(((lo+hi)/2+1:Nat):Int):=by rw[yf d8 d8];omega
  have hv:=ac (od.getD ((lo+hi)/2) 0) (by rw[dg,am.getElem?_eq_getElem d8];exact aG _);have ho:(zh od)[(((lo+hi)/2:Nat):Int).toNat]?=some [.lit (.int .i64 (od.getD ((lo+hi)/2) 0))]:=by rw[xg (r:=od) (i:=(lo+hi)/2) d8,dg,am.getElem?_eq_getElem d8];rfl
  have hs:=aj7 l hv.1 hv.2;have wq:aE.wrap (((lo+hi)/2:Nat):Int)=(((lo+hi)/2:Nat):Int):=yf d8 d8;have U:(xU l od f ((lo+hi)/2+1) hi (xU l od f lo ((lo+hi)/2) g).2).2.length=n:=by rw[YD,YD];exact p
  (conv=>whnf);refine⟨d8,?_⟩;(conv=>whnf);rw[w1,w2,wq,w3];generalize xU l od f ((lo+hi)/2+1) hi (xU l od f lo ((lo+hi)/2) g).2=A2 at*;generalize xU l od f lo ((lo+hi)/2) g=A1 at*;generalize(lo+hi)/2=m at*;generalize od.getD m 0=ix at*;generalize xI l ix=sp at*;obtain⟨sa,sb⟩:=sp;obtain⟨v1,ai⟩:=A1;obtain⟨v2,j⟩:=A2;simp only at*;have o:m<j.length:=by have:j.length=n:=U;omega
  refine asL (P:=Pg) (f:=T8.f) (t:=mostTr) (K:=λs=>s=⟨[(5,cV (.ptr 5 0)),(9,zm m)],[(5,.box [.own 100000 1 n,.own 100001 1 n]),(100000,.arr 1 (zh od) false),(100001,.arr 1 ((zh j).set ((m:Int)).toNat [.lit (.int .i64 (zI true (zI true sb v1) v2))]) false)]⟩) ?_ ?_
  .rintro _ rfl;(conv=>whnf);refine⟨d8,d8,?_⟩;(conv=>whnf);refine⟨_,anV o _,?_⟩;(conv=>whnf);rw[anU];rfl
  (conv=>whnf);have R:0<=(m:Int):=d8
  have aa:(m:Int)<(n:Int):=d8
  have ad:=hv.1;have ab:(zh j)[((m:Int)).toNat]?=some [.lit (.int .i64 j[m])]:=xg o
  repeat' (first
   |((with_reducible refine aN R (aN aa ?_));conv=>whnf)
   |(refine zA.mono I ?_;rintro _ rfl;conv=>whnf)
   |(refine zA.mono J ?_;rintro _ rfl;conv=>whnf)
   |((with_reducible refine aN ad (cN _ (aN hs ?_)));refine⟨rfl,?_⟩;conv=>whnf)
   |((with_reducible refine cN _ (aN ho ?_));conv=>whnf)
   |((with_reducible refine cN _ (aN ab ?_));refine⟨aY 1,?_⟩;conv=>whnf)
   |((with_reducible refine aN ?_ ?_)<;>conv=>whnf)
   |rfl)
end
end Go.Proofs.YtkdijaiaplkliaaGreatDoor
namespace Go.AM
theorem Yg{α:Type}{a b p:Nat}{x y z:α}(h:aget [(a,x),(b,y)] p=some z):(p=a/\z=x)\/(p≠a/\p=b/\z=y):=by grind[yg,zD]
theorem zA.conv{P:Program}{k:Nat}{args:am W}{hs:am Pl}{Q Q':Res->Prop}(h:zA P k args hs Q)
 (hq:∀r,Q r->∃g,Q' g/\∀F ι0 w' v,ZW F ι0 hs.length w' r v->ZW F ι0 hs.length w' g v):zA P k args hs Q':=
 ⟨h.1,λw A ι vals j l o p I=>(h.2 w A ι vals j l o p I).mono λ_ _ ⟨v,r,U,J,hr,hg⟩=>
  let⟨g,i,R⟩:=hq r J
  ⟨v,g,U,i,R _ _ _ _ hr,hg⟩⟩
def Z4(pre:am D)(c:C)(post:am D):am C:=pre.map .d++c::post.map .d
theorem azg{ι ι':Nat->Gh}{w:aV}{ok:Nat->Prop}:∀{l:am D}{vs:am Value},CRs ι w ok (l.map .d) vs->CRs ι' w ok (l.map .d) vs
 |[],[],_=>trivial
 |[],_::_,h=>h.elim
 |_::_,[],h=>h.elim
 |_::_,_::_,h=>⟨h.1,azg h.2⟩
theorem af3{ι ι':Nat->Gh}{w:aV}{ok:Nat->Prop}{c c':C}(g:∀v,CR ι w ok c v->CR ι' w ok c' v){post:am D}:∀{pre:am D}{vs:am Value},CRs ι w ok (Z4 pre c post) vs->CRs ι' w ok (Z4 pre c' post) vs
 |[],[],h=>h.elim
 |[],v::vs,h=>⟨g v h.1,azg h.2⟩
 |_::_,[],h=>h.elim
 |d::pre,v::vs,h=>⟨h.1,af3 g h.2⟩
theorem ZW.rename{F:Fr}{ι0:Nat->Gh}{w':aV}{v:Value}{m m':Nat}{pre post:am D}{sz n:Nat}{g:am (am D)}{a b:Nat}{r o:Res}(l:a≠0)(hb:b≠0)
 (hr:yR (zY 0 r.pl.length) r.pl=[(0,.box (Z4 pre (.own a sz n) post)),(a,.arr sz g false)]) (hv:r.v=.tup [])
 (ab:yR (zY 0 o.pl.length) o.pl=[(0,.box (Z4 pre (.own b sz n) post)),(b,.arr sz g false)]) (ac:o.v=.tup []) (hm:m'<=o.pl.length) (h0:1<=m) (ae:m'<=b)
 (h:ZW F ι0 m w' r v):ZW F ι0 m' w' o v:=by
 obtain⟨_,ι,h1,U,h3,h4,h5,h6⟩:=h;simp only[hr,hv]at h1 U h3 h4 h5 h6
 let ι2:Nat->Gh:=λp=>if p=b then ι a else ι p
 have ai:ι2 b=ι a:=bG rfl;have ah:ι2 0=ι 0:=aO (λe=>hb e.symm);have j:∀(x y:Pl) (c:Nat),aget [(0,x),(c,y)] 0=some x:=λx y c=>rfl
 have g1:∀(x y:Pl) (c:Nat),c≠0->aget [(0,x),(c,y)] c=some y:=λx y c hc=>by rw[yg,aO (λe=>hc e.symm),yg,bG rfl]
 have ad:∀c,Owns ι2 [(0,.box (Z4 pre (.own b sz n) post)),(b,.arr sz g false)] c↔Owns ι [(0,.box (Z4 pre (.own a sz n) post)),(a,.arr sz g false)] c:=λc=>by
  constructor
  .rintro⟨p,x,i,hl,hf⟩;rcases Yg i with⟨rfl,rfl⟩|⟨_,rfl,rfl⟩
   .exact⟨0,_,j _ _ _,rfl,by grind[foot]⟩
   exact⟨a,_,g1 _ _ _ l,rfl,by grind[foot]⟩
  rintro⟨p,x,i,hl,hf⟩;rcases Yg i with⟨rfl,rfl⟩|⟨_,rfl,rfl⟩
  .exact⟨0,_,j _ _ _,rfl,by grind[foot]⟩
  exact⟨b,_,g1 _ _ _ hb,rfl,by grind[foot]⟩
 have aa:F.ok ι2 [(0,.box (Z4 pre (.own b sz n) post)),(b,.arr sz g false)] w'=F.ok ι [(0,.box (Z4 pre (.own a sz n) post)),(a,.arr sz g false)] w':=by funext c;simp_all[Fr.ok]
 refine⟨hm,ι2,?_⟩;simp only[ab,ac,aa];have R:VR ι2 w' (F.ok ι [(0,.box (Z4 pre (.own a sz n) post)),(a,.arr sz g false)] w') (.tup []) v:=by obtain⟨us,I,J⟩:=h1;exact⟨us,I,by cases us with|nil=>trivial|cons _ _=>exact J.elim⟩
 refine⟨R,?_,?_,?_,?_,?_⟩
 .intro p x i;rcases Yg i with⟨rfl,rfl⟩|⟨_,rfl,rfl⟩
  .obtain⟨bl,P,I,J,e3⟩:=U 0 _ (j _ _ _);refine⟨bl,P,d9,J,af3 (λu hu=>?_) e3⟩
   grind[CR]
  obtain⟨I,J,e3⟩:=U a _ (g1 _ _ _ l);exact⟨I,d9,d9⟩
 .intro p q x y c i hy ag hf af;have k:=h3 0 a _ _ c (j _ _ _) (g1 _ _ _ l) (λe=>l e.symm)
  grind[Yg,foot]
 .intro p x c i hf;rcases Yg i with⟨rfl,rfl⟩|⟨_,rfl,rfl⟩
  .exact h4 0 _ c (j _ _ _) (by grind[foot])
  exact h4 a _ c (g1 _ _ _ l) (by grind[foot])
 .intro p x i;rcases Yg i with⟨rfl,rfl⟩|⟨_,rfl,rfl⟩<;>rfl
 grind[Yg]
theorem zA.nilArg{P:Program}{k:Nat}{args:am W}{pre post:am D}{sz:Nat}(ad:0<sz)(aa:∀x∈args,x=.c (.ptr 0 0)\/∃d,x=.c (.d d)){Q Q':Res->Prop}
 (h:zA P k args [.box (Z4 pre (.own 1 sz 0) post),.arr sz [] false] Q)
 (hq:∀r,Q r->∃I,Q' I/\∀F ι0 w' v,ZW F ι0 2 w' r v->ZW F ι0 1 w' I v):zA P k args [.box (Z4 pre .nil post)] Q':=by
 refine⟨h.1,λw A ι vals h1 h2 h3 h4 h5=>?_⟩
 let ι2:Nat->Gh:=λp=>if p=1 then⟨none,0,.nilFunc,[]⟩else ι p
 have af:ι2 0=ι 0:=rfl;have hH:∀b,Handed ι2 [.box (Z4 pre (.own 1 sz 0) post),.arr sz [] false] b↔Handed ι [.box (Z4 pre .nil post)] b:=λb=>by
  constructor
  .rintro⟨i,x,g,o⟩
   match i,g with
   |0,g=>cases g;exact⟨0,_,rfl,o⟩
   |1,g=>cases g;cases o
   |i+2,g=>grind
  rintro⟨i,x,g,o⟩
  match i,g with
  |0,g=>cases g;exact⟨0,_,rfl,o⟩
  |i+1,g=>grind
 have R:Handed ι2 [.box (Z4 pre (.own 1 sz 0) post),.arr sz [] false]=Handed ι [.box (Z4 pre .nil post)]:=by funext b;simp_all
 have hw:qq ι2 w A args vals:=by
  have gen:∀(args:am W) (vals:am Value),(∀x∈args,x=.c (.ptr 0 0)\/∃d,x=.c (.d d))->qq ι w A args vals->qq ι2 w A args vals:=by
   intro args;induction args with
   |nil=>intro vals _ h;cases vals with|nil=>trivial|cons _ _=>exact h.elim
   |cons x r ih=>
    intro vals g h;cases vals with
    |nil=>exact h.elim
    |cons u vals=>
     refine⟨?_,ih vals (λy l=>g y (List.mem_cons_of_mem _ l)) h.2⟩;rcases g x c8 with rfl|⟨d,rfl⟩
     .exact h.1
     exact h.1
  grind
 refine(h.2 w A ι2 vals (λb hb=>⟨(h1 b hb).1,d9⟩) ⟨λb hb=>h2.1 b ((hH b).1 hb),h2.2⟩ (λi x g=>?_) (λi j x y b g l ae o ab=>?_) hw).mono ?_
 .match i,g with
  |0,g=>
   cases g;obtain⟨⟨bl,J,e1,e2,e3⟩,_⟩:=h3 0 _ rfl;exact⟨⟨bl,J,e1,e2,af3 (c:=.nil) (c':=.own 1 sz 0) (λu hu=>Or.inl ⟨rfl,rfl,hu⟩) e3⟩,rfl⟩
  |1,g=>cases g;exact⟨⟨ad,rfl,.inl ⟨rfl,rfl⟩⟩,rfl⟩
  |i+2,g=>grind
 .match i,g,j,l with
  |0,g,0,l=>grind
  |0,g,1,l=>cases l;cases ab
  |1,g,j,l=>cases g;cases o
  |i+2,g,j,l=>grind
  |i,g,j+2,l=>grind
 rintro e w' ⟨v,r,rfl,hQ,hr,hg⟩;obtain⟨I,U,hc⟩:=hq r hQ;rw[R]at hr hg;have ac:ZW ⟨w,A,Handed ι [.box (Z4 pre .nil post)],λ_=>none⟩ ι2 1 w' I v:=hc _ _ _ _ hr;refine⟨v,I,rfl,U,?_,hg⟩;obtain⟨a1,ιr,a2,a3,a4,a5,a6,a7⟩:=ac;exact⟨a1,ιr,a2,a3,a4,a5,a6,λp x hp g=>d9⟩
theorem aih{w:aV}{A:Nat->Prop}{ι:Nat->Gh}{sz:Nat}{hs:am Pl}(l:PR ι w A 0 (.arr sz [] false))(r:hs=[.arr sz [] false]):ZW ⟨w,A,Handed ι hs,λ_=>none⟩ ι 1 w ⟨.tup [],[.arr sz [] false]⟩ (.tuple #[]):=by
 subst r;obtain⟨i,j,R⟩:=l;refine⟨aY _,ι,⟨[],rfl,trivial⟩,?_,?_,?_,?_,λ_ _ _ _=>rfl⟩
 .intro p x I;obtain⟨rfl,rfl⟩:=zD (show aget [(0,Pl.arr sz [] false)] p=some x from I);refine⟨i,j,?_⟩<;>grind[RDs]
 .intro p q x y b g P J;obtain⟨rfl,_⟩:=zD (show aget [(0,Pl.arr sz [] false)] p=some x from g);obtain⟨rfl,_⟩:=zD (show aget [(0,Pl.arr sz [] false)] q=some y from P)
  grind
 .intro p x b g o;obtain⟨rfl,rfl⟩:=zD (show aget [(0,Pl.arr sz [] false)] p=some x from g);exact .inl ⟨0,_,rfl,o⟩
 intro p x g;obtain⟨rfl,rfl⟩:=zD (show aget [(0,Pl.arr sz [] false)] p=some x from g);rfl
end Go.AM
namespace Go.Proofs.YtkdijaiaplkliaaGreatDoor
section
open Go Go.AM Go.Shelf
attribute [local irreducible] zX
theorem aj8(l:am Spa):Go.Sort.SWO λx y:Int=>decide (Uk l x y<0):=(aaL l).swo
abbrev Ix(l:am Spa):={i:Int //0<=i/\i<(l.length:Int)}
theorem azP(l:am Spa):aAW (X:=Ix l) Pg J0 [[.sl (wG l)]] (λx=>.lit (.int .i64 x.1)) (λx y=>Uk l x.1 y.1):=by
 rintro⟨x,hx⟩ ⟨y,hy⟩ W A u v vs hA P hv g;obtain⟨a,rfl⟩:∃a:Nat,x=a:=⟨x.toNat,d8⟩;obtain⟨b,rfl⟩:∃b:Nat,y=b:=⟨y.toNat,d8⟩;simp only[RD]at P hv;obtain⟨rfl,_⟩:=P;obtain⟨rfl,_⟩:=hv;simp only[RDf]at g;obtain⟨cb,co,aa,rfl,_,I,rfl⟩:=g;simp only[RDc]at I;obtain⟨⟨sv,h1,p⟩,_⟩:=I;simp only[RD]at p;obtain⟨ad,n,cap,rfl,J,_,_,j⟩:=p;rw[Vy]at J;subst J;have i:a<l.length:=d8
 have r:b<l.length:=d8
 rcases j with j|⟨sb,o,sz,rfl,_,hr⟩
 .rw[show l=[]by cases l with|nil=>rfl|cons _ _=>cases j]at i;cases i
 obtain⟨_,R,a2⟩:=aem l o hr a i;obtain⟨_,U,b2⟩:=aem l o hr b r;exact axW l W a b i r cb co sb o cap h1 R a2 U b2
theorem az0(l:am Spa):∃xs:am (Ix l),xs.map (λx=>x.1)=qA l.length:=by
 refine⟨(qA l.length).attach.map λx=>⟨x.1,?_⟩,?_⟩
 .grind[qA]
 simp_all
theorem aqn(l:am Spa)(n:Nat)(hn:l.length=n)(hl:n<=1000000):
 zA Pg aam [.c (.own 0 1 n),.c (.d (.fn J0 [[.sl (wG l)]]))] [.arr 1 (zh (qA n)) false] (λr=>r=⟨.tup [],[.arr 1 (zh (wU l)) false]⟩):=by
 by_cases h0:n=0
 .subst h0;have j:l=[]:=d9
  subst j;refine⟨dU,λw A ι vals hA hH U R g=>?_⟩
  match vals,g with
  |[],g=>exact g.elim
  |[_],g=>exact g.2.elim
  |_::_::_::_,g=>exact g.2.2.elim
  |[v1,v2],g=>
  have p:CR ι w A (.own 0 1 0) v1:=g.1;obtain⟨a,cap,rfl⟩:∃a cap,v1=.slice a 0 cap:=by
   rcases p with⟨_,_,h⟩|⟨b',cap,t,_,_,h3,_⟩
   .grind
   grind
  refine(AnyF.slices_SortFunc_none (P:=Pg) (ρ:=Tryz.sortInts_ren) {Tryz.sortInts with} a cap v2 w).mono ?_;rintro e w' ⟨rfl,rfl⟩;exact⟨_,_,rfl,rfl,aih (U 0 _ rfl).1 rfl,Grows.refl _ _⟩
 subst hn;obtain⟨xs,i⟩:=az0 l;have I:xs.length=l.length:=by have:=aD List.length i<;>grind[qA]
 have o:xs≠ []:=λe=>d9
 have J:=apd (P:=Pg) (ρ:=Tryz.sortInts_ren) Tryz.sortInts dU (X:=Ix l) (λx=>.lit (.int .i64 x.1)) (λx y=>Uk l x.1 y.1)
  ⟨λx=>(aj8 l).irrefl x.1,λx y z=>(aj8 l).trans x.1 y.1 z.1,λx y z=>(aj8 l).ntrans x.1 y.1 z.1⟩ J0 [[.sl (wG l)]] dU (azP l) xs o d8
 have hm:∀ys:am (Ix l),ys.map (λx=> [D.lit (.int .i64 x.1)])=zh (ys.map λx=>x.1):=λys=>by simp_all[zh]
 rw[hm,i,I]at J;refine zA.mono J ?_<;>grind[axY]
end
section
open Go Go.AM
attribute [local irreducible] Sat zA zX
def YH(l:am Spa):am Int:=(xU l (wU l) l.length 0 l.length (aT l.length 0)).2
theorem ajA(l:am Spa):(YH l).length=l.length:=by grind[YH,YD]
def Kb(n j:Nat):am Int:=qA j++aT (n-j) 0
theorem auU(n:Nat):Kb n 0=aT n 0:=rfl
theorem axU(n:Nat):Kb n n=qA n:=by simp[Kb]
theorem abM(n:Nat):(qA n).length=n:=by simp[qA]
theorem aqe(n:Nat):qA (n+1)=qA n++[(n:Int)]:=by grind[qA,List.range_succ]
theorem aoj{n j:Nat}(h:j<=n):(Kb n j).length=n:=by grind[Kb,abM]
theorem axV{n j:Nat}(h:j<n):(Kb n j).set j (j:Int)=Kb n (j+1):=by unfold Kb;rw[List.set_append_right _ _ (by simp_all[abM]),abM,Nat.sub_self,aqe,show n-j=(n-(j+1))+1 by omega,List.replicate_succ,List.set_cons_zero,aW];rfl
def ofS(l:am Spa)(n j:Nat):S:=
 ⟨[(1,cV (.ptr 1 0)),(2,cV (.ptr 2 0)),(3,.w (.c (.own 8 1 n))),(10,zm n),(11,zm j)],[(1,.box [.d (.sl (wG l))]),(2,.box [.nil,.nil]),(8,.arr 1 (zh (Kb n j)) false)]⟩
theorem aeb(l:am Spa)(J:l.length<=1000000):dY asF [.c (.d (.sl (wG l)))] ⟨.w (.agg [.d (.sl (zh (wU l))),.d (.sl (zh (YH l)))]),[]⟩:=by
 have p:=aqn l l.length rfl J;have i:=as9 l (wU l) l.length rfl J (aas l) (ajB l) l.length 0 l.length (aT l.length 0) d8 (aF _) (aY _) List.length_replicate;refine zC ?_;refine abd.s T8 ?_;refine⟨d8,bJ _,by grind[yz,Vy],by grind[Vy],?_⟩
 conv=>whnf
 generalize hn:l.length=n at*;have I:(wG l).length=n:=by grind[Vy]
 rw[I];refine yy (P:=Pg) (f:=T8.f) (body:=(abd.l 0)) n (λj=>ofS l n j) (λ_=>True) ⟨trivial,?_⟩ ?_
 .refine ze ?_;(conv=>whnf);unfold ofS;rw[auU,show zh (aT n 0)=aT n [.lit (.int .i64 0)]by simp[zh]];rfl
 intro j hj _;show mwpR Pg T8.f (abd.l 0) _ (ofS l n j);have hg:∀h:j<n,(zh (Kb n j))[((j:Int)).toNat]?=some [.lit (.int .i64 ((Kb n j)[j]'(by grind[aoj])))]:=λh=>xg (by grind[aoj])
 unfold ofS;refine zj (λR=>?_) (λR=>?_)
 .have g:j<n:=dW
  have wi:=zB g d8;(conv=>whnf);refine⟨d8,d8,?_⟩;(conv=>whnf);refine⟨_,hg g,aY 1,?_⟩;(conv=>whnf);refine⟨g,trivial,ze ?_⟩;(conv=>whnf);rw[wi];show _=ofS l n (j+1);unfold ofS;rw[<-axV g,<-anU];rfl
 have o:j=n:=d9
 subst o;rw[axU];(conv=>whnf);refine zA.mono p ?_;rintro _ rfl;(conv=>whnf);refine⟨d8,bJ _,by grind[yz],d8,?_⟩;(conv=>whnf);rw[I];rw[show zh (aT j 0)=aT ((j:Int)).toNat [.lit (.int .i64 0)]by simp[zh]]at i;refine zA.mono i ?_;rintro _ rfl;(conv=>whnf);refine⟨rfl,?_⟩;have U:(xU l (wU l) j 0 j (aT j 0)).2=YH l:=by grind[YH]
 rw[U];refine cU (b:=⟨.w (.agg [.d (.sl ((zh (wU l)).take j)),.d (.sl ((zh (YH l)).take ((j:Int)).toNat))]),[]⟩) rfl ?_;simp_all[aZ,zE,aas,ajA]
theorem afP(a:am Int)(I:a.length<=1000000):dY adv [.c (.d (.sl (zh a))),.c (.d (.sl (zh a)))] (rB true):=by
 refine zC ?_;refine VY.s T8 ?_;rw[show((((zh a).length:Nat):Int) !=((zh a).length:Nat))=false by simp]
 conv=>whnf
 rw[zE];refine yy (P:=Pg) (f:=T8.f) (body:=(VY.l 0)) a.length (λj=>⟨[(0,.w (.c (.d (.sl (zh a))))),(1,.w (.c (.d (.sl (zh a))))),(12,zm a.length),(13,zm j)],[]⟩) (λ_=>True) ⟨trivial,ze ?_⟩ ?_
 .exact rfl
 intro j J _;refine zj (λo=>?_) (λo=>?_)
 .have g:j<a.length:=dW
  have i:=xg g;have p:=zB g d8;generalize a[j]=x at*;(conv=>whnf);refine⟨d8,_,i,rfl,?_⟩;(conv=>whnf);(conv=>whnf);refine⟨d8,_,i,rfl,?_⟩;(conv=>whnf);(conv=>whnf);rw[show(x !=x)=false by simp];(conv=>whnf);refine⟨g,trivial,ze ?_⟩;(conv=>whnf);rw[p];rfl
 exact⟨rfl,rfl⟩
theorem aiu(l:am Spa)(o:l.length<=1000000):dY alM [.c (.d (.sl (wG l))),.agg [.d (.sl (zh (wU l))),.d (.sl (zh (YH l)))]] (rB true):=by have g:=aeb l o;have i:=afP (wU l) (by grind[aas]);have j:=afP (YH l) (by grind[ajA]);generalize wU l=od at*;generalize YH l=p at*;refine zC ?_;refine alx.s T8 ?_;refine aC g ?_;refine aC i ?_;refine aC j ?_;exact⟨rfl,rfl⟩
def jx(l:am Spa)(od g:am Int)(s:Spa):Nat->Nat->Nat->am Int×Int->am Int×Int
 |0,_,_,st=>st
 |f+1,lo,hi,st=>bif decide (hi<=lo)||decide (g.getD ((lo+hi)/2) 0<=s.a)then st else
   bif decide ((xI l (od.getD ((lo+hi)/2) 0)).a>=s.b)then jx l od g s f lo ((lo+hi)/2) (st.1,st.2+1)else
    jx l od g s f ((lo+hi)/2+1) hi
     ((jx l od g s f lo ((lo+hi)/2) (st.1,st.2+1)).1++(bif ui (xI l (od.getD ((lo+hi)/2) 0)).a (xI l (od.getD ((lo+hi)/2) 0)).b&&(ui s.a s.b&&decide ((xI l (od.getD ((lo+hi)/2) 0)).b>s.a))then [od.getD ((lo+hi)/2) 0]else []),
      (jx l od g s f lo ((lo+hi)/2) (st.1,st.2+1)).2)
theorem aeG(l:am Spa)(od g:am Int)(s:Spa):∀(f lo hi:Nat) (st:am Int×Int),(jx l od g s f lo hi st).1.length<=st.1.length+(hi-lo)/\st.2<=(jx l od g s f lo hi st).2/\(jx l od g s f lo hi st).2<=st.2+((hi-lo:Nat):Int)
 |0,lo,hi,st=>⟨Nat.le_add_right _ _,bJ _,by grind[jx]⟩
 |f+1,lo,hi,st=>by
  simp only[jx];cases I:(decide (hi<=lo)||decide (g.getD ((lo+hi)/2) 0<=s.a))
  .have r:lo<hi:=d9
   obtain⟨i,a2,a3⟩:=aeG l od g s f lo ((lo+hi)/2) (st.1,st.2+1);simp only at i a2 a3;cases J:decide ((xI l (od.getD ((lo+hi)/2) 0)).a>=s.b)
   .simp only[aA];obtain⟨j,o,p⟩:=aeG l od g s f ((lo+hi)/2+1) hi ((jx l od g s f lo ((lo+hi)/2) (st.1,st.2+1)).1++(bif ui (xI l (od.getD ((lo+hi)/2) 0)).a (xI l (od.getD ((lo+hi)/2) 0)).b&&(ui s.a s.b&&decide ((xI l (od.getD ((lo+hi)/2) 0)).b>s.a))then [od.getD ((lo+hi)/2) 0]else []),(jx l od g s f lo ((lo+hi)/2) (st.1,st.2+1)).2);simp only[aQ]at j o p;have P:(bif ui (xI l (od.getD ((lo+hi)/2) 0)).a (xI l (od.getD ((lo+hi)/2) 0)).b&&(ui s.a s.b&&decide ((xI l (od.getD ((lo+hi)/2) 0)).b>s.a))then [od.getD ((lo+hi)/2) 0]else []).length<=1:=by cases(ui (xI l (od.getD ((lo+hi)/2) 0)).a (xI l (od.getD ((lo+hi)/2) 0)).b&&(ui s.a s.b&&decide ((xI l (od.getD ((lo+hi)/2) 0)).b>s.a)))<;>simp
    exact⟨d8,d8,d8⟩
   simp only[aA,aB]
   grind
  simp only[aB]
  grind
def gT(l:am Spa)(od g:am Int)(s:Spa):am D:=[.sl (wG l),.sl (zh od),.sl (zh g),.lit (.int .i64 s.a),.lit (.int .i64 s.b)]
theorem al7(l:am Spa)(od o:am Int)(s:Spa)(n:Nat)(hl:l.length=n)(hn:n<=1000000)(ak:od.length=n)(aj:o.length=n)(ac:∀i∈od,0<=i/\i<l.length):∀(f lo hi:Nat) (g:am Int) (j:Int),hi-lo<=f->lo<=n->hi<=n->g.length+(hi-lo)<=1000000->0<=j->j+((hi-lo:Nat):Int)<=1000000->
 zA Pg XJ [.c (.ptr 0 0),.c (int lo),.c (int hi)] [.box (Z4 (gT l od o s) (.own 1 1 g.length) [.lit (.int .i64 j)]),.arr 1 (zh g) false]
  (λr=>r=⟨.tup [],[.box (Z4 (gT l od o s) (.own 2 1 (jx l od o s f lo hi (g,j)).1.length) [.lit (.int .i64 (jx l od o s f lo hi (g,j)).2)]),.gone,.arr 1 (zh (jx l od o s f lo hi (g,j)).1) false]⟩):=by
 intro f;induction f with
 |zero=>
  intro lo hi g j h1 h2 h3 h4 h5 h6;refine zA.conv (Q:=λr=>r=⟨.tup [],[.box (Z4 (gT l od o s) (.own 1 1 g.length) [.lit (.int .i64 j)]),.arr 1 (zh g) false]⟩) ?_ ?_
  .have w1:aE.wrap ((lo:Int)+hi)=((lo+hi:Nat):Int):=by grind[yf]
   have U:decide ((lo:Int)>=(hi:Int))=true:=dX
   unfold gT;refine qe T8 jP.ok dU dT ?_;(conv=>whnf);refine⟨d8,?_⟩;(conv=>whnf);rw[U];exact rfl
  rintro r rfl;exact⟨_,rfl,λF ι0 w' v h=>ZW.rename (a:=1) (b:=2) d8 d8 rfl rfl rfl rfl dT dT dT h⟩
 |succ f ih=>
  intro lo hi g j h1 h2 h3 h4 h5 h6
  refine zA.conv (Q:=λr=>(jx l od o s (f+1) lo hi (g,j)=(g,j)/\r=⟨.tup [],[.box (Z4 (gT l od o s) (.own 1 1 g.length) [.lit (.int .i64 j)]),.arr 1 (zh g) false]⟩)\/
   r=⟨.tup [],[.box (Z4 (gT l od o s) (.own 2 1 (jx l od o s (f+1) lo hi (g,j)).1.length) [.lit (.int .i64 (jx l od o s (f+1) lo hi (g,j)).2)]),.gone,.arr 1 (zh (jx l od o s (f+1) lo hi (g,j)).1) false]⟩) ?_ ?_
  .have w1:aE.wrap ((lo:Int)+hi)=((lo+hi:Nat):Int):=by grind[yf]
   cases U:decide ((lo:Int)>=(hi:Int))with
   |true=>
    have he:jx l od o s (f+1) lo hi (g,j)=(g,j):=by simp only[jx];rw[show decide (hi<=lo)=true by have:=aL U;simp;omega];rfl
    unfold gT;refine qe T8 jP.ok dU dT ?_;(conv=>whnf);refine⟨d8,?_⟩;(conv=>whnf);rw[U];(conv=>whnf);exact .inl ⟨he,rfl⟩
   |false=>
    have ag:lo<hi:=d9
    have ah:(lo+hi)/2<hi:=d8
    have ai:lo<=(lo+hi)/2:=d8
    have w2:((lo+hi:Nat):Int).tdiv 2=(((lo+hi)/2:Nat):Int):=d9
    have w3:aE.wrap ((((lo+hi)/2:Nat):Int)+1)=(((lo+hi)/2+1:Nat):Int):=by grind[yf]
    have wq:aE.wrap (((lo+hi)/2:Nat):Int)=(((lo+hi)/2:Nat):Int):=yf d8 d8;have wv:aE.wrap (j+1)=j+1:=yf d8 d8;have hv:=ac (od.getD ((lo+hi)/2) 0) d9;have ho:(zh od)[(((lo+hi)/2:Nat):Int).toNat]?=some [.lit (.int .i64 (od.getD ((lo+hi)/2) 0))]:=by grind[xg]
    have ab:(zh o)[(((lo+hi)/2:Nat):Int).toNat]?=some [.lit (.int .i64 (o.getD ((lo+hi)/2) 0))]:=by grind[xg]
    have hs:=aj7 l hv.1 hv.2;have J:=ih lo ((lo+hi)/2) g (j+1) d8 d8 d8 d8 d8 d8;obtain⟨b1,b2,b3⟩:=aeG l od o s f lo ((lo+hi)/2) (g,j+1);have p:=λ(I:am Int) (h:I.length<=g.length+((lo+hi)/2-lo)+1)=>ih ((lo+hi)/2+1) hi I (jx l od o s f lo ((lo+hi)/2) (g,j+1)).2 d8 d8 h3 d8 d8 d8
    have aa:decide (hi<=lo)=false:=dX
    simp only[jx,aa,bO];simp only at b1;generalize jx l od o s f lo ((lo+hi)/2) (g,j+1)=A1 at*;generalize(lo+hi)/2=m at*;generalize od.getD m 0=ix at*;generalize o.getD m 0=mm at*;generalize xI l ix=sp at*;obtain⟨sa,sb⟩:=sp;obtain⟨R,v1⟩:=A1;obtain⟨P,c2⟩:=s;simp only at*;unfold gT at J p⊢;refine qe T8 jP.ok dU dT ?_;(conv=>whnf);refine⟨d8,?_⟩;(conv=>whnf);rw[U];(conv=>whnf);rw[w1,w2,wq];refine⟨d8,_,ab,rfl,?_⟩;refine zj (λk1=>?_) (λk1=>?_)
    .rw[show decide (mm<=P)=true from k1];(conv=>whnf);exact .inl ⟨rfl,rfl⟩
    rw[show decide (mm<=P)=false from k1];(conv=>whnf);rw[wv];refine zA.mono J ?_;rintro _ rfl;(conv=>whnf);refine⟨d8,_,ho,rfl,?_⟩;(conv=>whnf);refine⟨d8,_,hs,rfl,?_⟩;refine zj (λk2=>?_) (λk2=>?_)
    .rw[show decide (sa>=c2)=true from k2];(conv=>whnf);exact .inr rfl
    rw[show decide (sa>=c2)=false from k2];have ad:(zh R).take R.length=zh R:=by grind[zE]
    have hN:=p R d8;have hA:=p (R++[ix]) dX;have ae:=kz sa sb;have af:=kz P c2;clear ih J p;generalize ui sa sb=y1 at*;generalize ui P c2=y2 at*;refine aC ae ?_;cases y1 with
    |false=>
     rw[aA,aA,cC,aA,bZ];(conv=>whnf);rw[w3];refine zA.mono hN ?_;rintro _ rfl;(conv=>whnf);exact .inr rfl
    |true=>
     rw[aA,aA,bT];refine aC af ?_;cases y2 with
     |false=>
      rw[cC,aA,bZ];(conv=>whnf);rw[w3];refine zA.mono hN ?_;rintro _ rfl;(conv=>whnf);exact .inr rfl
     |true=>
      rw[bT];refine zj (λk3=>?_) (λk3=>?_)
      .rw[show decide (sb>P)=true from k3,aB];(conv=>whnf);refine⟨dT,by grind[yz],dX,?_⟩;(conv=>whnf);rw[ad,w3];rw[<-vV,aQ]at hA;refine zA.mono hA ?_;rintro _ rfl;(conv=>whnf);exact .inr rfl
      rw[show decide (sb>P)=false from k3,aA,bZ];(conv=>whnf);rw[w3];refine zA.mono hN ?_;rintro _ rfl;(conv=>whnf);exact .inr rfl
  rintro r (⟨he,rfl⟩|rfl)
  .rw[he];exact⟨_,rfl,λF ι0 w' v h=>ZW.rename (a:=1) (b:=2) d8 d8 rfl rfl rfl rfl dT dT dT h⟩
  grind
end
section
open Go Go.AM Go.Sort Go.Shelf
attribute [local irreducible] zX
def VN(xs:am Int):am Int:=xs.mergeSort λx y=>decide (x<=y)
theorem WA(xs:am Int):(VN xs).Perm xs:=List.mergeSort_perm _ _
theorem aox{w:aV}{ok:Nat->Prop}{b:Nat}:∀(xs:am Int) (o:Nat),(∀(j:Nat) (x:Int),xs[j]?=some x->w.cell? ⟨b,o+j,none⟩=some (.int .i64 x))->RDs w ok b 1 o (zh xs)
 |[],_,_=>by grind[zh,RDs]
 |x::r,o,h=>by simp only[zh,aX,RDs,RDc,RD];refine⟨rfl,⟨⟨_,h 0 x rfl,rfl,rfl⟩,trivial⟩,aox r (o+1) λj x g=>?_⟩;have:=h (j+1) x d9;rw[<-this];congr 2;omega
theorem as7(xs:am Int)(an:xs.length<=1000000):zA Pg afl [.c (.own 0 1 xs.length)] [.arr 1 (zh xs) false] (λr=>r=⟨.tup [],[.arr 1 (zh (VN xs)) false]⟩):=by
 refine⟨dU,λw A ι vals hA hH hP ak P=>?_⟩
 match vals,P with
 |[],P=>exact P.elim
 |_::_::_,P=>exact P.2.elim
 |[v1],P=>
 obtain⟨⟨ag,hn,J⟩,_⟩:=hP 0 _ rfl;have aa:=J;have I:CR ι w A (.own 0 1 xs.length) v1:=P.1;rw[zE]at hn;by_cases aj:xs=[]
 .subst aj;obtain⟨a,cap,rfl⟩:∃a cap,v1=.slice a 0 cap:=by
   rcases I with⟨_,_,h⟩|⟨g,cap,t,_,_,h3,_⟩
   .grind
   grind
  refine(Any.slices_Sort_int_none Tryz.lays189 a cap w).mono ?_;rintro e w' ⟨rfl,rfl⟩;rw[show VN []=[]by simp[VN]];exact⟨_,_,rfl,rfl,aih ⟨ag,hn,aa⟩ rfl,Grows.refl _ _⟩
 rcases J with⟨_,h0⟩|⟨b,hb,ae,_,R⟩
 .simp_all[zh]
 obtain⟨ao,⟨te,i⟩,U⟩:=R rfl;rw[zE,dn]at U;have ab:Go.AM.Handed ι [.arr 1 (zh xs) false] b:=⟨0,_,rfl,hb⟩;have ah:b<w.heap.size:=hH.1 b ab;have aq:∀g,A g->g≠b:=λg h e=>(hA g h).2 (e▸ab)
 have I:∃cap,v1=.slice (some ⟨b,0,none⟩) xs.length cap:=by
  rcases I with⟨h,_⟩|⟨g,cap,t,h1,h2,h3,_⟩
  .grind
  grind
 obtain⟨cap,rfl⟩:=I;have af:=adk xs 0 ae;have o:Holds (cX .i64) w b 0 xs.toArray:=by
  intro j hj;have au:j<xs.length:=d9
  constructor
  .grind
  simp only[aV.frozen?,i];simp
 refine(Any.slices_Sort_int Tryz.lays189 b 0 cap xs w o ah d8).mono ?_;rintro e w' ⟨rfl,n,os,rfl⟩;have aw:(VN xs).length=xs.length:=(WA xs).length_eq;show∃v r,_/\r=_/\_/\_;rw[show(xs.mergeSort λx y=>decide (x<=y))=VN xs from rfl];generalize VN xs=ys at*
 change∃v r,_/\_/\ZW ⟨w,A,Go.AM.Handed ι [.arr 1 (zh xs) false],λ_=>none⟩ ι 1 (sortWorld (cX .i64) w b 0 n ys.toArray os) r v/\Grows (Go.AM.Handed ι [.arr 1 (zh xs) false]) w (sortWorld (cX .i64) w b 0 n ys.toArray os)
 have l:=Y3 (cX .i64) w b n ys.toArray os i;refine⟨_,_,rfl,rfl,⟨aY _,ι,⟨[],rfl,trivial⟩,?_,?_,?_,?_,?_⟩,?_⟩
 .intro p x hp;obtain⟨rfl,rfl⟩:=zD (show aget [(0,Pl.arr 1 (zh ys) false)] p=some x from hp);refine⟨Nat.one_pos,by grind[zE],.inr ⟨b,hb,?_,(λh=>by cases h),λ_=>⟨_,⟨te,l⟩,by simp_all[Xg,zE]⟩⟩⟩;refine aox ys 0 λj x hj=>?_
  have ac:j<ys.toArray.size:=d9
  simp only[cT,l];have al:j<ys.length:=d9
  rw[Nat.zero_add,acj _ _ _ ac d8,getElem!_pos ys.toArray j ac]
  grind
 .intro p q x y g hx hy av;obtain⟨rfl,_⟩:=zD (show aget [(0,Pl.arr 1 (zh ys) false)] p=some x from hx);obtain⟨rfl,_⟩:=zD (show aget [(0,Pl.arr 1 (zh ys) false)] q=some y from hy)
  grind
 .intro p x g hx ad;obtain⟨rfl,rfl⟩:=zD (show aget [(0,Pl.arr 1 (zh ys) false)] p=some x from hx);have ad:(ι 0).b=some g:=ad<;>grind
 .intro p x hx;obtain⟨rfl,rfl⟩:=zD (show aget [(0,Pl.arr 1 (zh ys) false)] p=some x from hx);rfl
 .grind
 refine⟨rfl,rfl,rfl,?_,λg ar hm=>?_,λg t m hs=>?_⟩
 .grind[sortWorld,size_grow,size_putRow,heap_ahead]
 .grind[Y2]
 by_cases e:g=b
 .subst e;simp only[bR,i]at hs;simp only[bR,Y3 (cX .i64) w g n ys.toArray os i,Xg];exact hs
 have ai:g<w.heap.size:=by
  rcases dd g w.heap.size with h|h
  .exact h
  simp[bR,bV.getElem?_eq_none h]at hs
 simp only[bR,Y2 _ w b n ys.toArray os ai e];exact hs
end
section
open Go Go.AM
attribute [local irreducible] Sat zA zX
def Qh(l:am Spa)(s:Spa):am Int×Int:=jx l (wU l) (YH l) s l.length 0 l.length ([],0)
def Vb(l:am Spa)(s:Spa):am Int:=VN (Qh l s).1
theorem anF(l:am Spa)(s:Spa):(Qh l s).1.length<=l.length:=by grind[aeG,Qh]
theorem awY(l:am Spa)(s:Spa):(Vb l s).length<=l.length:=by unfold Vb;rw[(WA _).length_eq];exact anF l s
theorem aoP(l:am Spa)(s:Spa)(i:l.length<=1000000):
 zA Pg XJ [.c (.ptr 0 0),.c (int 0),.c (int l.length)] [.box (Z4 (gT l (wU l) (YH l) s) .nil [.lit (.int .i64 0)])]
  (λr=>r=⟨.tup [],[.box (Z4 (gT l (wU l) (YH l) s) (.own 1 1 (Qh l s).1.length) [.lit (.int .i64 (Qh l s).2)]),.arr 1 (zh (Qh l s).1) false]⟩):=by
 have h:=al7 l (wU l) (YH l) s l.length rfl i (aas l) (ajA l) (ajB l) l.length 0 l.length [] 0 d8 (aF _) (aY _) dX (bJ _) dX;refine zA.nilArg d8 ?_ h ?_
 .intro x g;simp only[aM,ck,cY]at g;rcases g with rfl|rfl|rfl
  .grind
  .exact .inr ⟨_,rfl⟩
  exact .inr ⟨_,rfl⟩
 rintro r rfl;exact⟨_,rfl,λF ι0 w' v h=>ZW.rename (a:=2) (b:=1) d8 d8 rfl rfl rfl rfl dT dT dT h⟩
theorem ama(l:am Spa)(s:Spa)(o:l.length<=1000000):
 Sat Pg ap7 [.c (.d (.sl (wG l))),.agg [.d (.sl (zh (wU l))),.d (.sl (zh (YH l)))],.agg [int s.a,int s.b]]
  (λr=>r=⟨.w (.c (.ptr 0 0)),[.box (Z4 (gT l (wU l) (YH l) s) (.own 1 1 (Qh l s).1.length) [.lit (.int .i64 (Qh l s).2)]),.arr 1 (zh (Vb l s)) false]⟩):=by
 have g:=aiu l o;have i:=aoP l s o;have j:=as7 (Qh l s).1 (by grind[anF]);unfold Vb;unfold gT at*;generalize Qh l s=R at*;generalize wU l=od at*;generalize YH l=J at*;obtain⟨p,I⟩:=s;obtain⟨f,vs⟩:=R;simp only at*;refine apQ.s T8 ?_;refine aC g ?_;rw[Vy];refine zA.mono i ?_;rintro _ rfl
 conv=>whnf
 refine zA.mono j ?_;rintro _ rfl;exact rfl
theorem afr(l:am Spa)(s:Spa)(g:l.length<=1000000):
 dY ahX [.c (.d (.sl (wG l))),.agg [.d (.sl (zh (wU l))),.d (.sl (zh (YH l)))],.agg [int s.a,int s.b]] (rC (.d (.sl (zh (Vb l s))))):=by have hr:=ama l s g;have i:(Vb l s).length=(Qh l s).1.length:=(WA _).length_eq;unfold gT at hr;generalize Qh l s=R at*;generalize Vb l s=L at*;generalize wU l=od at*;generalize YH l=p at*;obtain⟨j,o⟩:=s;obtain⟨f,vs⟩:=R;simp only at*;refine zC ?_;refine ahw.s T8 ?_;refine aC hr ?_;refine⟨rfl,?_⟩;refine cU (b:=⟨.w (.c (.d (.sl ((zh L).take f.length)))),[]⟩) rfl ?_;rw[aZ (by simp_all[zE])];rfl
def ug(cols:am Col)(l:am (am Val)):Res:=bif decide (l.length<=20000)then qY ⟨cols,l⟩ 0 else qY ⟨[],[]⟩ 7
theorem asR{cols:am Col}{l:am (am Val)}(h:20000<l.length):ug cols l=qY ⟨[],[]⟩ 7:=by grind[ug]
theorem aBB{Q:E->S->Prop}{s:S}(cols bc:am Col)(br:am (am Val))(left right:am Int)(p q U q2:Int)(g:am Int)(ar:am (am Val))(i:Nat)(x:am Val)(o r:Int)(out R:am (am Val))(Y:Res)
 (aa:out.length<=20000) (a1:br.length<=1000000) (a2:left.length<=100000) (a4:right.length<=100000) (a3:g.length<=100000) (a5:x.length<=100000) (hx:zS x.length left) (hp:0<=p/\p<x.length) (hq:0<=q/\q<x.length)
 (hy:∀y∈br,zS y.length right/\zS y.length g/\zS y.length [U,q2])
 (hY:Y=ug cols (out++(wF p q U q2 left right g x o r br++R)))
 (h0:y8 s [4,6,10,11,12,13,14,15,17,18,60,61,62,75,76,77] (· =Ke cols bc br left right p q U q2 g ar i x o r 0 out))
 (ae:∀(T:am (am Val)) (u v:Int),Y=qY ⟨[],[]⟩ 7->Q .ret ⟨[(6,cV (.ptr 6 0)),(7,zm 7)],[(4,.box [.d (.sl (zl bc)),.d (.sl (zg br))]),(6,.box [.nil,.nil]),(15,.box [.d (.sl (zl cols)),.own 143 1 T.length]),(18,.box [int o,int r]),(22,.box [int u,int v]),(143,.arr 1 (zg T) false)]⟩)
 (hQ:∀T:am (am Val),T.length<=20000->Y=ug cols (T++R)->Q (.exit 2) (xM (Ke cols bc br left right p q U q2 g ar i x o r br.length T) 78 (zZ (decide ((br.length:Int)<br.length))))):
 zX (mwpR Pg T8.f (yi.l 0)) [4,6,10,11,12,13,14,15,17,18,60,61,62,75,76,77] Q s:=by
 refine yq (P:=Pg) (f:=T8.f) (body:=(yi.l 0)) (λz:Nat×am (am Val)=>Ke cols bc br left right p q U q2 g ar i x o r z.1 z.2) (λz=>br.length-z.1)
  (λz=>z.1<=br.length/\z.2.length<=20000/\Y=ug cols (z.2++(wF p q U q2 left right g x o r (br.drop z.1)++R))) ⟨(0,out),⟨aF _,aa,hY⟩,h0⟩ ?_
 clear h0 hY aa;rintro⟨j,T⟩ ⟨hj,hT,J⟩;have hj:j<=br.length:=hj;have hT:T.length<=20000:=hT;have J:Y=ug cols (T++(wF p q U q2 left right g x o r (br.drop j)++R)):=J;show mwpR Pg T8.f (yi.l 0) _ (Ke cols bc br left right p q U q2 g ar i x o r j T);have aq:(zg T).take T.length=zg T:=by grind[zy]
 unfold Ke;refine rgE (λI=>?_) (λak=>?_)
 .have hg:=yS I;obtain⟨av,aw,af⟩:=hy _ (aG I);have wi:=zB I d8;have ab:=Ko br[j] U q2 (af _ dT) (af _ dT);have al:=uE x left d8 hx;have ao:=uE br[j] right d8 av;have an:=uE br[j] g d8 aw;have aj:=ad6 (zn x left) (zn br[j] right);rw[zt I]at J;have ad:wF p q U q2 left right g x o r (br[j]::br.drop (j+1))=(bif Yb U q2 left right o r x br[j]then [Je p q g x br[j] (zI true o (at0 br[j] U.toNat).n) (zI false r (at0 br[j] q2.toNat).n)]else [])++wF p q U q2 left right g x o r (br.drop (j+1)):=by unfold wF;rw[cg]
  rw[ad]at J;clear hQ hy ad;unfold Yb at J;obtain⟨R',ah⟩:∃R',R'=wF p q U q2 left right g x o r (br.drop (j+1))++R:=⟨_,rfl⟩;rw[aW,<-ah]at J;generalize br[j]=y at*;generalize at0 y U.toNat=u1 at*;generalize at0 y q2.toNat=u2 at*;generalize uv (zn x left) (zn y right)=ag at*;unfold WC at ab;generalize xx u1 u2=b at*;obtain⟨_,u1,_⟩:=u1;obtain⟨_,u2,_⟩:=u2;simp only at ab J;refine yb hg ?_;refine aC ab ?_;cases b with
  |false=>
   have J:Y=ug cols (T++R'):=dW
   (conv=>whnf);refine⟨(j+1,T),⟨⟨I,hT,d9⟩,d9⟩,ze ?_⟩;(conv=>whnf);rw[wi];rfl
  |true=>
   rw[bT]at J;refine zj (b:=false||decide (zI true o u1>=zI false r u2)) (λh2=>?_) (λh2=>?_)
   .rw[bO]at h2;have J:Y=ug cols (T++R'):=dW
    (conv=>whnf);refine⟨(j+1,T),⟨⟨I,hT,d9⟩,d9⟩,ze ?_⟩;(conv=>whnf);rw[wi];rfl
   rw[bO]at h2;rw[h2,Bool.not_false,bT]at J;refine aC al ?_;refine aC ao ?_;refine aC aj ?_;cases ag with
   |false=>
    have J:Y=ug cols (T++R'):=dW
    (conv=>whnf);refine⟨(j+1,T),⟨⟨I,hT,d9⟩,d9⟩,ze ?_⟩;(conv=>whnf);rw[wi];rfl
   |true=>
    rw[aB]at J;refine zj (b:=(T.length:Int)==20000) (λh3=>?_) (λh3=>?_)
    .have ai:T.length=20000:=by have:=eq_of_beq h3;omega
     have ax:Y=qY ⟨[],[]⟩ 7:=by grind[asR]
     (conv=>whnf);exact ae T u1 u2 ax
    have ai:T.length≠20000:=λe=>d9
    (conv=>whnf);refine bC (uU x d8) ?_;rintro _ (⟨ac,rfl⟩|rfl)
    .subst ac;simp at hp;omega
    refine aC an ?_;refine⟨QO _,by grind[yz,zu,zn],by grind[zu,zn],?_⟩;(conv=>whnf);rw[show aH (rowD x).length (rowD x)++rowD (zn y g)=rowD (x++zn y g)by grind[rowD],show(rowD x).length+(rowD (zn y g)).length=(x++zn y g).length by simp[zu]];have a0:x.length<=(x++zn y g).length:=dT
    unfold Je at J;generalize x++zn y g=R0 at*;refine vt ?_;refine vt ?_;refine⟨hp.1,d8,?_⟩;(conv=>whnf);refine⟨(at0 R0 p.toNat).ds,Xc d8,bU rfl,?_⟩;(conv=>whnf);rw[show(rowD R0).set p.toNat (ye (at0 R0 p.toNat).ds 1 [.lit (.int .i64 (zI true o u1))])=rowD (setN R0 p (zI true o u1))from QN _ _ _];generalize zI true o u1=lo at*;have ay:=Vv R0 p lo;generalize setN R0 p lo=R1 at*;refine⟨hq.1,d8,?_⟩;(conv=>whnf);refine⟨(at0 R1 q.toNat).ds,Xc d8,bU rfl,?_⟩;(conv=>whnf);rw[show(rowD R1).set q.toNat (ye (at0 R1 q.toNat).ds (0+1) [.lit (.int .i64 (zI false r u2))])=rowD (setN R1 q (zI false r u2))from QN _ _ _];generalize zI false r u2=hi at*;have az:=Vv R1 q hi;generalize setN R1 q hi=R2 at*;have au:aH R0.length (rowD R2)=rowD R2:=by grind[zu]
    rw[au];refine qr ?_;refine⟨(j+1,T++[R2]),⟨⟨I,d9,d9⟩,d9⟩,ze ?_⟩;(conv=>whnf);rw[wi,aq];show _=Ke cols bc br left right p q U q2 g ar i x o r (j+1) (T++[R2]);unfold Ke;rw[xy,aQ];rfl
 subst ak;rw[cm]at J;have hQ:=hQ T hT (by rw[J];rfl);unfold xM Ke at hQ;(conv=>whnf);exact hQ
theorem aBC{s:S}(cols bc:am Col)(br:am (am Val))(left right:am Int)(p q I J:Int)(g:am Int)(j:am (am Val))
 (aq:j.length<=1000000) (af:br.length<=1000000) (ah:left.length<=100000) (aj:right.length<=100000) (ai:g.length<=100000)
 (hx:∀x∈j,x.length<=100000/\zS x.length left/\zS x.length [p,q])
 (hy:∀y∈br,zS y.length right/\zS y.length g/\zS y.length [I,J])
 (h0:y8 s [4,6,10,11,12,13,14,15,60,61,62] (· =agK cols bc br left right p q I J g j 0 [])):
 zX (mwpR Pg T8.f (yi.l 1)) [4,6,10,11,12,13,14,15,60,61,62] (ZF 0 (Wz (mwpR Pg T8.f ovRest) (ZZ yi.A.res [] (DQ (ug cols (xL p q I J left right g j br)))))) s:=by
 obtain⟨Y,hY⟩:∃Y,Y=ug cols (xL p q I J left right g j br):=⟨_,rfl⟩;rw[<-hY]
 refine yq (P:=Pg) (f:=T8.f) (body:=(yi.l 1)) (λz:Nat×am (am Val)=>agK cols bc br left right p q I J g j z.1 z.2) (λz=>j.length-z.1)
  (λz=>z.1<=j.length/\z.2.length<=20000/\Y=ug cols (z.2++xL p q I J left right g (j.drop z.1) br)) ⟨(0,[]),⟨aF _,aF _,hY⟩,h0⟩ ?_
 clear h0 hY;rintro⟨i,U⟩ ⟨hi,hU,o⟩;have hi:i<=j.length:=hi;have hU:U.length<=20000:=hU;have o:Y=ug cols (U++xL p q I J left right g (j.drop i) br):=o;show mwpR Pg T8.f (yi.l 1) _ (agK cols bc br left right p q I J g j i U);have ak:(zg U).take U.length=zg U:=by grind[zy]
 unfold agK;refine uT (λr=>?_) (λag=>?_)
 .have hg:=yS r;obtain⟨al,an,aa⟩:=hx _ (aG r);have wi:=zB r d8;have ab:=Ko j[i] p q (aa _ dT) (aa _ dT);rw[zt r]at o;have ac:xL p q I J left right g (j[i]::j.drop (i+1)) br=XO p q I J left right g br j[i]++xL p q I J left right g (j.drop (i+1)) br:=by grind[xL]
  rw[ac]at o;obtain⟨R,ae⟩:∃R,R=xL p q I J left right g (j.drop (i+1)) br:=⟨_,rfl⟩;rw[<-ae]at o;have ad:=λ(Q':E->S->Prop) (s':S) (s1 s2:Int)=>aBB (Q:=Q') (s:=s') cols bc br left right p q I J g j i j[i] s1 s2 U R Y hU af ah aj ai al an (aa _ dT) (aa _ dT) hy
  clear hx ac;unfold XO at o;generalize j[i]=x at*;generalize at0 x p.toNat=u1 at*;generalize at0 x q.toNat=u2 at*;unfold WC at ab;generalize xx u1 u2=b at*;obtain⟨_,u1,_⟩:=u1;obtain⟨_,u2,_⟩:=u2;simp only at ab o;refine yb hg ?_;refine aC ab ?_;cases b with
  |false=>
   have o:Y=ug cols (U++R):=dW
   (conv=>whnf);refine⟨(i+1,U),⟨⟨r,hU,d9⟩,d9⟩,ze ?_⟩;(conv=>whnf);rw[wi];rfl
  |true=>
   rw[aB]at o;(conv=>whnf);refine ad _ _ u1 u2 o (ze ?_) (λT u v ao=>?_) (λT hT au=>?_)
   ·(conv=>whnf);unfold Ke;rw[zy];rfl
   .subst ao;exact⟨rfl,rfl⟩
   unfold xM Ke;(conv=>whnf);refine⟨(i+1,T),⟨⟨r,hT,d9⟩,d9⟩,ze ?_⟩;(conv=>whnf);rw[wi];rfl
 rw[aR ag]at o;have o:Y=qY ⟨cols,U⟩ 0:=by grind[ug,xL]
 subst o;(conv=>whnf);refine⟨rfl,?_⟩;refine cU (b:=⟨.tup [.agg [.d (.sl (zl cols)),.d (.sl ((zg U).take U.length))],.c (int 0)],[]⟩) rfl ?_;rw[ak];rfl
def asS(a b:Tbl)(g:am ByteArray):Res:=bif (ZA 7 g a b).1 !=0 then qY ⟨[],[]⟩ (ZA 7 g a b).1 else
 ug (ZA 7 g a b).2 (xL (zf a.cols sFrom) (zf a.cols sTo) (zf b.cols sFrom) (zf b.cols sTo) (zi a.cols g) (zi b.cols g) (oth (g++[sFrom,sTo]) 0 b.cols) a.rows b.rows)
theorem ad4(a b:Tbl)(g:am ByteArray)(aj:g.length<=100000)(ae:a.cols.length<=1000000)(J:b.cols.length<=1000000):dY wJ [a.w,b.w,.c (.d (.sl (zp g)))] (asS a b g):=by
 have hc:=abU 7 g a b d8 ae J;have l:=@akc 7 g a b d8;have ag:=qE a.cols (.sl (zg a.rows)) g d8;have ah:=qE b.cols (.sl (zg b.rows)) g d8;have aa:=qE a.cols (.sl (zg a.rows)) [sFrom,sTo] dT;have ab:=qE b.cols (.sl (zg b.rows)) [sFrom,sTo] dT;have R:=ag5 b.cols (.sl (zg b.rows)) (g++[sFrom,sTo]) J;have af:=uy g d8;have U:dY Ya [b.w,.c (.d (.sl (aH ((zp g).length+(aH 2 (zp [sFrom,sTo])).length) (aH (zp g).length (zp g)++aH 2 (zp [sFrom,sTo])))))] (rC (.d (.sl (zh (oth (g++[sFrom,sTo]) 0 b.cols))))):=by
  rw[show aH ((zp g).length+(aH 2 (zp [sFrom,sTo])).length) (aH (zp g).length (zp g)++aH 2 (zp [sFrom,sTo]))=zp (g++[sFrom,sTo])by grind[zp]]
  exact R
 unfold asS;generalize ZA 7 g a b=c at*;obtain⟨c1,c2⟩:=c;simp only at l⊢;refine zC ?_;obtain⟨j,ar⟩:=a;obtain⟨i,br⟩:=b;simp only at*;refine yi.s T8 ?_;refine aC hc ?_;refine zx (λo=>?_) (λo=>?_)
 .rw[show(c1 !=0)=true from o];exact⟨rfl,rfl⟩
 have o:(c1 !=0)=false:=o;rw[o];have ad:c1=0:=d9
 subst ad;obtain⟨ka,kb,hj⟩:=l rfl;obtain⟨i1,i2⟩:=Zt hj.jn;have i3:=vU hj.i1;have i4:=vU hj.i2;have wa:=wP ka;have wb:=wP kb;have fa:=xT ka;have fb:=xT kb;have ol:=Vp (g++[sFrom,sTo]) i 0;have oi:=aat (g++[sFrom,sTo]) i;have p1:zi j [sFrom,sTo]=[zf j sFrom,zf j sTo]:=rfl;have p2:zi i [sFrom,sTo]=[zf i sFrom,zf i sTo]:=rfl;have l1:(zi j g).length=g.length:=by simp[zi]
 have l2:(zi i g).length=g.length:=by simp[zi]
 have hm:=λ(s:S)=>aBC (s:=s) c2 i br (zi j g) (zi i g) (zf j sFrom) (zf j sTo) (zf i sFrom) (zf i sTo) (oth (g++[sFrom,sTo]) 0 i) ar d9 d9 d8 d8 d9
  (λx hx=>by have I:=wa x hx;have:=fa.1;simp only at this I;exact⟨d8,d9,by rw[I];exact i3⟩)
  (λy hy=>by have I:=wb y hy;simp only at I;exact⟨d9,d9,by rw[I];exact i4⟩)
 rw[p1]at aa;rw[p2]at ab;clear i1 i2 i3 i4 wa wb fa fb ol oi p1 p2 l1 l2 hj ka kb l o;generalize zf j sFrom=p at*;generalize zf j sTo=q at*;generalize zf i sFrom=p2 at*;generalize zf i sTo=q2 at*;generalize zi j g=left at*;generalize zi i g=right at*;generalize oth (g++[sFrom,sTo]) 0 i=ai at*;refine aC ag ?_;refine aC ah ?_
 repeat' (first
  |(refine bC aa ?_;rintro _ rfl;conv=>whnf)
  |(refine bC ab ?_;rintro _ rfl;conv=>whnf)
  |(refine bC af ?_;rintro _ (⟨P,rfl⟩|rfl)<;>conv=>whnf)
  |(refine⟨dT,by unfold yz;simp only[zP];simp;omega,by simp only[zP];simp;omega,?_⟩;conv=>whnf)
  |(refine⟨dT,by unfold yz;simp,dT,?_⟩;conv=>whnf)
  |(refine bC U ?_;rintro _ rfl;conv=>whnf)
  |(subst P;refine bC R ?_;rintro _ rfl;conv=>whnf)
  |(refine aN ?_ ?_<;>conv=>whnf))
 all_goals rw[zy]
 all_goals refine hm _ ⟨_,uG 15 1 143 1 d8 d8 rfl,?_⟩
 all_goals conv=>whnf
 all_goals rfl
def J6(y:am Val)(right:am Int):ByteArray:=(qc y right).getD ⟨#[]⟩
def Zx(br:am (am Val))(n:Int):am Val:=br.getD n.toNat []
def amy(p q:Int)(g:am Int)(x y:am Val)(lo hi:Int)(u:Spa):am Val:=setN (setN (x++zn y g) p (zI true lo u.a)) q (zI false hi u.b)
def abW(p q:Int)(right g:am Int)(br:am (am Val))(l:am Spa)(x:am Val)(k:ByteArray)(lo hi:Int)(n:Int):am (am Val):=
 bif !zo (J6 (Zx br n) right) k then []else [amy p q g x (Zx br n) lo hi (xI l n)]
def Kr(p q:Int)(right g:am Int)(br:am (am Val))(l:am Spa)(x:am Val)(k:ByteArray)(lo hi:Int)(i:am Int):am (am Val):=i.flatMap (abW p q right g br l x k lo hi)
def sjS(l:am Spa)(I:am Col)(br:am (am Val))(cols:am Col)(left right:am Int)(p q:Int)(o:am Int)(od J:am Int)(r:am (am Val))(i:Nat)(x:am Val)(k:ByteArray)(lo hi:Int)(g:am Int)(j:Nat)(out:am (am Val)):S:=
 ⟨[(4,.w (.c (.d (.sl (wG l))))),(7,cV (.ptr 7 0)),(10,cV (.ptr 10 0)),(12,.w (.c (.d (.sl (zh left))))),(13,.w (.c (.d (.sl (zh right))))),(14,.w (.c (.d (.sl (zh [p,q]))))),(15,.w (.c (.d (.sl (zh o))))),(16,cV (.ptr 16 0)),(17,cV (.ptr 17 0)),(19,.w (yu x)),(22,cV (str k)),(24,cV (.ptr 24 0)),(57,.w (.c (.d (.sl (zg r))))),(58,zm r.length),(59,zm i),(96,.w (.c (.d (.sl (zh g))))),(97,zm g.length),(98,zm j)],
 [(7,.box [.d (.sl (zl I)),.d (.sl (zg br))]),(10,.box [.nil,.nil]),(16,.box [.d (.sl (zh od)),.d (.sl (zh J))]),(17,.box [.d (.sl (zl cols)),.own 159 1 out.length]),(24,.box [int lo,int hi]),(159,.arr 1 (zg out) false)]⟩
theorem aoR(row:am Val)(at_:am Int)(i:zS row.length at_)(g:at_.length<=1000000)(hv:∀v∈row,VS v):dY Wm [yu row,.c (.d (.sl (zh at_)))] ⟨.tup [.c (str (J6 row at_)),.c (bool (qc row at_).isSome)],[]⟩:=by refine Sat.cal (ae3 row at_ i g hv) ?_;unfold J6 qc;cases uq row at_<;>rfl
theorem aCy{Q:E->S->Prop}{s:S}(l:am Spa)(bc:am Col)(br:am (am Val))(cols:am Col)(left right:am Int)(p q:Int)(g:am Int)(od mo:am Int)(ar:am (am Val))(i:Nat)(x:am Val)(k:ByteArray)(lo hi:Int)(o:am Int)(out R:am (am Val))(Y:Int×Tbl)
 (ab:out.length<=20000) (a0:l.length=br.length) (az:o.length<=1000000) (a2:right.length<=100000) (a1:g.length<=100000) (au:x.length<=100000) (hp:0<=p/\p<x.length) (hq:0<=q/\q<x.length) (hid:∀n∈o,0<=n/\n<br.length)
 (hy:∀y∈br,zS y.length right/\zS y.length g) (hv:∀r∈br,∀v∈r,VS v)
 (hY:Y=xG cols (out++(Kr p q right g br l x k lo hi o++R)))
 (h0:y8 s [4,7,10,12,13,14,15,16,17,19,22,24,57,58,59,96,97,98] (· =sjS l bc br cols left right p q g od mo ar i x k lo hi o 0 out))
 (ae:∀T:am (am Val),Y=(7,⟨[],[]⟩)->Q .ret ⟨[(10,cV (.ptr 10 0)),(11,zm 7)],[(7,.box [.d (.sl (zl bc)),.d (.sl (zg br))]),(10,.box [.nil,.nil]),(16,.box [.d (.sl (zh od)),.d (.sl (zh mo))]),(17,.box [.d (.sl (zl cols)),.own 159 1 T.length]),(24,.box [int lo,int hi]),(159,.arr 1 (zg T) false)]⟩)
 (hQ:∀T:am (am Val),T.length<=20000->Y=xG cols (T++R)->Q (.exit 2) (xM (sjS l bc br cols left right p q g od mo ar i x k lo hi o o.length T) 99 (zZ (decide ((o.length:Int)<o.length))))):
 zX (mwpR Pg T8.f (y6.l 0)) [4,7,10,12,13,14,15,16,17,19,22,24,57,58,59,96,97,98] Q s:=by
 refine yq (P:=Pg) (f:=T8.f) (body:=(y6.l 0)) (λz:Nat×am (am Val)=>sjS l bc br cols left right p q g od mo ar i x k lo hi o z.1 z.2) (λz=>o.length-z.1)
  (λz=>z.1<=o.length/\z.2.length<=20000/\Y=xG cols (z.2++(Kr p q right g br l x k lo hi (o.drop z.1)++R))) ⟨(0,out),⟨aF _,ab,hY⟩,h0⟩ ?_
 clear h0 hY ab;rintro⟨j,T⟩ ⟨hj,hT,J⟩;have hj:j<=o.length:=hj;have hT:T.length<=20000:=hT;have J:Y=xG cols (T++(Kr p q right g br l x k lo hi (o.drop j)++R)):=J;show mwpR Pg T8.f (y6.l 0) _ (sjS l bc br cols left right p q g od mo ar i x k lo hi o j T);have ao:(zg T).take T.length=zg T:=by grind[zy]
 unfold sjS;refine zj (λh1=>?_) (λh1=>?_)
 .have U:j<o.length:=by have:=aL h1;omega
  have hg:=xg U;have wi:=zB U d8;have hn:=hid _ (aG U);rw[zt U]at J;have ad:Kr p q right g br l x k lo hi (o[j]::o.drop (j+1))=abW p q right g br l x k lo hi o[j]++Kr p q right g br l x k lo hi (o.drop (j+1)):=by grind[Kr]
  rw[ad]at J;clear hQ ad;obtain⟨R',ac⟩:∃R',R'=Kr p q right g br l x k lo hi (o.drop (j+1))++R:=⟨_,rfl⟩;rw[aW,<-ac]at J;unfold abW at J;generalize o[j]=n at*;have h6:n.toNat<br.length:=d8
  have ai:Zx br n=br[n.toNat]:=by grind[Zx]
  have al:(zg br)[n.toNat]?=some [.sl (rowD (Zx br n))]:=by grind[zg]
  have aa:=aj7 l hn.1 d9;obtain⟨af,ag⟩:zS (Zx br n).length right/\zS (Zx br n).length g:=d9
  have hk:=aoR (Zx br n) right af d8 d9;have an:=ad7 (Zx br n) g d8 ag;have aj:=vH x (zn (Zx br n) g) au (by grind[zn]);unfold amy at J;clear hy hv ai af ag;generalize Zx br n=y at*;generalize(qc y right).isSome=kb at*;generalize J6 y right=ks at*;generalize xI l n=sp at*;obtain⟨u1,u2⟩:=sp;simp only at J;have aa:(wG l)[n.toNat]?=some [.lit (.int .i64 u1),.lit (.int .i64 u2)]:=aa;(conv=>whnf);refine⟨d8,_,hg,rfl,?_⟩;(conv=>whnf);(conv=>whnf);refine⟨hn.1,_,al,rfl,?_⟩;refine aC hk ?_;refine zx (b:=!zo ks k) (λh2=>?_) (λh2=>?_)
  .have J:Y=xG cols (T++R'):=dW
   (conv=>whnf);refine⟨(j+1,T),⟨⟨U,hT,d9⟩,d9⟩,ze ?_⟩;(conv=>whnf);rw[wi];rfl
  rw[h2,aA]at J;refine zj (b:=(T.length:Int)==20000) (λh3=>?_) (λh3=>?_)
  .have ah:T.length=20000:=by have:=eq_of_beq h3;omega
   have av:Y=(7,⟨[],[]⟩):=by grind[akI]
   (conv=>whnf);exact ae T av
  have ah:T.length≠20000:=λe=>d9
  have ay:x.length<=(x++zn y g).length:=dT
  generalize x++zn y g=I at*;refine aC an ?_;refine aC aj ?_;refine⟨d8,_,rfl,rfl,?_⟩;(conv=>whnf);refine⟨d8,_,rfl,rfl,?_⟩;(conv=>whnf);refine⟨hn.1,_,aa,rfl,?_⟩;(conv=>whnf);refine⟨hn.1,_,aa,rfl,?_⟩;(conv=>whnf);refine⟨hp.1,d8,?_⟩;(conv=>whnf);have aw:=Vv I p (zI true lo u1);have ax:=Vv (setN I p (zI true lo u1)) q (zI false hi u2);have aq:aH I.length (rowD (setN (setN I p (zI true lo u1)) q (zI false hi u2)))=rowD (setN (setN I p (zI true lo u1)) q (zI false hi u2)):=by grind[zu]
  refine aN ?_ ?_;all_goals conv=>whnf
  all_goals refine⟨(at0 I p.toNat).ds,Xc d8,bU rfl,?_⟩
  all_goals conv=>whnf
  all_goals rw[show(rowD I).set p.toNat (ye (at0 I p.toNat).ds (0+1) [.lit (.int .i64 (zI true lo u1))])=rowD (setN I p (zI true lo u1))from QN _ _ _]
  all_goals refine⟨hq.1,d8,?_⟩
  all_goals conv=>whnf
  all_goals refine⟨(at0 (setN I p (zI true lo u1)) q.toNat).ds,Xc d8,bU rfl,?_⟩
  all_goals conv=>whnf
  all_goals rw[show(rowD (setN I p (zI true lo u1))).set q.toNat (ye (at0 (setN I p (zI true lo u1)) q.toNat).ds (0+1) [.lit (.int .i64 (zI false hi u2))])=rowD (setN (setN I p (zI true lo u1)) q (zI false hi u2))from QN _ _ _]
  all_goals rw[aq]
  all_goals generalize setN (setN I p (zI true lo u1)) q (zI false hi u2)=R2 at*
  all_goals refine⟨dT,by unfold yz;simp;omega,dX,?_⟩
  all_goals conv=>whnf
  all_goals refine⟨(j+1,T++[R2]),⟨⟨U,by show(T++[R2]).length<=20000;simp;omega,by rw[J,ac];simp⟩,by show o.length-(j+1)<o.length-j;omega⟩,ze ?_⟩
  all_goals conv=>whnf
  all_goals rw[wi,ao]
  all_goals show _=sjS l bc br cols left right p q g od mo ar i x k lo hi o (j+1) (T++[R2])
  all_goals unfold sjS
  all_goals rw[xy,aQ]
  all_goals rfl
 have ak:j=o.length:=d9
 subst ak;rw[cm]at J;have hQ:=hQ T hT (by rw[J];rfl);unfold xM sjS at hQ;(conv=>whnf);exact hQ
def sjX(p q:Int)(left right g:am Int)(br:am (am Val))(l:am Spa)(x:am Val):am (am Val):=
 bif !xx (at0 x p.toNat) (at0 x q.toNat)||(!(qc x left).isSome||!ui (zI true (at0 x p.toNat).n 0) (zI false (at0 x q.toNat).n 1000000000000))then []else
  Kr p q right g br l x (J6 x left) (zI true (at0 x p.toNat).n 0) (zI false (at0 x q.toNat).n 1000000000000) (Vb l ⟨zI true (at0 x p.toNat).n 0,zI false (at0 x q.toNat).n 1000000000000⟩)
theorem awZ(l:am Spa)(s:Spa):∀n∈Vb l s,0<=n/\n<l.length:=by
 have gen:∀(f lo hi:Nat) (st:am Int×Int),lo<=l.length->hi<=l.length->(∀n∈st.1,0<=n/\n<(l.length:Int))->∀n∈(jx l (wU l) (YH l) s f lo hi st).1,0<=n/\n<(l.length:Int):=by
  intro f;induction f with
  |zero=>intro lo hi st _ _ h;exact h
  |succ f i=>
   intro lo hi st j o h;simp only[jx];cases I:(decide (hi<=lo)||decide ((YH l).getD ((lo+hi)/2) 0<=s.a))
   .have r:lo<hi:=d9
    have P:=i lo ((lo+hi)/2) (st.1,st.2+1) j d8 h;cases J:decide ((xI l ((wU l).getD ((lo+hi)/2) 0)).a>=s.b)
    .simp only[aA];refine i _ _ _ d8 o ?_;intro n g;rcases bM.1 g with g|g
     .grind
     cases p:(ui (xI l ((wU l).getD ((lo+hi)/2) 0)).a (xI l ((wU l).getD ((lo+hi)/2) 0)).b&&(ui s.a s.b&&decide ((xI l ((wU l).getD ((lo+hi)/2) 0)).b>s.a)))
     .grind
     rw[p,aB,aK]at g
     grind[ajB]
    simp_all
   simp_all
 intro n g;unfold Vb at g;have g:=(WA _).mem_iff.1 g;unfold Qh at g;exact gen l.length 0 l.length ([],0) (aF _) (aY _) dT n g
def atj(l:am Spa)(o:am Col)(br:am (am Val))(cols:am Col)(left right:am Int)(p q:Int)(g:am Int)(j:am (am Val))(i:Nat)(out:am (am Val)):S:=
 ⟨[(4,.w (.c (.d (.sl (wG l))))),(7,cV (.ptr 7 0)),(10,cV (.ptr 10 0)),(12,.w (.c (.d (.sl (zh left))))),(13,.w (.c (.d (.sl (zh right))))),(14,.w (.c (.d (.sl (zh [p,q]))))),(15,.w (.c (.d (.sl (zh g))))),(16,cV (.ptr 16 0)),(17,cV (.ptr 17 0)),(57,.w (.c (.d (.sl (zg j))))),(58,zm j.length),(59,zm i)],
 [(7,.box [.d (.sl (zl o)),.d (.sl (zg br))]),(10,.box [.nil,.nil]),(16,.box [.d (.sl (zh (wU l))),.d (.sl (zh (YH l)))]),(17,.box [.d (.sl (zl cols)),.own 159 1 out.length]),(159,.arr 1 (zg out) false)]⟩
noncomputable def sjRest:ACode:=y9 (y9 (y9 (y9 (y9 (y9 (y9 y6.A.code))))))
theorem aCz{s:S}(l:am Spa)(bc:am Col)(br:am (am Val))(cols:am Col)(left right:am Int)(p q:Int)(g:am Int)(j:am (am Val))
 (af:l.length=br.length) (ay:j.length<=1000000) (az:br.length<=1000000) (a1:left.length<=100000) (an:right.length<=100000) (al:g.length<=100000)
 (hx:∀x∈j,x.length<=100000/\zS x.length left/\zS x.length [p,q]) (aa:∀r∈j,∀v∈r,VS v)
 (hy:∀y∈br,zS y.length right/\zS y.length g) (aq:∀r∈br,∀v∈r,VS v)
 (h0:y8 s [4,7,10,12,13,14,15,16,17,57,58,59] (· =atj l bc br cols left right p q g j 0 [])):
 zX (mwpR Pg T8.f (y6.l 1)) [4,7,10,12,13,14,15,16,17,57,58,59] (ZF 0 (Wz (mwpR Pg T8.f sjRest) (ZZ y6.A.res [] (DQ (wO (xG cols (j.flatMap (sjX p q left right g br l)))))))) s:=by
 obtain⟨Y,hY⟩:∃Y,Y=xG cols (j.flatMap (sjX p q left right g br l)):=⟨_,rfl⟩;rw[<-hY]
 refine yq (P:=Pg) (f:=T8.f) (body:=(y6.l 1)) (λz:Nat×am (am Val)=>atj l bc br cols left right p q g j z.1 z.2) (λz=>j.length-z.1)
  (λz=>z.1<=j.length/\z.2.length<=20000/\Y=xG cols (z.2++(j.drop z.1).flatMap (sjX p q left right g br l))) ⟨(0,[]),⟨aF _,aF _,hY⟩,h0⟩ ?_
 clear h0 hY;rintro⟨i,U⟩ ⟨hi,hU,o⟩;have hi:i<=j.length:=hi;have hU:U.length<=20000:=hU;have o:Y=xG cols (U++(j.drop i).flatMap (sjX p q left right g br l)):=o;show mwpR Pg T8.f (y6.l 1) _ (atj l bc br cols left right p q g j i U);have ao:(zg U).take U.length=zg U:=by grind[zy]
 unfold atj;refine zj (λh1=>?_) (λh1=>?_)
 .have I:i<j.length:=dW
  have hg:=yS I;have ah:=aG I;obtain⟨au,av,ab⟩:=hx _ ah;have wi:=zB I d8;have ae:=ak6 j[i] p q (ab _ dT) (ab _ dT);have hk:=aoR j[i] left av d8 (aa _ ah);rw[zt I,cg]at o;obtain⟨R,J⟩:∃R,R=(j.drop (i+1)).flatMap (sjX p q left right g br l):=⟨_,rfl⟩;rw[<-J]at o;have ai:=λ(Q':E->S->Prop) (s':S) (k:ByteArray) (lo hi:Int) (ac:am Int)=>aCy (Q:=Q') (s:=s') l bc br cols left right p q g (wU l) (YH l) j i j[i] k lo hi ac U R Y hU af
  have hp:=ab p dT;have hq:=ab q dT;clear hx aa;unfold sjX at o;generalize j[i]=x at*;generalize at0 x p.toNat=u1 at*;generalize at0 x q.toNat=u2 at*;unfold WC at ae;generalize xx u1 u2=b at*;obtain⟨_,u1,_⟩:=u1;obtain⟨_,u2,_⟩:=u2;simp only at ae o;have aa:=kz (zI true u1 0) (zI false u2 1000000000000);have ag:=afr l ⟨zI true u1 0,zI false u2 1000000000000⟩ d8;have a0:=awY l ⟨zI true u1 0,zI false u2 1000000000000⟩;have aj:=awZ l ⟨zI true u1 0,zI false u2 1000000000000⟩;generalize ui (zI true u1 0) (zI false u2 1000000000000)=vb at*;generalize J6 x left=k at*;generalize(qc x left).isSome=kb at*;simp only at ag;(conv=>whnf);refine⟨d8,_,hg,rfl,?_⟩;refine aC ae ?_;refine aC hk ?_;cases b with
  |false=>
   have o:Y=xG cols (U++R):=by rw[o];rfl
   (conv=>whnf);refine⟨(i+1,U),⟨⟨I,hU,by rw[o,J]⟩,by show j.length-(i+1)<j.length-i;omega⟩,ze ?_⟩;(conv=>whnf);rw[wi];rfl
  |true=>
   (conv=>whnf);cases kb with
   |false=>
    have o:Y=xG cols (U++R):=by rw[o];rfl
    (conv=>whnf);refine⟨(i+1,U),⟨⟨I,hU,by rw[o,J]⟩,by show j.length-(i+1)<j.length-i;omega⟩,ze ?_⟩;(conv=>whnf);rw[wi];rfl
   |true=>
    refine aC aa ?_;cases vb with
    |false=>
     have o:Y=xG cols (U++R):=by rw[o];rfl
     (conv=>whnf);refine⟨(i+1,U),⟨⟨I,hU,by rw[o,J]⟩,by show j.length-(i+1)<j.length-i;omega⟩,ze ?_⟩;(conv=>whnf);rw[wi];rfl
    |true=>
     generalize zI true u1 0=lo at*;generalize zI false u2 1000000000000=ad at*;generalize Vb l ⟨lo,ad⟩=ac at*;have o:Y=xG cols (U++(Kr p q right g br l x k lo ad ac++R)):=by rw[o];rfl
     refine aC ag ?_;rw[zE];refine ai _ _ k lo ad ac d8 an al au hp hq (λn hn=>by rw[<-af];exact aj n hn) hy aq o (ze ?_) (λT aw=>?_) (λT hT ax=>?_)
     .exact rfl
     .subst aw;exact⟨rfl,rfl⟩
     unfold xM sjS;(conv=>whnf);refine⟨(i+1,T),⟨⟨I,hT,by rw[ax,J]⟩,by show j.length-(i+1)<j.length-i;omega⟩,ze ?_⟩;(conv=>whnf);rw[wi];rfl
 have ak:j.length<=i:=d9
 rw[aR ak]at o;have o:Y=(0,⟨cols,U⟩):=by grind[xG]
 subst o;(conv=>whnf);refine⟨rfl,?_⟩;refine cU (b:=⟨.tup [.agg [.d (.sl (zl cols)),.d (.sl ((zg U).take U.length))],.c (int 0)],[]⟩) rfl ?_;rw[ao];rfl
theorem aj3(st:Stp)(a b:Tbl)(cols:am Col)(l:am Spa)(I:l.length=b.rows.length)(ak:st.cols.length<=100000)(aa:a.rows.length<=1000000)(o:b.rows.length<=1000000)(ab:b.cols.length<=1000000)
 (hx:∀x∈a.rows,x.length<=100000/\zS x.length (zi a.cols st.cols)/\zS x.length [zf a.cols sFrom,zf a.cols sTo])
 (hy:∀y∈b.rows,zS y.length (zi b.cols st.cols)/\zS y.length (oth (st.cols++[sFrom,sTo]) 0 b.cols)) (J:(oth (st.cols++[sFrom,sTo]) 0 b.cols).length<=100000)
 (R:∀r∈a.rows,∀v∈r,VS v) (U:∀r∈b.rows,∀v∈r,VS v):
 Sat Pg QI [st.w,a.w,b.w,.c (.d (.sl (zl cols))),.c (.d (.sl (wG l)))]
  (λr=>r=wO (xG cols (a.rows.flatMap (sjX (zf a.cols sFrom) (zf a.cols sTo) (zi a.cols st.cols) (zi b.cols st.cols) (oth (st.cols++[sFrom,sTo]) 0 b.cols) b.rows l)))):=by
 obtain⟨i,ar⟩:=a;obtain⟨j,br⟩:=b;have af:=uD i (.sl (zg ar)) st.cols d8;have ag:=uD j (.sl (zg br)) st.cols d8;have ai:=uD i (.sl (zg ar)) [sFrom,sTo] dT;have P:=ad8 j (.sl (zg br)) (st.cols++[sFrom,sTo]) (by simpa using ab);have ad:=uy st.cols d8;have aj:=aeb l (by simp only at I o;omega);have p1:zi i [sFrom,sTo]=[zf i sFrom,zf i sTo]:=rfl;have l1:(zi i st.cols).length=st.cols.length:=by simp[zi]
 have l2:(zi j st.cols).length=st.cols.length:=by simp[zi]
 obtain⟨op,⟨eo,nm,⟨vk,vn,vs⟩,au⟩,al,g,ao,an,n,av⟩:=st;rw[uB];simp only at af ag P ad I ak aa o ab hx hy J R U l1 l2⊢;have ah:dY kZ [.agg [.d (.sl (zl j)),.d (.sl (zg br))],.c (.d (.sl (aH ((zp g).length+(aH 2 (zp [sFrom,sTo])).length) (aH (zp g).length (zp g)++aH 2 (zp [sFrom,sTo])))))] (rC (.d (.sl (zh (oth (g++[sFrom,sTo]) 0 j))))):=by
  rw[show aH ((zp g).length+(aH 2 (zp [sFrom,sTo])).length) (aH (zp g).length (zp g)++aH 2 (zp [sFrom,sTo]))=zp (g++[sFrom,sTo])by rw[cK,show aH 2 (zp [sFrom,sTo])=zp [sFrom,sTo]from rfl,av1,show(zp g).length+(zp [sFrom,sTo]).length=(zp (g++[sFrom,sTo])).length by simp[zP],cK]]
  exact P
 have hm:=λ(s:S)=>aCz (s:=s) l j br cols (zi i g) (zi j g) (zf i sFrom) (zf i sTo) (oth (g++[sFrom,sTo]) 0 j) ar I aa o d8 d8 J hx R hy U
 rw[p1]at ai;clear hx hy R U p1 l1 l2 J;generalize zf i sFrom=p at*;generalize zf i sTo=q at*;generalize zi i g=left at*;generalize zi j g=right at*;generalize oth (g++[sFrom,sTo]) 0 j=aq at*;refine zC ?_;refine y6.s T8 ?_;refine aC af ?_;refine aC ag ?_;refine aC ai ?_
 repeat' (first
  |(refine bC ad ?_;rintro _ (⟨ae,rfl⟩|rfl)<;>conv=>whnf)
  |(refine⟨dT,by unfold yz;simp only[zP];simp;omega,by simp only[zP];simp;omega,?_⟩;conv=>whnf)
  |(refine⟨dT,by unfold yz;simp,dT,?_⟩;conv=>whnf)
  |(refine bC ah ?_;rintro _ rfl;conv=>whnf)
  |(subst ae;refine bC P ?_;rintro _ rfl;conv=>whnf)
  |(refine bC aj ?_;rintro _ rfl;conv=>whnf)
  |(refine aN ?_ ?_<;>conv=>whnf))
 all_goals rw[zy]
 all_goals refine hm _ ⟨_,uG 17 1 159 1 d8 d8 rfl,?_⟩
 all_goals conv=>whnf
 all_goals rfl
end
section
open Go Go.AM
attribute [local irreducible] Sat zA zX zo
theorem YL(s:Stp):dY aae [s.w] ⟨.tup [s.w,.c (bool true)],[]⟩:=by obtain⟨op,⟨o,p,⟨I,J,vs⟩,ks⟩,g,l,j,i,n,tb⟩:=s;rw[uB];refine yA T8 gM.ok dU ?_;exact rfl
theorem aaJ(d:am Nmd)(t:Tbl)(st:Stp)(e:Int)(o:(e !=0)=true)(cols:am Col)(l:dY zQ [.c (.d (.sl (zq d))),.c (.d (.sl (zl t.cols))),st.w] (xH (e,cols))):dY xP [.c (.d (.sl (zq d))),t.w,.c (.d (.ifc 109 st.ds))] (qY ⟨[],[]⟩ e):=by refine zC ?_;have hs:=YL st;obtain⟨tc,P⟩:=t;obtain⟨op,⟨I,J,⟨R,U,vs⟩,ks⟩,g,p,j,i,n,tb⟩:=st;rw[uB]at hs l;refine wz.s T8 ?_;refine aC hs ?_;refine aC l ?_;rw[o];exact⟨rfl,rfl⟩
theorem Uj(s:Stp):dY aad [s.w] ⟨.tup [s.w,.c (bool true)],[]⟩:=by obtain⟨op,⟨o,p,⟨I,J,vs⟩,ks⟩,g,l,j,i,n,tb⟩:=s;rw[uB];refine yA T8 gL.ok dU ?_;exact rfl
theorem aaI(d:am Nmd)(t:Tbl)(st:Stp)(e:Int)(o:(e !=0)=true)(cols:am Col)(l:dY zQ [.c (.d (.sl (zq d))),.c (.d (.sl (zl t.cols))),st.w] (xH (e,cols))):dY xP [.c (.d (.sl (zq d))),t.w,.c (.d (.ifc 110 st.ds))] (qY ⟨[],[]⟩ e):=by refine zC ?_;have hs:=Uj st;obtain⟨tc,P⟩:=t;obtain⟨op,⟨I,J,⟨R,U,vs⟩,ks⟩,g,p,j,i,n,tb⟩:=st;rw[uB]at hs l;refine wz.s T8 ?_;refine aC hs ?_;refine aC l ?_;rw[o];exact⟨rfl,rfl⟩
theorem UX(s:Stp):dY abo [s.w] ⟨.tup [s.w,.c (bool true)],[]⟩:=by obtain⟨op,⟨o,p,⟨I,J,vs⟩,ks⟩,g,l,j,i,n,tb⟩:=s;rw[uB];refine yA T8 abc.ok dU ?_;exact rfl
theorem abT(d:am Nmd)(t:Tbl)(st:Stp)(e:Int)(o:(e !=0)=true)(cols:am Col)(l:dY zQ [.c (.d (.sl (zq d))),.c (.d (.sl (zl t.cols))),st.w] (xH (e,cols))):dY xP [.c (.d (.sl (zq d))),t.w,.c (.d (.ifc 111 st.ds))] (qY ⟨[],[]⟩ e):=by refine zC ?_;have hs:=UX st;obtain⟨tc,P⟩:=t;obtain⟨op,⟨I,J,⟨R,U,vs⟩,ks⟩,g,p,j,i,n,tb⟩:=st;rw[uB]at hs l;refine wz.s T8 ?_;refine aC hs ?_;refine aC l ?_;rw[o];exact⟨rfl,rfl⟩
theorem aoW(d:am Nmd)(t:Tbl)(st:Stp)(cols:am Col)(I:dY zQ [.c (.d (.sl (zq d))),.c (.d (.sl (zl t.cols))),st.w] (xH (0,cols)))(g:Tbl)(i:zU st.table d=some g)(y:Int×Tbl)(p:dY Wl [st.w,t.w,g.w,.c (.d (.sl (zl cols)))] (wO y)):dY xP [.c (.d (.sl (zq d))),t.w,.c (.d (.ifc 111 st.ds))] (wO y):=by have hs:=UX st;have J:=y4 d st.table;rw[i]at J;obtain⟨tc,tr⟩:=t;obtain⟨U,fr⟩:=g;obtain⟨y1,⟨y2,y3⟩⟩:=y;obtain⟨op,⟨R,nm,⟨vk,vn,vs⟩,ks⟩,j,P,o,l,n,tb⟩:=st;rw[uB]at hs I p;simp only at*;refine wz.s T8 ?_;refine aC hs ?_;refine aC I ?_;refine aC J ?_;refine aC p ?_;rfl
theorem ami(d:am Nmd)(t:Tbl)(st:Stp)(cols:am Col)(I:dY zQ [.c (.d (.sl (zq d))),.c (.d (.sl (zl t.cols))),st.w] (xH (0,cols)))(g:Tbl)(i:zU st.table d=some g)(y:Int×Tbl)(p:dY QH [st.w,t.w,g.w,.c (.d (.sl (zl cols)))] ⟨.w y.2.w,[]⟩):dY xP [.c (.d (.sl (zq d))),t.w,.c (.d (.ifc 110 st.ds))] (qY y.2 0):=by have hs:=Uj st;have J:=y4 d st.table;rw[i]at J;obtain⟨tc,tr⟩:=t;obtain⟨U,fr⟩:=g;obtain⟨y1,⟨y2,y3⟩⟩:=y;obtain⟨op,⟨R,nm,⟨vk,vn,vs⟩,ks⟩,j,P,o,l,n,tb⟩:=st;rw[uB]at hs I p;simp only at*;refine wz.s T8 ?_;refine aC hs ?_;refine aC I ?_;refine aC J ?_;refine aC p ?_;rfl
theorem amj(d:am Nmd)(t:Tbl)(st:Stp)(cols:am Col)(J:dY zQ [.c (.d (.sl (zq d))),.c (.d (.sl (zl t.cols))),st.w] (xH (0,cols)))(g:Tbl)(i:zU st.table d=some g)(l:am Spa)(R:dY Y5 [g.w] (rSO (some l)))(y:Int×Tbl)(I:dY QI [st.w,t.w,g.w,.c (.d (.sl (zl cols))),.c (.d (.sl (wG l)))] (wO y)):dY xP [.c (.d (.sl (zq d))),t.w,.c (.d (.ifc 109 st.ds))] (wO y):=by have hs:=YL st;have P:=y4 d st.table;rw[i]at P;obtain⟨tc,tr⟩:=t;obtain⟨fc,fr⟩:=g;obtain⟨y1,⟨y2,y3⟩⟩:=y;obtain⟨op,⟨eo,nm,⟨vk,vn,vs⟩,ks⟩,j,U,p,o,n,tb⟩:=st;rw[uB]at hs J I;simp only at*;refine wz.s T8 ?_;refine aC hs ?_;refine aC J ?_;refine aC P ?_;refine aC R ?_;refine aC I ?_;rfl
theorem aix(d:am Nmd)(t:Tbl)(st:Stp)(cols:am Col)(p:dY zQ [.c (.d (.sl (zq d))),.c (.d (.sl (zl t.cols))),st.w] (xH (0,cols)))(g:Tbl)(i:zU st.table d=some g)(P:dY Y5 [g.w] (rSO none))(y:Int×Tbl)(J:dY wJ [t.w,g.w,.c (.d (.sl (zp st.cols)))] (wO y)):dY xP [.c (.d (.sl (zq d))),t.w,.c (.d (.ifc 109 st.ds))] (wO y):=by have hs:=YL st;have I:=y4 d st.table;rw[i]at I;obtain⟨tc,tr⟩:=t;obtain⟨fc,fr⟩:=g;obtain⟨y1,⟨y2,y3⟩⟩:=y;obtain⟨op,⟨U,nm,⟨vk,vn,vs⟩,ks⟩,j,R,o,l,n,tb⟩:=st;rw[uB]at hs p;simp only at*;refine wz.s T8 ?_;refine aC hs ?_;refine aC p ?_;refine aC I ?_;refine aC P ?_;refine aC J ?_;rfl
end
section
open Go Go.AM
attribute [local irreducible] Sat zA zX
def Wo(l:am (am Val)):Res:=bif decide (l.length<=20000)then⟨.tup [.c (.d (.sl (zg l))),.c (bool true)],[]⟩else⟨.tup [.c (.d (.sl [])),.c (bool false)],[]⟩
theorem auM{l:am (am Val)}(h:20000<l.length):Wo l=⟨.tup [.c (.d (.sl [])),.c (bool false)],[]⟩:=by grind[Wo]
theorem aBq{Q:E->S->Prop}{s:S}(I:am Col)(br:am (am Val))(left right g:am Int)(J:am (am Val))(i:Nat)(x key:am Val)(out R:am (am Val))(Y:Res)
 (r:out.length<=20000) (an:br.length<=1000000) (aq:right.length<=100000) (ao:g.length<=100000) (ak:x.length<=100000) (hr:∀y∈br,zS y.length right) (ho:∀y∈br,zS y.length g)
 (hY:Y=Wo (out++(wD x key right g br++R)))
 (h0:y8 s [4,8,9,10,13,15,16,44,45,46,57,58,59] (· =UN I br left right g J i x key 0 out))
 (ac:∀T:am (am Val),Y=⟨.tup [.c (.d (.sl [])),.c (bool false)],[]⟩->Q .ret ⟨[(6,cV .nil),(7,zZ false)],[(4,.box [.d (.sl (zl I)),.d (.sl (zg br))]),(41,.arr 1 (zh g) true),(80,.arr 1 (zg T) false)]⟩)
 (U:∀T:am (am Val),T.length<=20000->Y=Wo (T++R)->Q (.exit 4) (xM (UN I br left right g J i x key br.length T) 60 (zZ (decide ((br.length:Int)<br.length))))):
 zX (mwpR Pg T8.f (yQ.l 1)) [4,8,9,10,13,15,16,44,45,46,57,58,59] Q s:=by
 refine yq (P:=Pg) (f:=T8.f) (body:=(yQ.l 1)) (λz:Nat×am (am Val)=>UN I br left right g J i x key z.1 z.2) (λz=>br.length-z.1)
  (λz=>z.1<=br.length/\z.2.length<=20000/\Y=Wo (z.2++(wD x key right g (br.drop z.1)++R))) ⟨(0,out),⟨aF _,r,hY⟩,h0⟩ ?_
 clear h0 hY r;rintro⟨j,T⟩ ⟨hj,hT,p⟩;have hj:j<=br.length:=hj;have hT:T.length<=20000:=hT;have p:Y=Wo (T++(wD x key right g (br.drop j)++R)):=p;show mwpR Pg T8.f (yQ.l 1) _ (UN I br left right g J i x key j T);have ai:(zg T).take T.length=zg T:=by grind[zy]
 have aj:(zh g).take g.length=zh g:=by grind[zE]
 unfold UN;refine rgE (λo=>?_) (λaf=>?_)
 .have hg:=yS o;have ag:=Qr br[j] right d8 (hr _ (aG o));have ab:=Qr br[j] g d8 (ho _ (aG o));have heq:=Ye key (zn br[j] right);have ae:=vH x (zn br[j] g) ak (by grind[zn]);have wi:=zB o d8;rw[zt o]at p;have aa:wD x key right g (br[j]::br.drop (j+1))=(bif xp key (zn br[j] right)then [x++zn br[j] g]else [])++wD x key right g (br.drop (j+1)):=by grind[wD]
  rw[aa]at p;clear U hr ho aa;rw[<-aj]at ab;generalize br[j]=y at*;generalize xp key (zn y right)=b at*;refine yb hg ?_;refine aC ag ?_;refine aC heq ?_;cases b with
  |true=>
   rw[aB]at p;have ah:(rowD (x++zn y g)).take (x++zn y g).length=rowD (x++zn y g):=by grind[zu]
   generalize x++zn y g=B at*;refine zj (b:=(T.length:Int)==20000) (λh3=>?_) (λh3=>?_)
   .have ad:T.length=20000:=by have:=eq_of_beq h3;omega
    have al:Y=⟨.tup [.c (.d (.sl [])),.c (bool false)],[]⟩:=by grind[auM]
    (conv=>whnf);exact ac T al
   have ad:T.length≠20000:=λe=>d9
   refine aC ab ?_;refine aC ae ?_;refine qr ?_;refine⟨(j+1,T++[B]),⟨⟨o,d9,d9⟩,d9⟩,ze ?_⟩;(conv=>whnf);rw[wi,ai,ah];show _=UN I br left right g J i x key (j+1) (T++[B]);unfold UN;rw[xy,aQ];rfl
  |false=>
   rw[aA,bB]at p;(conv=>whnf);refine⟨(j+1,T),⟨⟨o,hT,p⟩,d9⟩,ze ?_⟩;(conv=>whnf);rw[wi];rfl
 subst af;rw[cm]at p;have U:=U T hT (by rw[p];rfl);unfold xM UN at U;(conv=>whnf);exact U
theorem aoT(J:am Col)(I:am (am Val))(g:am Col)(br:am (am Val))(j:am ByteArray)(a2:j.length<=100000)(az:g.length<=100000)
 (al:br.length<=1000000) (ay:I.length<=1000000) (ad:∀x∈I,x.length=J.length) (ax:J.length<=100000) (an:∀y∈br,y.length=g.length) (a0:zS J.length (zi J j)) (a3:zS g.length (zi g j)):
 Sat Pg Y7 [.agg [.d (.sl (zl J)),.d (.sl (zg I))],.agg [.d (.sl (zl g)),.d (.sl (zg br))],.c (.d (.sl (zp j)))]
  (λr=>r=Wo (xO (zi J j) (zi g j) (oth j 0 g) I br)):=by
 have ah:=Wy J (.sl (zg I)) j d8;have ai:=Wy g (.sl (zg br)) j d8;have a1:(zi J j).length=j.length:=by simp[zi]
 have a4:(zi g j).length=j.length:=by simp[zi]
 have ag:=aeY j g 0;have ab:(oth j 0 g).length<=g.length:=by
  have gen:∀(l:am Col) (i:Nat),(oth j i l).length<=l.length:=by
   intro l;induction l with
   |nil=>intro i;exact aY _
   |cons c r ih=>
    grind[oth]
  grind
 generalize zi J j=left at*;generalize zi g j=right at*;refine zC ?_;refine yQ.s T8 ?_;refine aC ah ?_;refine aC ai ?_;rw[z8];refine yq (P:=Pg) (f:=T8.f) (body:=(yQ.l 0)) (λx:Nat×am Int=>jnA J I j g br left right x.1 x.2) (λx=>g.length-x.1) (λx=>x.1<=g.length/\x.2.length<=x.1/\oth j 0 g=x.2++oth j x.1 (g.drop x.1)) ⟨(0,[]),⟨aF _,aY _,rfl⟩,⟨_,ya 10 41 1 d8 d8 rfl,?_⟩⟩ ?_
 .exact rfl
 rintro⟨i,T⟩ hx;obtain⟨hi,ak,o⟩:i<=g.length/\T.length<=i/\oth j 0 g=T++oth j i (g.drop i):=hx;show mwpR Pg T8.f (yQ.l 0) _ (jnA J I j g br left right i T);have au:(zh T).take T.length=zh T:=by grind[zE]
 unfold jnA;refine uT (λp=>?_) (λaa=>?_)
 .rw[zt p]at o;simp only[oth]at o;have hg:=xJ p;have wi:=zB p d8;have ae:=yk j g[i].name;generalize g[i]=c at*;obtain⟨c1,c2⟩:=c;simp only at o ae;generalize hasB j c1=b at*;refine yb hg ?_;refine aC ae ?_;cases b with
  |false=>
   have o:oth j 0 g=T++([(i:Int)]++oth j (i+1) (g.drop (i+1))):=o;refine qr ?_;refine⟨(i+1,T++[(i:Int)]),⟨⟨p,d9,d9⟩,d9⟩,ze ?_⟩;(conv=>whnf);rw[wi,au,aQ,<-vV];rfl
  |true=>
   have o:oth j 0 g=T++oth j (i+1) (g.drop (i+1)):=o;(conv=>whnf);refine⟨(i+1,T),⟨⟨p,d9,o⟩,d9⟩,ze ?_⟩;(conv=>whnf);rw[wi];rfl
 rw[aR aa]at o;have o:oth j 0 g=T:=by rw[o];exact bZ _
 rw[o]at ag ab⊢;clear ak;obtain⟨Y,hY⟩:∃Y,Y=Wo (xO left right T I br):=⟨_,rfl⟩;rw[<-hY];clear o ah ai;(conv=>whnf);rw[zy];refine yq (P:=Pg) (f:=T8.f) (body:=(yQ.l 2)) (λz:Nat×am (am Val)=>jnB g br left right T I z.1 z.2) (λz=>I.length-z.1) (λz=>z.1<=I.length/\z.2.length<=20000/\Y=Wo (z.2++xO left right T (I.drop z.1) br)) ⟨(0,[]),⟨aF _,aF _,hY⟩,⟨_,(af0 _ 41).trans (ya 13 80 1 d8 d8 rfl),?_⟩⟩ ?_
 .exact rfl
 clear hY;rintro⟨k,U⟩ ⟨hk,hU,o⟩;have hk:k<=I.length:=hk;have hU:U.length<=20000:=hU;have o:Y=Wo (U++xO left right T (I.drop k) br):=o;have av:(zg U).take U.length=zg U:=by grind[zy]
 show mwpR Pg T8.f (yQ.l 2) _ (jnB g br left right T I k U);unfold jnB;refine uT (λp=>?_) (λaa=>?_)
 .have hg:=yS p;have a5:=ad _ (aG p);have wi:=zB p d8;have aq:=Qr I[k] left d8 d9;have ao:=YK (zn I[k] left) zw;rw[zt p]at o;have af:xO left right T (I[k]::I.drop (k+1)) br=kX left right T br I[k]++xO left right T (I.drop (k+1)) br:=by grind[xO]
  rw[af]at o;obtain⟨R,aj⟩:∃R,R=xO left right T (I.drop (k+1)) br:=⟨_,rfl⟩;rw[<-aj]at o;clear ad af;generalize I[k]=x at*;unfold kX at o;generalize zn x left=key at*;generalize key.any (xf zw)=b at*;refine yb hg ?_;refine aC aq ?_;refine aC ao ?_;cases b with
  |true=>
   have o:Y=Wo (U++R):=o;(conv=>whnf);refine⟨(k+1,U),⟨⟨p,hU,d9⟩,d9⟩,ze ?_⟩;(conv=>whnf);rw[wi];rfl
  |false=>
   have o:Y=Wo (U++(wD x key right T br++R)):=o;(conv=>whnf);refine aBq g br left right T I k x key U R Y hU al d8 d8 d8 (λy hy=>d9) (λy hy=>by rw[an y hy];intro z hz;grind) o (ze ?_) (λV aw=>?_) (λV hV a6=>?_)
   ·(conv=>whnf);unfold UN;rw[zy];rfl
   .subst aw;exact⟨rfl,rfl⟩
   unfold xM UN;(conv=>whnf);refine⟨(k+1,V),⟨⟨p,hV,d9⟩,d9⟩,ze ?_⟩;(conv=>whnf);rw[wi];rfl
 rw[aR aa]at o;have o:Y=⟨.tup [.c (.d (.sl (zg U))),.c (bool true)],[]⟩:=by grind[Wo,xO]
 subst o;refine gJ ?_;show Res.mk (.tup [.c (.d (.sl ((zg U).take U.length))),.c (bool true)]) []=_;rw[av]
end
section
open Go Go.AM
attribute [local irreducible] Sat zA zX zo
theorem Vm{cols:am Col}{l:am (am Val)}(h:l.length<=20000):xG cols l=(0,⟨cols,l⟩):=by grind[xG]
theorem apY(at_:am Int)(rows:am (am Val)):(vC at_ rows).length<=1\/(vC at_ rows).length<=rows.length:=by
 unfold vC;by_cases h:at_=[]
 .simp_all
 rw[aO h]
 grind[Vc,cK]
theorem abL(e:Int)(t:Tbl):wO (e,t)=qY t e:=rfl
def rRF:Res:=⟨.tup [.c (.d (.sl [])),.c (bool false)],[]⟩
theorem aj2(d:am Nmd)(t:Tbl)(st:Stp)(g:st.op=6)(b:Tbl)(p:zU st.table d=some b)(I:dY Y7 [.agg [.d (.sl (zl t.cols)),.d (.sl (zg t.rows))],.agg [.d (.sl (zl b.cols)),.d (.sl (zg b.rows))],.c (.d (.sl (zp st.cols)))] rRF):dY vX [.c (.d (.sl (zq d))),t.w,.agg st.cs] rRF:=by have o:=y4 d st.table;rw[p]at o;obtain⟨P,br⟩:=b;refine zC ?_;obtain⟨tc,tr⟩:=t;obtain⟨op,⟨R,U,⟨vk,vn,vs⟩,ks⟩,i,J,j,l,sn,tb⟩:=st;simp only at*;subst g;unfold Stp.cs v8;refine xS.s T8 ?_;refine aC o ?_;refine aC I ?_;exact⟨rfl,rfl⟩
theorem aj5(d:am Nmd)(t:Tbl)(st:Stp)(g:am Col)(o:(st.op==4)=false)(p:(st.op==7)=false)(I:(st.op==8)=false)(J:(st.op==9)=false)(P:dY vX [.c (.d (.sl (zq d))),t.w,.agg st.cs] rRF):
 dY wg [.c (.d (.sl (zq d))),t.w,.agg st.cs,.c (.d (.sl (zl g)))] (wO (7,⟨[],[]⟩)):=by
 refine zC ?_;have R:=y4 d st.table;obtain⟨tc,tr⟩:=t;obtain⟨op,⟨eo,nm,⟨vk,vn,vs⟩,ks⟩,i,aa,j,l,sn,tb⟩:=st;simp only at*;unfold Stp.cs v8 at*;generalize zU tb d=f at*;cases f with
 |none=>
  refine q7.s T8 ?_;refine aC R ?_;rw[o];(conv=>whnf);rw[p];(conv=>whnf);rw[I];(conv=>whnf);rw[J];refine aC P ?_;exact⟨rfl,rfl⟩
 |some U=>
  obtain⟨fc,fr⟩:=U;refine q7.s T8 ?_;refine aC R ?_;rw[o];(conv=>whnf);rw[p];(conv=>whnf);rw[I];(conv=>whnf);rw[J];refine aC P ?_;exact⟨rfl,rfl⟩
theorem aoJ(d:am Nmd)(t:Tbl)(st:Stp)(g:am Col)(y:Int×Tbl)(I:yH d=0)(J:zH t=0)(P:dY zQ [.c (.d (.sl (zq d))),.c (.d (.sl (zl t.cols))),st.w] (rCs g))
 (o:dY wg [.c (.d (.sl (zq d))),t.w,.agg st.cs,.c (.d (.sl (zl g)))] (wO y)):
 dY vW [.c (.d (.sl (zq d))),t.w,st.w] (wO y):=by have p:=wt d;have hk:=qk t;rw[I]at p;rw[J]at hk;obtain⟨tc,tr⟩:=t;obtain⟨e,rc,rr⟩:=y;obtain⟨op,⟨U,nm,⟨vk,vn,vs⟩,ks⟩,i,R,j,l,sn,tb⟩:=st;unfold Stp.cs v8 at o;refine Yn.s T8 ?_;refine aC p ?_;refine aC hk ?_;refine aC P ?_;refine aC o ?_;rfl
noncomputable def nStepL(d:am Nmd)(t:Tbl)(st:Stp):Int×Tbl:=
 bif yH d !=0 then(yH d,⟨[],[]⟩)else bif zH t !=0 then(zH t,⟨[],[]⟩)else bif (zT d t.cols st).1 !=0 then((zT d t.cols st).1,⟨[],[]⟩)else xG (zT d t.cols st).2 (stR d t st)
theorem amm(d:am Nmd)(t:Tbl)(st:Stp)(hk:st.Sm)(h1:yH d=0)(h2:zH t=0)(J:(zT d t.cols st).1=0)(hr:t.rows.length<=20000):
 dY wg [.c (.d (.sl (zq d))),t.w,.agg st.cs,.c (.d (.sl (zl (zT d t.cols st).2)))] (wO (xG (zT d t.cols st).2 (stR d t st))):=by
 have he:=QR J;have j:=ac9 he;have j:st.op=1\/st.op=2\/st.op=3\/st.op=4\/st.op=5\/st.op=6\/st.op=7\/st.op=8\/st.op=9:=d8
 have hw:=wP h2;have hf:=xT h2;have k1:=hk.sorts;have k2:=hk.cols;have k3:=hk.aggs;have k4:=hk.items;have af:(zi t.cols st.cols).length=st.cols.length:=by simp[zi]
 rcases j with j|j|j|j|j|j|j|j|j
 .have e:stR d t st=whereR t.cols t.rows st.cond:=by grind[stR]
  rw[e,Vm (cM (ab7 _ _ _) d8),abL];refine qD d t st _ _ d9 d9 d9 d9 (cM (ab7 _ _ _) d8) ?_;obtain⟨tc,tr⟩:=t;obtain⟨op,⟨eo,nm,⟨vk,vn,vs⟩,ks⟩,o,U,p,I,sn,tb⟩:=st;simp only at j;subst j;exact aaH anM (.sl (zq d)) tc tr d9 eo nm ⟨vk,vn,vs⟩ ks (yP o) (zp U) (qv p) (xz I) sn tb
 .have e:stR d t st=selR t.cols t.rows st.items:=by grind[stR]
  rw[e,Vm (by grind[selR]),abL];refine qD d t st _ _ d9 d9 d9 d9 (by grind[selR]) ?_;obtain⟨tc,tr⟩:=t;obtain⟨op,⟨eo,nm,⟨vk,vn,vs⟩,ks⟩,o,U,p,I,sn,tb⟩:=st;simp only at j;subst j;exact kC anM (.sl (zq d)) tc tr d9 eo nm ⟨vk,vn,vs⟩ ks o (zp U) (qv p) (xz I) sn tb d9
 .have e:stR d t st=(vC (zi t.cols st.cols) t.rows).map (qy t.cols st.aggs):=by grind[stR]
  rw[e];have ae:=akb (amB j J).1;have hG:=adh (zi t.cols st.cols) t.rows;have ab:=ait t.cols t.rows (zi t.cols st.cols) d8 (λr hr=>d9) d8 (λi hi _=>ard _ _ (aav _ _) (by grind[Vc]));have ad:=apY (zi t.cols st.cols) t.rows;generalize vC (zi t.cols st.cols) t.rows=G at*;rw[Vm d9,abL];have aa:=afT t.cols t.rows st G d8 d8 d9 (λg hg=>by rw[hG.key g hg];omega) (λg hg=>by have:=hG.cnt g hg;omega) (λg hg r hr=>hw r (hG.mem g hg r hr)) ab;exact qD d t st _ _ d9 d9 d9 d9 d9 (aaF d t st j G aa)
 .have e:stR d t st=yM (Zi (jJ t.cols st.sorts) st.sorts) t.rows:=by grind[stR]
  obtain⟨P,ac⟩:=amC j J;rw[e,ac,Vm (by rw[(jH (W8 _ _) _).length_eq];omega),abL];have hS:=ais t st.sorts d8 d8 d8;simp_all[amz,kD]
 .have e:stR d t st=t.rows.take (zI false st.n t.rows.length).toNat:=by grind[stR]
  rw[e,Vm d9,abL];exact qD d t st _ _ d9 d9 d9 d9 d9 (aaG d t st j (azl he j))
 .have hj:=qV (.inl j) J;have l:=J;rw[hj]at l;obtain⟨b,P,ho⟩:=vd l;have e:stR d t st=xO (zi t.cols st.cols) (zi b.cols st.cols) (oth st.cols 0 b.cols) t.rows b.rows:=by grind[stR,qb]
  rw[e];have tb:=vq h1 P;have wb:=wP tb;have fb:=xT tb;have i:=Zt ho.jn;have hJ:=aoT t.cols t.rows b.cols b.rows st.cols d8 d8 d8 d8 hw d8 wb i.1 i.2;unfold Wo at hJ;unfold xG;cases hd:decide ((xO (zi t.cols st.cols) (zi b.cols st.cols) (oth st.cols 0 b.cols) t.rows b.rows).length<=20000)with
  |true=>
   rw[hd,aB]at hJ;exact qD d t st _ _ d9 d9 d9 d9 (aL hd) (acA d t st j b P _ hJ)
  |false=>
   rw[hd,aA]at hJ;exact aj5 d t st _ d9 d9 d9 d9 (aj2 d t st j b P hJ)
 .have hj:=qV (.inr (.inl j)) J;have l:=J;rw[hj]at l;obtain⟨b,P,ho⟩:=vd l;have tb:=vq h1 P;have fb:=xT tb;have e:stR d t st=xL (zf t.cols sFrom) (zf t.cols sTo) (zf b.cols sFrom) (zf b.cols sTo) (zi t.cols st.cols) (zi b.cols st.cols) (oth (st.cols++[sFrom,sTo]) 0 b.cols) t.rows b.rows:=by grind[stR,qb]
  have R:=ad4 t b st.cols d8 d8 d8;have hc:=aaN (.inl j) h2 tb he P;rw[j]at hc;unfold asS at R;rw[hc,J,<-e]at R;have R:dY wJ [t.w,b.w,.c (.d (.sl (zp st.cols)))] (wO (xG (zT d t.cols st).2 (stR d t st))):=by
   refine R.mono λr hr=>hr.trans ?_
   show ug _ _=_;unfold ug xG;cases decide ((stR d t st).length<=20000)<;>rfl
  exact Kq d t st _ j b P _ _ R
 .have hj:=qV (.inr (.inr j)) J;have l:=J;rw[hj]at l;obtain⟨b,P,ho⟩:=vd l;have tb:=vq h1 P;have fb:=xT tb;have e:stR d t st=t.rows.map (w7 (zf t.cols sFrom) (zf b.cols sFrom) (zi t.cols st.cols) (zi b.cols st.cols) (oth (st.cols++[sFrom]) 0 b.cols) b.rows):=by grind[stR,qb]
  have R:=afQ t b st.cols d8 d8 d8;have hc:=aaN (.inr j) h2 tb he P;simp_all[nrQ,Vm,abL,Kp]
 have e:stR d t st=Yo (zi t.cols st.cols) (zf t.cols sFrom) (zf t.cols sTo) t.rows:=by grind[stR]
 have R:=ad1 t st.cols d8 d8;have hc:=arL (d:=d) j h2 he;unfold coQ at R;rw[hc,J,<-e]at R;rw[Vm (by grind[asd]),abL];simp_all[UY]
theorem acw(d:am Nmd)(t:Tbl)(st:Stp)(hk:st.Sm)(hr:t.rows.length<=20000):
 dY vW [.c (.d (.sl (zq d))),t.w,st.w] (wO (nStepL d t st)):=by
 unfold nStepL;by_cases i:yH d=0
 .rw[i];by_cases j:zH t=0
  .rw[j];have fa:=xT j;have J:=Zz d t.cols st hk.ok d8 (λb P=>by grind[Jo]);by_cases l:(zT d t.cols st).1=0
   .have g:dY zQ [.c (.d (.sl (zq d))),.c (.d (.sl (zl t.cols))),st.w] (rCs (zT d t.cols st).2):=J.mono λr hr=>by rw[hr];show Res.mk (.tup [.c (.d (.sl (zl (zT d t.cols st).2))),.c (int (zT d t.cols st).1)]) []=_;rw[l];rfl
    have:=aoJ d t st _ _ i j g (amm d t st hk i j l hr)
    grind
   have I:((zT d t.cols st).1 !=0)=true:=d9
   have h0:(zT d t.cols st).2=[]:=ae9 l;have g:dY zQ [.c (.d (.sl (zq d))),.c (.d (.sl (zl t.cols))),st.w] (Uf (zT d t.cols st).1):=J.mono λr hr=>by rw[hr];show Res.mk (.tup [.c (.d (.sl (zl (zT d t.cols st).2))),.c (int (zT d t.cols st).1)]) []=_;rw[h0];rfl
   rw[I];exact zC (ae0 (ad5 d t st _ i j l g))
  have p:(zH t !=0)=true:=d9
  rw[p];exact zC (ae0 (acy d t st i j))
 have o:(yH d !=0)=true:=d9
 rw[o];exact zC (ae0 (acx d t st i))
def Ww(F:Tbl->Int×Stp->Int×Tbl):Tbl->am (Int×Stp)->Int×Tbl
 |t,[]=>(0,t)
 |t,x::r=>bif (F t x).1 !=0 then((F t x).1,⟨[],[]⟩)else Ww F (F t x).2 r
def aCF(F:Tbl->Int×Stp->Int×Tbl)(l:am (Int×Stp))(K:Nat->Tbl->Prop)(y:Int×Tbl):aP (Nat×Tbl)->Prop
 |none=>True
 |some (i,t)=>i<=l.length/\K i t/\y=Ww F t (l.drop i)
theorem ajX(F:Tbl->Int×Stp->Int×Tbl)(d:am Nmd)(P:Pln)(J:dY uQ [.c (.d (.sl (zq d))),.agg P.cs] (rI 0))(g:am (Int×Stp))(hn:g.length<=100000)(sc:D)(p:dY Zu [.agg P.cs] (rC (.d (.sl (qT (sc::g.map w8))))))
 (X:Tbl) (ai:dY xP [.c (.d (.sl (zq d))),Tbl.w ⟨[],[]⟩,.c (.d sc)] (qY X 0)) (K:Nat->Tbl->Prop) (h0:K 0 X)
 (hO:∀i (h:i<g.length) t,K i t->dY xP [.c (.d (.sl (zq d))),t.w,.c (.d (w8 g[i]))] (wO (F t g[i])))
 (hK:∀i (h:i<g.length) t,K i t->(F t g[i]).1=0->K (i+1) (F t g[i]).2) (y:Int×Tbl) (hy:y=Ww F X g):
 dY jz [.c (.d (.sl (zq d))),.agg P.cs] (wO y):=by
 refine zC ?_;obtain⟨l,hl⟩:∃l,l=g:=⟨_,rfl⟩;have ar:l.length=g.length:=by rw[hl]
 have ah:∀i (h:i<g.length),l[i]' d8 =g[i]:=λi h=>d9
 rw[<-hl]at hy;obtain⟨O,aa⟩:∃O,O=sc::g.map w8:=⟨_,rfl⟩;have ao:O.length=g.length+1:=d9
 have af:(qT O)[((0:Int)).toNat]?=some [sc]:=by rw[aa];rfl
 have ag:∀i (h:i<g.length),(qT O)[(((i+1:Nat):Int)).toNat]?=some [w8 g[i]]:=λi h=>by grind[Kd]
 rw[<-aa]at p;clear aa hl;obtain⟨op,tb,col,lo,hi,⟨al,⟨eo,nm,⟨vk,vn,vs⟩,aj⟩,ab,ak,ad,ac,n,an⟩,ks⟩:=P;obtain⟨R,hR⟩:∃R,R=aCF F l K y:=⟨_,rfl⟩;refine uz.s T8 ?_;refine aC J ?_;refine aC p ?_;refine yq (P:=Pg) (f:=T8.f) (body:=(uz.l 0)) (erS d O) (λz=>match z with|none=>g.length+5|some (i,_)=>g.length-i) R ⟨none,by rw[hR];trivial,ze ?_⟩ ?_
 .exact rfl
 clear J p;clear op tb col lo hi al eo nm vk vn vs aj ab ak ad ac n an ks;have o:((qT O).length:Int)=(g.length:Int)+1:=by grind[abF]
 rintro(_|⟨i,t⟩) h
 .show mwpR Pg T8.f (uz.l 0) _ (erS d O none);unfold erS;obtain⟨xc,xr⟩:=X;(conv=>whnf);rw[o];refine zx (λU=>?_) (λU=>?_)
  ·(conv=>whnf);refine⟨d8,_,af,rfl,?_⟩;refine aC ai ?_;refine⟨some (0,⟨xc,xr⟩),⟨by rw[hR];exact⟨d8,h0,hy⟩,d9⟩,ze ?_⟩;(conv=>whnf);rw[<-o];rfl
  have:=bA U;omega
 rw[hR]at h;obtain⟨hi,ae,j⟩:i<=l.length/\K i t/\y=Ww F t (l.drop i):=h;show mwpR Pg T8.f (uz.l 0) _ (erS d O (some (i,t)));unfold erS;obtain⟨tc,tr⟩:=t;(conv=>whnf);rw[o];refine zx (λU=>?_) (λU=>?_)
 .have I:i<g.length:=by have U:decide (((i+1:Nat):Int)<(g.length:Int)+1)=true:=U;have:=aL U;omega
  have hg:=ag i I;have ho:=hO i I _ ae;have hk:=hK i I _ ae;have wi:aE.wrap (((i+1:Nat):Int)+1)=((i+1+1:Nat):Int):=by grind[yf]
  rw[zt (show i<l.length by omega),ah i I]at j;simp only[Ww]at j;generalize w8 g[i]=zd at*;generalize F ⟨tc,tr⟩ g[i]=x at*;obtain⟨x1,⟨x2,x3⟩⟩:=x;clear hO hK ag af ai ah;(conv=>whnf);refine⟨d8,_,hg,rfl,?_⟩;refine aC ho ?_;refine zx (b:=x1 !=0) (λh4=>?_) (λh4=>?_)
  .simp only[h4,aB]at j;subst j;exact⟨rfl,rfl⟩
  simp only[h4,aA]at j;(conv=>whnf);refine⟨some (i+1,⟨x2,x3⟩),⟨by rw[hR];exact⟨d8,hk d9,j⟩,d9⟩,ze ?_⟩;(conv=>whnf);rw[wi,<-o];rfl
 have aq:g.length<=i:=d9
 rw[aR d8]at j;have j:y=(0,⟨tc,tr⟩):=j;subst j;exact⟨rfl,rfl⟩
theorem aBf{k:Int}{v:Val}(h:yI k v):VS v/\v.n<9223372036854775807:=by
 unfold VS;rcases h with rfl|⟨_,b,rfl⟩|⟨_,n,g,rfl⟩|⟨_,s,hs,rfl⟩
 .refine⟨⟨⟨dV,dV⟩,⟨dV,dV⟩,dV⟩,dV⟩
 .cases b<;>refine⟨⟨⟨dV,dV⟩,⟨dV,dV⟩,dV⟩,dV⟩
 .unfold inB at g;simp only[bK,cd]at g;refine⟨⟨⟨by show(-9223372036854775808:Int)<=2;decide,by show(2:Int)<=_;decide⟩,⟨by show _<=n;omega,by show n<=_;omega⟩,by show(0:Nat)<=_;decide⟩,by show n<_;omega⟩
 grind
theorem Kl:∀{cols:am Col}{r:am Val},zN cols r->∀v∈r,VS v/\v.n<9223372036854775807
 |[],[],_,v,hv=>by cases hv
 |[],_::_,h,_,_=>h.elim
 |_::_,[],h,_,_=>h.elim
 |_::_,_::_,h,v,hv=>by
  rcases aM.1 hv with rfl|hv
  .exact aBf h.1
  exact Kl h.2 v hv
theorem ag9{p q:Nat}:∀{rows:am (am Val)}{l:am Spa},qm p q rows=some l->l.length=rows.length
 |[],l,h=>by cases h;rfl
 |r::j,l,h=>by
  simp only[qm]at h;cases i:Ji p q r with
  |none=>rw[i]at h;cases h
  |some s=>
   rw[i]at h;cases g:qm p q j with
   |none=>rw[g]at h;cases h
   |some o=>
    rw[g]at h;cases h;simp[ag9 g]
def asv(t b:Tbl)(g:am ByteArray):am (am Val):=t.rows.flatMap (hjX (zi t.cols g) (oth g 0 b.cols) b.rows (λk=>uw (zi b.cols g) k 0 b.rows))
noncomputable def mergeR(t b:Tbl)(g:am ByteArray):am (am Val):=t.rows.map λx=>x++ZK (zi t.cols g) (oth (g++[sFrom]) 0 b.cols) (zf t.cols sFrom) (zf b.cols sFrom) b.rows (λk=>YB b.rows (zf b.cols sFrom) (uw (zi b.cols g) k 0 b.rows)) x
noncomputable def spansR(d:am Nmd)(t:Tbl)(st:Stp):am (am Val):=
 match qm (zf (qb d st).cols sFrom).toNat (zf (qb d st).cols sTo).toNat (qb d st).rows with
 |some l=>t.rows.flatMap (sjX (zf t.cols sFrom) (zf t.cols sTo) (zi t.cols st.cols) (zi (qb d st).cols st.cols) (oth (st.cols++[sFrom,sTo]) 0 (qb d st).cols) (qb d st).rows l)
 |none=>stR d t st
noncomputable def oStep(d:am Nmd)(t:Tbl)(x:Int×Stp):Int×Tbl:=
 bif (zT d t.cols x.2).1 !=0 then((zT d t.cols x.2).1,⟨[],[]⟩)else
 bif x.1==3 then xG (zT d t.cols x.2).2 (spansR d t x.2)else
 bif x.1==4 then(0,⟨(zT d t.cols x.2).2,mergeR t (qb d x.2) x.2.cols⟩)else
 bif x.1==5 then xG (zT d t.cols x.2).2 (asv t (qb d x.2) x.2.cols)else nStepL d t x.2
theorem atc(d:am Nmd)(t:Tbl)(op:Int)(st:Stp)(hk:st.Sm)(h1:yH d=0)(h2:zH t=0)(h3:op=3->st.op=7)(h4:op=4->st.op=8)(h5:op=5->st.op=6):
 dY xP [.c (.d (.sl (zq d))),t.w,.c (.d (w8 (op,st)))] (wO (oStep d t (op,st))):=by
 have fa:=xT h2;have wa:=wP h2;obtain⟨ag,_,ab⟩:=(jb t).1 h2;have hT:=Zz d t.cols st hk.ok d8 (λb I=>by grind[Jo]);have k2:=hk.cols;unfold oStep w8;simp only;by_cases R:(zT d t.cols st).1=0
 .have af:=QR R;have g:dY zQ [.c (.d (.sl (zq d))),.c (.d (.sl (zl t.cols))),st.w] (xH (0,(zT d t.cols st).2)):=hT.mono λr hr=>d9
  rw[show((zT d t.cols st).1 !=0)=false by simp[R],aA];by_cases o3:op=3
  .subst o3;have j:=h3 rfl;rw[show((3:Int)==3)=true from rfl,aB,aB];have hj:=qV (.inr (.inl j)) R;have o:=R;rw[hj]at o;obtain⟨b,I,U⟩:=vd o;have tb:=vq h1 I;have fb:=xT tb;have wb:=wP tb;obtain⟨ad,_,P⟩:=(jb b).1 tb;have i:=Zt U.jn;have ac:Vx st.op=[sFrom,sTo]:=by rw[j];rfl
   have i3:=vU U.i1;have i4:=vU U.i2;rw[ac]at i3 i4;have J:qb d st=b:=by grind[qb]
   have aa:=aat (st.cols++[sFrom,sTo]) b.cols;have ae:=Vp (st.cols++[sFrom,sTo]) b.cols 0;have hS:=aqv b.cols b.rows d8 (zf b.cols sFrom) (zf b.cols sTo) rfl rfl (λr hr=>by rw[wb r hr];exact⟨i4 _ (by simp[zi]),i4 _ (by simp[zi])⟩)
   unfold spansR;rw[J];cases hl:qm (zf b.cols sFrom).toNat (zf b.cols sTo).toNat b.rows with
   |some l=>
    rw[hl]at hS
    have hJ:=aj3 st t b (zT d t.cols st).2 l (ag9 hl) d8 d8 d8 d8
     (λx hx=>by rw[wa x hx];exact⟨d8,i.1,i3⟩) (λy hy=>d9) d8 (λr hr v hv=>(Kl (ab r hr) v hv).1) (λr hr v hv=>(Kl (P r hr) v hv).1)
    exact amj d t st _ g b I l hS _ hJ
   |none=>
    rw[hl]at hS;have hO:=ad4 t b st.cols d8 d8 d8;have hc:=aaN (.inl j) h2 tb af I;rw[j]at hc;have e:stR d t st=xL (zf t.cols sFrom) (zf t.cols sTo) (zf b.cols sFrom) (zf b.cols sTo) (zi t.cols st.cols) (zi b.cols st.cols) (oth (st.cols++[sFrom,sTo]) 0 b.cols) t.rows b.rows:=by grind[stR]
    unfold asS at hO;rw[hc,R,<-e]at hO;have hO:dY wJ [t.w,b.w,.c (.d (.sl (zp st.cols)))] (wO (xG (zT d t.cols st).2 (stR d t st))):=by
     refine hO.mono λr hr=>hr.trans ?_
     show ug _ _=_;unfold ug xG;cases decide ((stR d t st).length<=20000)<;>rfl
    exact aix d t st _ g b I hS _ hO
  rw[show(op==3)=false by grind,aA,aA];by_cases o4:op=4
  .subst o4;have j:=h4 rfl;rw[show((4:Int)==4)=true from rfl,aB,aB];have hj:=qV (.inr (.inr j)) R;have o:=R;rw[hj]at o;obtain⟨b,I,U⟩:=vd o;have tb:=vq h1 I;have fb:=xT tb;have wb:=wP tb;obtain⟨ad,_,P⟩:=(jb b).1 tb;have i:=Zt U.jn;have ac:Vx st.op=[sFrom]:=by rw[j];rfl
   have i3:=vU U.i1;have i4:=vU U.i2;rw[ac]at i3 i4;have J:qb d st=b:=by grind[qb]
   have aa:=aat (st.cols++[sFrom]) b.cols;have ae:=Vp (st.cols++[sFrom]) b.cols 0;rw[J]
   have hJ:=ajZ st t b (zT d t.cols st).2 d8 d8 d8 d8 d8
    (λx hx=>by rw[wa x hx];exact⟨d8,i.1,i3 _ (by simp[zi]),λv hv=>Kl (ab x hx) v hv⟩) (λy hy=>by rw[wb y hy];exact⟨i.2,aa,i4 _ (by simp[zi]),λv hv=>(Kl (P y hy) v hv).1⟩)
   exact ami d t st _ g b I (0,⟨(zT d t.cols st).2,mergeR t b st.cols⟩) hJ
  rw[show(op==4)=false by grind,aA,aA];by_cases o5:op=5
  .subst o5;have j:=h5 rfl;rw[show((5:Int)==5)=true from rfl,aB,aB];have hj:=qV (.inl j) R;have o:=R;rw[hj]at o;obtain⟨b,I,U⟩:=vd o;have tb:=vq h1 I;have fb:=xT tb;have wb:=wP tb;obtain⟨ad,_,P⟩:=(jb b).1 tb;have i:=Zt U.jn;have J:qb d st=b:=by grind[qb]
   have aa:=aat st.cols b.cols;have ae:=Vp st.cols b.cols 0;rw[J]
   have hJ:=al8 st t b (zT d t.cols st).2 d8 d8 d8 d8
    (λx hx=>d9) (λy hy=>d9) (λx hx=>d9) d8 (λr hr v hv=>(Kl (ab r hr) v hv).1) (λr hr v hv=>(Kl (P r hr) v hv).1)
   exact aoW d t st _ g b I _ hJ
  rw[show(op==5)=false by grind,aA,aA];exact acB d t st _ g _ (acw d t st hk d8)
 have p:((zT d t.cols st).1 !=0)=true:=d9
 have h0:(zT d t.cols st).2=[]:=ae9 R;rw[p,aB];have g:dY zQ [.c (.d (.sl (zq d))),.c (.d (.sl (zl t.cols))),st.w] (xH ((zT d t.cols st).1,[])):=hT.mono λr hr=>d9
 cases op==3
 .cases op==4
  .cases op==5
   .exact aft d t st _ p _ g
   exact abT d t st _ p _ g
  exact aaI d t st _ p _ g
 exact aaJ d t st _ p _ g
theorem aeP{cols:am Col}{l:am (am Val)}(h:(xG cols l).1=0):l.length<=20000/\xG cols l=(0,⟨cols,l⟩):=by unfold xG at h⊢;cases g:decide (l.length<=20000)<;>simp_all
theorem ax6(g:am Int):zn [] g=aT g.length zw:=by induction g<;>grind[at0,zn]
theorem agM{K:am Col}{g:am Int}{br:am (am Val)}(j:g.length=K.length)(l:∀r∈br,zN K (zn r g))(i:Nat):zN K (zn (br.getD i []) g):=by grind[ax6,zN.nulls]
theorem aw8{cols K:am Col}{left g:am Int}{br:am (am Val)}{F:ByteArray->am Int}(j:g.length=K.length)(l:∀r∈br,zN K (zn r g)){x:am Val}(o:zN cols x):∀z∈hjX left g br F x,zN (cols++K) z:=by
 intro z i;unfold hjX at i;cases hk:qc x left with
 |none=>grind
 |some k=>
  rw[hk]at i;obtain⟨n,_,rfl⟩:=cB.1 i;exact o.app (agM j l _)
theorem auQ{cols K:am Col}{left g:am Int}{i l:Int}{br:am (am Val)}{G:ByteArray->am Int}(o:g.length=K.length)(p:∀r∈br,zN K (zn r g)){x:am Val}(j:zN cols x):zN (cols++K) (x++ZK left g i l br G x):=by refine j.app ?_<;>grind[zN.nulls,ZK,mjP,agM]
theorem aps{p q:Nat}:∀{rows:am (am Val)}{l:am Spa},qm p q rows=some l->∀s∈l,inB s.a=true/\inB s.b=true
 |[],l,h,s,hs=>by cases h;cases hs
 |r::o,l,h,s,hs=>by
  simp only[qm]at h;cases g:Ji p q r with
  |none=>grind
  |some u=>
   rw[g]at h;cases i:qm p q o with
   |none=>grind
   |some I=>
    rw[i]at h;cases h;rcases aM.1 hs with rfl|hs
    .unfold Ji at g;cases j:xx (at0 r p) (at0 r q)
     .rw[j]at g;cases g;exact⟨rfl,rfl⟩
     rw[j,aB]at g;cases hv:ui (at0 r p).n (at0 r q).n
     .grind
     rw[hv]at g;cases g;unfold ui at hv;simp only[bK,cd]at hv
     grind[V6]
    exact aps i s hs
theorem aAt{l:am Spa}(h:∀s∈l,inB s.a=true/\inB s.b=true)(i:Int):inB (xI l i).a=true/\inB (xI l i).b=true:=by
 unfold xI;rw[dg];cases hi:l[i.toNat]? with
 |none=>exact⟨rfl,rfl⟩
 |some s=>grind
theorem avZ{cols K:am Col}{p q:Int}{left right g:am Int}{br:am (am Val)}{l:am Spa}(hs:Spn cols p q)(hK:g.length=K.length)(hm:∀r∈br,zN K (zn r g))(hl:∀s∈l,inB s.a=true/\inB s.b=true){x:am Val}(o:zN cols x):
 ∀z∈sjX p q left right g br l x,zN (cols++K) z:=by
 intro z i;unfold sjX at i;cases j:(!xx (at0 x p.toNat) (at0 x q.toNat)||(!(qc x left).isSome||!ui (zI true (at0 x p.toNat).n 0) (zI false (at0 x q.toNat).n 1000000000000)))
 .rw[j,aA]at i;simp only[bH,Bool.not_eq_false']at j;obtain⟨k1,k2,_⟩:=ae5 j.1;unfold Kr at i;obtain⟨n,_,i⟩:=dh.1 i;unfold abW at i;cases U: !zo (J6 (Zx br n) right) (J6 x left)
  .rw[U,aA,aK]at i;subst i;have hR:zN (cols++K) (x++zn (Zx br n) g):=o.app (agM hK hm _);have ac:=o.len;obtain⟨I,J⟩:=amq (B:=K) hs.p1 hs.p2;obtain⟨P,R⟩:=amq (B:=K) hs.q1 hs.q2;have i1:=o.inB hs.p1 k1;have i2:=o.inB hs.q1 k2;obtain⟨i3,i4⟩:=aAt hl n;unfold amy;have aa:=hs.p1;have ab:=hs.q1;obtain⟨s1,s2⟩:=hR.setN I J (by grind[aeA]) (Ve (b:=true) (Ve (b:=true) i1 (show inB 0=true from rfl)) i3);exact(s1.setN P R (by grind[aeA]) (Ve (b:=false) (Ve (b:=false) i2 (show inB 1000000000000=true from rfl)) i4)).1
  simp_all
 rw[j,aB]at i;cases i
theorem gn(d:am Nmd)(t:Tbl)(op:Int)(st:Stp)(h1:yH d=0)(h2:zH t=0)(h3:op=3->st.op=7)(h4:op=4->st.op=8)(h5:op=5->st.op=6)(h:(oStep d t (op,st)).1=0):zH (oStep d t (op,st)).2=0:=by
 obtain⟨hc,ad,i⟩:=(jb t).1 h2;unfold oStep at h⊢;simp only at h⊢;cases he:((zT d t.cols st).1 !=0)
 .rw[he,aA]at h;rw[aA];have aa:(zT d t.cols st).1=0:=d9
  have o:∀(g:st.op=6\/st.op=7\/st.op=8),∃b K,qb d st=b/\(zT d t.cols st).2=t.cols++K/\ColsF (t.cols++K)/\(oth (st.cols++Vx st.op) 0 b.cols).length=K.length/\(∀r∈b.rows,zN K (zn r (oth (st.cols++Vx st.op) 0 b.cols)))/\intErr t.cols (Vx st.op)=0:=by
   intro g;have hj:=qV g aa;have U:=aa;rw[hj]at U;obtain⟨b,P,ho⟩:=vd U;obtain⟨ab,_,ac⟩:=(jb b).1 (vq h1 P);refine⟨b,keepS (Vx st.op) st.cols b.cols,by grind[qb],by rw[hj];exact ho.eq,U6 hc ab ho,?_,λr hr=>zN.rest0 _ _ (ac r hr),ho.i1⟩
   grind[agI,ady]
  by_cases o3:op=3
  .subst o3;rw[show((3:Int)==3)=true from rfl,aB]at h⊢;obtain⟨R,e⟩:=aeP h;rw[e];unfold spansR at R⊢;cases J:qm (zf (qb d st).cols sFrom).toNat (zf (qb d st).cols sTo).toNat (qb d st).rows with
   |none=>
    grind[aiL]
   |some l=>
    rw[J]at R;have g:=h3 rfl;obtain⟨b,K,P,hR,j,p,I,hi⟩:=o d8;rw[g]at p I hi;rw[P]at R J⊢;simp only at R⊢;rw[hR];refine(jb _).2 ⟨j,R,λz hz=>?_⟩;obtain⟨x,hx,hz⟩:=dh.1 hz;exact avZ (apr hi) p I (aps J) (i x hx) z hz
  rw[show(op==3)=false by simpa using o3,aA]at h⊢;by_cases o4:op=4
  .subst o4;rw[show((4:Int)==4)=true from rfl,aB]at h⊢;have g:=h4 rfl;obtain⟨b,K,P,hR,j,p,I,hi⟩:=o d8;rw[g]at p I;rw[P,hR];unfold mergeR;refine(jb _).2 ⟨j,d9,λz hz=>?_⟩;obtain⟨x,hx,rfl⟩:=cB.1 hz;exact auQ p I (i x hx)
  rw[show(op==4)=false by simpa using o4,aA]at h⊢;by_cases o5:op=5
  .subst o5;rw[show((5:Int)==5)=true from rfl,aB]at h⊢;have g:=h5 rfl;obtain⟨b,K,P,hR,j,p,I,hi⟩:=o d8;rw[g,show st.cols++Vx 6=st.cols from bZ _]at p I;obtain⟨R,e⟩:=aeP h<;>grind[asv,jb,aw8]
  rw[show(op==5)=false by simpa using o5,aA]at h⊢
  grind[nStepL,aeP,aiL]
 simp_all
end
section
open Go Go.AM
attribute [local irreducible] Sat zA zX
def xaR:am (am Val):=[[xn 5],[xn 2],[nul],[xn 1]]
def xaT:Tbl:=⟨[⟨sN,2⟩],xaR⟩
def qP:am Nmd:=[⟨sA,xaT⟩]
def qW:Ex:=Kw 12 (Qg sN) (Wg 3)
def pS(lo hi:Int):Pln:=.mk 1 sA sN lo hi ua []
def pA:Pln:=.mk 1 sA ⟨#[]⟩ 0 0 ua []
def pW:Pln:=.mk 2 ⟨#[]⟩ ⟨#[]⟩ 0 0 (vO qW) [pS (-1000000000000000) 2]
def pL:Pln:=.mk 2 ⟨#[]⟩ ⟨#[]⟩ 0 0 (Zn 1) [pW]
theorem aB1:zH xaT=0:=by
 simp only[zH,xaT,xaR,xn,nul,sN,List.map,aH,Y0,w6,zf,yp,X2,uI,yV,qQ]
 decide+kernel
theorem aaU:yH qP=0:=by
 simp only[yH,qP,XE,aB1,zU,aeM,bB,di,dt];simp only[w6,sA,qQ]
 decide+kernel
theorem xaF:zU sA qP=some xaT:=by grind[zU,qP,qQ]
theorem aBk:yB sA=true:=by
 simp only[yB,kws,hasB,List.any,sA,qQ]
 decide+kernel
theorem aBl:yB sN=true:=by
 simp only[yB,kws,hasB,List.any,sN,qQ]
 decide+kernel
theorem Kz:zf [(⟨sN,2⟩:Col)] sN=0:=by grind[zf,yp,qQ]
theorem ajz:qW.chk=0:=by
 have g:yD 2 sN nul 0=0:=by grind[yD,qh,nul,xf,aBl,qQ]
 have i:=aBa (n:=3) dV;have j:yD 12 ⟨#[]⟩ nul 2=0:=by grind[yD,qh]
 have m:qW.meas 0=(3,2):=rfl<;>grind[Ex.chk,qW,Kw,Qg,Wg,Ex.err,errL]
theorem auO:qW.ty [⟨sN,2⟩]=(1,0):=by
 have f:(Qg sN).ty [⟨sN,2⟩]=(2,0):=by show qC [⟨sN,2⟩] 2 sN nul []=_;unfold qC;rw[Kz];rfl
 have k:(Wg 3).ty [⟨sN,2⟩]=(2,0):=rfl;simp only[qW,Kw,Ex.ty,tyL,f,k];rfl
theorem arO:(vO qW).err=0:=by grind[vO,Stp.uses,X6,JU,beqS_self,Stp.err,ajz]
theorem aiT:zT qP [⟨sN,2⟩] (vO qW)=(0,[⟨sN,2⟩]):=by unfold zT;rw[arO];show whT _ qW=_;unfold whT ab6;rw[auO];rfl
theorem aiR:zT qP [⟨sN,2⟩] (Zn 1)=(0,[⟨sN,2⟩]):=by unfold zT;rw[arj d8 d8];rfl
theorem apG(l:am Stp)(h:l=[]\/l=[vO qW,Zn 1]):vi qP ⟨sA,l⟩=(0,[⟨sN,2⟩]):=by grind[Qry.err,YQ,aBk,arO,arj,vi,aaU,jV,xaF,xaT,aiT,aiR]
theorem ajG(lo hi:Int):(pS lo hi).base=(pS lo hi,[]):=rfl
theorem Jl:Yr ua=true:=by grind[Yr,ua,Ex.zero,VP,xf,qQ]
theorem abI:pL.steps=true/\pW.steps=true:=by
 constructor
 .show w9 2 ⟨#[]⟩ ⟨#[]⟩ 0 0 5 1=true
  grind[w9,qQ]
 show w9 2 ⟨#[]⟩ ⟨#[]⟩ 0 0 1 1=true
 grind[w9,qQ]
theorem Vq:pL.base=(pS (-1000000000000000) 2,[vO qW,Zn 1]):=by obtain⟨k,hk,h⟩:=KP (op:=2) (tb:=⟨#[]⟩) (col:=⟨#[]⟩) (lo:=0) (hi:=0) (st:=Zn 1) (ks:=[pW]) abI.1;cases hk;obtain⟨k,hk,g⟩:=KP (op:=2) (tb:=⟨#[]⟩) (col:=⟨#[]⟩) (lo:=0) (hi:=0) (st:=vO qW) (ks:=[pS (-1000000000000000) 2]) abI.2;cases hk;have g:pW.base=_:=g;have h:pL.base=_:=h<;>grind[ajG]
theorem Kg(lo hi:Int)(h:(lo= -1000000000000000/\hi=2)\/(lo=1/\hi=0)\/(lo=2/\hi=5)):(pS lo hi).scans=true:=by
 show Qs 1 sN lo hi ua 0=true;rcases h with⟨rfl,rfl⟩|⟨rfl,rfl⟩|⟨rfl,rfl⟩
 .simp only[Qs,Jl,sN,qQ]
  decide+kernel
 .grind[Qs,Jl,sN,qQ]
 simp only[Qs,Jl,sN,qQ]
 decide+kernel
theorem aoq:pA.scans=true:=by
 show Qs 1 ⟨#[]⟩ 0 0 ua 0=true
 grind[Qs,Jl,qQ]
theorem aBI:uW xaT sN=0:=by unfold uW;rw[show zf xaT.cols sN=0 from Kz];rfl
theorem kr{p:Pln}{lo hi:Int}{l:am Stp}(g:p.base=(pS lo hi,l))(hs:(pS lo hi).scans=true)(i:l=[]\/l=[vO qW,Zn 1]):qj qP p=0:=by
 have j:p.qry=(⟨sA,l⟩,true):=by unfold Pln.qry;rw[g];show(bif (pS lo hi).scans then _ else _)=_;rw[hs];rfl
 unfold qj;rw[j,g,apG l i,aaU];show(bif zo sN ⟨#[]⟩then 0 else uW ((zU sA qP).getD ⟨[],[]⟩) sN)=0
 grind[xaF,aBI]
theorem ax9:qj qP pA=0:=by
 have g:pA.base=(pA,[]):=rfl;have i:pA.qry=(⟨sA,[]⟩,true):=by unfold Pln.qry;rw[g];show(bif pA.scans then _ else _)=_;rw[aoq];rfl
 unfold qj;rw[i,g,apG [] (.inl rfl),aaU];show(bif zo ⟨#[]⟩ ⟨#[]⟩then 0 else _)=0
 grind[AM.beqS_self]
end
section
open Go Go.AM
attribute [local irreducible] Sat zA zX zo
theorem acz(op:Int)(g:ByteArray)(v:Val):dY XI [(Ex.mk op g v []).w] ⟨.w (Ex.mk op g v []).w,[]⟩:=by refine zC ?_;obtain⟨i,j,vs⟩:=v;refine yA T8 ZO.ok dU ?_;exact⟨rfl,rfl⟩
theorem aqr:dY XI [qW.w] ⟨.w qW.w,[]⟩:=by
 refine zC ?_;have g:=acz 2 sN nul;have i:=acz 1 ⟨#[]⟩ ⟨2,3,⟨#[]⟩⟩;unfold qW Qg Wg Kw;generalize sN=n at*;refine ZO.s T8 ?_;refine wZ (P:=Pg) (f:=T8.f) (body:=(ZO.l 0)) 3 ?_
 conv=>whnf
 refine⟨d8,_,rfl,rfl,?_⟩;refine aC g ?_;refine⟨dT,by grind[yz],dT,?_⟩
 conv=>whnf
 refine⟨dV,_,rfl,rfl,?_⟩;refine aC i ?_;refine⟨dT,by grind[yz],dT,?_⟩;exact⟨rfl,rfl⟩
theorem aqf:dY kY [qW.w] ⟨.w qW.w,[]⟩:=by have g:=Vs qW;rw[ajz]at g;have i:=aqr;unfold qW Qg Wg Kw at*;generalize sN=n at*;refine afu.s T8 ?_;refine aC g ?_;refine aC i ?_;rfl
theorem aiw:dY Z8 [qW.w] (rC (.d (.sl (exsD [qW])))):=by refine zC ?_;unfold qW Qg Wg Kw;generalize sN=n at*;refine yA T8 Q9.ok dU ?_;exact⟨rfl,rfl⟩
theorem al5(x:Col)(cap:am D)(s:ByteArray)(h:cap[1]?=some (.lit (.string s)))(g:cap.length=6):dY uR [x.w,.c (.fp cap)] (rB (zo x.name s)):=by
 obtain⟨i,j⟩:=x
 match cap,g with
 |[a,b,c,d,e,f],_=>
   cases h;refine yA T8 JD.ok dU ?_;exact rfl
theorem ajV:dY aag [.c (.d (.sl (zl [⟨sN,2⟩]))),qW.w] ⟨.tup [.agg [str sN,int (-1000000000000000),int 2],.c (bool true)],[]⟩:=by
 have hi:=λcap h g=>qJ uR cap (λx=>zo x.name sN) (λx=>al5 x cap sN h g) [⟨sN,2⟩]
 have e:yp (λx:Col=>zo x.name sN) 0 [⟨sN,2⟩]=0:=Kz;rw[e]at hi;unfold qW Qg Wg Kw;generalize sN=n at*;refine wH.s T8 ?_
 repeat' (first
  |(refine⟨d8,_,rfl,rfl,?_⟩;(conv=>whnf))
  |(refine bC (hi _ rfl rfl) ?_;rintro _ rfl;(conv=>whnf))
  |(refine aN ?_ ?_<;>(conv=>whnf))
  |exact rfl)
theorem aqu:dY VH [.c (str sA),.c (.d (.sl (zl [⟨sN,2⟩]))),qW.w] ⟨.w (pS (-1000000000000000) 2).w,[]⟩:=by
 refine zC ?_;have j:=aiw;have o:=ajV;obtain⟨z,i⟩:∃z:ByteArray,z=⟨#[]⟩:=⟨_,rfl⟩;have g:(zo z z)=true:=AM.beqS_self _;rw[qd];unfold pS ua;rw[vu];unfold qW Qg Wg Kw nul at*;rw[<-i]at j o⊢;generalize sN=n at*;generalize sA=a at*;refine VE.s T8 ?_;refine aC j ?_;refine wZ (P:=Pg) (f:=T8.f) (body:=(VE.l 0)) 2 ?_
 try rw[<-i]
 conv=>whnf
 refine⟨d8,_,rfl,rfl,?_⟩;refine aC o ?_
 try rw[<-i]
 rw[g]
 conv=>whnf
 try rw[<-i]
 rw[g]
 conv=>whnf
 try rw[<-i]
 repeat' (first
  |exact⟨rfl,rfl⟩
  |(refine aN ?_ ?_<;>(conv=>whnf)))
theorem azc:∀s∈ [vO qW,Zn 1],s.Sm:=by
 intro s hs;simp only[aM,ck,cY]at hs;rcases hs with rfl|rfl
 .exact⟨aF _,aF _,aF _,aF _⟩
 exact⟨aF _,aF _,aF _,aF _⟩
theorem ak2:dY jA [.c (.d (.sl (zq qP))),Qry.w ⟨sA,[vO qW,Zn 1]⟩] ⟨.tup [pL.w,.c (int 0)],[]⟩:=by
 refine zC ?_;have j:=VM qP ⟨sA,[vO qW,Zn 1]⟩ azc;rw[apG _ (.inr rfl)]at j;have g:=y4 qP sA;rw[xaF]at g;have o:=aqf;have i:=aqu;have p:=Qq 1;have I:=Qq 5;rw[qd]at i⊢;unfold pL pW pS ua vO Zn ex0 at*;rw[vu]at i⊢;unfold xaT at g;unfold qW Qg Wg Kw nul at*;generalize qP=J at*;generalize sN=n at*;generalize sA=a at*;refine VX.s T8 ?_;refine aC j ?_;refine aC g ?_;refine wZ (P:=Pg) (f:=T8.f) (body:=(VX.l 0)) 3 ?_
 conv=>whnf
 refine⟨d8,_,rfl,rfl,?_⟩;refine aC o ?_;refine aC i ?_
 repeat' (first
  |exact⟨rfl,rfl⟩
  |(refine⟨d8,_,rfl,rfl,?_⟩;(conv=>whnf))
  |(refine⟨dV,_,rfl,rfl,?_⟩;(conv=>whnf))
  |(refine bC p ?_;rintro _ rfl;(conv=>whnf))
  |(refine bC I ?_;rintro _ rfl;(conv=>whnf))
  |(refine aN ?_ ?_<;>(conv=>whnf)))
theorem au1:pL.Sm/\KI (pS (-1000000000000000) 2) pL 2/\pL.nodes=[(2,vO qW),(2,Zn 1)]:=by refine⟨⟨by grind[Vq],by rw[Vq];exact aF _,by grind[Vq,azc]⟩,⟨by rw[Vq],Kg _ _ (.inl ⟨rfl,rfl⟩),by grind[Vq]⟩,?_⟩;have g:pL.nodes=pW.nodes++[(2,Zn 1)]:=abz abI.1;have i:pW.nodes=(pS (-1000000000000000) 2).nodes++[(2,vO qW)]:=abz abI.2;rw[g,i];rfl
theorem azD:ua.lens<=1000000:=dV
theorem azq(lo hi:Int):(pS lo hi).Sm:=⟨aF _,azD,λs hs=>by cases hs⟩
theorem aCt:pA.Sm:=⟨aF _,azD,λs hs=>by cases hs⟩
theorem aiS(lo hi:Int):dY x8 [(pS lo hi).w,.c (.d (.sl (zq qP)))] ⟨.w (Tbl.w ⟨[⟨sN,2⟩],xaR.filter (K2 0 lo hi)⟩),[]⟩:=by
 have g:zo sN ⟨#[]⟩=false:=by rw[qQ];decide
 have h:=aeg qP (pS lo hi) g _ _ xaF dV (by show 0<=zf [⟨sN,2⟩] sN;grind[Kz]) (λr hr=>by
  show zf [⟨sN,2⟩] sN<_;rw[Kz];simp only[xaR,aM,ck,cY]at hr
  grind)
 rw[show zf [(⟨sN,2⟩:Col)] (pS lo hi).col=0 from Kz]at h;exact h
theorem aAU:dY x8 [pA.w,.c (.d (.sl (zq qP)))] ⟨.w xaT.w,[]⟩:=by have h:=aef qP pA (AM.beqS_self _);rw[show pA.tb=sA from rfl,xaF]at h;exact h
theorem arP(p B:Pln)(m:Nat)(X:Tbl)(l:p.Sm)(j:qj qP p=0)(i:KI B p m)(g:dY x8 [B.w,.c (.d (.sl (zq qP)))] ⟨.w X.w,[]⟩):dY afE [.c (.d (.sl (zq qP))),p.w] (rII (X.rows.length,0)):=by have hk:=Xd qP p l;rw[j]at hk;rw[qd]at*;exact agZ qP p hk B m i X g
theorem arQ(p:Pln)(X:Tbl)(J:p.Sm)(I:qj qP p=0)(o:KI p p 0)(g:p.nodes=[])(l:dY x8 [p.w,.c (.d (.sl (zq qP)))] ⟨.w X.w,[]⟩):dY jz [.c (.d (.sl (zq qP))),p.w] (wO (0,X)):=by have hk:=Xd qP p J;rw[I]at hk;have j:=UG p p 0 o d8;have hr:=Kn qP ⟨[],[]⟩ p X l;rw[qd]at hk j⊢;exact kA qP p hk p.nodes dW _ j X hr (λ_ _=>True) trivial (λi h=>by rw[g]at h;simp_all) (λi h=>dW) _ (by rw[g];rfl)
def WS:Tbl:=⟨[⟨sN,2⟩],[[xn 2],[xn 1]]⟩
def xa1:Tbl:=⟨[⟨sN,2⟩],[[xn 2]]⟩
theorem apF:zH WS=0:=by
 simp only[zH,WS,xn,sN,List.map,aH,Y0,w6,zf,yp,X2,uI,yV,qQ]
 decide+kernel
theorem aBu{a b:Int}{s t:ByteArray}:qX 12 ⟨#[]⟩ [⟨2,a,s⟩,⟨2,b,t⟩]=zM (decide (a<b)):=by
 have e:xV ⟨2,a,s⟩ ⟨2,b,t⟩=yw a b:=rfl;have h:qX 12 ⟨#[]⟩ [⟨2,a,s⟩,⟨2,b,t⟩]=zM ((((false&&(xV ⟨2,a,s⟩ ⟨2,b,t⟩==0))||(false&&(xV ⟨2,a,s⟩ ⟨2,b,t⟩ !=0)))||(true&&decide (xV ⟨2,a,s⟩ ⟨2,b,t⟩<0)))||(false&&decide (xV ⟨2,a,s⟩ ⟨2,b,t⟩<=0))):=rfl;rw[h,e];simp only[cC,bT,bO,Bool.or_false];congr 1
 unfold yw;by_cases h:a<b
 .grind
 rw[aJ h,aA]
 grind
theorem aAV(n:Int)(hr: [xn n]∈WS.rows)(j:n<3):condB [⟨sN,2⟩] [xn n] qW=true:=by
 have i:=awX apF _ hr;have i:vT [⟨sN,2⟩] [xn n]=true:=i;have hv:qW.val [⟨sN,2⟩] [xn n]=zM true:=by
  have f:(Qg sN).val [⟨sN,2⟩] [xn n]=xn n:=by show at0 [xn n] (zf [⟨sN,2⟩] sN).toNat=xn n;rw[Kz];rfl
  have g:qW.val [⟨sN,2⟩] [xn n]=bif xW [(Qg sN).val [⟨sN,2⟩] [xn n],(Wg 3).val [⟨sN,2⟩] [xn n]]then zw else qX 12 ⟨#[]⟩ [(Qg sN).val [⟨sN,2⟩] [xn n],(Wg 3).val [⟨sN,2⟩] [xn n]]:=rfl
  rw[g,f];show qX 12 ⟨#[]⟩ [⟨2,n,⟨#[]⟩⟩,⟨2,3,⟨#[]⟩⟩]=zM true
  grind[aBu]
 grind[condB,exprV,dj,ajz,auO,xf,beqS_self]
theorem azB:nStepT qP WS (vO qW)=(0,WS):=by
 rw[aoe aaU apF (by rw[show WS.cols=[⟨sN,2⟩]from rfl,aiT])];rw[show WS.cols=[⟨sN,2⟩]from rfl,aiT];have e:stR qP WS (vO qW)=whereR [⟨sN,2⟩] [[xn 2],[xn 1]] qW:=rfl;have g:whereR [⟨sN,2⟩] [[xn 2],[xn 1]] qW=[[xn 2],[xn 1]]:=by
  unfold whereR;rw[c6];intro r hr;simp only[aM,ck,cY]at hr
  grind[aAV,WS]
 rw[e,g];rfl
theorem azC:nStepT qP WS (Zn 1)=(0,xa1):=by rw[aoe aaU apF (by rw[show WS.cols=[⟨sN,2⟩]from rfl,aiR])];rw[show WS.cols=[⟨sN,2⟩]from rfl,aiR];rfl
theorem aze(st:Stp)(t:Tbl)(hk:st.Sm)(j:t.cols=[⟨sN,2⟩])(hr:t.rows.length<20000)(l:st.op≠6/\st.op≠7)(o:zT qP [⟨sN,2⟩] st=(0,[⟨sN,2⟩])):dY xP [.c (.d (.sl (zq qP))),t.w,.c (.d (w8 (2,st)))] (wO (nStepT qP t st)):=by
 have i:=Zz qP t.cols st hk.ok d9 (λb p=>by grind[Jo,aaU]);rw[j,o]at i;have g:=aoI qP t st hk hr (λh=>absurd h d8);refine acB qP t st [⟨sN,2⟩] ?_ _ g
 grind
theorem aB2:dY jz [.c (.d (.sl (zq qP))),pL.w] (wO (0,xa1)):=by
 obtain⟨o,j,l⟩:=au1;have hk:=Xd qP pL o;rw[kr Vq (Kg _ _ (.inl ⟨rfl,rfl⟩)) (.inr rfl)]at hk;have g:=UG pL _ 2 j d8;have hr:=Kn qP ⟨[],[]⟩ (pS (-1000000000000000) 2) WS (aiS _ _);rw[l]at g;rw[qd]at hk g⊢;refine kA qP pL hk [(2,vO qW),(2,Zn 1)] dV _ g WS hr (λi t=>t=bif decide (i<2)then WS else xa1) rfl ?_ ?_ _ ?_
 .grind[WS,aze,vO,azc,aiT,Zn,aiR]
 .grind[azB,azC]
 grind[runT,azB,azC]
theorem azd:dY JZ [.c (.d (.sl (zq qP))),Qry.w ⟨sA,[vO qW,Zn 1]⟩] (wO (0,xa1)):=by have g:=ak2;have i:=aB2;generalize xa1=X at*;obtain⟨o,p⟩:=X;rw[qd]at g i;generalize vO qW=l at*;unfold pL pW pS ua Zn ex0 at*;rw[vu]at g i;generalize qP=j at*;generalize sN=n at*;generalize sA=a at*;refine ac0.s T8 ?_;refine aC g ?_;refine aC i ?_;rfl
def aCN:am (am Val):=xaR.filter (K2 0 1 0)
theorem aAT:aCN=[]:=by decide+kernel
theorem as4(t:Tbl):aip t t=true:=abP t
theorem jU:dY alN [] (rB true):=by have c1:=ag4 sN;have c2:=aed 3;have c3:=amb 12 (Qg sN) (Wg 3);have q1:=azd;have g:=ak2;obtain⟨U,R,_⟩:=au1;have i:=arP pL _ 2 WS U (kr Vq (Kg _ _ (.inl ⟨rfl,rfl⟩)) (.inr rfl)) R (aiS _ _);have p:=Kg 1 0 (.inr (.inl ⟨rfl,rfl⟩));have I:=Kg 2 5 (.inr (.inr ⟨rfl,rfl⟩));have j:=arQ (pS 1 0) ⟨[⟨sN,2⟩],[]⟩ (azq _ _) (kr (ajG _ _) p (.inl rfl)) ⟨rfl,p,rfl⟩ rfl (by have:=aiS 1 0;rw[show xaR.filter (K2 0 1 0)=[]from aAT]at this;exact this);have l:=arQ (pS 2 5) ⟨[⟨sN,2⟩],[[xn 5],[xn 2]]⟩ (azq _ _) (kr (ajG _ _) I (.inl rfl)) ⟨rfl,I,rfl⟩ rfl (aiS 2 5);have o:=arP pA pA 0 xaT aCt ax9 ⟨rfl,aoq,rfl⟩ aAU;have J:=Xe xa1 xa1;have P:=Xe ⟨[⟨sN,2⟩],[[xn 5],[xn 2]]⟩ ⟨[⟨sN,2⟩],[[xn 5],[xn 2]]⟩;rw[as4]at J P;clear U R p I;rw[qd]at g i j l o;unfold qP xaT xaR WS xa1 pL pW pS pA ua vO Zn ex0 at*;rw[vu]at g i j l o;unfold qW Qg Wg Kw nul xn at*;refine aly.s T8 ?_;refine aC (Zy 5) ?_;refine aC (Zy 2) ?_;refine aC (Zy 1) ?_;refine aC c1 ?_;refine aC c2 ?_;refine aC c3 ?_;refine aC q1 ?_;refine aC g ?_;refine aC i ?_;refine aC j ?_;refine aC l ?_;refine aC o ?_;refine⟨d8,by show(1:Int)<=2;omega,by show(2:Int)<=4;omega,?_⟩;refine aC J ?_;refine⟨by show(0:Int)<=2;omega,by show(2:Int)<=4;omega,?_⟩;refine aC P ?_;rfl
def smR:Int->am (am Val)->Int
 |n,[]=>n
 |n,r::g=>bif decide (n<=800)then smR (aE.wrap (aE.wrap (n+1)+r.length)) g else n
def smD:Int->am Nmd->Int
 |n,[]=>n
 |n,x::xs=>bif decide (n<=800)then smD (smR (aE.wrap (n+x.t.cols.length)) x.t.rows) xs else n
def smI(d:am Nmd)(n:Int)(i:Nat):S:=⟨[(0,.w (.c (.d (.sl (zq d))))),(3,zm n),(4,zm i)],[]⟩
def smJ(d:am Nmd)(i:Nat)(n:Int)(j:Nat):S:=⟨[(0,.w (.c (.d (.sl (zq d))))),(3,zm n),(4,zm i),(5,zm j)],[]⟩
theorem ayT{n:Int}(h:decide (n<=800)=false)(g:am (am Val)):smR n g=n:=by
 cases g with
 |nil=>rfl
 |cons r g=>simp only[smR,h,aA]
theorem ayS{n:Int}(h:decide (n<=800)=false)(d:am Nmd):smD n d=n:=by
 cases d with
 |nil=>rfl
 |cons r g=>simp only[smD,h,aA]
theorem anf:∀{l:am (am D)},bnds l->∀e∈l,bndc e
 |[],_,e,g=>by cases g
 |x::r,h,e,g=>by
  simp only[bnds]at h;rcases aM.1 g with rfl|g
  .exact h.1
  exact anf h.2 e g
theorem az8{d:am Nmd}(h:bnd (.sl (zq d))):d.length<=9223372036854775807/\∀x∈d,x.t.rows.length<=9223372036854775807:=by
 simp only[bnd]at h;rw[YG]at h;refine⟨h.1,λx g=>?_⟩;have:=anf h.2 x.ds (cB.2 ⟨x,g,rfl⟩)
 grind[Nmd.ds,bndc,bnd,zy]
theorem ak9(d:am Nmd):dY wB [.c (.d (.sl (zq d)))] (rB (decide (smD d.length d<=800))):=by
 suffices h:∀y,smD d.length d=y->dY wB [.c (.d (.sl (zq d)))] (rB (decide (y<=800)))from h _ rfl
 intro y hy;refine Vt dU λhb=>?_
 have hb:=hb _ (c8 ..);simp only[agb,Jy]at hb;obtain⟨aa,I⟩:=az8 hb;clear hb;refine ZG.s T8 ?_;rw[YG];refine yq (P:=Pg) (f:=T8.f) (body:=(ZG.l 1)) (λz:Nat×Int=>smI d z.2 z.1) (λz=>d.length-z.1) (λz=>z.1<=d.length/\smD z.2 (d.drop z.1)=y) ⟨(0,d.length),⟨aF _,hy⟩,ze ?_⟩ ?_
 .exact rfl
 rintro⟨i,n⟩ ⟨hi,g⟩;have hi:i<=d.length:=hi;have g:smD n (d.drop i)=y:=g;clear hy;show mwpR Pg T8.f (ZG.l 1) _ (smI d n i);unfold smI;(conv=>whnf);rw[YG];refine zx (b:=decide ((i:Int)<d.length)&&decide (n<=800)) (λR=>?_) (λR=>?_)
 .simp only[bK]at R;obtain⟨R,h2⟩:=R;have p:i<d.length:=dW
  have hg:=agF p;have wi:=zB p aa;rw[zt p]at g;simp only[smD,h2,aB]at g;have I:=I _ (aG p);generalize d[i]=x at*;obtain⟨xn,⟨xc,o⟩⟩:=x;simp only at g I;(conv=>whnf);refine⟨d8,_,hg,rfl,?_⟩;(conv=>whnf);rw[z8];generalize aE.wrap (n+xc.length)=n1 at*;refine yq (P:=Pg) (f:=T8.f) (body:=(ZG.l 0)) (λz:Nat×Int=>smJ d i z.2 z.1) (λz=>o.length-z.1) (λz=>z.1<=o.length/\smD (smR z.2 (o.drop z.1)) (d.drop (i+1))=y) ⟨(0,n1),⟨aF _,g⟩,ze ?_⟩ ?_
  .exact rfl
  rintro⟨j,n2⟩ ⟨hj,g⟩;have hj:j<=o.length:=hj;have g:smD (smR n2 (o.drop j)) (d.drop (i+1))=y:=g;show mwpR Pg T8.f (ZG.l 0) _ (smJ d i n2 j);unfold smJ;(conv=>whnf);refine⟨d8,_,hg,rfl,?_⟩;(conv=>whnf);rw[zy];refine zx (b:=decide ((j:Int)<o.length)&&decide (n2<=800)) (λU=>?_) (λU=>?_)
  .simp only[bK]at U;obtain⟨U,h4⟩:=U;have J:j<o.length:=dW
   have ab:=yS J;have wj:=zB J I;rw[zt J]at g;simp only[smR,h4,aB]at g;generalize o[j]=r at*;(conv=>whnf);refine⟨d8,_,hg,rfl,?_⟩;(conv=>whnf);refine⟨d8,_,ab,rfl,?_⟩;(conv=>whnf);rw[zu];refine⟨(j+1,_),⟨⟨by show j+1<=o.length;omega,g⟩,by show o.length-(j+1)<o.length-j;omega⟩,ze ?_⟩;(conv=>whnf);rw[wj];rfl
  have g:smD n2 (d.drop (i+1))=y:=by
   rcases cS.1 U with h|h
   .have:=bA h;rw[aR d8]at g;exact g
   grind[ayT]
  (conv=>whnf);refine⟨(i+1,n2),⟨⟨d9,g⟩,d9⟩,ze ?_⟩;(conv=>whnf);rw[wi];rfl
 have g:n=y:=by
  rcases cS.1 R with h|h
  .have:=bA h;rw[aR d8]at g;exact g
  grind[ayS]
 subst g;exact rfl
def Xi(d:am Nmd)(name:ByteArray):Tbl:=(zU name d).getD ⟨[],[]⟩
theorem ajJ{d:am Nmd}{p:Pln}(h:qj d p=0):yH d=0/\p.base.1.scans=true/\(vi d ⟨p.base.1.tb,p.base.2⟩).1=0/\(zo p.base.1.col ⟨#[]⟩=false->uW (Xi d p.base.1.tb) p.base.1.col=0):=by
 unfold qj at h;cases j:(yH d !=0)
 .rw[j,aA]at h;cases i:p.qry.2
  .grind
  obtain⟨o,r⟩:=aqQ i;rw[i,r]at h;simp only[cG,aA]at h;cases l:((vi d ⟨p.base.1.tb,p.base.2⟩).1 !=0)
  .rw[l,aA]at h;refine⟨d9,o.2.1,d9,λg=>?_⟩;rw[g]at h;exact h
  simp_all
 simp_all
theorem aru{d:am Nmd}{p:Pln}(h:qj d p=0):∃t,zU p.base.1.tb d=some t/\zH t=0:=by obtain⟨i,_,g,_⟩:=ajJ h;obtain⟨_,_,t,j,_⟩:=ab4 g<;>grind[vq]
theorem aya{d:am Nmd}{p:Pln}(h:qj d p=0):dY x8 [p.base.1.w,.c (.d (.sl (zq d)))] ⟨.w (ZV d p.base.1).w,[]⟩:=by
 obtain⟨R,U,h3,g⟩:=ajJ h;obtain⟨t,j,l⟩:=aru h;unfold ZV;cases i:zo p.base.1.col ⟨#[]⟩with
 |true=>grind[aef]
 |false=>
  have g:=g i;unfold Xi at g;rw[j]at g⊢;have g:uW t p.base.1.col=0:=g;unfold uW at g;cases J:decide (zf t.cols p.base.1.col<0)
  .obtain⟨o,I⟩:=wI t.cols p.base.1.col (bA J);obtain⟨tc,P⟩:=t;exact aeg d _ i tc P j (xT l).2 o (λr hr=>by rw[wP l r hr];exact I)
  grind
theorem arv{d:am Nmd}{p:Pln}(h:qj d p=0):zH (ZV d p.base.1)=0:=by grind[aru,ZV,jb]
theorem az9{o op:Int}(g:op=3\/op=4\/op=5)(h:(u6 o==op)=true):(op=3->o=7)/\(op=4->o=8)/\(op=5->o=6):=by
 have h:=eq_of_beq h;unfold u6 at h;by_cases j:o=7
 .grind
 rw[show(o==7)=false by grind,aA]at h;by_cases l:o=8
 .grind
 rw[show(o==8)=false by grind,aA]at h;by_cases i:o=6
 .grind
 rw[show(o==6)=false by grind,aA]at h
 grind
def ahg(x:Int×Stp):Prop:=(x.1=3->x.2.op=7)/\(x.1=4->x.2.op=8)/\(x.1=5->x.2.op=6)
theorem aAw{op:Int}{tb col:ByteArray}{lo hi g j:Int}{st:Stp}(hs:st.op=g)(h:w9 op tb col lo hi g j=true):ahg (op,st):=by
 unfold w9 at h;cases l:(!zo tb ⟨#[]⟩||(!zo col ⟨#[]⟩||(lo !=0||(hi !=0||j !=1))))
 .rw[l,aA]at h;by_cases o:op=2
  .subst o;exact⟨λe=>(by cases e),λe=>(by cases e),λe=>(by cases e)⟩
  rw[show(op==2)=false by grind,aA]at h;cases i:(op==3||(op==4||op==5))
  .grind
  rw[i,aB]at h;simp only[b9,beq_iff_eq]at i;obtain⟨a,b,c⟩:=az9 i h
  grind[ahg]
 simp_all
theorem aby:∀p:Pln,∀x∈p.nodes,ahg x
 |.mk op tb col lo hi st [k],x,g=>by
   simp only[Pln.nodes]at g;cases h:w9 op tb col lo hi st.op 1
   .grind
   rw[h,aB]at g;rcases bM.1 g with g|g
   .exact aby k x g
   rw[aK]at g;subst g;exact aAw rfl h
 |.mk _ _ _ _ _ _ [],x,g=>by cases g
 |.mk _ _ _ _ _ _ (_::_::_),x,g=>by cases g
noncomputable def exR(d:am Nmd)(p:Pln):Int×Tbl:=bif qj d p !=0 then(qj d p,⟨[],[]⟩)else Ww (oStep d) (ZV d p.base.1) p.nodes
theorem ad9(d:am Nmd)(p:Pln)(j:p.Sm):dY jz [.c (.d (.sl (zq d))),p.w] (wO (exR d p)):=by
 have hk:=Xd d p j;unfold exR;by_cases g:qj d p=0
 .obtain⟨R,o,U,h4⟩:=ajJ g;rw[g]at hk⊢;have I:p.nodes.length=p.base.2.length:=by grind[kj]
  have J:∀x∈p.nodes,x.2.Sm:=λx hx=>j.st x.2 (by grind[kj])
  have l:=UG p p.base.1 p.base.2.length ⟨rfl,o,rfl⟩ j.len;have hr:=Kn d ⟨[],[]⟩ p.base.1 _ (aya g);rw[qd]at hk l⊢;refine ajX (oStep d) d p hk p.nodes (by rw[I];exact j.len) _ l _ hr (λ_ t=>zH t=0) (arv g) (λi h t P=>?_) (λi h t P h0=>?_) _ rfl
  .obtain⟨a,b,c⟩:=aby p _ (aG h)
   grind[atc]
  obtain⟨a,b,c⟩:=aby p _ (aG h)
  grind[gn]
 have g:(qj d p !=0)=true:=d9
 rw[g,aB];simp_all[qd,ag0]
mutual
def Ex.cntX:Ex->Int->Int
 |.mk _ _ _ ks,m=>cntXL ks m 1
def cntXL:am Ex->Int->Int->Int
 |[],_,n=>n
 |k::r,m,n=>bif decide (n<=m)then cntXL r m (n+k.cntX (m-n))else n
end
mutual
theorem agk:∀(e:Ex) (m:Int),1<=e.cntX m/\e.cntX m<=max 1 (m+1)
 |.mk _ _ _ ks,m=>by simp_all[Ex.cntX,cntXL_bnd]
theorem cntXL_bnd:∀(ks:am Ex) (m n:Int),n<=cntXL ks m n/\cntXL ks m n<=max n (m+1)
 |[],m,n=>by grind[cntXL]
 |k::r,m,n=>by
  simp only[cntXL];cases h:decide (n<=m)
  .rw[aA];omega
  rw[aB];have h:=aL h;have g:=agk k (m-n);have i:=cntXL_bnd r m (n+k.cntX (m-n));omega
end
theorem asb{ks:am Ex}{i:Nat}(h:i<ks.length)(m n:Int):cntXL (ks.drop i) m n=bif decide (n<=m)then cntXL (ks.drop (i+1)) m (n+ks[i].cntX (m-n))else n:=by grind[zt,cntXL]
theorem ad3:∀(e:Ex) (m:Int), -2000<=m->m<=1000->dY acn [e.w,.c (int m)] (rI (e.cntX m))
 |.mk op nm v ks,m,ab,ac=>by
   have ih:∀k∈ks,∀m, -2000<=m->m<=1000->dY acn [k.w,.c (int m)] (rI (k.cntX m)):=λk hk m U o=>ad3 k m U o
   obtain⟨y,J⟩:∃y,cntXL ks m 1=y:=⟨_,rfl⟩;simp only[Ex.cntX];rw[J];obtain⟨vk,vn,vs⟩:=v;refine acf.s T8 ?_;refine yq (P:=Pg) (f:=T8.f) (body:=(acf.l 0)) (λz:Nat×Int=>⟨[(1,zm m),(2,cV (.ptr 2 0)),(5,zm z.2),(6,zm z.1)],[(2,.box [int op,str nm,int vk,int vn,str vs,.d (.sl (exsD ks))])]⟩) (λz=>ks.length-z.1) (λz=>z.1<=ks.length/\(z.1:Int)+1<=z.2/\z.2<=1001/\y=cntXL (ks.drop z.1) m z.2) ⟨(0,1),⟨aF _,bJ _,d9,J.symm⟩,ze ?_⟩ ?_
   .exact rfl
   rintro⟨i,n⟩ hz;obtain⟨hi,ad,hn,g⟩:i<=ks.length/\(i:Int)+1<=n/\n<=1001/\y=cntXL (ks.drop i) m n:=hz;clear J;(conv=>whnf);rw[y0];cases U:decide ((i:Int)<(ks.length:Int))with
   |false=>
    have I:ks.length<=i:=d9
    rw[aR I]at g;simp only[cntXL]at g;subst g;exact rfl
   |true=>
    have j:i<ks.length:=dW
    rw[asb j]at g;cases o:decide (n<=m)with
    |false=>
     rw[o]at g;have g:y=n:=g;subst g;exact rfl
    |true=>
     have aa:=aL o;rw[o]at g;have g:y=cntXL (ks.drop (i+1)) m (n+ks[i].cntX (m-n)):=g;have hg:(exsD ks)[((i:Int)).toNat]?=some (ks[i]).ds:=Qe j;have p:ks[i]∈ks:=aG j;have wm:aE.wrap (m-n)=m-n:=by grind[cL]
     have w1:aE.wrap ((i:Int)+1)=((i+1:Nat):Int):=by grind[cL]
     generalize ks[i]=k at*;obtain⟨c1,c2⟩:=agk k (m-n);have R:=ih k p (m-n) d8 d8;generalize k.cntX (m-n)=z at*;have wn:aE.wrap (n+z)=n+z:=by grind[cL]
     obtain⟨ag,af,v1,ae⟩:=k;(conv=>whnf);refine⟨d8,_,hg,rfl,?_⟩;(conv=>whnf);rw[wm];refine aC R ?_;refine⟨(i+1,n+z),⟨⟨j,d9,d9,g⟩,d9⟩,ze ?_⟩;(conv=>whnf);rw[wn,w1];rfl
termination_by e=>e
decreasing_by all_goals (simp_wf;have:=bD hk;omega)
def aoc(x:Itm):Bool:=!decide (x.e.cntX 100>100)
def adC(s:Stp):Bool:=decide (s.cond.cntX 100>100)||decide ((s.items.length:Int)>20)||decide ((s.cols.length:Int)>40)||decide ((s.aggs.length:Int)>40)||decide ((s.sorts.length:Int)>40)
def Qo(s:Stp):Int×Bool:=bif adC s then(0,false)else bif ai1 aoc s.items then(bif s.op==6||s.op==7 then 1 else 0,true)else(0,false)
theorem ays(s:Stp):dY anZ [s.w] ⟨.tup [.c (int (Qo s).1),.c (bool (Qo s).2)],[]⟩:=by
 have hc:=ad3 s.cond 100 d8 d8;obtain⟨y,o⟩:∃y,Qo s=y:=⟨_,rfl⟩;rw[o];unfold Qo adC at o;obtain⟨op,⟨eo,nm,⟨vk,vn,vs⟩,J⟩,g,cs,ad,ab,n,tb⟩:=s;rw[uB];simp only at*;rw[<-vg g,<-zP cs,<-jN ad,<-YP ab]at o;generalize(Ex.mk eo nm ⟨vk,vn,vs⟩ J).cntX 100=cc at*;generalize zp cs=I at*;generalize qv ad=p at*;generalize xz ab=aa at*;obtain⟨bad,R⟩:∃bad,(decide (cc>100)||decide (((yP g).length:Int)>20)||decide ((I.length:Int)>40)||decide ((p.length:Int)>40)||decide ((aa.length:Int)>40))=bad:=⟨_,rfl⟩;rw[R]at o;have af:bad=false->g.length<=20:=λh=>by grind[vg]
 have U:∀(j:Int) (Q:E->S->Prop) (s:S),bad=false->(bif ai1 aoc g then(j,true)else(0,false))=y->
  y8 s [1,4,5] (· =⟨[(1,cV (.ptr 1 0)),(4,zm j),(5,zm 0)],[(1,.box [int op,int eo,str nm,int vk,int vn,str vs,.d (.sl (exsD J)),.d (.sl (yP g)),.d (.sl I),.d (.sl p),.d (.sl aa),int n,str tb])]⟩)->
  (y=(0,false)->Q .ret ⟨[(2,zm 0),(3,zZ false)],[(1,.box [int op,int eo,str nm,int vk,int vn,str vs,.d (.sl (exsD J)),.d (.sl (yP g)),.d (.sl I),.d (.sl p),.d (.sl aa),int n,str tb])]⟩)->
  (y=(j,true)->Q (.exit 0) ⟨[(1,cV (.ptr 1 0)),(4,zm j),(5,zm g.length),(46,zZ (decide ((g.length:Int)<((yP g).length:Nat))))],[(1,.box [int op,int eo,str nm,int vk,int vn,str vs,.d (.sl (exsD J)),.d (.sl (yP g)),.d (.sl I),.d (.sl p),.d (.sl aa),int n,str tb])]⟩)->
  zX (mwpR Pg T8.f (Q8.l 0)) [1,4,5] Q s:=by
  intro j Q s hb o h0 hr hq;have af:=af hb;refine yy (P:=Pg) (f:=T8.f) (body:=(Q8.l 0)) g.length (λi=>⟨[(1,cV (.ptr 1 0)),(4,zm j),(5,zm i)],[(1,.box [int op,int eo,str nm,int vk,int vn,str vs,.d (.sl (exsD J)),.d (.sl (yP g)),.d (.sl I),.d (.sl p),.d (.sl aa),int n,str tb])]⟩) (λi=>(bif ai1 aoc (g.drop i)then(j,true)else(0,false))=y) ⟨o,h0⟩ ?_;clear h0 o;intro i hi hR;cases h1:decide ((i:Int)<((yP g).length:Int))with
  |false=>
   have ag:i=g.length:=by grind[vg]
   subst ag;rw[cm]at hR;have hq:=hq hR.symm;(conv=>whnf);rw[h1];rw[h1]at hq;(conv=>whnf);exact hq
  |true=>
   have ac:i<g.length:=by have:=aL h1;grind[vg]
   rw[zt ac]at hR;simp only[ai1]at hR;have hg:=V7 ac;have wi:=zB ac d8;have ae:=ad3 (g[i]).e 100 d8 d8;unfold aoc at hR;generalize g[i]=x at*;obtain⟨xe,xn⟩:=x;simp only at ae hR;generalize xe.cntX 100=c at*;obtain⟨o1,n1,⟨a1,a2,a3⟩,k1⟩:=xe;(conv=>whnf);rw[h1];(conv=>whnf);refine⟨d8,_,hg,rfl,?_⟩;refine aC ae ?_;refine zx (b:=decide (c>100)) (λh2=>?_) (λh2=>?_)
   .rw[h2]at hR;have hr:=hr hR.symm;(conv=>whnf);exact hr
   rw[h2]at hR;(conv=>whnf);refine⟨ac,hR,ze ?_⟩;(conv=>whnf);rw[wi];rfl
 cases hj:(op==6||op==7)with
 |false=>
  rw[hj]at o;refine Q8.s T8 ?_;rw[hj];refine aC hc ?_;rw[R];cases bad with
  |true=>
   subst o;exact rfl
  |false=>
   (conv=>whnf);refine U 0 _ _ rfl o (ze ?_) (λe=>?_) (λe=>?_)
   .exact rfl
   .subst e;exact rfl
   subst e;exact rfl
 |true=>
  rw[hj]at o;refine Q8.s T8 ?_;rw[hj];refine aC hc ?_;rw[R];cases bad with
  |true=>
   subst o;exact rfl
  |false=>
   (conv=>whnf);refine U 1 _ _ rfl o (ze ?_) (λe=>?_) (λe=>?_)
   .exact rfl
   .subst e;exact rfl
   subst e;exact rfl
theorem aBx(s:Stp):0<=(Qo s).1/\(Qo s).1<=1:=by
 unfold Qo;cases adC s
 .rw[aA];cases ai1 aoc s.items
  .exact⟨by show(0:Int)<=0;omega,by show(0:Int)<=1;omega⟩
  rw[aB];cases(s.op==6||s.op==7)
  .exact⟨by show(0:Int)<=0;omega,by show(0:Int)<=1;omega⟩
  exact⟨by show(0:Int)<=1;omega,by show(1:Int)<=1;omega⟩
 exact⟨by show(0:Int)<=0;omega,by show(0:Int)<=1;omega⟩
theorem akr:∀(ks:am Ex) (m n:Int),min (n+ks.length) (m+1)<=cntXL ks m n
 |[],m,n=>by simp only[cntXL,dt];omega
 |k::r,m,n=>by
  simp only[cntXL,di];cases h:decide (n<=m)
  .have:=bA h;rw[aA];omega
  rw[aB];have g:=agk k (m-n);have i:=akr r m (n+k.cntX (m-n));omega
theorem aBy{s:Stp}(h:(Qo s).2=true):s.Sm/\s.lens<=1000:=by
 unfold Qo at h;cases g:adC s
 .unfold adC at g;simp only[bH,bY]at g;obtain⟨⟨⟨⟨o,r⟩,I⟩,J⟩,P⟩:=g;have hk:s.cond.ks.length<=100:=by obtain⟨op,⟨p,R,v,ks⟩,i,cs,l,j,n,tb⟩:=s;simp only[Ex.cntX]at o;have:=akr ks 100 1;show ks.length<=100;omega
  refine⟨⟨d8,d8,d8,d8⟩,?_⟩;unfold Stp.lens;omega
 rw[g]at h;cases h
end
section
open Go Go.AM
def Ex.isC:Ex->Bool
 |.mk op _ _ _=>op==1
def Ex.kv:Ex->Val
 |.mk _ _ v _=>v
def awM(v:Val):Ex:=.mk 1 ⟨#[]⟩ v []
def VF(op:Int)(i:ByteArray)(g:am Ex):Ex:=
 bif !g.all Ex.isC then .mk op i zw g else bif ((Ex.mk op i zw g).tyE []).2 !=0 then .mk op i zw g else awM ((Ex.mk op i zw g).val [] [])
mutual
def Ex.fold:Ex->Ex
 |.mk op g v ks=>bif (ks.length:Int)==0 then .mk op g v ks else VF op g (foldL ks)
def foldL:am Ex->am Ex
 |[]=> []
 |k::r=>k.fold::foldL r
end
theorem KW:∀ks,foldL ks=ks.map Ex.fold
 |[]=>rfl
 |k::r=>by simp only[foldL,aX,KW r]
def Ex.foldE(e:Ex):Ex:=bif e.chk !=0 then e else e.fold
def Pr(v:Val):Prop:=agl v.s.data.toList=0
theorem ajK:Pr zw:=rfl
theorem Kh(b:Bool):Pr (zM b):=rfl
theorem aaw(n:Int)(b:Bool):Pr (ut n b):=by cases b<;>rfl
theorem arz(a b:Val):Pr (ww a b):=by unfold ww;cases(xf a (zM false)||xf b (zM false))<;>cases(a.k==0||b.k==0)<;>rfl
theorem aBF(a b:Val):Pr (v7 (ww a b)):=by grind[v7,Kh,arz]
theorem asW{l:am Val}(h:∀v∈l,Pr v)(i:Nat):Pr (at0 l i):=by grind[at0,ajK]
theorem vw{b:Bool}{u v:Val}(g:Pr u)(hv:Pr v):Pr (bif b then u else v):=d9
theorem aAb(g:ByteArray){l:am Val}(h:∀v∈l,Pr v):Pr (j7 g l):=by unfold j7;exact vw (aaw _ _) (vw (aaw _ _) (vw (Kh _) (vw (Kh _) (vw (asW h 1) (asW h 0)))))
theorem aBE(a b:Int)(c:Bool):Pr (Xu a b c):=by unfold Xu;exact vw ajK (vw rfl rfl)
theorem aAc{a:Val}(h:Pr a):Pr (v7 a):=by simp_all[v7,vw,Kh]
theorem aAd(op:Int)(g:ByteArray){l:am Val}(h:∀v∈l,Pr v):Pr (qX op g l):=by unfold qX;exact vw (aAc (asW h 0)) (vw (aaw _ _) (vw (aaw _ _) (vw (aaw _ _) (vw (aaw _ _) (vw (aBE _ _ _) (vw (aAb g h) (Kh _)))))))
def Lo(a b:Int):Prop:=a=b\/a=0
inductive LoL:am Int->am Int->Prop where
 |nil:LoL [] []
 |cons {a b:Int}{l m:am Int}:Lo a b->LoL l m->LoL (a::l) (b::m)
theorem aq2{a b w:Int}(h:Lo a b)(g:qp b w=true):qp a w=true:=by rcases h with rfl|rfl<;>grind[qp]
theorem Qw{w:Int}:∀{l m:am Int},LoL l m->xi m w=true->xi l w=true
 |_,_,.nil,_=>rfl
 |_,_,.cons (a:=a) (b:=b) (l:=l) (m:=m) h i,g=>by unfold xi at g⊢;simp only[List.any_cons,Bool.not_or,bK,Bool.not_not]at g⊢;exact⟨aq2 h g.1,Qw i g.2⟩
theorem Qv{b c:Bool}{k:Int}(h:c=true->b=true)(g:(vp c k).2=0):(vp b k).2=0/\(vp b k).1=(vp c k).1:=by
 cases c
 .cases g
 grind
theorem LoL.get{i:Nat}:∀{l m:am Int},LoL l m->∀i,Lo (l.getD i 0) (m.getD i 0)
 |_,_,.nil,i=>.inl rfl
 |_,_,.cons h g,0=>h
 |_,_,.cons h g,i+1=>LoL.get (i:=i) g i
theorem aa4{l:am Int}{w:Int}(h:xi l w=true)(i:Nat):l.getD i 0=w\/l.getD i 0=0:=by grind[xi,aG,qp]
theorem awG{j:ByteArray}{l m:am Int}(h:LoL l m)(g:(uZ j m).2=0):(uZ j l).2=0/\Lo (uZ j l).1 (uZ j m).1:=by
 unfold uZ at g⊢;cases r:(zo j ⟨#[109,105,110]⟩||zo j ⟨#[109,97,120]⟩)
 .rw[r]at g;simp only[aA]at g⊢;cases I:zo j ⟨#[97,98,115]⟩
  .rw[I]at g;simp only[aA]at g⊢;cases J:zo j ⟨#[108,101,110]⟩
   .rw[J]at g;have:=Qv (k:=1) (Qw h (w:=3)) g;exact⟨this.1,.inl this.2⟩
   rw[J]at g;have:=Qv (k:=2) (Qw h (w:=3)) g;exact⟨this.1,.inl this.2⟩
  rw[I]at g;have:=Qv (k:=2) (Qw h (w:=2)) g;exact⟨this.1,.inl this.2⟩
 rw[r]at g;simp only[aB]at g⊢;have o:(xi m 2||xi m 3)=true:=by
  cases P:(xi m 2||xi m 3)
  .rw[P]at g;cases g
  rfl
 have p:(xi l 2||xi l 3)=true:=by
  rw[b9]at o⊢
  grind[Qw]
 rw[o,p];refine⟨rfl,?_⟩;show Lo (zI true (l.getD 0 0) (l.getD 1 0)) (zI true (m.getD 0 0) (m.getD 1 0));have R:=h.get (i:=0) 0;have g1:=h.get (i:=0) 1;have U:∃w:Int,0<w/\(m.getD 0 0=w\/m.getD 0 0=0)/\(m.getD 1 0=w\/m.getD 1 0=0):=by
  rw[b9]at o;rcases o with h|h
  .exact⟨2,dV,aa4 h 0,aa4 h 1⟩
  exact⟨3,dV,aa4 h 0,aa4 h 1⟩
 grind[Lo,zI]
theorem aAE{cols:am Col}{op:Int}{j:ByteArray}{v:Val}{l m:am Int}(R:3<=op)(h:LoL l m)(g:(qC cols op j v m).2=0):(qC cols op j zw l).2=0/\Lo (qC cols op j zw l).1 (qC cols op j v m).1:=by
 unfold qC at g⊢;rw[show(op==1)=false by simp;omega,show(op==2)=false by simp;omega]at g⊢;simp only[aA]at g⊢;cases p:(op==3||(op==14||op==15))
 .rw[p]at g;simp only[aA]at g⊢;cases r:(op==10||op==11)
  .rw[r]at g;simp only[aA]at g⊢;cases I:(op==12||op==13)
   .rw[I]at g;simp only[aA]at g⊢;cases J:(op==16)
    .rw[J]at g;have:=Qv (k:=2) (Qw h (w:=2)) g;exact⟨this.1,.inl this.2⟩
    grind[awG]
   rw[I]at g;have:=Qv (k:=1) (b:=xi l 2||xi l 3) (c:=xi m 2||xi m 3) (λo=>by rw[b9]at o⊢;grind[Qw]) g;exact⟨this.1,.inl this.2⟩
  rw[r]at g;have P:=h.get (i:=0) 0;have g1:=h.get (i:=0) 1;have:=Qv (k:=1) (b:=qp (l.getD 0 0) (l.getD 1 0)||qp (l.getD 1 0) (l.getD 0 0)) (c:=qp (m.getD 0 0) (m.getD 1 0)||qp (m.getD 1 0) (m.getD 0 0)) (λo=>by unfold qp Lo at*;simp only[b9,beq_iff_eq]at o⊢;omega) g
  exact⟨this.1,.inl this.2⟩
 rw[p]at g;have:=Qv (k:=1) (Qw h (w:=1)) g;exact⟨this.1,.inl this.2⟩
theorem UD{op:Int}{j:ByteArray}{v:Val}{i g:Int}{name:Bool}(h:qh op j v i g name false=0):qh op j zw i g name false=0:=by grind[qh,xf,zw,zo]
theorem aoi{op:Int}{i:ByteArray}{v:Val}{g:Int}(o:3<=op)(h:yD op i v g=0):yD op i zw g=0:=by
 unfold yD at h⊢;rw[show(op==1)=false by simp;omega,show(op==2)=false by simp;omega]at h⊢;simp only[aA]at h⊢;cases j:(op==3||op==4)
 .rw[j]at h;simp only[aA]at h⊢;cases l:(op==16)
  .rw[l]at h;simp only[aA]at h⊢
   grind[UD]
  grind[UD]
 grind[UD]
theorem yI.self{k:Int}{v:Val}(h:yI k v):yI v.k v:=by
 rcases h with rfl|⟨rfl,b,rfl⟩|⟨rfl,n,g,rfl⟩|⟨rfl,s,hs,rfl⟩
 .exact adf _
 .exact Wi b
 .exact uP g
 exact .inr (.inr (.inr ⟨rfl,s,hs,rfl⟩))
theorem awN{v:Val}(g:yI v.k v)(i:Pr v):(awM v).err=0:=by
 have l:uN v=0:=by unfold uN;rw[aer g];exact i
 have j:yD 1 ⟨#[]⟩ v (([]:am Ex).length:Int)=0:=by grind[yD,qh,AM.beqS_self]
 simp only[awM,Ex.err,j];rfl
theorem vf{op:Int}{g:ByteArray}{v:Val}{ks:am Ex}(h:(Ex.mk op g v ks).err=0):yD op g v ks.length=0/\errL ks=0:=by
 simp only[Ex.err]at h;cases i:(yD op g v ks.length !=0)
 .simp_all
 simp_all
theorem aBd{op:Int}{g:ByteArray}{v:Val}{ks:am Ex}(i:yD op g v ks.length=0)(j:∀k∈ks,k.err=0):(Ex.mk op g v ks).err=0:=by
 simp only[Ex.err,i];show errL ks=0;induction ks with
 |nil=>rfl
 |cons k r l=>
  have:∀r:am Ex,(∀k∈r,k.err=0)->errL r=0:=λr=>by induction r<;>grind[errL]
  grind
theorem aaQ{cols:am Col}:∀{ks:am Ex},(∀k∈ks,(k.ty cols).2=0)->tyL cols ks=(0,ks.map λk=>(k.ty cols).1)
 |[],_=>rfl
 |k::r,h=>by simp only[tyL,aX];rw[h k dT,aaQ λk hk=>h k (by simp[hk])];rfl
theorem axd{e:Ex}(h:e.isC=true)(l:e.err=0):e=.mk 1 ⟨#[]⟩ e.kv []:=by
 obtain⟨op,i,v,ks⟩:=e;have:op=1:=by grind[Ex.isC]
 subst this;obtain⟨g,_⟩:=vf l;unfold yD qh at g;simp only[beq_self_eq_true,aB,cG,Bool.and_false,Bool.or_false]at g;cases j:(((ks.length:Int) !=0)||(!zo i ⟨#[]⟩&&!false))
 .rw[bH]at j;have hk:ks=[]:=bI d9;have o:i=⟨#[]⟩:=(AM.beqS_iff _ _).1 d9;rw[hk,o];rfl
 grind
theorem ajm{e:Ex}(h:e.isC=true)(i:e.err=0)(cols:am Col)(row:am Val):e.val cols row=e.kv/\e.ty cols=(e.kv.k,0)/\Pr e.kv:=by
 have g:uN e.kv=0:=by obtain⟨op,l,v,ks⟩:=e;exact XM h (vf i).1
 rw[axd h i];refine⟨rfl,rfl,?_⟩;unfold uN at g;cases j:(yV e.kv.k e.kv !=0)
 .rw[j]at g;exact g
 simp_all
theorem aux{cols:am Col}{op:Int}{i:ByteArray}{v:Val}{ks g:am Ex}(aa:g.length=ks.length)(ho:3<=op)(ag:yD op i v ks.length=0)(l:∀k∈g,k.err=0)(ae:∀k∈g,(k.ty cols).2=0)
 (r:LoL (g.map λk=>(k.ty cols).1) (ks.map λk=>(k.ty cols).1)) (af:∀k∈ks,(k.ty cols).2=0) (P:(qC cols op i v (ks.map λk=>(k.ty cols).1)).2=0)
 (hv:∀row,vT cols row=true->valL cols row g=valL cols row ks):
 (VF op i g).err=0/\((VF op i g).ty cols).2=0/\Lo ((VF op i g).ty cols).1 ((Ex.mk op i v ks).ty cols).1/\∀row,vT cols row=true->(VF op i g).val cols row=(Ex.mk op i v ks).val cols row:=by
 have hT:(Ex.mk op i v ks).ty cols=qC cols op i v (ks.map λk=>(k.ty cols).1):=by grind[Ex.ty,aaQ]
 have ab:(Ex.mk op i zw g).ty cols=qC cols op i zw (g.map λk=>(k.ty cols).1):=by grind[Ex.ty,aaQ]
 have ad:=aAE ho r P;have R:(Ex.mk op i zw g).err=0:=aBd (by grind[aoi]) l;have o:∀row,vT cols row=true->(Ex.mk op i zw g).val cols row=(Ex.mk op i v ks).val cols row:=λrow hr=>by grind[Ex.val]
 rw[hT];have plain:(Ex.mk op i zw g).err=0/\((Ex.mk op i zw g).ty cols).2=0/\Lo ((Ex.mk op i zw g).ty cols).1 (qC cols op i v (ks.map λk=>(k.ty cols).1)).1/\∀row,vT cols row=true->(Ex.mk op i zw g).val cols row=(Ex.mk op i v ks).val cols row:=
  ⟨R,d9,d9,o⟩
 unfold VF;cases hc:(!g.all Ex.isC)
 .simp only[aA];cases ht:(((Ex.mk op i zw g).tyE []).2 !=0)
  .simp only[aA];have j:∀k∈g,k.isC=true:=d9
   have J:((Ex.mk op i zw g).ty []).2=0:=by
    have:((Ex.mk op i zw g).tyE []).2=0:=d9
    unfold dj at this;cases p:((Ex.mk op i zw g).chk !=0)
    .grind
    rw[p,aB]at this
    grind
   have U:=aaT (cols:=[]) (row:=[]) rfl (Ex.mk op i zw g) R J;have ah:∀row,valL [] [] g=valL cols row g:=λrow=>by grind[YU,bX,ajm]
   have ai:∀row,(Ex.mk op i zw g).val [] []=(Ex.mk op i zw g).val cols row:=λrow=>by grind[Ex.val]
   have I:Pr ((Ex.mk op i zw g).val [] []):=by
    have hp:∀u∈valL [] [] g,Pr u:=λu hu=>by grind[YU,ajm]
    simp only[Ex.val];rw[show(op==1)=false by simp;omega,show(op==2)=false by simp;omega];simp only[aA];exact vw (arz _ _) (vw (aBF _ _) (vw ajK (aAd op i hp)))
   have ac:(Ex.mk op i zw g).ty []=(Ex.mk op i zw g).ty cols:=by
    have ha:∀c:am Col,∀k∈g,(k.ty c)=(k.kv.k,0):=λc k hk=>(ajm (j k hk) (l k hk) c []).2.1
    simp only[Ex.ty];rw[aaQ (cols:=[]) λk hk=>d9,aaQ (cols:=cols) λk hk=>d9]
    grind[bX,qC]
   refine⟨awN U.self I,rfl,?_,λrow hr=>?_⟩
   .show Lo ((Ex.mk op i zw g).val [] []).k _;by_cases h0:((Ex.mk op i zw g).val [] []).k=0
    .exact .inr h0
    have:=(U.kind h0).1<;>grind
   show(Ex.mk op i zw g).val [] []=_
   grind
  simp_all
 simp_all
theorem anG{cols:am Col}:∀(e:Ex),e.err=0->(e.ty cols).2=0->e.fold.err=0/\(e.fold.ty cols).2=0/\Lo (e.fold.ty cols).1 (e.ty cols).1/\∀row,vT cols row=true->e.fold.val cols row=e.val cols row
 |.mk op nm v ks,I,l=>by
   have g:=vf I;have o:=un g.2;obtain⟨p,P⟩:=aaS l;have j:=aaP cols p;have U:∀k∈ks,k.fold.err=0/\(k.fold.ty cols).2=0/\Lo (k.fold.ty cols).1 (k.ty cols).1/\∀row,vT cols row=true->k.fold.val cols row=k.val cols row:=λk hk=>anG k (o k hk) (j k hk)
   simp only[Ex.fold];cases hl:((ks.length:Int)==0)
   .simp only[aA];have J:ks.length≠0:=d9
    obtain⟨i,aa,ab⟩:=jE g.1;have ho:3<=op:=by
     by_cases h1:op=1
     .subst h1;exact absurd i (by show((ks.length:Int))≠0;omega)
     by_cases h2:op=2
     .subst h2;exact absurd i (by show((ks.length:Int))≠0;omega)
     omega
    rw[KW];refine aux dT ho g.1 (λk hk=>?_) (λk hk=>?_) ?_ j ?_ λrow hr=>?_
    .grind
    .grind
    .clear p P j o g l I hl J i;induction ks with
     |nil=>exact .nil
     |cons k r R=>exact .cons (U k dT).2.2.1 (R λk hk=>U k (by simp[hk]))
    .grind[aaQ]
    grind[YU,bX]
   rw[aB];exact⟨I,l,.inl rfl,λ_ _=>rfl⟩
decreasing_by
 simp_wf
 have:=bD hk;omega
theorem agB:∀(ks:am Ex) (n d:Int),(∀k∈ks,∀n,n+1<=(k.meas n).1/\1<=(k.meas n).2)->n<=(measL ks n d).1/\d<=(measL ks n d).2
 |[],n,d,_=>⟨bJ _,bJ _⟩
 |k::r,n,d,h=>by
  simp only[measL];cases decide (n>200)
  .simp only[aA];have g:=h k dT n;have i:=agB r (k.meas n).1 (zI true d (k.meas n).2) λk hk=>h k (by simp[hk])
   grind[zI]
  simp_all
theorem aeR:∀(e:Ex) (n:Int),n+1<=(e.meas n).1/\1<=(e.meas n).2
 |.mk op i v ks,n=>by
   have g:∀k∈ks,∀n,n+1<=(k.meas n).1/\1<=(k.meas n).2:=λk hk n=>aeR k n
   have:=agB ks (n+1) 0 g<;>grind[dv]
decreasing_by
 simp_wf
 have:=bD hk;omega
theorem ah8:∀(ks:am Ex) (n d g i:Int),(∀k∈ks,∀n g,g<=n->(k.meas n).1<=200->(k.fold.meas g).1<=(k.meas n).1/\(k.fold.meas g).2<=(k.meas n).2)->g<=n->i<=d->(measL ks n d).1<=200->
 (measL (foldL ks) g i).1<=(measL ks n d).1/\(measL (foldL ks) g i).2<=(measL ks n d).2
 |[],n,d,g,i,_,o,p,_=>⟨o,p⟩
 |k::r,n,d,g,i,h,o,p,l=>by
  simp only[measL,foldL]at l⊢;by_cases J:n>200
  .grind
  rw[aJ J,aA]at l⊢;rw[aJ (by omega:¬g>200),aA];have R:=agB r (k.meas n).1 (zI true d (k.meas n).2) λk _ n=>aeR k n
  obtain⟨I,P⟩:=h k dT n g o d8;refine ah8 r _ _ _ _ (λk hk=>h k (by simp[hk])) I ?_ l;have j:∀a b:Int,zI true a b=if a<=b then b else a:=λa b=>by unfold zI;by_cases h:a<=b<;>grind
  rw[j,j];omega
theorem akM:∀(e:Ex) (n g:Int),g<=n->(e.meas n).1<=200->(e.fold.meas g).1<=(e.meas n).1/\(e.fold.meas g).2<=(e.meas n).2
 |.mk op i v ks,n,g,I,r=>by
   have o:∀k∈ks,∀n g,g<=n->(k.meas n).1<=200->(k.fold.meas g).1<=(k.meas n).1/\(k.fold.meas g).2<=(k.meas n).2:=λk hk n g=>akM k n g
   simp only[Ex.fold];cases p:((ks.length:Int)==0)
   .simp only[aA];have j:(measL ks (n+1) 0).1<=200:=by grind[dv]
    have J:=ah8 ks (n+1) 0 (g+1) 0 o d8 (bJ _) j;have hs:=aeR (.mk op i v ks) n;have l:((Ex.mk op i zw (foldL ks)).meas g).1<=((Ex.mk op i v ks).meas n).1/\((Ex.mk op i zw (foldL ks)).meas g).2<=((Ex.mk op i v ks).meas n).2:=by grind[dv]
    unfold VF;cases(!(foldL ks).all Ex.isC)
    .simp only[aA];cases(((Ex.mk op i zw (foldL ks)).tyE []).2 !=0)
     .simp only[aA];show g+1<=_/\(0:Int)+1<=_;omega
     grind
    grind
   simp_all[dv,measL]
decreasing_by
 simp_wf
 have:=bD hk;omega
theorem V4{cols:am Col}{e:Ex}(h:(e.tyE cols).2=0):e.foldE.chk=0/\(e.foldE.tyE cols).2=0/\Lo (e.foldE.tyE cols).1 (e.tyE cols).1/\∀row,exprV cols row e.foldE=exprV cols row e:=by
 have g:e.chk=0:=by unfold dj at h;cases R:(e.chk !=0)<;>simp_all
 have i:∀{x:Ex},x.chk=0->x.tyE cols=x.ty cols:=fun{x} U=>by grind[dj]
 rw[i g]at h;have j:=ji g;obtain⟨p,r,I,J⟩:=anG e j h;have P:e.foldE=e.fold:=by grind[Ex.foldE]
 have l:(e.meas 0).1<=200/\(e.meas 0).2<=16:=by grind[Ex.chk]
 have o:=akM e 0 0 (bJ _) l.1
 grind[Ex.chk,exprV]
end
section
open Go Go.AM
attribute [local irreducible] Sat zA zX
def rEx(e:Ex):Res:=⟨.w e.w,[]⟩
def fdS(op:Int)(j:ByteArray)(ks:am Ex)(i:Nat)(g:am Ex)(b:Bool):S:=
 ⟨[(2,cV (.ptr 2 0)),(3,cV (.ptr 3 0)),(4,zZ b),(21,.w (.c (.d (.sl (exsD ks))))),(22,zm (exsD ks).length),(23,zm i)],
 [(2,.box [int 0,str ⟨#[]⟩,int 0,int 0,str ⟨#[]⟩,.nil]),(3,.box [int op,str j,int 0,int 0,str ⟨#[]⟩,.own 39 6 g.length]),(39,.arr 6 (exsD g) false)]⟩
theorem anA(a b:am Ex):exsD a++exsD b=exsD (a++b):=by simp[Va]
theorem awq(F:am Ex){i:Nat}(h:i<F.length):(F.take (i+1)).all Ex.isC=((F.take i).all Ex.isC&&F[i].isC):=by grind[zJ]
theorem aoQ:∀(e:Ex),e.err=0->dY XI [e.w] (rEx e.fold)
 |.mk op g v ks,he=>by
   have U:=vf he;have aa:=un U.2;have ih:∀k∈ks,dY XI [k.w] (rEx k.fold):=λk hk=>aoQ k (aa k hk)
   obtain⟨ae,af,ag⟩:=jE U.1;have ad:=abx op g;have ak:ks.length<=2:=d8
   have o:(Ex.mk op g v ks).fold=bif (ks.length:Int)==0 then .mk op g v ks else VF op g (foldL ks):=by grind[Ex.fold]
   rw[o];have al:(foldL ks).length=ks.length:=by grind[KW]
   have ac:∀i (h:i<ks.length) (h2:i<(foldL ks).length),(foldL ks)[i]=ks[i].fold:=λi h h2=>by simp[KW]
   clear he U aa o ae ad af ag;cases hl:((ks.length:Int)==0)
   .rw[aA];generalize foldL ks=F at*;have hE:=kF [] (.mk op g zw F);have hV:((Ex.mk op g zw F).tyE []).2=0->dY Wk [.c (.d (.sl (zl []))),yu [],(Ex.mk op g zw F).w] (rV ((Ex.mk op g zw F).val [] [])):=λh=>by
     have ao:(Ex.mk op g zw F).chk=0/\((Ex.mk op g zw F).ty []).2=0:=by
      unfold dj at h;cases hc:((Ex.mk op g zw F).chk !=0)
      .grind
      rw[hc,aB]at h
      grind
     simp_all[aej,anM,ji]
    obtain⟨y,I⟩:∃y,y=VF op g F:=⟨_,rfl⟩;rw[<-I];unfold VF at I;refine zC ?_;refine ZO.s T8 ?_;rw[y0,hl];(conv=>whnf);refine yy (P:=Pg) (f:=T8.f) (body:=(ZO.l 0)) ks.length (λi=>fdS op g ks i (F.take i) ((F.take i).all Ex.isC)) (λ_=>True) ⟨trivial,⟨_,uG 3 5 39 6 d8 d8 rfl,?_⟩⟩ ?_
    .exact rfl
    intro i hi _;have wi:i<ks.length->aE.wrap ((i:Int)+1)=((i+1:Nat):Int):=λh=>zB h d8
    unfold fdS;refine zj (λh1=>?_) (λh1=>?_)
    .have p:i<ks.length:=by have:=aL h1;grind[y0]
     have hg:(exsD ks)[((i:Int)).toNat]?=some (ks[i]).ds:=Qe p;have ab:=ih ks[i] (aG p);rw[<-ac i p d8]at ab;have J:=awq F (i:=i) d8;have j:F.take (i+1)=F.take i++[F[i]]:=zJ _;have an:(F.take i).length=i:=d9
     rw[J,j];generalize(F.take i).all Ex.isC=b at*;generalize F.take i=R at*;have ai:(exsD R).take R.length=exsD R:=by grind[y0]
     generalize F[i]=f at*;generalize ks[i]=k at*;obtain⟨ax,av,v1,ar⟩:=k;obtain⟨aj,aw,⟨k2,n2,s2⟩,au⟩:=f;clear I hE hV J j;(conv=>whnf);refine⟨d8,_,hg,rfl,?_⟩;refine aC ab ?_;refine⟨dT,by grind[yz],dX,?_⟩;(conv=>whnf);refine⟨p,trivial,ze ?_⟩;(conv=>whnf);rw[wi p,ai,aQ,<-anA];show _=S.mk [_,_,(4,zZ (b&&(aj==1))),_,_,_] _;cases b<;>rfl
    have aq:i=ks.length:=by grind[y0]
    have ah:F.take i=F:=aZ d8;rw[ah];have j:(exsD F).take F.length=exsD F:=by grind[y0]
    refine zj (λh2=>?_) (λh2=>?_)
    .rw[h2,aB]at I;rw[I];(conv=>whnf);refine⟨rfl,?_⟩;show Res.mk (.w (.agg [int op,str g,int 0,int 0,str ⟨#[]⟩,.d (.sl ((exsD F).take F.length))])) []=_;rw[j];rfl
    rw[h2,aA]at I;have hE:dY acs [.c (.d (.sl [])),.agg [int op,str g,int 0,int 0,str ⟨#[]⟩,.d (.sl ((exsD F).take F.length))]] (rII ((Ex.mk op g zw F).tyE [])):=by rw[j];exact hE
    have hV:((Ex.mk op g zw F).tyE []).2=0->dY Wk [.c (.d (.sl [])),.c (.d (.sl [])),.agg [int op,str g,int 0,int 0,str ⟨#[]⟩,.d (.sl ((exsD F).take F.length))]] (rV ((Ex.mk op g zw F).val [] [])):=by rw[j];exact hV
    generalize(Ex.mk op g zw F).val [] []=u at*;generalize(Ex.mk op g zw F).tyE []=x at*;obtain⟨x1,x2⟩:=x;obtain⟨u1,u2,u3⟩:=u;refine aC hE ?_;refine zx (b:=x2 !=0) (λh3=>?_) (λh3=>?_)
    .rw[show((x1,x2):Int×Int).2=x2 from rfl,h3,aB]at I;rw[I];(conv=>whnf);refine⟨rfl,?_⟩;show Res.mk (.w (.agg [int op,str g,int 0,int 0,str ⟨#[]⟩,.d (.sl ((exsD F).take F.length))])) []=_;rw[j];rfl
    rw[show((x1,x2):Int×Int).2=x2 from rfl,h3,aA]at I;rw[I];refine aC (hV d9) ?_;exact⟨rfl,rfl⟩
   rw[aB];have e:ks=[]:=bI d9;subst e;obtain⟨vk,vn,vs⟩:=v;refine yA T8 ZO.ok dU ?_;exact rfl
termination_by e=>SizeOf.sizeOf e
decreasing_by
 simp_wf
 have:=bD hk;omega
theorem avr(e:Ex):dY kY [e.w] (rEx e.foldE):=by
 have g:=Vs e;have i:e.chk=0->dY XI [e.w] (rEx e.fold):=λh=>aoQ e (ji h)
 unfold Ex.foldE;generalize e.chk=c at*;generalize e.fold=f at*;obtain⟨op,J,⟨R,U,vs⟩,ks⟩:=e;obtain⟨o,l,⟨p,I,P⟩,j⟩:=f;refine zC ?_;refine afu.s T8 ?_;refine aC g ?_;refine zx (λh=>?_) (λh=>?_)
 .rw[h];exact⟨rfl,rfl⟩
 rw[h];refine aC (i (by simpa using h)) ?_;exact⟨rfl,rfl⟩
theorem aqE{ι:Nat->Gh}{w:aV}{ok:Nat->Prop}:∀(cs:am C) (vs:am Value) (i:Nat) (c:C),cs[i]?=some c->CRs ι w ok cs vs->∃v,CR ι w ok c v
 |[],_,i,_,h,_=>d9
 |c::r,[],_,_,_,h=>h.elim
 |c::r,v::vs,0,c',h,g=>by
  have h:c=c':=by simpa using h
  subst h;exact⟨v,g.1⟩
 |c::r,v::vs,i+1,c',h,g=>aqE r vs i c' (by simpa using h) g.2
theorem aqF{ι:Nat->Gh}{w:aV}{ok:Nat->Prop}{c j:C}(l:∀v,CR ι w ok c v->CR ι w ok j v):∀(cs:am C) (vs:am Value) (i:Nat),cs[i]?=some c->CRs ι w ok cs vs->CRs ι w ok (cs.set i j) vs
 |[],_,i,h,_=>d9
 |c'::r,[],_,_,h=>h.elim
 |c'::r,v::vs,0,h,g=>by
  have h:c'=c:=by simpa using h
  subst h;exact⟨l v g.1,g.2⟩
 |c'::r,v::vs,i+1,h,g=>⟨g.1,aqF l r vs i (by simpa using h) g.2⟩
theorem vj{s:S}(q i:Nat)(c:C)(x:D)(g:am (Nat×Pl))(h0:Jn s.pl q i=some c)(P:toD s.pl c=some (x,g))(j:Jn g q i=some c)(p:toD g c=some (x,g)):Za s (s.withPl (aiz g q i (.d x))):=by
 intro F N ι a w hr;have hv:∃v,CR ι w (F.ok ι s.pl w) c v:=by
  unfold Jn at h0;cases l:aget s.pl q with
  |none=>grind
  |some y=>
   rw[l]at h0;cases y with
   |box cs=>
    obtain⟨b,r,_,_,I⟩:=hr.places q _ l;exact aqE cs _ i c h0 I
   |arr a b c=>cases h0
   |fbox a=>cases h0
   |deep a=>cases h0
   |gone=>cases h0
 obtain⟨v,hv⟩:=hv;obtain⟨o,_,_⟩:=Um hr hv P;unfold Jn at j;unfold aiz;cases l:aget g q with
 |none=>grind
 |some y=>
  rw[l]at j;cases y with
  |box cs=>
   refine⟨ι,akV (s:=s.withPl g) o l λvs J=>aqF (c:=c) (λv hv=>?_) cs vs i j J⟩;have:=(Um o hv p).2.2;simp only[CR];exact this
  |arr a b c=>cases j
  |fbox a=>cases j
  |deep a=>cases j
  |gone=>cases j
def Ex.opds:Ex->am Ex
 |.mk op g v [a,b]=>bif op !=14 then [.mk op g v [a,b]]else a.opds++b.opds
 |e=> [e]
def aBG(l:am Ex):Res:=⟨.w (.c (.own 0 6 l.length)),[.arr 6 (exsD l) false]⟩
theorem aee:∀(e:Ex),e.err=0->e.opds.length<=100000->dY Z8 [e.w] (aBG e.opds)
 |.mk op nm v ks,he,hl=>by
   have g:=vf he;have i:=un g.2;obtain⟨o,p,I⟩:=jE g.1;have l:=abx op nm;have ad:ks.length<=2:=d8
   have U:∀k∈ks,k.opds.length<=100000->dY Z8 [k.w] (aBG k.opds):=λk hk h=>aee k (i k hk) h
   obtain⟨vk,vn,vs⟩:=v;cases R:(op !=14||(ks.length:Int) !=2)
   .have h2:ks.length=2:=d9
    have aa:=(bH.1 R).1;obtain⟨a,b,rfl⟩:∃a b,ks=[a,b]:=by
     match ks,h2 with
     |[a,b],_=>grind
    have j:(Ex.mk op nm ⟨vk,vn,vs⟩ [a,b]).opds=a.opds++b.opds:=by simp_all[Ex.opds]
    rw[j]at hl⊢;rw[aQ]at hl;have ha:=U a dT d8;have hb:=U b dT d8;clear U i g he j o l p I;generalize a.opds=J at*;generalize b.opds=P at*;have ga:(exsD [a,b])[(0:Int).toNat]?=some a.ds:=by simp[exsD]
    have gb:(exsD [a,b])[(1:Int).toNat]?=some b.ds:=by simp[exsD]
    have ab:(exsD J).take J.length=exsD J:=by grind[y0]
    have ac:(exsD P).take P.length=exsD P:=by grind[y0]
    obtain⟨ai,ag,v1,ae⟩:=a;obtain⟨aj,ah,v2,af⟩:=b;refine Q9.s T8 ?_;rw[aa];(conv=>whnf);refine⟨d8,_,ga,rfl,?_⟩;(conv=>whnf);refine⟨d8,_,gb,rfl,?_⟩;refine aC ha ?_;refine aC hb ?_;rw[ac];refine⟨λy hy=>?_,by grind[yz],d9,?_⟩
    .rw[Va]at hy;obtain⟨⟨_,_,_,_⟩,_,rfl⟩:=cB.1 hy;rfl
    (conv=>whnf);rw[ab];show Res.mk (.w (.c (.own 0 6 (J.length+(exsD P).length)))) [.arr 6 (exsD J++exsD P) false]=_;rw[y0,anA,<-aQ];rfl
   have j:(Ex.mk op nm ⟨vk,vn,vs⟩ ks).opds=[.mk op nm ⟨vk,vn,vs⟩ ks]:=by
    match ks,R with
    |[],_=>rfl
    |[_],_=>rfl
    |[a,b],R=>
      have:(op !=14)=true:=d9
      simp only[Ex.opds,this,aB]
    |_::_::_::_,_=>rfl
   rw[j];clear U i g he j o l p I hl;refine Q9.s T8 ?_;rw[y0,R];exact rfl
termination_by e=>SizeOf.sizeOf e
decreasing_by
 simp_wf
 have:=bD hk;omega
structure Bnd where
 col:ByteArray
 lo:Int
 hi:Int
def Bnd.cs(b:Bnd):am C:=[str b.col,int b.lo,int b.hi]
def Qa(op n:Int)(left:Bool)(col:ByteArray):Bnd:=
 ⟨col,bif op==10||!left then n+(bif op==12 then 1 else 0)else-1000000000000000,bif op==10||left then n-(bif op==12 then 1 else 0)else 1000000000000000⟩
def kO(cols:am Col)(op:Int)(left:Bool)(g:Int)(fn:ByteArray)(i:Int)(v:Val):aP Bnd:=
 bif ((((g !=2)||(i !=1))||(v.k !=2))||decide (zf cols fn<0))||(xA cols (zf cols fn) !=2)then none else some (Qa op v.n left fn)
def Xq(cols:am Col):Ex->aP Bnd
 |.mk op _ _ [.mk g j v1 _,.mk i l v2 _]=>
   bif (op !=12&&op !=13)&&op !=10 then none else bif g==2 then kO cols op true g j i v2 else kO cols op false i l g v1
 |_=>none
def asY:aP Bnd->Res
 |some b=>⟨.tup [.agg b.cs,.c (bool true)],[]⟩
 |none=>⟨.tup [.agg [str ⟨#[]⟩,int 0,int 0],.c (bool false)],[]⟩
theorem ak4(x:Col)(op:Int)(g:ByteArray)(rest:am D):dY uR [x.w,.c (.fp (.lit (.int .i64 op):: .lit (.string g)::rest))] (rB (zo x.name g)):=by obtain⟨a,b⟩:=x;refine yA T8 JD.ok dU ?_;exact rfl
theorem awL{cols:am Col}{ci:Int}(h:ci.toNat<cols.length):∃g,(zl cols)[ci.toNat]?=some [D.lit (.string g),D.lit (.int .i64 (xA cols ci))]:=by simp_all[xA,zl,Col.ds]
noncomputable def bndT:ACode:=y9 (y9 (y9 (y9 (y9 (y9 wH.A.code)))))
def anc(cols:am Col)(op:Int)(o:ByteArray)(v:Val)(ks:am Ex)(l:Int)(fn:ByteArray)(g:Val)(j:am Ex)(I:Int)(r:ByteArray)(i:Val)(p:am Ex)(left:Bool)(ci:Int):S:=
 ⟨[(0,.w (.c (.d (.sl (zl cols))))),(3,cV (.ptr 3 0)),(4,cV (.ptr 4 0)),(6,cV (.ptr 6 0)),(7,cV (.ptr 7 0)),(8,zZ left),(9,zm ci)],
  [(3,.box [int op,str o,int v.k,int v.n,str v.s,.d (.sl (exsD ks))]),(4,.box [str ⟨#[]⟩,int 0,int 0]),
   (6,.fbox [.lit (.int .i64 l),.lit (.string fn),.lit (.int .i64 g.k),.lit (.int .i64 g.n),.lit (.string g.s),.sl (exsD j)]),(7,.box [int I,str r,int i.k,int i.n,str i.s,.d (.sl (exsD p))])]⟩
theorem awz(cols:am Col)(op:Int)(p:ByteArray)(v:Val)(ks:am Ex)(i:Int)(fn:ByteArray)(j:Val)(o:am Ex)(l:Int)(I:ByteArray)(g:Val)(r:am Ex)(left:Bool)(ci:Int)
 (h:(((i !=2)||(l !=1))||(g.k !=2)||decide (ci<0))=true):mwpR Pg T8.f bndT (ZZ wH.A.res [] (DQ (asY none))) (anc cols op p v ks i fn j o l I g r left ci):=by
 obtain⟨v1,v2,v3⟩:=v;obtain⟨J,P,R⟩:=j;obtain⟨u1,u2,u3⟩:=g;unfold anc
 conv=>whnf
 rw[h];exact⟨rfl,rfl⟩
theorem awA(cols:am Col)(op:Int)(nm:ByteArray)(v:Val)(ks:am Ex)(r:Int)(fn:ByteArray)(I:Val)(fk:am Ex)(R:Int)(vn:ByteArray)(i:Val)(vk:am Ex)(left:Bool)(ci:Int)
 (h:(((r !=2)||(R !=1))||(i.k !=2)||decide (ci<0))=false) (g:0<=ci/\ci.toNat<cols.length) (P:inB i.n=true) (l:op=10\/op=12\/op=13):
 mwpR Pg T8.f bndT (ZZ wH.A.res [] (DQ (asY (bif xA cols ci !=2 then none else some (Qa op i.n left fn))))) (anc cols op nm v ks r fn I fk R vn i vk left ci):=by
 obtain⟨cn,J⟩:=awL g.2;obtain⟨v1,v2,v3⟩:=v;obtain⟨f1,f2,f3⟩:=I;obtain⟨u1,u2,u3⟩:=i;generalize xA cols ci=U at*;unfold anc
 conv=>whnf
 rw[h]
 conv=>whnf
 refine⟨g.1,_,J,rfl,?_⟩;refine zj (b:=U !=2) (λj=>?_) (λj=>?_)
 .rw[j,aB];exact⟨rfl,rfl⟩
 rw[j,aA];have hb: -1000000000000000<=u2/\u2<=1000000000000000:=q0 P;have w1:aE.wrap (u2+1)=u2+1:=yf d8 d8;have w2:aE.wrap (u2-1)=u2-1:=yf d8 d8;have o:aE.wrap (u2+0)=u2+0:=yf d8 d8;have p:aE.wrap (u2-0)=u2-0:=yf d8 d8;clear h J g hb P j;rcases l with rfl|rfl|rfl
 .cases left
  ·(conv=>whnf);refine⟨rfl,?_⟩;show Res.mk (.tup [.agg [str fn,int (aE.wrap (u2+0)),int (aE.wrap (u2-0))],.c (bool true)]) []=_;rw[o,p];rfl
  (conv=>whnf);refine⟨rfl,?_⟩;show Res.mk (.tup [.agg [str fn,int (aE.wrap (u2+0)),int (aE.wrap (u2-0))],.c (bool true)]) []=_;rw[o,p];rfl
 .cases left
  ·(conv=>whnf);refine⟨rfl,?_⟩;show Res.mk (.tup [.agg [str fn,int (aE.wrap (u2+1)),int 1000000000000000],.c (bool true)]) []=_;rw[w1];rfl
  (conv=>whnf);refine⟨rfl,?_⟩;show Res.mk (.tup [.agg [str fn,int (-1000000000000000),int (aE.wrap (u2-1))],.c (bool true)]) []=_;rw[w2];rfl
 cases left
 ·(conv=>whnf);refine⟨rfl,?_⟩;show Res.mk (.tup [.agg [str fn,int (aE.wrap (u2+0)),int 1000000000000000],.c (bool true)]) []=_;rw[o];rfl
 (conv=>whnf);refine⟨rfl,?_⟩;show Res.mk (.tup [.agg [str fn,int (-1000000000000000),int (aE.wrap (u2-0))],.c (bool true)]) []=_;rw[p];rfl
def hd1:ACode->ACode
 |.seq a _=>a
 |x=>x
theorem YM{P:Program}{f:FuncId->am W->aP W}{c a b:ACode}{Q:E->S->Prop}{s:S}(g:S)(i:c=.seq a b)(j:mwpR P f a (λe s=>e=.normal/\s=g) s)(l:mwpR P f b Q g):mwpR P f c Q s:=by
 subst i;show mwpR P f a (Wz (mwpR P f b) Q) s
 grind[Ue,Wz]
theorem aB0{P:Program}{f:FuncId->am W->aP W}{A:AFun}{args:am W}{Q:Res->Prop}(h:mwpR P f A.code (ZZ A.res [] Q) ⟨ZJ 0 args,[]⟩):wpF P f A args Q:=by grind[wpF,xu]
noncomputable def bndX(n:Nat):ACode:=Nat.rec (motive:=λ_=>ACode) wH.A.code (λ_ c=>y9 c) n
theorem ane(cols:am Col)(op:Int)(J:ByteArray)(v:Val)(ks:am Ex)(j:Int)(fn:ByteArray)(p:Val)(o:am Ex)(i:Int)(R:ByteArray)(g:Val)(P:am Ex)(left:Bool)
 (U:i=1->g.k=2->inB g.n=true) (I:op=10\/op=12\/op=13):
 mwpR Pg T8.f bndT (ZZ wH.A.res [] (DQ (asY (kO cols op left j fn i g)))) (anc cols op J v ks j fn p o i R g P left (zf cols fn)):=by
 have l:=Yp (λx=>zo x.name fn) cols 0 (bJ _);have l:zf cols fn<0\/(0<=zf cols fn/\zf cols fn<0+cols.length):=l;unfold kO;generalize zf cols fn=ci at*;cases h:((((j !=2)||(i !=1))||(g.k !=2))||decide (ci<0))
 .rw[bO];have r:=h;simp only[bH,bne_eq_false_iff_eq,bY]at r;simp_all[awA]
 simp_all[awz]
theorem auj{o:Int}{n:ByteArray}{v:Val}{k:am Ex}(h:(Ex.mk o n v k).err=0)(r:o=1)(hv:v.k=2):inB v.n=true:=by
 subst r;have g:=XM (op:=1) rfl (vf h).1;have p:yV v.k v=0:=by
  unfold uN at g;cases l:(yV v.k v !=0)
  .grind
  rw[l,aB]at g;grind
 have:=gU p;rw[hv]at this;obtain⟨n,i,j⟩:=this.num d8 rfl;rw[j];exact i
theorem aqp(cols:am Col)(op:Int)(nm:ByteArray)(v:Val)(ks:am Ex)(he:errL ks=0):dY aag [.c (.d (.sl (zl cols))),(Ex.mk op nm v ks).w] (asY (Xq cols (.mk op nm v ks))):=by
 cases hc:(((op !=12&&op !=13)&&op !=10)||(ks.length:Int) !=2)
 .obtain⟨h1,h2⟩:=bH.1 hc;have h2:ks.length=2:=d9
  obtain⟨a,b,rfl⟩:∃a b,ks=[a,b]:=by
   match ks,h2 with
   |[a,b],_=>grind
  have hk:=un he;have e1:=hk a dT;have e2:=hk b dT;obtain⟨g,i,v1,U⟩:=a;obtain⟨l,j,v2,k2⟩:=b;have aa:op=10\/op=12\/op=13:=d9
  have ga:(exsD [.mk g i v1 U,.mk l j v2 k2])[(0:Int).toNat]?=some (Ex.mk g i v1 U).ds:=by simp[exsD]
  have gb:(exsD [.mk g i v1 U,.mk l j v2 k2])[(1:Int).toNat]?=some (Ex.mk l j v2 k2).ds:=by simp[exsD]
  have hq:Xq cols (.mk op nm v [.mk g i v1 U,.mk l j v2 k2])=bif g==2 then kO cols op true g i l v2 else kO cols op false l j g v1:=by simp only[Xq,h1,aA]
  rw[hq];have t1:=ane cols op nm v [.mk g i v1 U,.mk l j v2 k2] g i v1 U l j v2 k2 true (λh=>auj e2 h) aa;have t2:=ane cols op nm v [.mk g i v1 U,.mk l j v2 k2] l j v2 k2 g i v1 U false (λh=>auj e1 h) aa;have c1:=qJ uR [.lit (.int .i64 g),.lit (.string i),.lit (.int .i64 v1.k),.lit (.int .i64 v1.n),.lit (.string v1.s),.sl (exsD U)] (λx=>zo x.name i) (λx=>ak4 x g i _) cols;have c1:Sat Pg wS _ (λr=>r=rI (zf cols i)):=c1;have c2:=qJ uR [.lit (.int .i64 l),.lit (.string j),.lit (.int .i64 v2.k),.lit (.int .i64 v2.n),.lit (.string v2.s),.sl (exsD k2)] (λx=>zo x.name j) (λx=>ak4 x l j _) cols;have c2:Sat Pg wS _ (λr=>r=rI (zf cols j)):=c2;obtain⟨vk,vn,vs⟩:=v;obtain⟨o,p,I⟩:=v1;obtain⟨J,P,R⟩:=v2;generalize kO cols op true g i l ⟨J,P,R⟩=B1 at*;generalize kO cols op false l j g ⟨o,p,I⟩=B2 at*;generalize zf cols i=i1 at*;generalize zf cols j=i2 at*;clear he hk e1 e2 hq hc h2 aa;refine zC ?_;refine yA T8 wH.ok dU ?_;refine aB0 ?_;refine YM (c:=bndX 0) (a:=hd1 (bndX 0)) (b:=bndX 1) ⟨[(0,.w (.c (.d (.sl (zl cols))))),(3,cV (.ptr 3 0)),(4,cV (.ptr 4 0))],[(3,.box [int op,str nm,int vk,int vn,str vs,.d (.sl (exsD [Ex.mk g i ⟨o,p,I⟩ U,Ex.mk l j ⟨J,P,R⟩ k2]))]),(4,.box [str ⟨#[]⟩,int 0,int 0])]⟩ rfl ?_ ?_
  .exact⟨rfl,rfl⟩
  refine YM (a:=hd1 (bndX 1)) (b:=bndX 2) ⟨[(0,.w (.c (.d (.sl (zl cols))))),(3,cV (.ptr 3 0)),(4,cV (.ptr 4 0)),(31,zZ (false||(((exsD [Ex.mk g i ⟨o,p,I⟩ U,Ex.mk l j ⟨J,P,R⟩ k2]).length:Int) !=2)))],[(3,.box [int op,str nm,int vk,int vn,str vs,.d (.sl (exsD [Ex.mk g i ⟨o,p,I⟩ U,Ex.mk l j ⟨J,P,R⟩ k2]))]),(4,.box [str ⟨#[]⟩,int 0,int 0])]⟩ rfl ?_ ?_
  ·(conv=>whnf);rw[h1];exact⟨rfl,rfl⟩
  refine YM (a:=hd1 (bndX 2)) (b:=bndX 3) ⟨[(0,.w (.c (.d (.sl (zl cols))))),(3,cV (.ptr 3 0)),(4,cV (.ptr 4 0)),(6,cV (.ptr 6 0)),(7,cV (.ptr 7 0))],[(3,.box [int op,str nm,int vk,int vn,str vs,.d (.sl (exsD [Ex.mk g i ⟨o,p,I⟩ U,Ex.mk l j ⟨J,P,R⟩ k2]))]),(4,.box [str ⟨#[]⟩,int 0,int 0]),(6,.box [int g,str i,int o,int p,str I,.d (.sl (exsD U))]),(7,.box [int l,str j,int J,int P,str R,.d (.sl (exsD k2))])]⟩ rfl ?_ ?_
  ·(conv=>whnf);refine⟨d8,_,ga,rfl,?_⟩;(conv=>whnf);have ab:(0:Int)<=1:=dV
   repeat' (first
    |((with_reducible refine aN ab (cN _ (aN gb ?_)));refine⟨rfl,?_⟩;conv=>whnf)
    |exact⟨rfl,rfl⟩
    |((with_reducible refine aN ?_ ?_)<;>conv=>whnf))
  clear ga gb;refine YM (a:=hd1 (bndX 3)) (b:=bndX 4) ⟨[(0,.w (.c (.d (.sl (zl cols))))),(3,cV (.ptr 3 0)),(4,cV (.ptr 4 0)),(6,cV (.ptr 6 0)),(7,cV (.ptr 7 0)),(8,zZ (g==2))],[(3,.box [int op,str nm,int vk,int vn,str vs,.d (.sl (exsD [Ex.mk g i ⟨o,p,I⟩ U,Ex.mk l j ⟨J,P,R⟩ k2]))]),(4,.box [str ⟨#[]⟩,int 0,int 0]),(6,.box [int g,str i,int o,int p,str I,.d (.sl (exsD U))]),(7,.box [int l,str j,int J,int P,str R,.d (.sl (exsD k2))])]⟩ rfl ?_ ?_
  .exact⟨rfl,rfl⟩
  cases hL:(g==2)
  .rw[aA];refine YM (a:=hd1 (bndX 4)) (b:=bndX 5) ⟨[(0,.w (.c (.d (.sl (zl cols))))),(3,cV (.ptr 3 0)),(4,cV (.ptr 4 0)),(6,cV (.ptr 6 0)),(7,cV (.ptr 7 0)),(8,zZ false)],[(3,.box [int op,str nm,int vk,int vn,str vs,.d (.sl (exsD [Ex.mk g i ⟨o,p,I⟩ U,Ex.mk l j ⟨J,P,R⟩ k2]))]),(4,.box [str ⟨#[]⟩,int 0,int 0]),(6,.box [int l,str j,int J,int P,str R,.d (.sl (exsD k2))]),(7,.box [int g,str i,int o,int p,str I,.d (.sl (exsD U))])]⟩ rfl ?_ ?_
   .exact⟨rfl,rfl⟩
   refine YM (a:=hd1 (bndX 5)) (b:=bndX 6) _ rfl ?_ t2;refine aC c2 ?_;exact⟨rfl,rfl⟩
  rw[aB];refine YM (a:=hd1 (bndX 4)) (b:=bndX 5) ⟨[(0,.w (.c (.d (.sl (zl cols))))),(3,cV (.ptr 3 0)),(4,cV (.ptr 4 0)),(6,cV (.ptr 6 0)),(7,cV (.ptr 7 0)),(8,zZ true),(45,zZ (!true))],[(3,.box [int op,str nm,int vk,int vn,str vs,.d (.sl (exsD [Ex.mk g i ⟨o,p,I⟩ U,Ex.mk l j ⟨J,P,R⟩ k2]))]),(4,.box [str ⟨#[]⟩,int 0,int 0]),(6,.box [int g,str i,int o,int p,str I,.d (.sl (exsD U))]),(7,.box [int l,str j,int J,int P,str R,.d (.sl (exsD k2))])]⟩ rfl ?_ ?_
  .exact⟨rfl,rfl⟩
  refine YM (a:=hd1 (bndX 5)) (b:=bndX 6) _ rfl ?_ t1;refine aC c1 ?_;exact⟨rfl,rfl⟩
 have hq:Xq cols (.mk op nm v ks)=none:=by
  unfold Xq
  match ks,hc with
  |[],_=>rfl
  |[⟨_,_,_,_⟩],_=>rfl
  |[⟨_,_,_,_⟩,⟨_,_,_,_⟩],hc=>
    have:((op !=12&&op !=13)&&op !=10)=true:=d9
    simp only[this,aB]
  |⟨_,_,_,_⟩::⟨_,_,_,_⟩::_::_,_=>rfl
 rw[hq];obtain⟨vk,vn,vs⟩:=v;refine zC ?_;refine wH.s T8 ?_;rw[y0,hc];exact⟨rfl,rfl⟩
theorem amd(e:Ex)(g:e.err=0)(i:e.opds.length<=100000):dY Z8 [e.w] (rC (.d (.sl (exsD e.opds)))):=by
 refine zC ((aee e g i).mono ?_);rintro _ rfl;refine⟨rfl,?_⟩;show rC (.d (.sl ((exsD e.opds).take e.opds.length)))=_
 grind[y0]
theorem abG:∀(e:Ex),e.err=0->∀x∈e.opds,x.err=0
 |.mk op j v ks,i=>by
   intro x g;have hk:=un (vf i).2
   match ks,i,hk,g with
   |[a,b],i,hk,g=>
     simp only[Ex.opds]at g;cases h:(op !=14)
     .rw[h,aA]at g;rcases bM.1 g with g|g
      .exact abG a (hk a dT) x g
      exact abG b (hk b dT) x g
     simp_all
   |[],i,_,g=>rw[aK.1 g];exact i
   |[_],i,_,g=>rw[aK.1 g];exact i
   |_::_::_::_,i,_,g=>rw[aK.1 g];exact i
theorem agH:∀(e:Ex) (n:Int),(e.meas n).1<=200->n+e.opds.length<=(e.meas n).1
 |.mk op j v ks,n,g=>by
   have i:=(aeR (.mk op j v ks) n).1
   match ks,g,i with
   |[a,b],g,i=>
     simp only[Ex.opds];cases h:(op !=14)
     .rw[aA,aQ];have p:((Ex.mk op j v [a,b]).meas n).1=(measL [a,b] (n+1) 0).1:=by grind[dv]
      rw[p]at g i⊢;simp only[measL]at g i⊢;by_cases l:n+1>200
      .grind
      rw[aJ l,aA]at g⊢;by_cases o:(a.meas (n+1)).1>200
      .grind
      rw[aJ o,aA]at g⊢;have r:=agH a (n+1) d8;have I:=agH b (a.meas (n+1)).1 g;omega
     simp_all
   |[],g,i=>grind[Ex.opds]
   |[_],g,i=>grind[Ex.opds]
   |_::_::_::_,g,i=>grind[Ex.opds]
def jp(p:Bnd):aP Bnd->Bnd
 |none=>p
 |some b=>bif !zo p.col ⟨#[]⟩&&!zo p.col b.col then p else bif zo p.col ⟨#[]⟩then⟨b.col,zI true b.lo (-1000000000000000),zI false b.hi 1000000000000000⟩else⟨p.col,zI true p.lo b.lo,zI false p.hi b.hi⟩
def vm(cols:am Col)(l:am Ex):Bnd:=l.foldl (λp e=>jp p (Xq cols e)) ⟨⟨#[]⟩,0,0⟩
def yJ(p:Bnd):Bnd:=bif decide (p.lo>p.hi)then⟨p.col,1,0⟩else p
def awy(name:ByteArray)(p:Bnd):Pln:=.mk 1 name p.col p.lo p.hi ua []
def wT(name:ByteArray)(cols:am Col)(e:Ex):Pln:=awy name (yJ (vm cols e.opds))
def aA8(cols:am Col)(name:ByteArray)(l:am Ex)(i:Nat)(p:Bnd):S:=
 ⟨[(1,.w (.c (.d (.sl (zl cols))))),(6,cV (.ptr 6 0)),(7,cV (.ptr 7 0)),(15,.w (.c (.d (.sl (exsD l))))),(16,zm (exsD l).length),(17,zm i)],
  [(6,.box [int 0,str ⟨#[]⟩,str ⟨#[]⟩,int 0,int 0,int 0,int 0,str ⟨#[]⟩,int 0,int 0,str ⟨#[]⟩,.nil,.nil,.nil,.nil,.nil,int 0,str ⟨#[]⟩,.nil]),
   (7,.box [int 1,str name,str p.col,int p.lo,int p.hi,int 0,int 0,str ⟨#[]⟩,int 0,int 0,str ⟨#[]⟩,.nil,.nil,.nil,.nil,.nil,int 0,str ⟨#[]⟩,.nil])]⟩
theorem ayO(cols:am Col){l:am Ex}{i:Nat}(h:i<l.length):vm cols (l.take (i+1))=jp (vm cols (l.take i)) (Xq cols l[i]):=by grind[vm,zJ]
theorem avw(name:ByteArray)(cols:am Col)(e:Ex)(aa:e.chk=0):dY VH [.c (str name),.c (.d (.sl (zl cols))),e.w] ⟨.w (wT name cols e).w,[]⟩:=by
 have he:=ji aa;have hm:(e.meas 0).1<=200:=by grind[Ex.chk]
 have af:=agH e 0 hm;have hO:=amd e he d8;have I:=abG e he;have ai:e.opds.length<=200:=d8
 unfold wT;clear hm af he aa;generalize e.opds=l at*;obtain⟨op,nm,⟨vk,vn,vs⟩,ks⟩:=e;refine zC ?_;refine VE.s T8 ?_;refine aC hO ?_;refine yy (P:=Pg) (f:=T8.f) (body:=(VE.l 0)) l.length (λi=>aA8 cols name l i (vm cols (l.take i))) (λ_=>True) ⟨trivial,ze ?_⟩ ?_
 .exact rfl
 intro i hi _;have wi:i<l.length->aE.wrap ((i:Int)+1)=((i+1:Nat):Int):=λh=>zB h d8
 unfold aA8;refine zj (λh1=>?_) (λh1=>?_)
 .have g:i<l.length:=by simp_all[y0]
  have hg:(exsD l)[((i:Int)).toNat]?=some (l[i]).ds:=Qe g;rw[ayO cols g];have ab:=I _ (aG g);generalize vm cols (l.take i)=p at*;generalize l[i]=x at*;obtain⟨ae,ad,v1,ac⟩:=x;have hb:=aqp cols ae ad v1 ac (vf ab).2;generalize Xq cols (.mk ae ad v1 ac)=o at*;obtain⟨j,pl,J⟩:=p;clear hO I ab hi;cases o with
  |none=>
   (conv=>whnf);refine⟨d8,_,hg,rfl,?_⟩;refine aC hb ?_;refine⟨g,trivial,ze ?_⟩;(conv=>whnf);rw[wi g];rfl
  |some b=>
   obtain⟨U,bl,bh⟩:=b;cases h0:zo j ⟨#[]⟩
   .cases R:zo j U
    .have hs:jp ⟨j,pl,J⟩ (some ⟨U,bl,bh⟩)=⟨j,pl,J⟩:=by grind[jp]
     rw[hs];(conv=>whnf);refine⟨d8,_,hg,rfl,?_⟩;refine aC hb ?_;rw[h0];(conv=>whnf);rw[R];(conv=>whnf);refine⟨g,trivial,ze ?_⟩;(conv=>whnf);rw[wi g];rfl
    have hs:jp ⟨j,pl,J⟩ (some ⟨U,bl,bh⟩)=⟨j,zI true pl bl,zI false J bh⟩:=by grind[jp]
    rw[hs];(conv=>whnf);refine⟨d8,_,hg,rfl,?_⟩;refine aC hb ?_;rw[h0];(conv=>whnf);rw[R];(conv=>whnf);rw[h0];(conv=>whnf)
    repeat' (first
     |((with_reducible refine aN g (aN trivial ?_));refine ze ?_;(conv=>whnf);rw[wi g];rfl)
     |((with_reducible refine aN ?_ ?_)<;>conv=>whnf))
   have hs:jp ⟨j,pl,J⟩ (some ⟨U,bl,bh⟩)=⟨U,zI true bl (-1000000000000000),zI false bh 1000000000000000⟩:=by grind[jp]
   rw[hs];(conv=>whnf);refine⟨d8,_,hg,rfl,?_⟩;refine aC hb ?_;rw[h0];(conv=>whnf);rw[h0];(conv=>whnf)
   repeat' (first
    |((with_reducible refine aN g (aN trivial ?_));refine ze ?_;(conv=>whnf);rw[wi g];rfl)
    |((with_reducible refine aN ?_ ?_)<;>conv=>whnf))
 have ah:i=l.length:=by grind[y0]
 have ag:l.take i=l:=aZ d8;rw[ag];generalize vm cols l=p at*;unfold yJ;obtain⟨j,pl,J⟩:=p;clear hO I;refine zj (b:=decide (pl>J)) (λR=>?_) (λR=>?_)
 .rw[R,aB];(conv=>whnf);refine⟨rfl,?_⟩;rw[qd];rfl
 rw[R,aA];(conv=>whnf);refine⟨rfl,?_⟩;rw[qd];rfl
def Stp.foldS(s:Stp):Stp:=bif s.op==1 then⟨s.op,s.cond.foldE,s.items,s.cols,s.aggs,s.sorts,s.n,s.table⟩else s
def ofP(g:ByteArray)(cols:am Col)(i:Nat)(p:Pln)(s:Stp):Pln:=
 .mk (u6 s.op) ⟨#[]⟩ ⟨#[]⟩ 0 0 s.foldS [bif s.op==1&&((i:Int)==0)then wT g cols s.cond.foldE else p]
def QM(g:ByteArray)(cols:am Col)(l:am Stp):Nat->Pln
 |0=>.mk 1 g ⟨#[]⟩ 0 0 ua []
 |i+1=>ofP g cols i (QM g cols l i) (l.getD i ua)
def zPl:Pln:=.mk 0 ⟨#[]⟩ ⟨#[]⟩ 0 0 ua []
def ofQ(d:am Nmd)(q:Qry):Int×Pln:=bif (vi d q).1 !=0 then((vi d q).1,zPl)else(0,QM q.src (Xi d q.src).cols q.steps q.steps.length)
def rPE(x:Int×Pln):Res:=⟨.tup [x.2.w,.c (int x.1)],[]⟩
def azs(g:ByteArray)(tc:am Col)(o:am (am Val))(l:am Stp)(i:Nat)(j:am C):S:=
 ⟨[(3,cV (.ptr 3 0)),(4,cV (.ptr 4 0)),(8,cV (.ptr 8 0)),(10,cV (.ptr 10 0)),(34,.w (.c (.d (.sl (qB l))))),(35,zm (qB l).length),(36,zm i)],
  [(3,.box [str g,.d (.sl (qB l))]),(4,.box [int 0,str ⟨#[]⟩,str ⟨#[]⟩,int 0,int 0,int 0,int 0,str ⟨#[]⟩,int 0,int 0,str ⟨#[]⟩,.nil,.nil,.nil,.nil,.nil,int 0,str ⟨#[]⟩,.nil]),
   (8,.box [.d (.sl (zl tc)),.d (.sl (zg o))]),(10,.box j)]⟩
theorem as6(d:am Nmd)(q:Qry)(e:Int)(i:(e !=0)=true)(y:am Col)(g:dY wK [.c (.d (.sl (zq d))),q.w] (xH (e,y))):dY jA [.c (.d (.sl (zq d))),q.w] (rPE (e,zPl)):=by
 obtain⟨j,l⟩:=q;refine zC ?_;refine VX.s T8 ?_;refine aC g ?_;rw[i]
 conv=>whnf
 refine⟨rfl,?_⟩;show _=Res.mk (.tup [zPl.w,_]) [];rw[qd];rfl
theorem avh(d:am Nmd)(g:ByteArray)(l:am Stp)(hl:l.length<=100000)(y:am Col)(hQ:dY wK [.c (.d (.sl (zq d))),Qry.w ⟨g,l⟩] (xH (0,y)))(tc:am Col)(tr:am (am Val))(hf:zU g d=some ⟨tc,tr⟩)
 (hs:∀h:0<l.length,l[0].op=1->l[0].cond.foldE.chk=0):
 dY jA [.c (.d (.sl (zq d))),Qry.w ⟨g,l⟩] (rPE (0,QM g tc l l.length)):=by
 have hF:=y4 d g;rw[hf]at hF;have hF:dY Yx [.c (.d (.sl (zq d))),.c (str g)] ⟨.tup [.agg [.d (.sl (zl tc)),.d (.sl (zg tr))],.c (bool true)],[]⟩:=hF;refine zC ?_;refine VX.s T8 ?_;refine aC hQ ?_;refine aC hF ?_;obtain⟨N,hN⟩:∃N:Nat->Pln,N=QM g tc l:=⟨_,rfl⟩;have az:N 0=.mk 1 g ⟨#[]⟩ 0 0 ua []:=by rw[hN];rfl
 have a0:∀(i:Nat) (h:i<l.length),N (i+1)=ofP g tc i (N i) l[i]:=λi h=>by simp_all[QM]
 rw[<-hN];clear hN hQ hF hf;refine yy (P:=Pg) (f:=T8.f) (body:=(VX.l 0)) l.length (λi=>azs g tc tr l i (N i).cs) (λ_=>True) ⟨trivial,⟨_,df (vj 10 11 .nil (.sl []) _ rfl rfl rfl rfl) (df (vj 10 12 .nil (.sl []) _ rfl rfl rfl rfl) (df (vj 10 13 .nil (.sl []) _ rfl rfl rfl rfl) (df (vj 10 14 .nil (.sl []) _ rfl rfl rfl rfl) (df (vj 10 15 .nil (.sl []) _ rfl rfl rfl rfl) (vj 10 18 .nil (.sl []) _ rfl rfl rfl rfl))))),?_⟩⟩ ?_
 .rw[az];exact rfl
 intro i hi _;have wi:i<l.length->aE.wrap ((i:Int)+1)=((i+1:Nat):Int):=λh=>zB h d8
 have o:=a0 i;generalize N (i+1)=P2 at*;generalize hP:N i=P at*;obtain⟨pop,aq,R,ak,ah,⟨aa,⟨ag,al,⟨ar,au,av⟩,U⟩,ai,af,ae,an,pn,ao⟩,aj⟩:=P;rw[vu];unfold azs;refine zj (λh1=>?_) (λh1=>?_)
 .have j:i<l.length:=by simp_all[qU]
  have o:=o j;have hg:(qB l)[((i:Int)).toNat]?=some (l[i]).ds:=YR j;have a1:i=0->l[i].op=1->l[i].cond.foldE.chk=0:=λh=>d9
  generalize l[i]=s at*;unfold ofP Stp.foldS at o;cases ho:(s.op==1)
  .rw[ho]at o;simp only[cC,aA]at o;have p:=Qq s.op;obtain⟨I,⟨eo,nm,⟨vk,vn,vs⟩,ab⟩,a2,bl,a4,a3,n,bm⟩:=s;have ho:(I==1)=false:=ho;have p:dY k7 [.c (int I)] (rI (u6 I)):=p;generalize u6 I=oo at*;subst o;rw[vu];clear a1 hs a0 az;(conv=>whnf);refine⟨d8,_,hg,rfl,?_⟩;(conv=>whnf);rw[ho];(conv=>whnf);refine aN ?_ ?_
   .refine aC p ?_;refine⟨j,trivial,⟨_,vj 10 18 (.own 62 19 1) (.sl [[.lit (.int .i64 pop),.lit (.string aq),.lit (.string R),.lit (.int .i64 ak),.lit (.int .i64 ah),.lit (.int .i64 aa),.lit (.int .i64 ag),.lit (.string al),.lit (.int .i64 ar),.lit (.int .i64 au),.lit (.string av),.sl (exsD U),.sl (yP ai),.sl (zp af),.sl (qv ae),.sl (xz an),.lit (.int .i64 pn),.lit (.string ao),.sl (plnsD aj)]]) _ rfl rfl rfl rfl,?_⟩⟩;(conv=>whnf);rw[wi j];rfl
   refine aC p ?_;refine⟨j,trivial,⟨_,vj 10 18 (.own 62 19 1) (.sl [[.lit (.int .i64 pop),.lit (.string aq),.lit (.string R),.lit (.int .i64 ak),.lit (.int .i64 ah),.lit (.int .i64 aa),.lit (.int .i64 ag),.lit (.string al),.lit (.int .i64 ar),.lit (.int .i64 au),.lit (.string av),.sl (exsD U),.sl (yP ai),.sl (zp af),.sl (qv ae),.sl (xz an),.lit (.int .i64 pn),.lit (.string ao),.sl (plnsD aj)]]) _ rfl rfl rfl rfl,?_⟩⟩;(conv=>whnf);rw[wi j];rfl
  rw[ho]at o;simp only[bT,aB]at o;have p:=Qq s.op;have ac:=avr s.cond;have J:i=0->dY VH [.c (str g),.c (.d (.sl (zl tc))),s.cond.foldE.w] ⟨.w (wT g tc s.cond.foldE).w,[]⟩:=λh=>avw g tc _ (a1 h d9)
  obtain⟨I,⟨eo,nm,⟨vk,vn,vs⟩,ab⟩,a2,bl,a4,a3,n,bm⟩:=s;have ho:(I==1)=true:=ho;have p:dY k7 [.c (int I)] (rI (u6 I)):=p;have ac:dY kY [(Ex.mk eo nm ⟨vk,vn,vs⟩ ab).w] (rEx (Ex.mk eo nm ⟨vk,vn,vs⟩ ab).foldE):=ac;have J:i=0->dY VH [.c (str g),.c (.d (.sl (zl tc))),(Ex.mk eo nm ⟨vk,vn,vs⟩ ab).foldE.w] ⟨.w (wT g tc (Ex.mk eo nm ⟨vk,vn,vs⟩ ab).foldE).w,[]⟩:=J;simp only at o;generalize u6 I=oo at*;generalize(Ex.mk eo nm ⟨vk,vn,vs⟩ ab).foldE=f at*;generalize wT g tc f=P3 at*;obtain⟨bo,bp,⟨bq,bs,bt⟩,bn⟩:=f;clear a1 hs a0 az;cases ad:((i:Int)==0)
  .rw[ad,aA]at o;clear J;subst o;rw[vu];(conv=>whnf);refine⟨d8,_,hg,rfl,?_⟩;(conv=>whnf);rw[ho];refine aC ac ?_;rw[ad];(conv=>whnf);refine aN ?_ ?_
   .refine aC p ?_;refine⟨j,trivial,⟨_,vj 10 18 (.own 62 19 1) (.sl [[.lit (.int .i64 pop),.lit (.string aq),.lit (.string R),.lit (.int .i64 ak),.lit (.int .i64 ah),.lit (.int .i64 aa),.lit (.int .i64 ag),.lit (.string al),.lit (.int .i64 ar),.lit (.int .i64 au),.lit (.string av),.sl (exsD U),.sl (yP ai),.sl (zp af),.sl (qv ae),.sl (xz an),.lit (.int .i64 pn),.lit (.string ao),.sl (plnsD aj)]]) _ rfl rfl rfl rfl,?_⟩⟩;(conv=>whnf);rw[wi j];rfl
   refine aC p ?_;refine⟨j,trivial,⟨_,vj 10 18 (.own 62 19 1) (.sl [[.lit (.int .i64 pop),.lit (.string aq),.lit (.string R),.lit (.int .i64 ak),.lit (.int .i64 ah),.lit (.int .i64 aa),.lit (.int .i64 ag),.lit (.string al),.lit (.int .i64 ar),.lit (.int .i64 au),.lit (.string av),.sl (exsD U),.sl (yP ai),.sl (zp af),.sl (qv ae),.sl (xz an),.lit (.int .i64 pn),.lit (.string ao),.sl (plnsD aj)]]) _ rfl rfl rfl rfl,?_⟩⟩;(conv=>whnf);rw[wi j];rfl
  rw[ad,aB]at o;have J:=J d9;obtain⟨bd,bg,aw,bb,a8,⟨ay,⟨a7,bc,⟨bh,bi,bj⟩,ax⟩,a9,a6,a5,be,qn,bf⟩,ba⟩:=P3;rw[qd,vu]at J;subst o;rw[vu];(conv=>whnf);refine⟨d8,_,hg,rfl,?_⟩;(conv=>whnf);rw[ho];refine aC ac ?_;rw[ad];refine aC J ?_;refine aN ?_ ?_
  .refine aC p ?_;refine⟨j,trivial,⟨_,vj 10 18 (.own 62 19 1) (.sl [[.lit (.int .i64 bd),.lit (.string bg),.lit (.string aw),.lit (.int .i64 bb),.lit (.int .i64 a8),.lit (.int .i64 ay),.lit (.int .i64 a7),.lit (.string bc),.lit (.int .i64 bh),.lit (.int .i64 bi),.lit (.string bj),.sl (exsD ax),.sl (yP a9),.sl (zp a6),.sl (qv a5),.sl (xz be),.lit (.int .i64 qn),.lit (.string bf),.sl (plnsD ba)]]) _ rfl rfl rfl rfl,?_⟩⟩;(conv=>whnf);rw[wi j];rfl
  refine aC p ?_;refine⟨j,trivial,⟨_,vj 10 18 (.own 62 19 1) (.sl [[.lit (.int .i64 bd),.lit (.string bg),.lit (.string aw),.lit (.int .i64 bb),.lit (.int .i64 a8),.lit (.int .i64 ay),.lit (.int .i64 a7),.lit (.string bc),.lit (.int .i64 bh),.lit (.int .i64 bi),.lit (.string bj),.sl (exsD ax),.sl (yP a9),.sl (zp a6),.sl (qv a5),.sl (xz be),.lit (.int .i64 qn),.lit (.string bf),.sl (plnsD ba)]]) _ rfl rfl rfl rfl,?_⟩⟩;(conv=>whnf);rw[wi j];rfl
 have bk:i=l.length:=by grind[qU]
 subst bk;(conv=>whnf);refine⟨rfl,?_⟩;show _=Res.mk (.tup [Pln.w (N l.length),_]) [];rw[hP,qd,vu];rfl
theorem aiQ{d:am Nmd}{cols:am Col}{s:Stp}(j:s.op=1)(h:(zT d cols s).1=0):s.cond.chk=0/\ab6 cols s.cond=0:=by
 have i:=QR h;have g:s.cond.chk=0:=by grind[Stp.err]
 refine⟨g,?_⟩;unfold zT at h;rw[i,j]at h;have h:(whT cols s.cond).1=0:=h;unfold whT at h;cases l:(ab6 cols s.cond !=0)
 .grind
 simp_all
theorem Kx{d:am Nmd}{cols:am Col}{s:Stp}(g:s.op=1)(h:(zT d cols s).1=0):(s.cond.tyE cols).2=0:=by obtain⟨i,j⟩:=aiQ g h<;>grind[dj,aAS]
theorem afV(d:am Nmd)(q:Qry)(o:∀s∈q.steps,s.Sm):dY jA [.c (.d (.sl (zq d))),q.w] (rPE (ofQ d q)):=by
 have j:=VM d q o;unfold ofQ;cases I:((vi d q).1 !=0)
 .rw[aA];have h0:(vi d q).1=0:=d9
  obtain⟨P,R,t,U,ab⟩:=ab4 h0;have hw:Xi d q.src=t:=by grind[Xi]
  rw[hw];have i:(jV d t.cols q.steps).1=0:=d9
  rw[show vi d q=(0,(vi d q).2)by grind]at j;obtain⟨tc,tr⟩:=t;have aa:=aay R;obtain⟨p,l⟩:=q;refine avh d p l d9 _ j tc tr U λh g=>?_
  obtain⟨s,r,rfl⟩:∃s r,l=s::r:=by cases l<;>grind
  have g:s.op=1:=g;simp only[jV]at i;have J:(zT d tc s).1=0:=by
   cases hc:((zT d tc s).1 !=0)
   .grind
   simp_all
  exact(V4 (Kx g J)).1
 rw[aB];exact as6 d q _ I _ j
end
end Go.Proofs.YtkdijaiaplkliaaGreatDoor
namespace Go.AM
section
open Go Go.Lib
set_option linter.unusedSimpArgs false
def hv(a:Int):Int:=if a<58 then a-48 else a-87
theorem qS{x:Nat}(h:x<16):hv (Lib.hexDigit x)=x:=by unfold hv Lib.hexDigit;repeat' split<;>omega
def unX(v:Int):Int:=if v<128 then v else-v
def unB:am Int->aP (Int×am Int)
 |[]=>none
 |c::t=>if c=34 then some (34,t)else if c=92 then some (92,t)else if c=97 then some (7,t)else if c=98 then some (8,t)else if c=102 then some (12,t)else if c=110 then some (10,t)
  else if c=114 then some (13,t)else if c=116 then some (9,t)else if c=118 then some (11,t)
  else if c=120 then(match t with|a::b::u=>some (unX (hv a*16+hv b),u)|_=>none)
  else if c=117 then(match t with|a::b::c::d::u=>some (((hv a*16+hv b)*16+hv c)*16+hv d,u)|_=>none)
  else(match t with|a::b::c::d::e::f::g::h::u=>some (((((((hv a*16+hv b)*16+hv c)*16+hv d)*16+hv e)*16+hv f)*16+hv g)*16+hv h,u)|_=>none)
def unU(b:Int)(t:am Int):aP (Int×am Int):=
 if b<128 then some (b,t)else if b<224 then(match t with|c::u=>some ((b-192)*64+(c-128),u)|_=>none)
 else if b<240 then(match t with|c::d::u=>some ((b-224)*4096+(c-128)*64+(d-128),u)|_=>none)
 else(match t with|c::d::e::u=>some ((b-240)*262144+(c-128)*4096+(d-128)*64+(e-128),u)|_=>none)
def U1:am Int->aP (Int×am Int)
 |[]=>none
 |b::t=>if b=34 then none else if b=92 then unB t else unU b t
theorem aAP(r:Int)(g:r≠34)(i:r≠92)(h:(0<=r/\r<55296)\/(57343<r/\r<=1114111))(t:am Int):U1 (encodeRuneZ r++t)=some (r,t):=by
 by_cases a:r<=127
 .rw[encodeRuneZ_one d8 a];simp[U1,unU,g,i];omega
 by_cases b:r<=2047
 .rw[encodeRuneZ_two d8 b];simp only[bF,bB,U1,unU];rw[aO d8,aO d8,aO d8,bG d8];simp;omega
 by_cases c:r<=65535
 .rw[encodeRuneZ_three d8];simp only[bF,bB,U1,unU];rw[aO d8,aO d8,aO d8,aO d8,bG d8];simp;omega
 rw[encodeRuneZ_four d8 d8];simp only[bF,bB,U1,unU];rw[aO d8,aO d8,aO d8,aO d8,aO d8];simp;omega
theorem aAQ(T:PrintTabs)(r:Int)(h:(0<=r/\r<55296)\/(57343<r/\r<=1114111))(t:am Int):U1 (escRune T r++t)=some (r,t):=by
 unfold escRune;by_cases l:r=34\/r=92
 .rw[bG l];rcases l with rfl|rfl<;>rfl
 rw[aO l];by_cases c2:isPrintR T r=true
 .rw[bG c2];exact aAP r d8 d8 h t
 rw[aO c2];by_cases o:r=7
 .rw[bG o,o];rfl
 rw[aO o];by_cases p:r=8
 .rw[bG p,p];rfl
 rw[aO p];by_cases I:r=12
 .rw[bG I,I];rfl
 rw[aO I];by_cases J:r=10
 .rw[bG J,J];rfl
 rw[aO J];by_cases P:r=13
 .rw[bG P,P];rfl
 rw[aO P];by_cases R:r=9
 .rw[bG R,R];rfl
 rw[aO R];by_cases U:r=11
 .rw[bG U,U];rfl
 rw[aO U];by_cases g:r<32\/r=127
 .rw[bG g];simp[U1,unB,unX];rw[qS d8,qS d8];split<;>omega
 rw[aO g];by_cases i:Lib.validRune r=false
 .exfalso;simp only[Lib.validRune,bY]at i;omega
 rw[aO i];by_cases j:r<65536
 .rw[bG j];simp[U1,unB,hexDigits];rw[qS d8,qS d8,qS d8,qS d8];omega
 rw[aO j];simp[U1,unB,hexDigits];rw[qS d8,qS d8,qS d8,qS d8,qS d8,qS d8,qS d8,qS d8];omega
def JM(s:ByteArray):Int:=if(aS s 0).2=1/\(aS s 0).1=65533 then-((s.get! 0).toNat:Int)else((aS s 0).1:Int)
theorem afw(n g i j l:Nat)(h:(decodeN n g i j l).2=1/\(decodeN n g i j l).1=65533)(o:g<256):128<=g:=by
 revert h;unfold decodeN
 split
 .intro h;simp at h;omega
 intro;omega
theorem ab5(T:PrintTabs)(s:ByteArray)(t:am Int):U1 (quoteStep T s++t)=some (JM s,t):=by
 unfold quoteStep JM;split
 .rename_i h;have g:=bP (s.get! 0);rw[decode_at]at h;have i:=afw _ _ _ _ _ h g;simp[U1,unB,unX];rw[qS d8,qS d8];split<;>omega
 have:=rune_valid s;simp only[Lib.validRune,cd]at this;exact aAQ T _ this t
def acV(c:Int):am Int:=if c<0 then [-c]else encodeRuneZ c
def u4(l:am UInt8):am Int:=l.map λb=>(b.toNat:Int)
theorem adJ:∀{a b:am UInt8},u4 a=u4 b->a=b
 |[],[],_=>rfl
 |[],_::_,h=>by simp[u4]at h
 |_::_,[],h=>by simp[u4]at h
 |x::a,y::b,h=>by simp only[u4,aX,bN]at h;have g:x=y:=UInt8.toNat_inj.1 d8;rw[g,adJ (a:=a) (b:=b) h.2]
theorem ant(n g i j l:Nat)(h0:g<256)(o:i<256)(p:j<256)(r:l<256)(h:¬((decodeN n g i j l).2=1/\(decodeN n g i j l).1=65533)):
 encodeRuneZ ((decodeN n g i j l).1:Int)=([(g:Int),i,j,l]:am Int).take (decodeN n g i j l).2:=by
 revert h;unfold decodeN
 split
 .intro _;rw[encodeRuneZ_one d8 (by simp only[];omega)];rfl
 split
 .split
  .intro _;rw[encodeRuneZ_two (by simp only[];omega) (by simp only[];omega)];simp;omega
  intro h;simp at h
 split
 .split
  .intro _;rw[encodeRuneZ_three (by simp only[];omega)];simp;omega
  intro h;simp at h
 split
 .split
  .intro _;rw[encodeRuneZ_four (by simp only[];omega) (by simp only[];omega)];simp;omega
  intro h;simp at h
 intro h;simp at h
theorem abZ(s:ByteArray)(h:0<s.size):u4 (s.data.toList.take (aS s 0).2)=acV (JM s):=by
 have I:=width_le s h;have l:∀i,i<s.size->s.data.toList[i]?=some (s.get! i):=λi hi=>by
  cases s with
  |mk d=>
   show d.toList[i]?=some d[i]!;rw[getElem!_pos d i hi];simp[show i<d.size from hi]
 have p:s.data.toList.length=s.size:=by cases s;rfl
 have o:(aS s 0).2<=4:=by
  rw[decode_at];unfold decodeN;repeat' split
  all_goals simp only[]
  all_goals omega
 have r:1<=(aS s 0).2:=by
  rw[decode_at];unfold decodeN;repeat' split
  all_goals simp only[]
  all_goals omega
 have key:u4 (s.data.toList.take (aS s 0).2)=([((s.get! 0).toNat:Int),((s.get! 1).toNat:Int),((s.get! 2).toNat:Int),((s.get! 3).toNat:Int)]:am Int).take (aS s 0).2:=by
  generalize(aS s 0).2=n at*;apply List.ext_getElem?;intro i;simp only[u4,am.getElem?_map,am.getElem?_take];split
  .rename_i hi;rw[l i d8];rcases(by omega:i=0\/i=1\/i=2\/i=3)with rfl|rfl|rfl|rfl<;>rfl
  rfl
 rw[key];unfold JM acV;by_cases j:(aS s 0).2=1/\(aS s 0).1=65533
 .have g:=j;rw[decode_at]at g;have:=afw _ _ _ _ _ g (bP _);rw[bG j,bG d8,j.1];simp
 rw[aO j,aO d8];have g:=j;rw[decode_at]at g⊢;exact(ant _ _ _ _ _ (bP _) (bP _) (bP _) (bP _) g).symm
theorem af1(s:ByteArray)(h:0<s.size):(aS s 0).2=(acV (JM s)).length:=by
 rw[<-abZ s h];have i:=width_le s h;have g:s.data.toList.length=s.size:=by cases s;rfl
 simp[u4];omega
theorem toList_extract(s:ByteArray)(n:Nat):(s.extract n s.size).data.toList=s.data.toList.drop n:=by
 have:(s.extract n s.size).data=s.data.extract n (n+(s.size-n)):=by simp[ByteArray.extract,ByteArray.copySlice]
 have g:s.data.toList.length=s.size:=by cases s;rfl
 rw[this,Array.toList_extract];simp only[List.extract];apply aZ;rw[dl,g];omega
theorem alW(T:PrintTabs):∀(n f g:Nat) (s r:ByteArray) (t u:am Int),s.size<=n->s.size<=f->r.size<=g->quoteFrom T f s++34::t=quoteFrom T g r++34::u->s.data.toList=r.data.toList/\t=u:=by
 intro n;induction n with
 |zero=>
  intro f g s r t u hn i j h;rw[quoteFrom_end T f s d8]at h;by_cases hr:0<r.size
  .exfalso;rw[quoteFrom_step T g r hr j,aW]at h;have:=aD U1 h;rw[ab5]at this;simp[U1]at this
  rw[quoteFrom_end T g r hr]at h;have l1:s.data.toList=[]:=bI (by have:s.data.toList.length=s.size:=(by cases s;rfl);omega);have l2:r.data.toList=[]:=bI (by have:r.data.toList.length=r.size:=(by cases r;rfl);omega);exact⟨l1.trans l2.symm,by simpa using h⟩
 |succ n p=>
  intro f g s r t u hn i j h;by_cases hs:0<s.size
  .by_cases hr:0<r.size
   .rw[quoteFrom_step T f s hs i,quoteFrom_step T g r hr j,aW,aW]at h;have l:=aD U1 h;rw[ab5,ab5]at l;simp only[Option.some.injEq,Prod.mk.injEq]at l;obtain⟨U,P⟩:=l;have w1:=af1 s hs;have w2:=af1 r hr;have p1:=width_pos s 0;have p2:=width_pos r 0;have z1:=size_rest s (aS s 0).2;have z2:=size_rest r (aS r 0).2;obtain⟨o,R⟩:=p (f-1) (g-1) _ _ t u d8 d8 d8 P;refine⟨?_,R⟩;rw[toList_extract,toList_extract]at o;have I:=abZ s hs;have J:=abZ r hr;rw[<-bE (aS s 0).2 s.data.toList,o,<-bE (aS r 0).2 r.data.toList,bE (aS r 0).2 r.data.toList];rw[adJ (I.trans ((by rw[U]:acV (JM s)=acV (JM r)).trans J.symm))];exact bE _ _
   exfalso;rw[quoteFrom_end T g r hr,quoteFrom_step T f s hs i,aW]at h;have:=aD U1 h;rw[ab5]at this;simp[U1]at this
  exact p f g s r t u d8 i j h
theorem asX(T:PrintTabs){s r:ByteArray}{t u:am Int}(h:quoteZ T s++t=quoteZ T r++u):s=r/\t=u:=by unfold quoteZ at h;simp only[bF,aW,bB,bN,true_and]at h;obtain⟨g,i⟩:=alW T s.size s.size r.size s r t u (aY _) (aY _) (aY _) h;refine⟨?_,i⟩;cases s;cases r;simp only[Array.toList_inj]at g;rw[g]
theorem JV{x:Nat}(h:x<16):0<=Lib.hexDigit x/\Lib.hexDigit x<256:=by unfold Lib.hexDigit;split<;>omega
theorem Y4(r:Nat):∀n,∀x∈hexDigits r n,0<=x/\x<256
 |0,x,h=>by cases h
 |n+1,x,h=>by
  rcases aM.1 h with rfl|h
  .exact JV (Nat.mod_lt _ dV)
  exact Y4 r n x h
theorem WU{l:am Int}(h:(l.all λx=>decide (0<=x/\x<256))=true):∀x∈l,0<=x/\x<256:=λx g=>aL (List.all_eq_true.1 h x g)
theorem jl{p:Prop} [Decidable p]{a b:am Int}{Q:Int->Prop}(g:p->∀x∈a,Q x)(i:¬p->∀x∈b,Q x):∀x∈(if p then a else b),Q x:=by
 by_cases h:p
 .rw[bG h];exact g h
 rw[aO h];exact i h
theorem Vz{a b:Int}{l:am Int}(i:0<=a/\a<256)(j:0<=b/\b<256)(h:∀x∈l,0<=x/\x<256):∀x∈a::b::l,0<=x/\x<256:=by
 intro x g;rcases aM.1 g with rfl|g
 .exact i
 rcases aM.1 g with rfl|g
 .exact j
 exact h x g
theorem arl:∀x∈([]:am Int),0<=x/\x<256:=λ_ h=>by cases h
theorem anx(T:PrintTabs)(r:Int):∀x∈escRune T r,0<=x/\x<256:=by
 unfold escRune;refine jl (λh=>Vz dV d8 arl) λ_=>?_
 refine jl (λ_=>encodeRuneZ_byte r) λ_=>?_
 refine jl (λ_=>WU rfl) λ_=>?_
 refine jl (λ_=>WU rfl) λ_=>?_
 refine jl (λ_=>WU rfl) λ_=>?_
 refine jl (λ_=>WU rfl) λ_=>?_
 refine jl (λ_=>WU rfl) λ_=>?_
 refine jl (λ_=>WU rfl) λ_=>?_
 refine jl (λ_=>WU rfl) λ_=>?_
 refine jl (λh=>Vz dV dV (Vz (JV d8) (JV d8) arl)) λ_=>?_
 refine jl (λ_=>Vz dV dV (Y4 _ _)) λ_=>?_
 exact jl (λ_=>Vz dV dV (Y4 _ _)) λ_=>Vz dV dV (Y4 _ _)
theorem ajM(T:PrintTabs)(s:ByteArray):∀x∈quoteStep T s,0<=x/\x<256:=by
 unfold quoteStep;split
 .have i:=bP (s.get! 0);intro x g;simp only[aM,List.mem_nil_iff,cY]at g;rcases g with rfl|rfl|rfl|rfl
  .decide
  .decide
  .exact JV d8
  exact JV d8
 exact anx T _
theorem aaz(T:PrintTabs):∀(f:Nat) (s:ByteArray),∀x∈quoteFrom T f s,0<=x/\x<256
 |0,_,x,h=>by cases h
 |f+1,s,x,h=>by
  unfold quoteFrom at h;split at h
  .rcases bM.1 h with h|h
   .exact ajM T s x h
   exact aaz T f _ x h
  cases h
theorem afL(T:PrintTabs)(s:ByteArray):∀x∈quoteZ T s,0<=x/\x<256:=by
 intro x h;unfold quoteZ at h;rcases aM.1 h with rfl|h
 .decide
 rcases bM.1 h with h|h
 .exact aaz T _ s x h
 rcases aK.1 h with rfl;decide
theorem akN{l:am Int}(h:∀x∈l,0<=x/\x<256):u4 (l.map λn=>dq n.toNat)=l:=by
 induction l with
 |nil=>rfl
 |cons x l i=>
  obtain⟨j,o⟩:=h x dT;have:=i λy g=>h y (by simp[g])
  simp only[u4,aX,bN]at this⊢;refine⟨?_,this⟩;simp;omega
def adQ(T:PrintTabs)(s:ByteArray):am UInt8:=(quoteZ T s).map λn=>dq n.toNat
theorem aow{T:PrintTabs}{s r:ByteArray}{t u:am UInt8}(h:adQ T s++t=adQ T r++u):s=r/\t=u:=by have g:=aD u4 h;simp only[adQ]at g;rw[show∀a b:am UInt8,u4 (a++b)=u4 a++u4 b from λa b=>cr,show∀a b:am UInt8,u4 (a++b)=u4 a++u4 b from λa b=>cr,akN (afL T s),akN (afL T r)]at g;obtain⟨i,j⟩:=asX T g;exact⟨i,adJ j⟩
def apB(l:am UInt8):Nat:=l.foldl (λa d=>a*10+(d.toNat-48)) 0
theorem awa(l:am UInt8)(d:UInt8):apB (l++[d])=apB l*10+(d.toNat-48):=by simp[apB]
theorem apC:∀u:Nat,apB (decDigits u)=u:=by
 intro u;induction u using du with
 |ind u g=>
  rw[decDigits];split
  .rename_i h;simp[apB];rw[Nat.mod_eq_of_lt d8];omega
  rename_i h;rw[awa,g (u/10) d8];have:(dq (48+u%10)).toNat=48+u%10:=dX
  rw[this];omega
theorem U7:∀(u:Nat),∀d∈decDigits u,48<=d.toNat/\d.toNat<=57:=by
 intro u;induction u using du with
 |ind u j=>
  intro d g;rw[decDigits]at g;split at g
  .rename_i h;simp only[aK]at g;subst g;simp;omega
  rename_i h;rcases bM.1 g with i|i
  .exact j (u/10) d8 d i
  simp only[aK]at i;subst i;simp;omega
theorem aqW{u v:Nat}(h:decDigits u=decDigits v):u=v:=by rw[<-apC u,h,apC]
theorem afC(n:Int):∀d∈itoa n,d≠32:=by
 intro d g e;subst e;unfold itoa at g;split at g
 .rcases aM.1 g with h|h
  .exact absurd h dV
  have:=(U7 _ _ h).1;exact absurd this dV
 have:=(U7 _ _ g).1;exact absurd this dV
theorem axe{n m:Int}(h:itoa n=itoa m):n=m:=by
 unfold itoa at h;split at h<;>split at h
 .simp only[bN,true_and]at h;have:=aqW h;omega
 .exfalso;have:=U7 m.toNat 45 (by rw[<-h];simp);exact absurd this.1 dV
 .exfalso;have:=U7 n.toNat 45 (by rw[h];simp);exact absurd this.1 dV
 have:=aqW h;omega
theorem apo{a:UInt8}:∀{x y t u:am UInt8},(∀d∈x,d≠a)->(∀d∈y,d≠a)->x++a::t=y++a::u->x=y/\t=u
 |[],[],_,_,_,_,h=>by simpa using h
 |[],d::y,_,_,_,j,h=>by simp only[bB,bF,bN]at h;exact absurd h.1.symm (j d dT)
 |d::x,[],_,_,i,_,h=>by simp only[bB,bF,bN]at h;exact absurd h.1 (i d dT)
 |d::x,e::y,t,u,i,j,h=>by simp only[bF,bN]at h;obtain⟨l,o⟩:=apo (λd g=>i d (by simp[g])) (λd g=>j d (by simp[g])) h.2;exact⟨by rw[h.1,l],o⟩
theorem ahV{n m:Int}{t u:am UInt8}(h:itoa n++32::t=itoa m++32::u):n=m/\t=u:=by obtain⟨g,i⟩:=apo (afC n) (afC m) h;exact⟨axe g,i⟩
end
end Go.AM
namespace Go.Proofs.YtkdijaiaplkliaaGreatDoor
section
open Go Go.AM Go.Lib
theorem Jp(u v:Val):xf u v=true↔u=v:=by obtain⟨a,b,c⟩:=u;obtain⟨d,e,f⟩:=v<;>simp_all[xf,AM.beqS_iff]
theorem akk:∀{a b:am Val},a.length=b.length->(wQ xf a b=true↔a=b)
 |[],[],_=>by simp[wQ]
 |u::a,v::b,h=>by have g:=akk (a:=a) (b:=b) (by simpa using h);have hi:=Jp u v<;>simp_all[wQ]
theorem afO(a b:am Val):xp a b=true↔a=b:=by
 unfold xp;by_cases h:a.length=b.length
 .simp_all[akk]
 have:((a.length:Int) !=b.length)=true:=dX
 rw[this,aB]
 grind
theorem ajv(v:Val):J5 v=itoa v.k++32::(itoa v.n++32::(adQ goPrintTabs v.s++[32])):=by simp_all[J5,agA,Z7,Ki,apn,adQ,strOfNums]
theorem asG{v w:Val}{t u:am UInt8}(h:J5 v++t=J5 w++u):v=w/\t=u:=by rw[ajv,ajv]at h;simp only[aW,bF,bB]at h;obtain⟨g,h⟩:=ahV h;obtain⟨i,h⟩:=ahV h;obtain⟨j,h⟩:=aow h;obtain⟨a,b,c⟩:=v<;>simp_all
def kvs:am Val->aP (am UInt8)
 |[]=>some []
 |v::r=>bif v.k==0 then none else(kvs r).map (J5 v++ ·)
theorem abs(row:am Val):∀l,uq row l=kvs (zn row l)
 |[]=>rfl
 |i::l=>by have:=abs row l;simp only[uq,zn,aX,kvs]at this⊢;rw[this]
theorem arg:∀{a b:am Val}{x:am UInt8},kvs a=some x->kvs b=some x->a.length=b.length->a=b
 |[],[],_,_,_,_=>rfl
 |v::a,w::b,x,g,i,o=>by
  simp only[kvs]at g i;cases j:(v.k==0)
  .cases l:(w.k==0)
   .rw[j,aA]at g;rw[l,aA]at i;obtain⟨r,g1,g⟩:=aU.1 g;obtain⟨I,g2,i⟩:=aU.1 i;obtain⟨hv,p⟩:=asG (g.trans i.symm);subst p;rw[hv,arg g1 g2 (by simpa using o)]
   grind
  grind
theorem an6:∀(a:am Val),(kvs a).isSome= !a.any (λv=>v.k==0)
 |[]=>rfl
 |v::a=>by simp only[kvs,List.any_cons];cases v.k==0<;>simp_all[an6]
theorem au5(r:am Val)(l:am Int):(zn r l).length=l.length:=by simp[zn]
theorem ang{x y:am UInt8}(h:(⟨x.toArray⟩:ByteArray)=⟨y.toArray⟩):x=y:=d9
theorem ajx{x y:am Val}{l r:am Int}{k:ByteArray}(o:l.length=r.length)(g:qc x l=some k):decide (qc y r=some k)=xp (zn x l) (zn y r):=by
 unfold qc at g⊢;rw[abs]at g⊢;obtain⟨I,j,rfl⟩:=aU.1 g;have i:(zn x l).length=(zn y r).length:=by grind[au5]
 cases hs:xp (zn x l) (zn y r)
 .refine aJ λh=>?_
  obtain⟨J,p,h⟩:=aU.1 h
  grind[afO,arg]
 grind[afO]
theorem adz{x:am Val}{l:am Int}(g:∀v∈zn x l,(v.k==0)=xf zw v):(qc x l).isSome= !(zn x l).any (xf zw):=by
 unfold qc;rw[abs,Option.isSome_map,an6];congr 1
 grind
theorem am6{β:Type}(at_:am Int)(k:ByteArray)(f:am Val->β)(br:am (am Val)):∀(i:Nat) (g:am (am Val)),br.drop i=g->
 (uw at_ k i g).map (λn=>f (br.getD n.toNat []))=(g.filter λy=>decide (qc y at_=some k)).map f
 |_,[],_=>rfl
 |i,r::g,h=>by
  have l:br.drop (i+1)=g:=by rw[<-cj,h];rfl
  have o:br.getD i []=r:=by
   have:=aD (·[0]?) h;simp only[am.getElem?_drop,cP,am.getElem?_cons_zero]at this
   grind
  have p:=am6 at_ k f br (i+1) g l;simp only[uw,cr,p,bQ];cases decide (qc r at_=some k)
  .rfl
  have j:br[i]?.getD []=r:=by rw[<-am.getD_eq_getElem?_getD];exact o
  simp[j]
theorem akx{k:Int}{v:Val}(h:yI k v):(v.k==0)=xf zw v:=by
 by_cases h0:v=zw
 .subst h0;rw[(Jp _ _).2 rfl];rfl
 have g:xf zw v=false:=by grind[Jp]
 rw[g];rcases h with rfl|⟨_,b,rfl⟩|⟨_,n,_,rfl⟩|⟨_,s,_,rfl⟩
 .grind
 .rfl
 .rfl
 rfl
theorem ayl{cols:am Col}{x:am Val}(i:zN cols x):∀v∈x,(v.k==0)=xf zw v:=by
 intro v hv;have:∀{cols:am Col}{x:am Val},zN cols x->∀v∈x,∃k,yI k v:=by
  intro cols;induction cols with
  |nil=>intro x h v hv;cases x with|nil=>cases hv|cons=>cases h
  |cons c cs g=>
   intro x h v hv;cases x with
   |nil=>cases hv
   |cons w x=>
    rcases aM.1 hv with rfl|hv
    .exact⟨_,h.1⟩
    exact g h.2 v hv
 grind[akx]
theorem aw0(x:am Val)(i:Nat):x.getD i zw∈x\/x.getD i zw=zw:=d9
theorem adO{cols:am Col}{x:am Val}(g:zN cols x)(l:am Int):∀v∈zn x l,(v.k==0)=xf zw v:=by
 intro v hv;obtain⟨i,_,rfl⟩:=cB.1 hv;unfold at0;rcases aw0 x i.toNat with h|h
 .grind[ayl]
 rw[h];exact akx (adf 0)
theorem aBj{cols:am Col}{x:am Val}(l:zN cols x)(left right g:am Int)(p:left.length=right.length)(br:am (am Val)):hjX left g br (λk=>uw right k 0 br) x=kX left right g br x:=by
 have j:=adz (adO l left);unfold hjX kX;cases hk:qc x left with
 |none=>
  grind
 |some k=>
  rw[hk]at j;cases o:(zn x left).any (xf zw)
  .show(uw right k 0 br).map (λi=>x++zn (br.getD i.toNat []) g)=wD x (zn x left) right g br;rw[am6 right k (λy=>x++zn y g) br 0 br rfl];unfold wD;congr 1
   grind[ajx]
  grind
theorem JP{α β:Type}{f g:α->am β}:∀{l:am α},(∀x∈l,f x=g x)->l.flatMap f=l.flatMap g
 |[],_=>rfl
 |x::l,h=>by rw[cg,cg,h x dT,JP λy i=>h y (by simp[i])]
theorem aw7(t b:Tbl)(g:am ByteArray)(i:∀r∈t.rows,zN t.cols r):asv t b g=xO (zi t.cols g) (zi b.cols g) (oth g 0 b.cols) t.rows b.rows:=
 JP λx j=>aBj (i x j) _ _ _ (by simp[zi]) _
end
section
open Go Go.AM
def upI(f:Int->Int)(y:Int):aP Int->aP Int
 |none=>some y
 |some z=>bif decide (f y>=f z)then some y else some z
abbrev cF(f:Int->Int)(a b:Int):Int:=yw (f a) (f b)
theorem Qd(a b:Int):yw a b<0↔a<b:=by grind[yw]
theorem gS(a b:Int):yw a b<=0↔a<=b:=by grind[yw]
theorem aza(f:Int->Int)(y:Int)(b:aP Int):∃z,upI f y b=some z:=by
 cases b with
 |none=>exact⟨_,rfl⟩
 |some z=>
  show∃u,(bif decide (f y>=f z)then some y else some z)=some u;cases decide (f y>=f z)<;>grind
theorem anS(f:Int->Int)(y:Int):∀{S:am Int},Z1 (cF f) S->(wc (cF f) y S).getLast?=upI f y S.getLast?
 |[],_=>rfl
 |w::r,h=>by
  obtain⟨J,hr⟩:=bL.1 h;have l:=anS f y hr;unfold wc;by_cases g:cF f y w<0
  .rw[bG g,List.getLast?_cons,List.getLast?_cons];have i:f y<f w:=(Qd _ _).1 g;have o:f w<=f (r.getLast?.getD w):=by
    cases p:r.getLast? with
    |none=>simp_all
    |some z=>grind[gS]
   have j:decide (f y>=f (r.getLast?.getD w))=false:=aJ d8;simp only[upI,j,aA,Option.getD_some]
  rw[aO g,List.getLast?_cons,List.getLast?_cons,l];have i:¬f y<f w:=λh=>g ((Qd _ _).2 h)
  cases r.getLast? with
  |none=>
   grind[upI]
  |some z=>
   obtain⟨u,I⟩:=aza f y (some z)<;>simp_all
theorem auB(f:Int->Int)(y:Int):∀{T:am Int},(∀z∈T,f y<f z)->wc (cF f) y T=y::T
 |[],_=>rfl
 |w::r,h=>by simp_all[wc,Qd]
theorem ahS(f:Int->Int)(q:Int->Bool)(y:Int):∀{S:am Int},Z1 (cF f) S->(wc (cF f) y S).filter q=bif q y then wc (cF f) y (S.filter q)else S.filter q
 |[],_=>by grind[wc]
 |w::r,h=>by
  obtain⟨o,hr⟩:=bL.1 h;have I:=ahS f q y hr;by_cases i:cF f y w<0
  .have j:f y<f w:=(Qd _ _).1 i;have g:wc (cF f) y (w::r)=y::w::r:=by simp_all[wc]
   rw[g,bQ];have l:wc (cF f) y ((w::r).filter q)=y::(w::r).filter q:=auB f y λz p=>by grind[gS]
   grind
  have g:∀T,wc (cF f) y (w::T)=w::wc (cF f) y T:=λT=>by simp_all[wc,aO]
  grind
theorem ar7(f:Int->Int):CmpOK (cF f):=CmpOK.onF W7 (f:=f)
theorem aqy(f:Int->Int)(q:Int->Bool)(L:am Int):(yM (cF f) L).filter q=yM (cF f) (L.filter q):=by
 suffices h:∀(L g:am Int),Z1 (cF f) g->(L.foldl (λa x=>wc (cF f) x a) g).filter q=(L.filter q).foldl (λa x=>wc (cF f) x a) (g.filter q)from h L [] cE
 intro L;induction L with
 |nil=>grind
 |cons y L i=>
  intro g h;rw[cw,i _ (K3 (ar7 f) y h),ahS f q y h,bQ]
  grind
theorem avI(f:Int->Int)(L:am Int):(yM (cF f) L).getLast?=L.foldl (λb y=>upI f y b) none:=by
 suffices h:∀(L g:am Int),Z1 (cF f) g->(L.foldl (λa x=>wc (cF f) x a) g).getLast?=L.foldl (λb y=>upI f y b) g.getLast? from h L [] cE
 intro L;induction L<;>simp_all[K3,ar7,anS]
theorem ayc(f:Int->Int)(N:Int){S:am Int}(hs:Z1 (cF f) S):(bif decide (0<YI (λi=>yw (f i) (N+1)) S)then some (S.getD (YI (λi=>yw (f i) (N+1)) S-1) 0)else none)=(S.filter λi=>decide (f i<=N)).getLast?:=by
 have I:∀a (h:a<S.length),jC (λi=>yw (f i) (N+1)) S a=decide (f S[a]<=N):=λa h=>by unfold jC;rw[am.getElem?_eq_getElem h];simp only[Qd,decide_eq_decide];omega
 have l:=arx (λi=>yw (f i) (N+1)) S;have p:=aa9 (jC (λi=>yw (f i) (N+1)) S) S.length (λa b j r h=>by
  rw[I b r]at h;rw[I a d8];have h:=aL h;refine cz ?_;rcases Nat.lt_or_eq_of_le j with o|rfl
  .have:=(gS _ _).1 (bW.1 hs a b d8 r o);omega
  exact h) S.length 0 S.length (λa h=>d8) (λa J P=>d8) d8 d8 (aY _)
 obtain⟨U,R⟩:=p
 change (∀a,a<YI (λi=>yw (f i) (N+1)) S->_)at U
 change (∀a,YI (λi=>yw (f i) (N+1)) S<=a->_)at R
 generalize YI (λi=>yw (f i) (N+1)) S=n at*;have g:(S.filter λi=>decide (f i<=N))=S.take n:=by
  conv=>lhs;rw[<-bE n S,cD]
  have J:((S.take n).filter λi=>decide (f i<=N))=S.take n:=c6.2 λx hx=>by grind[cA]
  have P:((S.drop n).filter λi=>decide (f i<=N))=[]:=bS.2 λx hx=>by grind[cA]
  grind
 rw[g];cases n with
 |zero=>simp
 |succ n=>
  rw[cz (by omega:0<n+1),aB,List.getLast?_eq_getElem?,dm,Nat.min_eq_left l,Nat.add_sub_cancel,am.getElem?_take,bG d8,am.getElem?_eq_getElem d8,am.getD_eq_getElem?_getD,am.getElem?_eq_getElem d8];rfl
theorem asN(p g:Int)(left right:am Int)(x:am Val)(ys:am (am Val)):
 UT p g left right x ys=(ys.filter λy=>VJ (at0 x p.toNat) (at0 y g.toNat) (uv (zn x left) (zn y right))).foldl (λb y=>gm g y b) none:=by
 unfold UT;rw[List.foldl_filter];congr 1
 funext b y
 grind
theorem av9(br:am (am Val))(g:Int):∀(l:am Int) (b:aP Int),(l.foldl (λb y=>upI (λi=>(nV br g i).n) y b) b).map (λi=>br.getD i.toNat [])=(l.map λi=>br.getD i.toNat []).foldl (λb y=>gm g y b) (b.map λi=>br.getD i.toNat [])
 |[],b=>rfl
 |i::l,b=>by
  rw[cw,av9 br g l,aX,cw];congr 1
  cases b with
  |none=>rfl
  |some j=>
   show Option.map _ (bif decide ((nV br g i).n>=(nV br g j).n)then some i else some j)=(bif decide ((at0 (br.getD i.toNat []) g.toNat).n>=(at0 (br.getD j.toNat []) g.toNat).n)then some (br.getD i.toNat [])else some (br.getD j.toNat []))
   grind[nV]
theorem aBz(br:am (am Val))(g N:Int)(j:am Int)(L:am Int):mjP br g N j (yM (aeE br g) L)=aeU j (((L.filter λi=>decide ((nV br g i).n<=N)).map λi=>br.getD i.toNat []).foldl (λb y=>gm g y b) none):=by have l:=ayc (λi=>(nV br g i).n) N (abX (ar7 λi=>(nV br g i).n) L);rw[aqy,avI]at l;have o:=av9 br g (L.filter λi=>decide ((nV br g i).n<=N)) none;rw[<-l]at o;show mjP br g N j (yM (cF λi=>(nV br g i).n) L)=_;rw[show(none:aP (am Val))=(none:aP Int).map (λi=>br.getD i.toNat [])from rfl,<-o];unfold mjP;cases decide (0<YI (λi=>yw (nV br g i).n (N+1)) (yM (cF λi=>(nV br g i).n) L))<;>rfl
theorem auR{cols:am Col}{x:am Val}(hx:zN cols x)(left right l:am Int)(hl:left.length=right.length)(j o:Int)(hm:(at0 x j.toNat).k=0\/(at0 x j.toNat).k=2)(br:am (am Val)):
 ZK left l j o br (λk=>YB br o (uw right k 0 br)) x=aeU l (UT j o left right x br):=by
 have hn:=adz (adO hx left);rw[asN];have aa:∀{g:am Val->Bool},(∀y∈br,g y=false)->aeU l ((br.filter g).foldl (λb y=>gm o y b) none)=aT l.length zw:=fun{g} h=>by rw[bS.2 λy hy=>d9];rfl
 unfold ZK;cases hk:qc x left with
 |none=>
  grind[VJ,uv]
 |some k=>
  rw[hk]at hn;cases ha:(zn x left).any (xf zw)
  .show(bif (at0 x j.toNat).k==2 then mjP br o (at0 x j.toNat).n l (YB br o (uw right k 0 br))else aT l.length zw)=_;rcases hm with h0|J
   .grind[VJ]
   rw[J];show mjP br o (at0 x j.toNat).n l (YB br o (uw right k 0 br))=_;unfold YB;rw[aBz,List.filter_filter];congr 2
   have U:∀(q:am Val->Bool) (i:Nat) (I:am (am Val)),br.drop i=I->((uw right k i I).filter (λn=>q (br.getD n.toNat []))).map (λn=>br.getD n.toNat [])=I.filter λy=>q y&&decide (qc y right=some k):=by
    intro q i I;induction I generalizing i with
    |nil=>intro _;rfl
    |cons r I P=>
     intro h;have R:br.drop (i+1)=I:=by rw[<-cj,h];rfl
     have J:br.getD i []=r:=by
      have:=aD (·[0]?) h;simp only[am.getElem?_drop,cP,am.getElem?_cons_zero]at this
      grind
     have P:=P (i+1) R;simp only[uw,cD,cr,P];rw[bQ (p:=λy=>q y&&decide (qc y right=some k))];cases decide (qc r right=some k)
     .simp
     simp only[aB,bQ,Int.toNat_natCast,J,List.filter_nil,c7]
     grind
   have:=U (λy=>decide ((at0 y o.toNat).n<=(at0 x j.toNat).n)&&!((at0 y o.toNat).k==0)) 0 br rfl;refine cU ?_ (this.trans ?_)
   .rfl
   grind[ajx,VJ,uv]
  grind
theorem QL(a b:Int):zI true a b=max a b:=by grind[zI]
theorem Vn(a b:Int):zI false a b=min a b:=by grind[zI]
section
variable (l:am Spa) (od:am Int)
def asl(j:Nat):Int:=(xI l (od.getD j 0)).b
def Gd:Nat->Nat->Nat->am Int->Prop
 |0,_,_,_=>True
 |f+1,lo,hi,g=>lo<hi->(∀j,lo<=j->j<hi->asl l od j<=g.getD ((lo+hi)/2) 0)/\Gd f lo ((lo+hi)/2) g/\Gd f ((lo+hi)/2+1) hi g
theorem aew:∀(f lo hi:Nat) (i g:am Int),Gd l od f lo hi i->(∀k,lo<=k->k<hi->g.getD k 0=i.getD k 0)->Gd l od f lo hi g
 |0,_,_,_,_,_,_=>trivial
 |f+1,lo,hi,i,g,h,hk=>λo=>by obtain⟨p,r,I⟩:=h o;exact⟨λj a b=>by rw[hk _ d8 d8];exact p j a b,aew f _ _ i g r λk a b=>hk k d8 d8,aew f _ _ i g I λk a b=>hk k d8 d8⟩
theorem agC:∀(f lo hi:Nat) (g:am Int) (k:Nat),k<lo\/hi<=k->(xU l od f lo hi g).2.getD k 0=g.getD k 0
 |0,_,_,_,_,_=>rfl
 |f+1,lo,hi,g,k,hk=>by
  simp only[xU];by_cases h:hi<=lo
  .grind
  rw[aJ h];simp only[aA];rw[am.getD_eq_getElem?_getD,am.getElem?_set_ne d8,<-am.getD_eq_getElem?_getD,agC f _ _ _ k d8,agC f _ _ _ k d8]
theorem abv:∀(f lo hi:Nat) (g:am Int),hi-lo<=f->∀j,lo<=j->j<hi->asl l od j<=(xU l od f lo hi g).1
 |0,lo,hi,_,p,j,i,o=>d8
 |f+1,lo,hi,g,p,j,i,o=>by
  simp only[xU];rw[aJ (by omega:¬hi<=lo)];simp only[aA,QL];by_cases a:j<(lo+hi)/2
  .have:=abv f lo ((lo+hi)/2) g d8 j i a;omega
  by_cases b:(lo+hi)/2+1<=j
  .have:=abv f ((lo+hi)/2+1) hi (xU l od f lo ((lo+hi)/2) g).2 d8 j b o;omega
  grind[asl]
theorem adF:∀(f lo hi:Nat) (g:am Int),hi-lo<=f->hi<=g.length->Gd l od f lo hi (xU l od f lo hi g).2
 |0,_,_,_,_,_=>trivial
 |f+1,lo,hi,g,o,I=>λr=>by
  have i:=abv l od (f+1) lo hi g o;have g1:=adF f lo ((lo+hi)/2) g d8 d8;have g2:=adF f ((lo+hi)/2+1) hi (xU l od f lo ((lo+hi)/2) g).2 d8 (by grind[YD]);have J:=λk h=>agC l od f ((lo+hi)/2+1) hi (xU l od f lo ((lo+hi)/2) g).2 k h
  have p:(xU l od f ((lo+hi)/2+1) hi (xU l od f lo ((lo+hi)/2) g).2).2.length=g.length:=by grind[YD]
  simp only[xU]at i⊢;rw[aJ (by omega:¬hi<=lo)]at i⊢;simp only[aA]at i⊢;refine⟨λj a b=>?_,aew l od f _ _ _ _ g1 λk a b=>?_,aew l od f _ _ _ _ g2 λk a b=>?_⟩
  .grind
  .grind
  grind
def UH(lo hi:Nat):am Int:=(od.drop lo).take (hi-lo)
theorem ao7{lo hi:Nat}(o:hi<=od.length):∀x∈UH od lo hi,∃j,lo<=j/\j<hi/\od.getD j 0=x:=λx l=>by obtain⟨i,g,rfl⟩:=cA l;unfold UH at g⊢;rw[dm,dl]at g;refine⟨lo+i,d8,d8,?_⟩<;>grind
theorem atg{lo m hi:Nat}(l:lo<=m)(o:m<hi)(p:hi<=od.length):UH od lo hi=UH od lo m++od.getD m 0::UH od (m+1) hi:=by
 unfold UH;have i:od.drop lo=(od.drop lo).take (m-lo)++od.drop m:=by conv=>lhs;rw[<-bE (m-lo) (od.drop lo),cj,show lo+(m-lo)=m by omega]
 have j:od.drop m=od.getD m 0::od.drop (m+1):=by grind[List.drop_eq_getElem_cons]
 have g:((od.drop lo).take (m-lo)).length=m-lo:=d9
 conv=>lhs;rw[i,j]
 rw[List.take_append,g,aZ d8,show hi-lo-(m-lo)=(hi-(m+1))+1 by omega,List.take_succ_cons]
def Wf(s:Spa)(n:Int):Bool:=(ui (xI l n).a (xI l n).b&&decide ((xI l n).b>s.a))&&decide ((xI l n).a<s.b)
theorem anz(s:Spa)(hs:ui s.a s.b=true)(o:am Int)(U:∀i j,i<j->j<od.length->(xI l (od.getD i 0)).a<=(xI l (od.getD j 0)).a):
 ∀(f lo hi:Nat) (st:am Int×Int),hi<=od.length->hi-lo<=f->Gd l od f lo hi o->(jx l od o s f lo hi st).1=st.1++(UH od lo hi).filter (Wf l s)
 |0,lo,hi,st,p,hf,_=>by grind[jx,UH]
 |f+1,lo,hi,st,p,hf,hg=>by
  simp only[jx];by_cases h1:hi<=lo
  .simp_all[UH]
  rw[aJ h1,bO];obtain⟨g1,g2,g3⟩:=hg d8;by_cases J:o.getD ((lo+hi)/2) 0<=s.a
  .rw[cz J];have:(UH od lo hi).filter (Wf l s)=[]:=bS.2 λx hx=>by grind[ao7,asl,Wf]
   grind
  rw[aJ J];simp only[aA];have R:lo<=(lo+hi)/2/\(lo+hi)/2<hi:=d8
  have g:=λst=>anz s hs o U f lo ((lo+hi)/2) st d8 d8 g2
  have r:=λst=>anz s hs o U f ((lo+hi)/2+1) hi st p d8 g3
  rw[atg od R.1 R.2 p,cD,bQ];by_cases P:(xI l (od.getD ((lo+hi)/2) 0)).a>=s.b
  .rw[cz P,aB,g];have I:Wf l s (od.getD ((lo+hi)/2) 0)=false:=by grind[Wf]
   have e2:(UH od ((lo+hi)/2+1) hi).filter (Wf l s)=[]:=bS.2 λx hx=>by
    obtain⟨j,a,b,rfl⟩:=ao7 od p x hx
    grind[Wf]
   grind
  rw[aJ P,aA,r];simp only[g];have I:Wf l s (od.getD ((lo+hi)/2) 0)=(ui (xI l (od.getD ((lo+hi)/2) 0)).a (xI l (od.getD ((lo+hi)/2) 0)).b&&(ui s.a s.b&&decide ((xI l (od.getD ((lo+hi)/2) 0)).b>s.a))):=by simp_all[Wf]
  rw[I];cases(ui (xI l (od.getD ((lo+hi)/2) 0)).a (xI l (od.getD ((lo+hi)/2) 0)).b&&(ui s.a s.b&&decide ((xI l (od.getD ((lo+hi)/2) 0)).b>s.a)))<;>simp
end
theorem awI(a b:Int):yw a b<=0↔a<=b:=by grind[yw]
theorem apt{p q:Nat}:∀{rows:am (am Val)}{l:am Spa},qm p q rows=some l->∀y∈rows,xx (at0 y p) (at0 y q)=true->ui (at0 y p).n (at0 y q).n=true
 |[],_,_,y,g,_=>by cases g
 |r::o,l,h,y,g,hB=>by
  simp only[qm]at h;cases hs:Ji p q r with
  |none=>rw[hs]at h;cases h
  |some u=>
   rw[hs]at h;obtain⟨l',i,_⟩:=aU.1 h;rcases aM.1 g with rfl|g
   .unfold Ji at hs;rw[hB]at hs;cases j:ui (at0 y p).n (at0 y q).n
    .rw[j]at hs;cases hs
    rfl
   exact apt i y g hB
theorem avY(l:am Spa){a b:Int}(h:Uk l a b<=0):(xI l a).a<=(xI l b).a:=by
 unfold Uk adL at h;rw[<-awI]
 revert h
 generalize yw (xI l a).a (xI l b).a=u;generalize yw (xI l a).b (xI l b).b=v;generalize yw a b=w;intro h;by_cases g:u=0
 .omega
 rw[show(u !=0)=true by grind,aB]at h;exact h
theorem azT(l:am Spa)(s:Spa)(hs:ui s.a s.b=true):Vb l s=(qA l.length).filter (Wf l s):=by
 have U:=aas l;have g:Z1 (Uk l) (wU l):=abX (aaL l) _;have p:(Qh l s).1=(wU l).filter (Wf l s):=by
  have:=anz l (wU l) s hs (YH l) (λi j o r=>by
   have:=bW.1 g i j d8 r o;have P:(wU l).getD i 0=(wU l)[i]:=d9
   have R:(wU l).getD j 0=(wU l)[j]:=d9
   simp_all[avY]) l.length 0 l.length ([],0) d8 d8 (adF l (wU l) l.length 0 l.length _ d8 dT)
  grind[Qh,UH]
 unfold Vb;rw[p];have hp:(VN ((wU l).filter (Wf l s))).Perm ((qA l.length).filter (Wf l s)):=(WA _).trans ((abB l).filter _);have I:(VN ((wU l).filter (Wf l s))).Pairwise (λa b=>a<=b):=by have:=List.pairwise_mergeSort (le:=λx y:Int=>decide (x<=y)) dX dX ((wU l).filter (Wf l s));exact this.imp λh=>aL h
 have J:((qA l.length).filter (Wf l s)).Pairwise (λa b=>a<=b):=by refine List.Pairwise.filter _ ?_;unfold qA;rw[c9];exact List.pairwise_lt_range.imp λh=>dX
 grind[gv]
theorem aj9(a b:Int):ui a b=true↔0<=a/\a<b/\b<=1000000000000:=by unfold ui;simp only[bK,cd];omega
theorem az2{a:am Val}(h:kvs a=some []):a=[]:=by
 cases a with
 |nil=>rfl
 |cons v a=>
  simp only[kvs]at h;cases hk:(v.k==0)<;>simp_all[ajv]
theorem az1{x y:am Val}{left right:am Int}{k:ByteArray}(l:left.length=right.length)(g:qc x left=some k):zo (J6 y right) k=xp (zn x left) (zn y right):=by
 rw[<-ajx l g];unfold J6;cases j:qc y right with
 |some z=>
  grind[AM.beqS_false]
 |none=>
  rw[Option.getD_none];have e:decide ((none:aP ByteArray)=some k)=false:=dT
  rw[e];refine(AM.beqS_false _ _).2 λh=>?_
  subst h;unfold qc at g j;rw[abs]at g j;obtain⟨z,p,hk⟩:=aU.1 g;have i:z=[]:=ang (y:=[]) hk;subst i;have h0:=az2 p;have o:left=[]:=by simp_all[zn]
  grind[zn]
theorem arF(p q I J:Int)(left right g:am Int)(hl:left.length=right.length)(x:am Val)(o r:Int)(k:ByteArray)(hk:qc x left=some k)(ha:(zn x left).any (xf zw)=false)
 (hv:ui (max o 0) (min r 1000000000000)=true) (br:am (am Val)) (l:am Spa):∀(i:Nat) (P:am (am Val)) (ls:am Spa),br.drop i=P->l.drop i=ls->qm I.toNat J.toNat P=some ls->
 (((List.range' i P.length).map cJ).filter (Wf l ⟨max o 0,min r 1000000000000⟩)).flatMap (abW p q right g br l x k (max o 0) (min r 1000000000000))=wF p q I J left right g x o r P
 |_,[],_,_,_,_=>rfl
 |i,y::P,ls,h1,h2,U=>by
  simp only[qm]at U;cases j:Ji I.toNat J.toNat y with
  |none=>grind
  |some u=>
   rw[j]at U;obtain⟨R,h4,rfl⟩:=aU.1 U;have d1:br.drop (i+1)=P:=by rw[<-cj,h1];rfl
   have d2:l.drop (i+1)=R:=by rw[<-cj,h2];rfl
   have ih:=arF p q I J left right g hl x o r k hk ha hv br l (i+1) P R d1 d2 h4;have e1:Zx br (cJ i)=y:=by
    have:=aD (·[0]?) h1;simp only[am.getElem?_drop,cP,am.getElem?_cons_zero]at this
    grind[Zx]
   have e2:xI l (cJ i)=u:=by
    have:=aD (·[0]?) h2;simp only[am.getElem?_drop,cP,am.getElem?_cons_zero]at this
    grind[xI]
   have aa:(bif Wf l ⟨max o 0,min r 1000000000000⟩ (cJ i)then abW p q right g br l x k (max o 0) (min r 1000000000000) (cJ i)else [])=
    (bif Yb I J left right o r x y then [Je p q g x y (zI true o (at0 y I.toNat).n) (zI false r (at0 y J.toNat).n)]else []):=by
    unfold Wf abW Yb amy Je uv;rw[e1,e2,az1 hl hk,ha];simp only[QL,Vn];unfold Ji at j;cases hB:xx (at0 y I.toNat) (at0 y J.toNat)
    .grind
    rw[hB]at j;cases hV:ui (at0 y I.toNat).n (at0 y J.toNat).n
    .grind
    rw[hV]at j;cases j;obtain⟨v1,v2,v3⟩:=(aj9 _ _).1 hV;obtain⟨w1,w2,w3⟩:=(aj9 _ _).1 hv;simp only[hV,bT,Bool.not_false,c7]
    grind
   grind[List.range'_succ,wF]
theorem aBJ{cols:am Col}{x:am Val}(U:zN cols x)(p q i j:Int)(left right g:am Int)(hl:left.length=right.length)(br:am (am Val))(l:am Spa)(h:qm i.toNat j.toNat br=some l):
 sjX p q left right g br l x=XO p q i j left right g br x:=by
 have R:=adz (adO U left);have P:=ag9 h;unfold sjX XO;have r:∀{I J:Int},(∀y∈br,Yb i j left right I J x y=false)->wF p q i j left right g x I J br=[]:=fun{I J} h=>by grind[wF,List.flatMap_eq_nil_iff]
 cases hB:xx (at0 x p.toNat) (at0 x q.toNat)
 .rfl
 simp only[cG,bO,aB,QL,Vn];cases hk:qc x left with
 |none=>
  grind[Yb,uv]
 |some k=>
  rw[hk]at R;cases ha:(zn x left).any (xf zw)
  .cases hv:ui (max (at0 x p.toNat).n 0) (min (at0 x q.toNat).n 1000000000000)
   .refine(r λy hy=>?_).symm;unfold Yb;cases o:xx (at0 y i.toNat) (at0 y j.toNat)
    .rfl
    have aa:=apt h y hy o<;>grind[aj9,QL,Vn]
   grind[Kr,J6,azT,qA,List.range_eq_range',arF]
  grind
theorem axb{cols:am Col}{x:am Val}(i:zN cols x){s:ByteArray}(h:colInt cols s=0):(at0 x (zf cols s).toNat).k=0\/(at0 x (zf cols s).toNat).k=2:=by
 obtain⟨hi,g⟩:=V1 h;have:=i.get hi;rw[g]at this;rcases this with e|⟨e,_⟩|⟨_,n,_,e⟩|⟨e,_⟩
 .left;rw[e];rfl
 .cases e
 .right;rw[e];rfl
 cases e
theorem aok(d:am Nmd)(t:Tbl)(op:Int)(st:Stp)(h1:yH d=0)(p:zH t=0)(h3:op=3->st.op=7)(r:op=4->st.op=8)(h5:op=5->st.op=6):oStep d t (op,st)=nStepL d t st:=by
 obtain⟨_,R,o⟩:=(jb t).1 p;have l:nStepL d t st=bif (zT d t.cols st).1 !=0 then((zT d t.cols st).1,⟨[],[]⟩)else xG (zT d t.cols st).2 (stR d t st):=by grind[nStepL]
 unfold oStep;simp only;cases I:((zT d t.cols st).1 !=0)
 .rw[aA];rw[I,aA]at l;have i:(zT d t.cols st).1=0:=d9
  by_cases U:op=3
  .subst U;rw[show((3:Int)==3)=true from rfl,aB,l];congr 1
   grind[spansR,stR,xL,zi,JP,aBJ]
  rw[show(op==3)=false by grind,aA];by_cases o4:op=4
  .subst o4;rw[show((4:Int)==4)=true from rfl,aB,l];have j:=r rfl;have J:=qV (.inr (.inr j)) i;have g:=i;rw[J]at g;obtain⟨b,hb,P⟩:=vd g;have hi:=P.i1;rw[show Vx st.op=[sFrom]by rw[j];rfl]at hi;simp only[intErr]at hi;rw[XW]at hi;have e:stR d t st=t.rows.map (w7 (zf t.cols sFrom) (zf (qb d st).cols sFrom) (zi t.cols st.cols) (zi (qb d st).cols st.cols) (oth (st.cols++[sFrom]) 0 (qb d st).cols) (qb d st).rows):=by grind[stR]
   have e2:mergeR t (qb d st) st.cols=stR d t st:=by grind[mergeR,bX,w7,auR,zi,axb]
   simp_all[xG]
  rw[show(op==4)=false by grind,aA];by_cases o5:op=5
  .simp_all[stR,aw7]
  rw[show(op==5)=false by grind,aA]
 simp_all
theorem ak0{F G:Tbl->Int×Stp->Int×Tbl}(V:Tbl->Prop)(N:Int×Stp->Prop)(h:∀t x,V t->N x->F t x=G t x)(hv:∀t x,V t->N x->(F t x).1=0->V (F t x).2):∀(l:am (Int×Stp)) (t:Tbl),V t->(∀x∈l,N x)->Ww F t l=Ww G t l
 |[],_,_,_=>rfl
 |x::l,t,i,g=>by
  have e:=h t x i (g x dT);simp only[Ww];rw[<-e];cases o:((F t x).1 !=0)
  .simp only[aA];exact ak0 V N h hv l _ (hv t x i (g x dT) d9) λy j=>g y (by simp[j])
  rfl
theorem avf(d:am Nmd)(t:Tbl)(l:am (Int×Stp))(j:yH d=0)(o:zH t=0)(p:∀x∈l,ahg x):Ww (oStep d) t l=Ww (λt x=>nStepL d t x.2) t l:=
 ak0 (λt=>zH t=0) ahg (λt x i g=>aok d t x.1 x.2 j i g.1 g.2.1 g.2.2) (λt x i g h=>gn d t x.1 x.2 j i g.1 g.2.1 g.2.2 h) l t o p
theorem aA5{u w:Val}(g:Bl u)(i:Bl w)(h:ww u w=zM true):u=zM true/\w=zM true:=by
 have:=and_true g i;rw[h,(Jp _ _).2 rfl]at this;have:=this.symm;rw[bK]at this
 grind[Jp]
theorem kk{cols:am Col}{row:am Val}(P:vT cols row=true):∀(e:Ex),e.err=0->(e.ty cols).2=0->e.val cols row=zM true->∀x∈e.opds,x.err=0/\(x.ty cols).2=0/\x.val cols row=zM true
 |.mk op nm v ks,J,j,hv=>by
   intro x p;have U:=vf J;have g:=un U.2;obtain⟨l,o⟩:=aaS j;have i:=aaP cols l
   match ks,J,j,hv,p,g,l,o,i with
   |[a,b],J,j,hv,r,g,l,o,i=>
     simp only[Ex.opds]at r;cases h:(op !=14)
     .rw[h,aA]at r;have R:op=14:=by simpa using h
      subst R;rw[ae8 l]at o;have aa:=(yK (show(vp (xi [(a.ty cols).1,(b.ty cols).1] 1) 1).2=0 from o)).1;obtain⟨k1,k2⟩:=aa5 aa;have b1:=(aaT P a (g a dT) (i a dT)).bl k1;have b2:=(aaT P b (g b dT) (i b dT)).bl k2;have ab:ww (a.val cols row) (b.val cols row)=zM true:=hv;obtain⟨v1,v2⟩:=aA5 b1 b2 ab;rcases bM.1 r with I|I
      .exact kk P a (g a dT) (i a dT) v1 x I
      exact kk P b (g b dT) (i b dT) v2 x I
     simp_all
   |[],J,j,hv,p,_,_,_,_=>rw[aK.1 p];grind
   |[_],J,j,hv,p,_,_,_,_=>rw[aK.1 p];grind
   |_::_::_::_,J,j,hv,p,_,_,_,_=>rw[aK.1 p];grind
def InB(cols:am Col)(row:am Val)(b:Bnd):Prop:=(at0 row (zf cols b.col).toNat).k=2/\b.lo<=(at0 row (zf cols b.col).toNat).n/\(at0 row (zf cols b.col).toNat).n<=b.hi
theorem ab2{a b:Bool}(h:zM a=zM b):a=b:=by
 cases a<;>cases b
 .rfl
 .cases h
 .cases h
 rfl
theorem aA9(a b:Int):yw a b=0↔a=b:=by have g:=Qd a b<;>grind[gS]
theorem aqS{op a b:Int}{i s t:ByteArray}(g:op=10\/op=12\/op=13)(h:qX op i [⟨2,a,s⟩,⟨2,b,t⟩]=zM true):(op=10->a=b)/\(op=12->a<b)/\(op=13->a<=b):=by
 rcases g with rfl|rfl|rfl
 .have h:zM (((true&&(yw a b==0))||false||false)||false)=zM true:=h;have:=ab2 h<;>simp_all[aA9]
 .have h:zM (((false||false)||(true&&decide (yw a b<0)))||false)=zM true:=h;have:=ab2 h<;>simp_all[Qd]
 have h:zM (((false||false)||false)||(true&&decide (yw a b<=0)))=zM true:=h;have:=ab2 h<;>simp_all[gS]
theorem KQ{cols:am Col}{op:Int}{left:Bool}{g:Int}{fn:ByteArray}{i:Int}{v:Val}{b:Bnd}(h:kO cols op left g fn i v=some b):
 g=2/\i=1/\v.k=2/\0<=zf cols fn/\xA cols (zf cols fn)=2/\b=Qa op v.n left fn:=by
 unfold kO at h;cases j:(((((g !=2)||(i !=1))||(v.k !=2))||decide (zf cols fn<0))||(xA cols (zf cols fn) !=2))
 .simp_all
 grind
theorem awB{cols:am Col}{row:am Val}(hf:vT cols row=true){x:Ex}(he:x.err=0)(hv:x.val cols row=zM true){b:Bnd}(p:Xq cols x=some b):InB cols row b/\0<=zf cols b.col/\xA cols (zf cols b.col)=2:=by
 obtain⟨op,P,v,ks⟩:=x;unfold Xq at p;split at p
 case h_2=>cases p
 rename_i ah ag v' o1 i v1 k1 o2 j v2 k2 heq;cases heq;have af:=un (vf he).2;cases ab:((op !=12&&op !=13)&&op !=10)
 .rw[ab,aA]at p;have g:op=10\/op=12\/op=13:=d9
  have I:(bif xW [(Ex.mk o1 i v1 k1).val cols row,(Ex.mk o2 j v2 k2).val cols row]then zw else qX op P [(Ex.mk o1 i v1 k1).val cols row,(Ex.mk o2 j v2 k2).val cols row])=zM true:=by rcases g with rfl|rfl|rfl<;>exact hv
  have fld:∀{fn:ByteArray},0<=zf cols fn->xA cols (zf cols fn)=2->(at0 row (zf cols fn).toNat).k≠0->∃m,inB m=true/\at0 row (zf cols fn).toNat=abA m:=fun{fn} h0 J hn=>by
   have aa:(zf cols fn).toNat<cols.length:=by
    have:=Yp (λx=>zo x.name fn) cols 0 (bJ _)
    grind[zf]
   have r:=agp hf aa;have ac:cols[(zf cols fn).toNat].t=2:=by grind[xA]
   rw[ac]at r;exact r.num hn rfl
  have nn:∀{u w:Val}{f:Val->Val->Val},(bif xW [u,w]then zw else f u w)=zM true->u.k≠0/\w.k≠0/\f u w=zM true:=fun{u w f} h=>by
   cases ha:xW [u,w]
   .rw[ha,aA]at h;simp_all[xW]
   rw[ha]at h;cases h
  cases hl:(o1==2)
  .rw[hl,aA]at p;obtain⟨rfl,rfl,hk,h0,J,rfl⟩:=KQ p;obtain⟨w1,w2,R⟩:=nn (f:=λu w=>qX op P [u,w]) (show(bif xW [v1,at0 row (zf cols j).toNat]then zw else qX op P [v1,at0 row (zf cols j).toNat])=zM true from I);obtain⟨m,hm,e⟩:=fld h0 J w2;obtain⟨ad,l,ai⟩:=v1;have hk:ad=2:=hk;subst hk;simp only[e,abA]at R;obtain⟨c1,c2,c3⟩:=aqS g R;have U:=q0 hm;refine⟨⟨by show(at0 row (zf cols j).toNat).k=2;rw[e];rfl,?_,?_⟩,h0,J⟩
   .show(Qa op l false j).lo<=(at0 row (zf cols j).toNat).n;rw[e];show(Qa op l false j).lo<=m
    grind[Qa]
   show(at0 row (zf cols j).toNat).n<=(Qa op l false j).hi;rw[e];show m<=(Qa op l false j).hi
   grind[Qa]
  rw[hl,aB]at p;obtain⟨rfl,rfl,hk,h0,J,rfl⟩:=KQ p;obtain⟨w1,w2,R⟩:=nn (f:=λu w=>qX op P [u,w]) (show(bif xW [at0 row (zf cols i).toNat,v2]then zw else qX op P [at0 row (zf cols i).toNat,v2])=zM true from I);obtain⟨m,hm,e⟩:=fld h0 J w1;obtain⟨ae,o,aj⟩:=v2;have hk:ae=2:=hk;subst hk;simp only[e,abA]at R;obtain⟨c1,c2,c3⟩:=aqS g R;have U:=q0 hm;refine⟨⟨by show(at0 row (zf cols i).toNat).k=2;rw[e];rfl,?_,?_⟩,h0,J⟩
  .show(Qa op o true i).lo<=(at0 row (zf cols i).toNat).n;rw[e];show(Qa op o true i).lo<=m
   grind[Qa]
  show(at0 row (zf cols i).toNat).n<=(Qa op o true i).hi;rw[e];show m<=(Qa op o true i).hi
  grind[Qa]
 grind
def awd(cols:am Col)(row:am Val)(p:Bnd):Prop:=p.col=⟨#[]⟩\/(InB cols row p)
theorem ala{cols:am Col}{row:am Val}(j:vT cols row=true):∀(l:am Ex) (p:Bnd),(∀x∈l,x.err=0/\x.val cols row=zM true)->awd cols row p->awd cols row (l.foldl (λp e=>jp p (Xq cols e)) p)
 |[],p,_,i=>i
 |x::l,p,o,i=>by
  rw[cw];refine ala j l _ (λy hy=>o y (by simp[hy])) ?_;cases P:Xq cols x with
  |none=>exact i
  |some b=>
   obtain⟨⟨g,i2,i3⟩,_,_⟩:=awB j (o x dT).1 (o x dT).2 P;unfold jp;simp only;cases I:(!zo p.col ⟨#[]⟩&&!zo p.col b.col)
   .rw[aA];cases J:zo p.col ⟨#[]⟩
    .rw[aA];rw[J]at I;have U:p.col=b.col:=(AM.beqS_iff _ _).1 d9;rcases i with i|⟨q1,q2,q3⟩
     .grind
     rw[<-U]at g i2 i3;refine .inr ⟨q1,?_,?_⟩<;>grind[QL,Vn]
    rw[aB];have R: -1000000000000000<=(at0 row (zf cols b.col).toNat).n/\(at0 row (zf cols b.col).toNat).n<=1000000000000000:=by
     by_cases r:(zf cols b.col).toNat<cols.length
     .have:=agp j r;obtain⟨m,hm,e⟩:∃m,inB m=true/\at0 row (zf cols b.col).toNat=abA m:=by
       rcases this with e|⟨_,c,e⟩|⟨_,n,hn,e⟩|⟨_,s,_,e⟩
       .rw[e]at g;cases g
       .rw[e]at g;cases g
       .grind
       grind
      rw[e];exact q0 hm
     grind[vT,at0,zw]
    refine .inr ⟨g,?_,?_⟩<;>grind[QL,Vn]
   simp_all
theorem avC{cols:am Col}{row:am Val}(j:vT cols row=true){e:Ex}(o:e.err=0)(i:(e.ty cols).2=0)(hv:e.val cols row=zM true)(l:zo (yJ (vm cols e.opds)).col ⟨#[]⟩=false):
 K2 (zf cols (yJ (vm cols e.opds)).col).toNat (yJ (vm cols e.opds)).lo (yJ (vm cols e.opds)).hi row=true:=by
 have h:=ala j e.opds ⟨⟨#[]⟩,0,0⟩ (λx r=>⟨(kk j e o i hv x r).1,(kk j e o i hv x r).2.2⟩) (.inl rfl);have h:awd cols row (vm cols e.opds):=h;generalize vm cols e.opds=p at*;have g:(yJ p).col=p.col:=by grind[yJ]
 rw[g]at l⊢;rcases h with h|⟨a,b,c⟩<;>grind[AM.beqS_self,yJ,K2]
def Qt(g:ByteArray):Pln:=.mk 1 g ⟨#[]⟩ 0 0 ua []
def Zr(g:ByteArray)(cols:am Col):am Stp->Pln
 |[]=>Qt g
 |s::_=>bif s.op==1 then wT g cols s.cond.foldE else Qt g
theorem ahp(g:ByteArray)(cols:am Col)(l:am Stp):∃b:Bnd,Zr g cols l=awy g b:=by
 cases l with
 |nil=>exact⟨⟨⟨#[]⟩,0,0⟩,rfl⟩
 |cons s r=>
  show∃b,(bif s.op==1 then wT g cols s.cond.foldE else Qt g)=awy g b;cases(s.op==1)
  .exact⟨⟨⟨#[]⟩,0,0⟩,rfl⟩
  exact⟨_,rfl⟩
theorem av0(o:Int):w9 (u6 o) ⟨#[]⟩ ⟨#[]⟩ 0 0 o 1=true:=by
 unfold w9;rw[AM.beqS_self];simp only[cG,bO,bne_self_eq_false,aA]
 grind[u6]
theorem azU(s:Stp):s.foldS.op=s.op:=by grind[Stp.foldS]
theorem aol(g:ByteArray)(cols:am Col)(i:Nat)(p:Pln)(s:Stp):
 (ofP g cols i p s).base=((bif s.op==1&&((i:Int)==0)then wT g cols s.cond.foldE else p).base.1,(bif s.op==1&&((i:Int)==0)then wT g cols s.cond.foldE else p).base.2++[s.foldS])/\
 (ofP g cols i p s).nodes=(bif s.op==1&&((i:Int)==0)then wT g cols s.cond.foldE else p).nodes++[(u6 s.op,s.foldS)]:=by
 unfold ofP;have h:w9 (u6 s.op) ⟨#[]⟩ ⟨#[]⟩ 0 0 s.foldS.op 1=true:=by grind[azU,av0]
 simp_all[Pln.base,Pln.nodes]
theorem axX(g:ByteArray)(cols:am Col)(l:am Stp):∀i,i+1<=l.length->(QM g cols l (i+1)).base=(Zr g cols l,(l.take (i+1)).map Stp.foldS)/\(QM g cols l (i+1)).nodes=(l.take (i+1)).map λs=>(u6 s.op,s.foldS):=by
 intro i;induction i with
 |zero=>
  intro h;obtain⟨s,r,rfl⟩:∃s r,l=s::r:=by cases l<;>grind
  have j:=aol g cols 0 (Qt g) s;show(ofP g cols 0 (Qt g) s).base=_/\(ofP g cols 0 (Qt g) s).nodes=_;rw[j.1,j.2];have e:(bif s.op==1&&(((0:Nat):Int)==0)then wT g cols s.cond.foldE else Qt g)=Zr g cols (s::r):=by show(bif s.op==1&&true then wT g cols s.cond.foldE else Qt g)=_;rw[c7];rfl
  rw[e];have R:(Zr g cols (s::r)).base=(Zr g cols (s::r),[])/\(Zr g cols (s::r)).nodes=[]:=by obtain⟨b,j⟩:=ahp g cols (s::r);rw[j];exact⟨rfl,rfl⟩
  grind
 |succ i P=>
  intro h;obtain⟨p,I⟩:=P d8;have J:l.getD (i+1) ua=l[i+1]:=d9
  have j:=aol g cols (i+1) (QM g cols l (i+1)) l[i+1];have e:QM g cols l (i+1+1)=ofP g cols (i+1) (QM g cols l (i+1)) l[i+1]:=by rw[<-J];rfl
  rw[e,j.1,j.2];have o:(((i+1:Nat):Int)==0)=false:=dX
  rw[o,Bool.and_false,aA,p,I]
  grind[zJ]
theorem ajC(g:ByteArray)(cols:am Col)(l:am Stp):(QM g cols l l.length).base=(Zr g cols l,l.map Stp.foldS)/\(QM g cols l l.length).nodes=l.map λs=>(u6 s.op,s.foldS):=by
 cases l with
 |nil=>exact⟨rfl,rfl⟩
 |cons s r=>
  grind[axX]
theorem aBZ(z l:Bool)(g cols j i n:Int)(tb:ByteArray):X6 1 z g cols j i n tb=X6 1 l g cols j i n tb:=by grind[X6,JU]
theorem agq{d:am Nmd}{cols:am Col}{s:Stp}(h:(zT d cols s).1=0):s.foldS.err=0/\zT d cols s.foldS=zT d cols s:=by
 have r:=QR h;by_cases g:s.op=1
 .obtain⟨o,p⟩:=aiQ g h;obtain⟨i,j,l,_⟩:=V4 (Kx g h)
  grind[Stp.foldS,Stp.err,Stp.uses,aBZ,zT,whT,ab6,dj,aq2]
 grind[Stp.foldS]
theorem akz{d:am Nmd}:∀{l:am Stp}{cols:am Col},(jV d cols l).1=0->jV d cols (l.map Stp.foldS)=jV d cols l/\∀s∈l,s.foldS.err=0
 |[],_,_=>⟨rfl,λ_ h=>by cases h⟩
 |s::r,cols,h=>by
  simp only[jV]at h;cases g:((zT d cols s).1 !=0)
  .rw[g,aA]at h;have h0:(zT d cols s).1=0:=d9
   obtain⟨i,j⟩:=agq h0;obtain⟨o,i2⟩:=akz h<;>simp_all[jV]
  rw[g,aB]at h
  grind
theorem ayX{d:am Nmd}{t:Tbl}{s:Stp}(h:(zT d t.cols s).1=0):stR d t s.foldS=stR d t s:=by
 by_cases i:s.op=1
 .have g:s.foldS=⟨s.op,s.cond.foldE,s.items,s.cols,s.aggs,s.sorts,s.n,s.table⟩:=by grind[Stp.foldS]
  obtain⟨_,_,_,j⟩:=V4 (Kx i h);have e:∀u:Stp,u.op=1->stR d t u=whereR t.cols t.rows u.cond:=λu l=>by grind[stR]
  rw[e s i,e s.foldS d9,g];unfold whereR condB;congr 1
  funext r;rw[j r]
 grind[Stp.foldS]
noncomputable def runS(d:am Nmd):Tbl->am Stp->Int×Tbl
 |t,[]=>(0,t)
 |t,s::r=>bif (nStepL d t s).1 !=0 then((nStepL d t s).1,⟨[],[]⟩)else runS d (nStepL d t s).2 r
theorem ave(d:am Nmd)(g:Stp->Int×Stp)(i:∀s,(g s).2=s.foldS):∀(l:am Stp) (t:Tbl),Ww (λt x=>nStepL d t x.2) t (l.map g)=runS d t (l.map Stp.foldS)
 |[],t=>rfl
 |s::r,t=>by simp only[aX,Ww,runS,i s,ave d g i r]
theorem adG{d:am Nmd}{t:Tbl}{s:Stp}(g:yH d=0)(i:zH t=0)(j:(zT d t.cols s).1=0):nStepL d t s=xG (zT d t.cols s).2 (stR d t s):=by grind[nStepL]
theorem adH{d:am Nmd}{t:Tbl}{s:Stp}(g:yH d=0)(i:zH t=0)(h:(nStepL d t s).1=0):zH (nStepL d t s).2=0:=by
 have e:=aok d t 2 s g i (λe=>by cases e) (λe=>by cases e) (λe=>by cases e)
 grind[gn]
theorem aqb{d:am Nmd}{t:Tbl}{s:Stp}(g:yH d=0)(i:zH t=0)(j:(zT d t.cols s).1=0)(h:(nStepL d t s).1=0):(nStepL d t s).2.cols=(zT d t.cols s).2:=by simp_all[adG,aeP]
theorem adW{d:am Nmd}(i:yH d=0):∀{l:am Stp}{t:Tbl},zH t=0->(jV d t.cols l).1=0->runS d t (l.map Stp.foldS)=runS d t l
 |[],_,_,_=>rfl
 |s::r,t,j,h=>by
  simp only[jV]at h;cases o:((zT d t.cols s).1 !=0)
  .rw[o,aA]at h;have h0:(zT d t.cols s).1=0:=d9
   obtain⟨J,P⟩:=agq h0;have p:nStepL d t s.foldS=nStepL d t s:=by grind[adG,ayX]
   simp only[aX,runS];rw[p];cases I:((nStepL d t s).1 !=0)
   .rw[aA,aA];have g:(nStepL d t s).1=0:=by simpa using I
    exact adW i (adH i j g) (by rw[aqb i j h0 g];exact h)
   rfl
  rw[o,aB]at h
  grind
noncomputable def nRunL(d:am Nmd)(q:Qry):Int×Tbl:=bif (vi d q).1 !=0 then((vi d q).1,⟨[],[]⟩)else runS d (Ks d q) q.steps
end
end Go.Proofs.YtkdijaiaplkliaaGreatDoor
