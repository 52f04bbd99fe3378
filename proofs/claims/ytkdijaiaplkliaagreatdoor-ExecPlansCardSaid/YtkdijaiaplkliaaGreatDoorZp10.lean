import Derived.Shelf.RegionOpenPlain
import Derived.Lib.JoinLaws
import Derived.Lib.AppendZerosOnto
import Derived.Lib.Overlaps
import Derived.Laws.Externs
import Derived.Laws.IdiomCopy
import Derived.Laws.NewBlocks
import Derived.ProofKit
import Derived.ChangeArms
import Derived.DataReads
import Derived.Carry
import Derived.Below
import Derived.ChangeSame
import Derived.WalkKit
import Derived.OpenShut
import Derived.JoinedOf
import Derived.Shelf.Strings.Builder1
import Derived.Shelf.Strconv.Itoa3
import Derived.Shelf.Strconv.Quote
import Derived.Shelf.LaysM
import Derived.Ground.NamesProg
import Derived.Test.YtkdijaiaplkliaaGreatDoorProg
import Derived.Lib.QuoteLoop
import Derived.Lib.ItoaLen
import Derived.Deep.RegionHeld3
import Derived.Test.YtkdijaiaplkliaaGreatDoorZp9
set_option linter.unusedSimpArgs false
set_option linter.unusedVariables false
set_option maxRecDepth 100000
set_option maxHeartbeats 4000000
open _root_ renaming List->am,cond_false->aB,cond_true->aE,congrArg->aF,Option->aT,of_decide_eq_true->aV,Array->bB,of_decide_eq_false->bK,if_pos->bX,decide_eq_false->cg,if_neg->cm,decide_eq_true->c7,decide_eq_true_eq->dz,bne_self_eq_false->dC
open List renaming length_append->aA,getElem_mem->aD,replicate->aH,mem_of_getElem?->aJ,length_take->aL,length_cons->aP,drop_eq_nil_of_le->aR,take->aS,mem_cons_self->aU,map_cons->aZ,take_of_length_le->bA,append_nil->bE,mem_append->bF,mem_map->bG,append_assoc->bH,mem_cons->bI,cons_append->bL,length_drop->bM,take_length->bN,mem_singleton->bO,length_nil->bQ,map_set->bV,mem_flatMap->bW,ext_getElem?->bZ,not_mem_nil->cd,mem_of_mem_drop->cr,take_append_of_le_length->cw,mem_cons_of_mem->cA,length->cB,foldl_cons->cC,length_set->cD,map_append->cE,mem_or_eq_of_mem_set->cN,filter_cons->cR,map_nil->cT,nodup_cons->cY,length_map->cZ,mem_append_right->c9,nodup_nil->df,take_zero->dh,take_left->dj,mem_append_left->dm,take_succ_cons->dt,getElem_set_ne->du
open Go.AM.Sat renaming w->aC,mono->cq,cal->cP
open Go renaming World->aG,IntKind->aO,Builtin->aW,DataW->bD,Calls->b9,grownCap->cj,heap_setCell_other->cG,MemPlace->cK,Addr->dn,run_callFunc_extern->dq,grownCap_le_maxLen->dv
open Nat renaming le_refl->aI,le_trans->aM,zero_le->aN,eq_of_beq_eq_true->bU,min->cH,zero_add->cU,le_of_ble_eq_true->c8,mul_le_mul_right->dd,min_def->dl
open Go.IntKind renaming i64->aK
open Bool renaming and_eq_true->aQ,false_and->de,or_eq_false_iff->dg,not_false->di,true_and->dw
open Go.Lib renaming byteCells->aX,cell_of_heap->bC,IsBuilder->bS,BuilderAt->bT
open Go.Builtin renaming zeroCells->aY,copy_->bJ,firstCells->dy
open Go.Value renaming okWide->bP
open Option.some renaming inj->bR
open Array renaming size_append->bY
open Go.DataW renaming TrodAll->ck
open Go.World renaming cell?->cz
open Go.Addr renaming add_lit->cJ
open Go.Result renaming andThen->cL
open Go.Proofs.YtkdijaiaplkliaaGreatDoor.Stp renaming ds->cM
open Int renaming eq_ofNat_of_zero_le->cS
open Option renaming map_eq_some_iff->cX
open Go.Oper renaming upon_value->c6
open And renaming intro->dr
open Go.Region renaming wanted->dx
namespace Go.Proofs.YtkdijaiaplkliaaGreatDoor
open Go Go.AM
section
attribute [local irreducible] Sat zA zX
def nrQ(a b:Tbl)(g:am ByteArray):Res:=bif (ZA 8 g a b).1 !=0 then qY ⟨[],[]⟩ (ZA 8 g a b).1 else
 qY ⟨(ZA 8 g a b).2,a.rows.map (w7 (zf a.cols sFrom) (zf b.cols sFrom) (zi a.cols g) (zi b.cols g) (oth (g++[sFrom]) 0 b.cols) b.rows)⟩ 0
theorem afQ(a b:Tbl)(g:am ByteArray)(ai:g.length<=100000)(ad:a.cols.length<=1000000)(I:b.cols.length<=1000000):dY V9 [a.w,b.w,.c (.d (.sl (zp g)))] (nrQ a b g):=by
 have hc:=abU 8 g a b d8 ad I;have l:=@akc 8 g a b d8;have af:=qE a.cols (.sl (zg a.rows)) g d8;have ag:=qE b.cols (.sl (zg b.rows)) g d8;have U:=xC a.cols (.d (.sl (zg a.rows))) sFrom ⟨_,rfl⟩;have aa:=xC b.cols (.d (.sl (zg b.rows))) sFrom ⟨_,rfl⟩;have P:=ag5 b.cols (.sl (zg b.rows)) (g++[sFrom]) I;have ae:=uy g d8;have R:dY Ya [b.w,.c (.d (.sl (aS ((zp g).length+(aS 1 (zp [sFrom])).length) (aS (zp g).length (zp g)++aS 1 (zp [sFrom])))))] (rC (.d (.sl (zh (oth (g++[sFrom]) 0 b.cols))))):=by
  rw[show aS ((zp g).length+(aS 1 (zp [sFrom])).length) (aS (zp g).length (zp g)++aS 1 (zp [sFrom]))=zp (g++[sFrom])by grind[zp]]
  exact P
 unfold nrQ;generalize ZA 8 g a b=c at*;obtain⟨c1,c2⟩:=c;simp only at l⊢;refine zC ?_;obtain⟨j,ar⟩:=a;obtain⟨i,br⟩:=b;simp only at*;refine xE.s T8 ?_;refine aC hc ?_;refine zx (λo=>?_) (λo=>?_)
 .rw[show(c1 !=0)=true from o];exact⟨rfl,rfl⟩
 have o:(c1 !=0)=false:=o;rw[o];have ab:c1=0:=d9
 subst ab;obtain⟨ka,kb,hj⟩:=l rfl;obtain⟨i1,i2⟩:=Zt hj.jn;have i3:=vU hj.i1;have i4:=vU hj.i2;have wa:=wP ka;have wb:=wP kb;have fa:=xT ka;have fb:=xT kb;have ol:=Vp (g++[sFrom]) i 0;have oi:=aat (g++[sFrom]) i;have l1:(zi j g).length=g.length:=by simp[zi]
 have l2:(zi i g).length=g.length:=by simp[zi]
 have q1:0<=zf j sFrom/\zf j sFrom<j.length:=i3 _ (aU ..);have q2:0<=zf i sFrom/\zf i sFrom<i.length:=i4 _ (aU ..)
 have hm:=λ(s:S)=>aCq (s:=s) c2 i br (zi j g) (zi i g) (zf j sFrom) (zf i sFrom) (oth (g++[sFrom]) 0 i) ar d9 d9 d8 d8 d9
  (λx hx=>d9)
  (λy hy=>d9)
 clear i1 i2 i3 i4 wa wb fa fb ol oi l1 l2 hj ka kb l o q1 q2;generalize zf j sFrom=p at*;generalize zf i sFrom=p2 at*;generalize zi j g=left at*;generalize zi i g=right at*;generalize oth (g++[sFrom]) 0 i=ah at*;refine aC af ?_;refine aC ag ?_;refine aC U ?_;refine aC aa ?_
 repeat' (first
  |(refine cq U ?_;rintro _ rfl;conv=>whnf)
  |(refine cq aa ?_;rintro _ rfl;conv=>whnf)
  |(refine cq ae ?_;rintro _ (⟨J,rfl⟩|rfl)<;>conv=>whnf)
  |(refine⟨dT,by unfold yz;simp only[zP];simp;omega,by simp only[zP];simp;omega,?_⟩;conv=>whnf)
  |(refine⟨dT,by unfold yz;simp,dT,?_⟩;conv=>whnf)
  |(refine cq R ?_;rintro _ rfl;conv=>whnf)
  |(subst J;refine cq P ?_;rintro _ rfl;conv=>whnf)
  |(refine dr ?_ ?_<;>conv=>whnf))
 all_goals rw[zy]
 all_goals refine hm _ ⟨_,uG 15 1 139 1 d8 d8 rfl,?_⟩
 all_goals conv=>whnf
 all_goals rfl
namespace So.P
structure En(α:Type) where
 d0:α->D
 d1:α->D
 d2:α->D
abbrev en{α:Type}(E:En α)(x:α):am D:=[E.d0 x,E.d1 x,E.d2 x]
abbrev sz:Nat:=3
abbrev cal{α:Type}(E:En α)(x y:α):am W:=[.agg [.d (E.d0 x),.d (E.d1 x),.d (E.d2 x)],.agg [.d (E.d0 y),.d (E.d1 y),.d (E.d2 y)]]
abbrev clo{α:Type}(E:En α)(g:FuncId):W:=.c (.d (.fn g []))
noncomputable abbrev cI_L0:=(qG.l 0)
noncomputable abbrev cI_L1:=(qG.l 1)
abbrev cI_ok:=qG.ok
noncomputable abbrev cM_L0:=(y7.l 0)
noncomputable abbrev cM_L1:=(y7.l 1)
noncomputable abbrev cM_L2:=(y7.l 2)
noncomputable abbrev cM_L3:=(y7.l 3)
noncomputable abbrev cM_L4:=(y7.l 4)
abbrev cM_ok:=y7.ok
noncomputable abbrev cO_L0:=(Zg.l 0)
abbrev cO_ok:=Zg.ok
noncomputable abbrev cS_L0:=(qH.l 0)
noncomputable abbrev cS_L1:=(qH.l 1)
noncomputable abbrev cS_L2:=(qH.l 2)
abbrev cS_ok:=qH.ok
abbrev cT_ok:=WG.ok
noncomputable abbrev cW_L0:=(jc.l 0)
abbrev cW_ok:=jc.ok
theorem g8{α:Type}(E:En α):gH Y8 sz (en E) (cal E) (clo E):=aeu
abbrev insSort'{α:Type}(E:En α):=(g8 E).p
theorem Ul{α:Type}(E:En α):VU QV sz (en E) (clo E):=gF
abbrev swapRange'{α:Type}(E:En α):=(Ul E).p
theorem adU{α:Type}(E:En α):acP Vi sz (en E) (clo E):=ahc
abbrev rotate'{α:Type}(E:En α):=(adU E).p
theorem symMerge{α:Type}(E:En α):af4 Wn sz (en E) (cal E) (clo E):=aca
theorem stable{α:Type}(E:En α):amJ Vj sz (en E) (cal E) (clo E):=ahd
theorem SortStable{α:Type}(E:En α):SortStable jY sz (en E) (cal E) (clo E):=KA
end So.P
abbrev awP{α:Type}(g i j:α->D)(l:am α):am (am D):=l.map λx=> [g x,i x,j x]
abbrev agV{α:Type}(g i j:α->D):=So.P.SortStable ⟨g,i,j⟩
theorem aAl(x y:Int):dY anX [.c (.d (.sl [[.lit (.int .i64 x)],[.lit (.int .i64 y)]]))] (rI (bif x !=0 then x else y)):=by
 refine acY.s T8 ?_;refine wZ (P:=Pg) (f:=T8.f) (body:=(acY.l 0)) 3 ?_;refine vt ?_;refine zj (λg=>?_) (λg=>?_)
 .rw[show(x !=0)=true from g];rfl
 rw[show(x !=0)=false from g];(conv=>whnf);refine⟨dV,_,rfl,rfl,?_⟩;refine zj (λi=>?_) (λi=>?_)
 .rfl
 have i:(y !=0)=false:=i;have:y=0:=d9
 subst this;rfl
structure Pc where
 key:am Val
 a:Int
 b:Int
def Pc.dk(x:Pc):D:=.sl (rowD x.key)
def Pc.da(x:Pc):D:=.lit (.int .i64 x.a)
def Pc.db(x:Pc):D:=.lit (.int .i64 x.b)
def jd(l:am Pc):am (am D):=l.map λx=> [.sl (rowD x.key),.lit (.int .i64 x.a),.lit (.int .i64 x.b)]
theorem ajI(l:am Pc):(jd l).length=l.length:=by simp[jd]
theorem arq{r:am Pc}{i:Nat}(h:i<r.length):(jd r)[((i:Int)).toNat]?=some [.sl (rowD r[i].key),.lit (.int .i64 r[i].a),.lit (.int .i64 r[i].b)]:=by grind[jd]
theorem ajH(a b:am Pc):jd (a++b)=jd a++jd b:=by simp[jd]
def Uu(x y:Pc):Int:=bif uS x.key y.key !=0 then uS x.key y.key else yw x.a y.a
theorem aeF:CmpOK Uu:=CmpOK.both (CmpOK.onF (f:=Pc.key) (show CmpOK uS from arp)) (CmpOK.onF W7 (f:=Pc.a))
theorem aqq(x y:Pc):dY Yz [.agg [.d x.dk,.d x.da,.d x.db],.agg [.d y.dk,.d y.da,.d y.db]] (rI (Uu x y)):=by have h:=ku xR xV jG x.key y.key;unfold Uu uS;generalize Zj xV x.key y.key=c at*;have g:=kw x.a y.a;have i:=aAl c (yw x.a y.a);generalize yw x.a y.a=d at*;obtain⟨j,l,o⟩:=x;obtain⟨p,I,J⟩:=y;refine ac5.s T1 ?_;refine aC h ?_;refine aC g ?_;refine aC i ?_;rfl
theorem avz(l:am Pc)(n:Nat)(I:l.length=n)(g:n<=1000000):
 zA Pg jY [.c (.own 0 3 n),.c (.d (.fn Yz []))] [.arr 3 (jd l) false] (λr=>r=⟨.tup [],[.arr 3 (jd (yM Uu l)) false]⟩):=by
 have j:∀L:am (Pc×Nat),awP (λx:Pc×Nat=>x.1.dk) (λx=>x.1.da) (λx=>x.1.db) L=jd (L.map Prod.fst):=λL=>by simp[awP,jd,Function.comp_def];exact λa b _=>⟨rfl,rfl,rfl⟩
 have e:jd l=awP (λx:Pc×Nat=>x.1.dk) (λx=>x.1.da) (λx=>x.1.db) (qN l):=by grind[WD]
 rw[e];refine zA.mono (agV (λx:Pc×Nat=>x.1.dk) (λx=>x.1.da) (λx=>x.1.db) Yz (jh Uu) (aaM aeF) (λx y=>x.2<y.2) (λx y i=>?_) (qN l) n (by grind[Jk]) g ?_) ?_
 .refine(aqq y.1 x.1).mono ?_;rintro _ rfl;exact⟨_,rfl,aka aeF i⟩
 .grind[gz]
 rintro _ ⟨l',o,p,rfl⟩<;>grind[So.eL,aen,aeF]
def Yc(x:Pc):am Val:=x.key++[⟨2,x.a,⟨#[]⟩⟩,⟨2,x.b,⟨#[]⟩⟩]
def asg(cols:am Col)(l:am Pc)(i:Nat)(out:am (am Val)):S:=
 ⟨[(4,cV (.ptr 4 0)),(19,cV (.ptr 19 0)),(124,.w (.c (.d (.sl (jd l))))),(125,zm l.length),(126,zm i)],
 [(4,.box [.nil,.nil]),(19,.box [.d (.sl (zl cols)),.own 146 1 out.length]),(146,.arr 1 (zg out) false)]⟩
noncomputable def coRest2:ACode:=y9 (y9 (y9 (y9 (y9 (y9 (y9 (y9 (y9 (y9 (yj.A.code))))))))))
theorem aB7{s:S}(cols:am Col)(l:am Pc)(hl:l.length<=100000)(hk:∀x∈l,x.key.length<=100000)
 (h0:y8 s [4,19,124,125,126] (· =asg cols l 0 [])):
 zX (mwpR Pg T8.f (yj.l 2)) [4,19,124,125,126] (ZF 4 (Wz (mwpR Pg T8.f coRest2) (ZZ yj.A.res [] (DQ (qY ⟨cols,l.map Yc⟩ 0))))) s:=by
 refine yy (P:=Pg) (f:=T8.f) (body:=(yj.l 2)) l.length (λi=>asg cols l i ((l.take i).map Yc)) (λ_=>True) ⟨trivial,h0⟩ ?_
 clear h0;intro i hi _;have j:∀h:i<l.length,(l.take (i+1)).map Yc=(l.take i).map Yc++[Yc l[i]]:=λh=>by grind[zJ]
 have p:l.length<=i->l.map Yc=(l.take i).map Yc:=λh=>d9
 have ah:((l.take i).map Yc).length=i:=dX
 show mwpR Pg T8.f (yj.l 2) _ (asg cols l i ((l.take i).map Yc));generalize(l.take i).map Yc=U at*;have r:(zg U).take U.length=zg U:=by grind[zy]
 unfold asg;refine uT (λg=>?_) (λae=>?_)
 .have hg:=arq g;have j:=j g;have af:=hk _ (aD g);have wi:=zB g d8;clear p hk;generalize l[i]=x at*;obtain⟨o,xa,xb⟩:=x;simp only at af hg;have ad:=uU o d8;have j:(l.take (i+1)).map Yc=U++[o++[⟨2,xa,⟨#[]⟩⟩,⟨2,xb,⟨#[]⟩⟩]]:=j;refine yb hg ?_;generalize hE:([⟨2,xa,⟨#[]⟩⟩,⟨2,xb,⟨#[]⟩⟩]:am Val)=E at*;have ac:rowD E=[[.lit (.int .i64 2),.lit (.int .i64 xa),.lit (.string ⟨#[]⟩)],[.lit (.int .i64 2),.lit (.int .i64 xb),.lit (.string ⟨#[]⟩)]]:=by rw[<-hE];rfl
  have ag:E.length=2:=d9
  have R:∀y∈aS (rowD E).length (rowD E),y.length=3:=λy hy=>QO _ y (List.mem_of_mem_take hy)
  have I:(rowD o).length+(aS (rowD E).length (rowD E)).length<=1000000:=by grind[zu]
  have aa:aS ((rowD o).length+(aS (rowD E).length (rowD E)).length) (aS (rowD o).length (rowD o)++aS (rowD E).length (rowD E))=rowD (o++E):=by grind[uu]
  have ab:o=[]->aS (aS (rowD E).length (rowD E)).length (aS (rowD E).length (rowD E))=rowD (o++E):=λh=>d9
  rw[ac]at R I aa ab
  repeat' (first
   |(refine cq ad ?_;rintro _ (⟨J,rfl⟩|rfl)<;>(conv=>whnf))
   |(refine⟨R,by unfold yz;have:=I;exact aM (dd _ this) d8,aM I d8,?_⟩;conv=>whnf)
   |(refine⟨dT,by unfold yz;simp;omega,dX,?_⟩;conv=>whnf)
   |(refine⟨dT,by unfold yz;simp,dT,?_⟩;conv=>whnf)
   |(refine⟨g,trivial,ze ?_⟩;(conv=>whnf);rw[wi,r,j,aa,xy,aA];rfl)
   |(refine⟨g,trivial,ze ?_⟩;(conv=>whnf);rw[wi,r,j,ab J,xy,aA];rfl)
   |(refine dr ?_ ?_<;>conv=>whnf))
 rw[p ae];(conv=>whnf);refine⟨rfl,?_⟩;refine Eq.trans (b:=⟨.tup [.agg [.d (.sl (zl cols)),.d (.sl ((zg U).take U.length))],.c (int 0)],[]⟩) rfl ?_;rw[r];rfl
def J9(g:am Pc)(x:Pc):am Pc:=match g.getLast? with
 |none=>g++[x]
 |some z=>bif xp z.key x.key&&decide (x.a<=z.b)then g.set (g.length-1) ⟨z.key,z.a,zI true z.b x.b⟩else g++[x]
def Z0(l:am Pc):am Pc:=l.foldl J9 []
theorem axQ(g:am Pc)(x:Pc):(J9 g x).length<=g.length+1:=by grind[J9]
theorem agE(l:am Pc):∀i,i<=l.length->(Z0 (l.take i)).length<=i
 |0,_=>by simp[Z0]
 |i+1,h=>by have g:=agE l i d8;have j:=axQ (Z0 (l.take i)) l[i];unfold Z0 at*;rw[zJ (by omega:i<l.length),List.foldl_append];simp only[cC,List.foldl_nil];omega
theorem axP{n:Nat}{g:am Pc}{x:Pc}(h:∀z∈g,z.key.length<=n)(i:x.key.length<=n):∀z∈J9 g x,z.key.length<=n:=by grind[J9]
theorem axN{n:Nat}{l:am Pc}(h:∀z∈l,z.key.length<=n):∀z∈Z0 l,z.key.length<=n:=by
 have gen:∀(l g:am Pc),(∀z∈l,z.key.length<=n)->(∀z∈g,z.key.length<=n)->∀z∈l.foldl J9 g,z.key.length<=n:=by intro l;induction l<;>grind[axP,aU]
 exact gen l [] h (λz i=>by cases i)
def asf(cols:am Col)(l:am Pc)(i:Nat)(T:am Pc):S:=
 ⟨[(4,cV (.ptr 4 0)),(6,.w (.c (.d (.sl (zl cols))))),(11,cV (.own 120 3 T.length)),(69,.w (.c (.d (.sl (jd l))))),(70,zm l.length),(71,zm i)],
 [(4,.box [.nil,.nil]),(120,.arr 3 (jd T) false)]⟩
noncomputable def coRest1:ACode:=y9 (y9 (y9 (y9 (y9 (y9 (y9 (y9 yj.A.code)))))))
theorem aB6{s:S}(cols:am Col)(l:am Pc)(hl:l.length<=100000)(hk:∀x∈l,x.key.length<=100000)
 (h0:y8 s [4,6,11,69,70,71] (· =asf cols l 0 [])):
 zX (mwpR Pg T8.f (yj.l 1)) [4,6,11,69,70,71] (ZF 2 (Wz (mwpR Pg T8.f coRest1) (ZZ yj.A.res [] (DQ (qY ⟨cols,(Z0 l).map Yc⟩ 0))))) s:=by
 refine yy (P:=Pg) (f:=T8.f) (body:=(yj.l 1)) l.length (λi=>asf cols l i (Z0 (l.take i))) (λ_=>True) ⟨trivial,h0⟩ ?_
 clear h0;intro i hi _;have g:∀h:i<l.length,Z0 (l.take (i+1))=J9 (Z0 (l.take i)) l[i]:=λh=>by grind[Z0,zJ]
 have p:l.length<=i->Z0 l=Z0 (l.take i):=λh=>d9
 have ah:=agE l i hi;have r:=axN (n:=100000) (l:=l) hk;show mwpR Pg T8.f (yj.l 1) _ (asf cols l i (Z0 (l.take i)));generalize Z0 (l.take i)=T at*;have I:(jd T).take T.length=jd T:=by grind[ajI]
 unfold asf;refine uT (λj=>?_) (λab=>?_)
 .have hg:=arq j;have g:=g j;have wi:=zB j d8;clear p hk r;generalize l[i]=x at*;obtain⟨xk,xa,J⟩:=x;simp only at hg;refine yb hg ?_;rw[yf (n:=(T.length:Int)-1) d8 d8];refine zx (λR=>?_) (λR=>?_)
  .have R:(T.length:Int)-1>=0:=aV R;have af:T.length-1<T.length:=d8
   have ac:((T.length:Int)-1).toNat=T.length-1:=d8
   have o:(jd T)[((T.length:Int)-1).toNat]?=some [.sl (rowD T[T.length-1].key),.lit (.int .i64 T[T.length-1].a),.lit (.int .i64 T[T.length-1].b)]:=by simp_all[jd]
   have ad:T.getLast?=some T[T.length-1]:=by rw[List.getLast?_eq_getElem?,am.getElem?_eq_getElem af]
   unfold J9 at g;rw[ad]at g;have heq:=Ye T[T.length-1].key xk;generalize hz:T[T.length-1]=z at*;obtain⟨zk,za,zb⟩:=z;simp only at o g heq;generalize xp zk xk=b at*;(conv=>whnf);refine⟨d8,d8,?_⟩;(conv=>whnf);refine⟨_,o,?_⟩;refine aC heq ?_;have ag:Z0 (l.take (i+1))=T++[⟨xk,xa,J⟩]->True:=λ_=>trivial
   cases b with
   |false=>
    rw[de,aB]at g;refine qr ?_;refine yW j trivial ?_;rw[wi,I,g,ajH,aA];rfl
   |true=>
    rw[dw]at g;(conv=>whnf);refine⟨d8,d8,?_⟩;(conv=>whnf);refine⟨_,o,?_⟩;refine zj (b:=decide (xa<=zb)) (λh3=>?_) (λh3=>?_)
    .rw[h3,aE]at g;have U:(jd T).set ((T.length:Int)-1).toNat [.sl (rowD zk),.lit (.int .i64 za),.lit (.int .i64 (zI true zb J))]=jd (T.set (T.length-1) ⟨zk,za,zI true zb J⟩):=by rw[ac];simp[jd,bV]
     have ae:(T.set (T.length-1) ⟨zk,za,zI true zb J⟩).length=T.length:=dT
     (conv=>whnf);refine⟨d8,d8,?_⟩;(conv=>whnf);refine⟨_,o,?_⟩;(conv=>whnf);refine⟨d8,d8,?_⟩;(conv=>whnf);refine⟨_,o,c8 rfl,?_⟩;refine yW j trivial ?_;generalize zI true zb J=m at*;rw[wi,g,<-U,ae];rfl
    rw[h3,aB]at g;refine qr ?_;refine yW j trivial ?_;rw[wi,I,g,ajH,aA];rfl
  have R:¬(T.length:Int)-1>=0:=bK R;have hT:T=[]:=List.length_eq_zero_iff.1 d8;subst hT;have g:Z0 (l.take (i+1))=[⟨xk,xa,J⟩]:=g;refine qr ?_ (hA:=dT) (hB:=by grind[yz]) (hC:=dT);refine yW j trivial ?_;rw[wi,g];rfl
 rw[p ab]at r⊢;have aa:=λ(s:S)=>aB7 (s:=s) cols T d8 r
 (conv=>whnf);refine aa _ ⟨_,(uG 19 1 146 1 d8 d8 rfl).trans (Qu 124 (.own 120 3 T.length) (.sl ((jd T).take T.length)) _ rfl rfl),?_⟩;(conv=>whnf);rw[I];rfl
def agL(at_:am Int)(p q:Int)(x:am Val):am Pc:=bif xx (at0 x p.toNat) (at0 x q.toNat)&&decide ((at0 x p.toNat).n>=0)then [⟨zn x at_,(at0 x p.toNat).n,(at0 x q.toNat).n⟩]else []
def u7(at_:am Int)(p q:Int)(rows:am (am Val)):am Pc:=rows.flatMap (agL at_ p q)
theorem ax5(at_:am Int)(p q:Int)(x:am Val):(agL at_ p q x).length<=1:=by grind[agL]
theorem adN(at_:am Int)(p q:Int):∀rows,(u7 at_ p q rows).length<=rows.length
 |[]=>aI _
 |x::r=>by have g:=ax5 at_ p q x;have i:=adN at_ p q r;unfold u7 at*;rw[List.flatMap_cons,aA,aP];omega
theorem au3(at_:am Int)(p q:Int){rows:am (am Val)}:∀z∈u7 at_ p q rows,z.key.length=at_.length:=by
 intro z g;unfold u7 at g;obtain⟨x,_,i⟩:=bW.1 g;unfold agL at i;cases h:(xx (at0 x p.toNat) (at0 x q.toNat)&&decide ((at0 x p.toNat).n>=0))
 .grind
 simp_all[zn]
def Yo(at_:am Int)(p q:Int)(rows:am (am Val)):am (am Val):=(Z0 (yM Uu (u7 at_ p q rows))).map Yc
def ase(cols:am Col)(at_:am Int)(p q:Int)(rows:am (am Val))(i:Nat)(T:am Pc):S:=
 ⟨[(4,cV (.ptr 4 0)),(6,.w (.c (.d (.sl (zl cols))))),(8,.w (.c (.d (.sl (zh at_))))),(9,.w (.c (.d (.sl (zh [p,q]))))),(10,cV (.own 65 3 T.length)),(11,cV .nil),(40,.w (.c (.d (.sl (zg rows))))),(41,zm rows.length),(42,zm i)],
 [(4,.box [.nil,.nil]),(65,.arr 3 (jd T) false)]⟩
noncomputable def coRest0:ACode:=y9 (y9 (y9 (y9 (y9 (y9 yj.A.code)))))
theorem aB5{s:S}(cols:am Col)(at_:am Int)(p q:Int)(rows:am (am Val))(hr:rows.length<=100000)(ak:at_.length<=100000)
 (hx:∀x∈rows,zS x.length at_/\zS x.length [p,q])
 (h0:y8 s [4,6,8,9,10,11,40,41,42] (· =ase cols at_ p q rows 0 [])):
 zX (mwpR Pg T8.f (yj.l 0)) [4,6,8,9,10,11,40,41,42] (ZF 0 (Wz (mwpR Pg T8.f coRest0) (ZZ yj.A.res [] (DQ (qY ⟨cols,Yo at_ p q rows⟩ 0))))) s:=by
 unfold Yo;refine yy (P:=Pg) (f:=T8.f) (body:=(yj.l 0)) rows.length (λi=>ase cols at_ p q rows i (u7 at_ p q (rows.take i))) (λ_=>True) ⟨trivial,h0⟩ ?_
 clear h0;intro i hi _;have g:∀h:i<rows.length,u7 at_ p q (rows.take (i+1))=u7 at_ p q (rows.take i)++agL at_ p q rows[i]:=λh=>by grind[u7,zJ]
 have o:rows.length<=i->u7 at_ p q rows=u7 at_ p q (rows.take i):=λh=>d9
 have aj:(u7 at_ p q (rows.take i)).length<=rows.length:=aM (adN _ _ _ _) dX;have aa:=au3 at_ p q (rows:=rows.take i);show mwpR Pg T8.f (yj.l 0) _ (ase cols at_ p q rows i (u7 at_ p q (rows.take i)));generalize u7 at_ p q (rows.take i)=T at*;have ag:(jd T).take T.length=jd T:=by grind[ajI]
 unfold ase;refine uT (λj=>?_) (λU=>?_)
 .have hg:=yS j;have g:=g j;obtain⟨ai,I⟩:=hx _ (aD j);have wi:=zB j d8;have r:=Ko rows[i] p q (I _ dT) (I _ dT);have ab:=uE rows[i] at_ d8 ai;clear o hx aa;unfold agL at g;generalize rows[i]=x at*;generalize at0 x p.toNat=u at*;generalize at0 x q.toNat=v at*;unfold WC at r;generalize xx u v=b at*;obtain⟨_,u,_⟩:=u;obtain⟨_,v,_⟩:=v;simp only at r g;refine yb hg ?_;refine aC r ?_;cases b with
  |false=>
   rw[de,aB,bE]at g;refine yW j trivial ?_;rw[wi,g];rfl
  |true=>
   rw[dw]at g;refine zj (b:=decide (u>=0)) (λJ=>?_) (λJ=>?_)
   .rw[J,aE]at g;refine aC ab ?_;refine qr ?_;refine yW j trivial ?_;rw[wi,ag,g,ajH,aA];rfl
   rw[J,aB,bE]at g;refine yW j trivial ?_;rw[wi,g];rfl
 rw[o U];have af:=avz T T.length rfl d8;have ac:=jH aeF T;have ae:(yM Uu T).length=T.length:=ac.length_eq;have ad:∀z∈yM Uu T,z.key.length<=100000:=λz hz=>d9
 generalize yM Uu T=Z at*;have R:=λ(s:S)=>aB6 (s:=s) cols Z d8 ad
 have ah:(jd Z).take T.length=jd Z:=by grind[ajI]
 (conv=>whnf);refine zA.mono (af) ?_;rintro _ rfl;(conv=>whnf);refine R _ ⟨_,(ya 11 120 3 d8 d8 rfl).trans (Qu 69 (.own 65 3 T.length) (.sl ((jd Z).take T.length)) _ rfl rfl),?_⟩;(conv=>whnf);rw[ah,<-ae];rfl
theorem apA{d:am Nmd}{cols:am Col}{st:Stp}(g:st.op=9)(h:(zT d cols st).1=0):zT d cols st=coT cols st.cols:=by grind[zT]
structure CoOK(cols:am Col)(on:am ByteArray)(R:am Col):Prop where
 tk:takeErr cols on=false
 i1:colInt cols sFrom=0
 i2:colInt cols sTo=0
 two:(hasB on sFrom||hasB on sTo)=false
 eq:R=takeC cols on++[⟨sFrom,2⟩,⟨sTo,2⟩]
theorem ano{cols:am Col}{g:am ByteArray}(h:(coT cols g).1=0):CoOK cols g (coT cols g).2:=by unfold coT at h⊢;obtain⟨p,i⟩:=qt d9 h;rw[i]at h⊢;obtain⟨r,j⟩:=qt d9 h;rw[j]at h⊢;obtain⟨I,l⟩:=qt dT h;rw[l]at h⊢;obtain⟨J,o⟩:=qt dT h;rw[o];exact⟨r,d9,d9,p,rfl⟩
theorem aAC{g:am ByteArray}{a:Tbl}(h:(Kv 9 g a).1=0):zH a=0/\CoOK a.cols g (Kv 9 g a).2:=by
 unfold Kv at h⊢;obtain⟨j,i⟩:=qt dT h
 grind[apA,ZB,ano]
def coQ(a:Tbl)(g:am ByteArray):Res:=bif (Kv 9 g a).1 !=0 then qY ⟨[],[]⟩ (Kv 9 g a).1 else
 qY ⟨(Kv 9 g a).2,Yo (zi a.cols g) (zf a.cols sFrom) (zf a.cols sTo) a.rows⟩ 0
theorem ad1(a:Tbl)(g:am ByteArray)(aa:g.length<=100000)(R:a.cols.length<=1000000):dY WO [a.w,.c (.d (.sl (zp g)))] (coQ a g):=by
 have hc:=atd 9 g a d8 R;have j:=@aAC g a;have U:=qE a.cols (.sl (zg a.rows)) g d8;have o:=qE a.cols (.sl (zg a.rows)) [sFrom,sTo] dT;unfold coQ;generalize Kv 9 g a=c at*;obtain⟨J,c2⟩:=c;simp only at j⊢;refine zC ?_;obtain⟨i,ar⟩:=a;simp only at*;refine yj.s T8 ?_;refine aC hc ?_;refine zx (λl=>?_) (λl=>?_)
 .rw[show(J !=0)=true from l];exact⟨rfl,rfl⟩
 have l:(J !=0)=false:=l;rw[l];have P:J=0:=d9
 subst P;obtain⟨ka,I⟩:=j rfl;have i1:=akb I.tk;have i2:=ac7 I.i1;have i3:=ac7 I.i2;have wa:=wP ka;have fa:=xT ka;have p1:zi i [sFrom,sTo]=[zf i sFrom,zf i sTo]:=rfl;have l1:(zi i g).length=g.length:=by simp[zi]
 have hm:=λ(s:S)=>aB5 (s:=s) c2 (zi i g) (zf i sFrom) (zf i sTo) ar d9 d8
  (λx hx=>by
   have h2:=wa x hx;simp only at h2;refine⟨d9,λk hk=>?_⟩;rw[h2];simp only[bI,cd,or_false]at hk
   grind)
 rw[p1]at o;clear i1 i2 i3 wa fa p1 l1 I ka j l;generalize zf i sFrom=p at*;generalize zf i sTo=q at*;generalize zi i g=left at*;(conv=>whnf)
 repeat' (first
  |(refine cq U ?_;rintro _ rfl;conv=>whnf)
  |(refine cq o ?_;rintro _ rfl;conv=>whnf)
  |(refine dr ?_ ?_<;>conv=>whnf))
 all_goals rw[zy]
 all_goals refine hm _ ⟨_,ya 10 65 3 d8 d8 rfl,?_⟩
 all_goals conv=>whnf
 all_goals rfl
noncomputable def itR(cols:am Col)(row:am Val)(l:am Itm):am Val:=l.map λx=>exprV cols row x.e
noncomputable def selR(cols:am Col)(rows:am (am Val))(l:am Itm):am (am Val):=rows.map λr=>itR cols r l
def seI(cols:am Col)(rows:am (am Val))(st:am C)(i:Nat)(out:am (am Val))(x:am Val)(l:am Itm)(j:Nat)(g:am Val):S:=
 ⟨[(4,cV (.ptr 4 0)),(5,cV (.ptr 5 0)),(8,cV (.own 69 1 out.length)),(12,.w (yu x)),(13,cV (.own 64 3 g.length)),(43,.w (.c (.d (.sl (zg rows))))),(44,zm rows.length),(45,zm i),(50,.w (.c (.d (.sl (yP l))))),(51,zm l.length),(52,zm j)],
 [(4,.box [.d (.sl (zl cols)),.d (.sl (zg rows))]),(5,.box st),(64,.arr 3 (rowD g) false),(69,.arr 1 (zg out) false)]⟩
theorem aCw(hC:kK){Q:E->S->Prop}{s:S}(cols:am Col)(rows:am (am Val))(eo:Int)(nm:ByteArray)(v:Val)(ks:am Ex)(g:am Itm)(cs o I:am (am D))(m:Int)(tb:ByteArray)(i:Nat)(out:am (am Val))(x:am Val)
 (ai:g.length<=100000)
 (h0:y8 s [4,5,8,12,13,43,44,45,50,51,52] (· =seI cols rows (v8 2 eo nm v ks (yP g) cs o I m tb) i out x g 0 []))
 (hQ:Q (.exit 5) (xM (seI cols rows (v8 2 eo nm v ks (yP g) cs o I m tb) i out x g g.length (itR cols x g)) 53 (zZ (decide ((g.length:Int)<g.length))))):
 zX (mwpR Pg T8.f (xS.l 1)) [4,5,8,12,13,43,44,45,50,51,52] Q s:=by
 obtain⟨vk,vn,vs⟩:=v;refine yy (P:=Pg) (f:=T8.f) (body:=(xS.l 1)) g.length (λj=>seI cols rows (v8 2 eo nm ⟨vk,vn,vs⟩ ks (yP g) cs o I m tb) i out x g j (itR cols x (g.take j))) (λ_=>True) ⟨trivial,h0⟩ ?_
 clear h0;intro j hj _;have ah:(itR cols x (g.take j)).length=j:=by grind[itR]
 have r:∀h:j<g.length,itR cols x (g.take (j+1))=itR cols x (g.take j)++[exprV cols x g[j].e]:=λh=>by grind[itR,zJ]
 have J:j=g.length->itR cols x g=itR cols x (g.take j):=λh=>d9
 show mwpR Pg T8.f (xS.l 1) _ (seI cols rows (v8 2 eo nm ⟨vk,vn,vs⟩ ks (yP g) cs o I m tb) i out x g j (itR cols x (g.take j)));generalize itR cols x (g.take j)=T at*;have ab:(rowD T).take T.length=rowD T:=by grind[zu]
 unfold seI v8;refine rgE (λp=>?_) (λU=>?_)
 .have hg:=V7 p;have r:=r p;have wi:=zB p d8;have R:=ak5 hC cols x g[j].e;clear hQ J;generalize g[j]=z at*;obtain⟨⟨aa,ad,⟨ae,af,ag⟩,ac⟩,s2⟩:=z;simp only at R r;generalize exprV cols x (.mk aa ad ⟨ae,af,ag⟩ ac)=u at*;obtain⟨u1,u2,u3⟩:=u;refine yb hg ?_;refine aC R ?_;refine qr ?_;refine yW p trivial ?_;rw[wi,ab,r,<-uu,aA];rfl
 rw[J U]at hQ;subst U;(conv=>whnf);exact hQ
def seO(cols:am Col)(rows:am (am Val))(st:am C)(i:Nat)(out:am (am Val)):S:=
 ⟨[(4,cV (.ptr 4 0)),(5,cV (.ptr 5 0)),(8,cV (.own 69 1 out.length)),(43,.w (.c (.d (.sl (zg rows))))),(44,zm rows.length),(45,zm i)],
 [(4,.box [.d (.sl (zl cols)),.d (.sl (zg rows))]),(5,.box st),(69,.arr 1 (zg out) false)]⟩
theorem kC(hC:kK)(d:D)(cols:am Col)(rows:am (am Val))(hr:rows.length<=20000)(eo:Int)(nm:ByteArray)(v:Val)(ks:am Ex)(g:am Itm)(cs o I:am (am D))(m:Int)(tb:ByteArray)(ad:g.length<=100000):
 dY vX [.c (.d d),.agg [.d (.sl (zl cols)),.d (.sl (zg rows))],.agg (v8 2 eo nm v ks (yP g) cs o I m tb)] (rRT (selR cols rows g)):=by
 refine zC ?_;have j:=λ(Q:E->S->Prop) (s:S) (i:Nat) (out:am (am Val)) (x:am Val)=>aCw hC (Q:=Q) (s:=s) cols rows eo nm v ks g cs o I m tb i out x ad
 obtain⟨vk,vn,vs⟩:=v;unfold v8;refine xS.s T8 ?_;rw[zy];refine yy (P:=Pg) (f:=T8.f) (body:=(xS.l 2)) rows.length (λi=>seO cols rows (v8 2 eo nm ⟨vk,vn,vs⟩ ks (yP g) cs o I m tb) i (selR cols (rows.take i) g)) (λ_=>True) ⟨trivial,⟨_,ya 8 69 1 d8 d8 rfl,?_⟩⟩ ?_
 .exact rfl
 intro i hi _;have aa:∀h:i<rows.length,selR cols (rows.take (i+1)) g=selR cols (rows.take i) g++[itR cols rows[i] g]:=λh=>by grind[selR,zJ]
 have J:rows.length<=i->selR cols rows g=selR cols (rows.take i) g:=λh=>d9
 have ag:(selR cols (rows.take i) g).length=i:=by grind[selR]
 show mwpR Pg T8.f (xS.l 2) _ (seO cols rows (v8 2 eo nm ⟨vk,vn,vs⟩ ks (yP g) cs o I m tb) i (selR cols (rows.take i) g));generalize selR cols (rows.take i) g=U at*;have ab:(zg U).take U.length=zg U:=by grind[zy]
 have j:=λQ s x=>j Q s i U x
 unfold seO v8;refine uT (λp=>?_) (λac=>?_)
 .have hg:=yS p;have aa:=aa p;have wi:=zB p d8;clear J;generalize rows[i]=x at*;have j:=λQ s=>j Q s x
  have af:(rowD (itR cols x g)).take g.length=rowD (itR cols x g):=by grind[itR,zu]
  have ae:(itR cols x g).length=g.length:=by simp[itR]
  generalize itR cols x g=R at*;refine yb hg ?_;refine j _ _ ⟨_,ya 13 64 3 d8 d8 rfl,?_⟩ ?_
  ·(conv=>whnf);unfold seI v8;rw[vg];rfl
  unfold xM seI v8;(conv=>whnf);rw[show aS R.length (rowD R)=rowD R by grind];refine qr ?_;refine yW p trivial ?_;rw[wi,ab,aa,xy,aA];rfl
 rw[J ac];clear j;(conv=>whnf);refine⟨rfl,?_⟩;show Res.mk (.tup [.c (.d (.sl ((zg U).take U.length))),.c (bool true)]) []=_;rw[ab];rfl
theorem qD(d:am Nmd)(t:Tbl)(st:Stp)(g:am Col)(R:am (am Val))(p:(st.op==4)=false)(I:(st.op==7)=false)(J:(st.op==8)=false)(P:(st.op==9)=false)(hl:R.length<=20000)(U:dY vX [.c (.d (.sl (zq d))),t.w,.agg st.cs] (rRT R)):
 dY wg [.c (.d (.sl (zq d))),t.w,.agg st.cs,.c (.d (.sl (zl g)))] (qY ⟨g,R⟩ 0):=by
 have hf:=y4 d st.table;obtain⟨tc,tr⟩:=t;obtain⟨op,⟨eo,nm,⟨vk,vn,vs⟩,ks⟩,j,aa,l,o,sn,tb⟩:=st;simp only at*;unfold Stp.cs v8 at*;have i:decide (((zg R).length:Int)>20000)=false:=cg (by grind[zy]);generalize zU tb d=f at*;cases f with
 |none=>
  refine q7.s T8 ?_;refine aC hf ?_;rw[p];(conv=>whnf);rw[I];(conv=>whnf);rw[J];(conv=>whnf);rw[P];refine aC U ?_;rw[i];exact rfl
 |some ft=>
  obtain⟨fc,fr⟩:=ft;refine q7.s T8 ?_;refine aC hf ?_;rw[p];(conv=>whnf);rw[I];(conv=>whnf);rw[J];(conv=>whnf);rw[P];refine aC U ?_;rw[i];exact rfl
theorem kD(d:am Nmd)(t:Tbl)(st:Stp)(g:am Col)(i:st.op=4)(R:Tbl)(e:Int)(p:dY aap [t.w,.c (.d (.sl (xz st.sorts)))] (qY R e)):
 dY wg [.c (.d (.sl (zq d))),t.w,.agg st.cs,.c (.d (.sl (zl g)))] (qY R e):=by
 have I:=y4 d st.table;obtain⟨tc,tr⟩:=t;obtain⟨rc,rr⟩:=R;obtain⟨op,⟨U,nm,⟨vk,vn,vs⟩,ks⟩,j,P,l,o,sn,tb⟩:=st;simp only at*;subst i;unfold Stp.cs v8 at*;generalize zU tb d=f at*;cases f with
 |none=>
  refine q7.s T8 ?_;refine aC I ?_;refine aC p ?_;rfl
 |some J=>
  obtain⟨fc,fr⟩:=J;refine q7.s T8 ?_;refine aC I ?_;refine aC p ?_;rfl
theorem UY(d:am Nmd)(t:Tbl)(st:Stp)(g:am Col)(i:st.op=9)(R:Tbl)(e:Int)(p:dY WO [t.w,.c (.d (.sl (zp st.cols)))] (qY R e)):
 dY wg [.c (.d (.sl (zq d))),t.w,.agg st.cs,.c (.d (.sl (zl g)))] (qY R e):=by
 have I:=y4 d st.table;obtain⟨tc,tr⟩:=t;obtain⟨rc,rr⟩:=R;obtain⟨op,⟨U,nm,⟨vk,vn,vs⟩,ks⟩,j,P,l,o,sn,tb⟩:=st;simp only at*;subst i;unfold Stp.cs v8 at*;generalize zU tb d=f at*;cases f with
 |none=>
  refine q7.s T8 ?_;refine aC I ?_;refine aC p ?_;rfl
 |some J=>
  obtain⟨fc,fr⟩:=J;refine q7.s T8 ?_;refine aC I ?_;refine aC p ?_;rfl
theorem Kq(d:am Nmd)(t:Tbl)(st:Stp)(g:am Col)(i:st.op=7)(b:Tbl)(J:zU st.table d=some b)(R:Tbl)(e:Int)(I:dY wJ [t.w,b.w,.c (.d (.sl (zp st.cols)))] (qY R e)):
 dY wg [.c (.d (.sl (zq d))),t.w,.agg st.cs,.c (.d (.sl (zl g)))] (qY R e):=by have p:=y4 d st.table;rw[J]at p;obtain⟨tc,tr⟩:=t;obtain⟨U,br⟩:=b;obtain⟨rc,rr⟩:=R;obtain⟨op,⟨eo,nm,⟨vk,vn,vs⟩,ks⟩,j,P,l,o,sn,tb⟩:=st;simp only at*;subst i;unfold Stp.cs v8 at*;refine q7.s T8 ?_;refine aC p ?_;refine aC I ?_;rfl
theorem Kp(d:am Nmd)(t:Tbl)(st:Stp)(g:am Col)(i:st.op=8)(b:Tbl)(J:zU st.table d=some b)(R:Tbl)(e:Int)(I:dY V9 [t.w,b.w,.c (.d (.sl (zp st.cols)))] (qY R e)):
 dY wg [.c (.d (.sl (zq d))),t.w,.agg st.cs,.c (.d (.sl (zl g)))] (qY R e):=by have p:=y4 d st.table;rw[J]at p;obtain⟨tc,tr⟩:=t;obtain⟨U,br⟩:=b;obtain⟨rc,rr⟩:=R;obtain⟨op,⟨eo,nm,⟨vk,vn,vs⟩,ks⟩,j,P,l,o,sn,tb⟩:=st;simp only at*;subst i;unfold Stp.cs v8 at*;refine q7.s T8 ?_;refine aC p ?_;refine aC I ?_;rfl
end
section
attribute [local irreducible] Sat zA zX zo
def qb(d:am Nmd)(st:Stp):Tbl:=(zU st.table d).getD ⟨[],[]⟩
noncomputable def stR(d:am Nmd)(t:Tbl)(st:Stp):am (am Val):=
 bif st.op==1 then whereR t.cols t.rows st.cond else bif st.op==2 then selR t.cols t.rows st.items else
 bif st.op==3 then(vC (zi t.cols st.cols) t.rows).map (qy t.cols st.aggs)else
 bif st.op==4 then yM (Zi (jJ t.cols st.sorts) st.sorts) t.rows else bif st.op==5 then t.rows.take (zI false st.n t.rows.length).toNat else
 bif st.op==6 then xO (zi t.cols st.cols) (zi (qb d st).cols st.cols) (oth st.cols 0 (qb d st).cols) t.rows (qb d st).rows else
 bif st.op==7 then xL (zf t.cols sFrom) (zf t.cols sTo) (zf (qb d st).cols sFrom) (zf (qb d st).cols sTo) (zi t.cols st.cols) (zi (qb d st).cols st.cols) (oth (st.cols++[sFrom,sTo]) 0 (qb d st).cols) t.rows (qb d st).rows else
 bif st.op==8 then t.rows.map (w7 (zf t.cols sFrom) (zf (qb d st).cols sFrom) (zi t.cols st.cols) (zi (qb d st).cols st.cols) (oth (st.cols++[sFrom]) 0 (qb d st).cols) (qb d st).rows)else
 Yo (zi t.cols st.cols) (zf t.cols sFrom) (zf t.cols sTo) t.rows
noncomputable def nStepT(d:am Nmd)(t:Tbl)(st:Stp):Int×Tbl:=
 bif yH d !=0 then(yH d,⟨[],[]⟩)else bif zH t !=0 then(zH t,⟨[],[]⟩)else bif (zT d t.cols st).1 !=0 then((zT d t.cols st).1,⟨[],[]⟩)else(0,⟨(zT d t.cols st).2,stR d t st⟩)
def wO(x:Int×Tbl):Res:=qY x.2 x.1
theorem ae0{e:Int}:∀{P:Program}{k:Nat}{args:am W},Sat P k args (λr=>r=rNT e)->Sat P k args (DQ (qY ⟨[],[]⟩ e)):=λh=>h.mono λr hr=>by subst hr;exact⟨rfl,rfl⟩
theorem aqP{i:ByteArray}{b:Tbl}:∀{d pre:am Nmd},XE pre d=0->zU i d=some b->zH b=0
 |[],_,_,g=>by cases g
 |x::r,pre,h,g=>by
  simp only[XE]at h;cases j:(w6 x.nm !=0)
  .rw[j,aB]at h;obtain⟨_,h⟩:=yt d8 h;cases l:(zH x.t !=0)
   .rw[l,aB]at h;simp only[zU]at g;cases o:zo x.nm i
    .rw[o,aB]at g;exact aqP h g
    simp_all
   simp_all
  simp_all
theorem vq{d:am Nmd}{i:ByteArray}{b:Tbl}(h:yH d=0)(g:zU i d=some b):zH b=0:=by unfold yH at h;exact aqP (yt d8 h).2 g
theorem anw{st:Stp}(h:st.err=0)(g:st.op=7\/st.op=8\/st.op=9):vA st.cols 0=0:=by
 unfold Stp.err at h;have h:=(yt d8 h).2;rcases g with g|g|g
 .rw[g]at h;exact(yt d8 (show(bif !yB st.table then 3 else vA st.cols 0)=0 from h)).2
 .rw[g]at h;exact(yt d8 (show(bif !yB st.table then 3 else vA st.cols 0)=0 from h)).2
 grind
theorem aiO{op:Int}{i:am ByteArray}{tb:ByteArray}(g:op=7\/op=8\/(op=9/\tb=⟨#[]⟩)):(ZB op i tb).uses=true:=by
 show X6 op (Ex.mk 0 ⟨#[]⟩ ⟨0,0,⟨#[]⟩⟩ []).zero 0 i.length 0 0 0 tb=true;have j:(Ex.mk 0 ⟨#[]⟩ ⟨0,0,⟨#[]⟩⟩ []).zero=true:=by grind[Ex.zero,VP,xf,AM.beqS_self]
 unfold X6;rw[j];rcases g with rfl|rfl|⟨rfl,rfl⟩
 .rfl
 .rfl
 rw[AM.beqS_self];rfl
theorem av5{op:Int}{g:am ByteArray}(i:op=7\/op=8)(h:vA g 0=0):(ZB op g Uh).err=0:=by
 unfold Stp.err;rw[aiO d9];have j:yB Uh=true:=by decide+kernel
 rcases i with rfl|rfl
 .show(bif !yB Uh then 3 else vA g 0)=0
  grind
 show(bif !yB Uh then 3 else vA g 0)=0
 grind
theorem atv{g:am ByteArray}(h:vA g 0=0):(ZB 9 g ⟨#[]⟩).err=0:=by unfold Stp.err;rw[aiO (.inr (.inr ⟨rfl,rfl⟩))];exact h
theorem aBo{g:am ByteArray}{d:am Nmd}{cols:am Col}{cs:am ByteArray}{tb:ByteArray}{b:Tbl}(i:zU tb d=some b):Vg g [⟨Uh,b⟩] cols cs Uh=Vg g d cols cs tb:=by grind[zU,AM.beqS_self,Vg]
theorem aaN{d:am Nmd}{t b:Tbl}{st:Stp}(g:st.op=7\/st.op=8)(o:zH t=0)(i:zH b=0)(j:st.err=0)(l:zU st.table d=some b):ZA st.op st.cols t b=zT d t.cols st:=by grind[anw,av5,ZA,zT,ZB,aBo]
theorem arL{d:am Nmd}{t:Tbl}{st:Stp}(g:st.op=9)(j:zH t=0)(i:st.err=0):Kv 9 st.cols t=zT d t.cols st:=by grind[anw,atv,Kv,zT,ZB]
theorem XW{x y:Int}:(bif x !=0 then x else y)=0↔x=0/\y=0:=d9
theorem XV{b:Bool}{x y:Int}(g:x≠0):(bif b then x else y)=0↔b=false/\y=0:=d9
def zN:am Col->am Val->Prop
 |[],[]=>True
 |c::cs,v::vs=>yI c.t v/\zN cs vs
 |_,_=>False
theorem zN.len:∀{cs:am Col}{vs:am Val},zN cs vs->vs.length=cs.length
 |[],[],_=>rfl
 |c::cs,v::vs,h=>by simp only[aP];rw[zN.len h.2]
theorem zN.app:∀{cs g:am Col}{vs i:am Val},zN cs vs->zN g i->zN (cs++g) (vs++i)
 |[],_,[],_,_,h=>h
 |c::cs,_,v::vs,_,h,j=>⟨h.1,zN.app h.2 j⟩
theorem zN.get:∀{cs:am Col}{vs:am Val},zN cs vs->∀{i:Nat}(h:i<cs.length),yI cs[i].t (at0 vs i)
 |c::cs,v::vs,h,0,_=>h.1
 |c::cs,v::vs,h,i+1,hi=>zN.get h.2 (i:=i) d9
theorem zN.map{α:Type}(f:α->Col)(g:α->Val):∀{l:am α},(∀x∈l,yI (f x).t (g x))->zN (l.map f) (l.map g)
 |[],_=>trivial
 |x::r,h=>⟨h x dT,zN.map f g λy i=>h y (by simp[i])⟩
theorem zN.of:∀{cs:am Col}{vs:am Val},vs.length=cs.length->(∀i (h:i<cs.length),yI cs[i].t (at0 vs i))->zN cs vs
 |[],[],_,_=>trivial
 |c::cs,v::vs,g,h=>⟨h 0 dT,zN.of d9 λi hi=>h (i+1) d9⟩
theorem zN.set{cs:am Col}{vs:am Val}(h:zN cs vs){i:Nat}(hi:i<cs.length){v:Val}(hv:yI cs[i].t v):zN cs (vs.set i v):=by
 refine zN.of (by rw[cD];exact h.len) λj g=>?_
 have l:=h.len;by_cases e:i=j
 .grind[at0]
 have:at0 (vs.set i v) j=at0 vs j:=by grind[at0]
 rw[this];exact h.get g
theorem aet:∀{cs:am Col}{vs:am Val},vs.length=cs.length->(uI cs vs=0↔zN cs vs)
 |[],[],_=>⟨λ_=>trivial,λ_=>rfl⟩
 |c::cs,v::vs,h=>by simp only[uI];rw[XW,aet (by simpa using h)];exact⟨λh=>⟨gU h.1,h.2⟩,λh=>⟨aer h.1,h.2⟩⟩
theorem arB{cols:am Col}:∀{rows:am (am Val)},X2 cols rows=0↔ ∀r∈rows,zN cols r
 |[]=>⟨λ_ r hr=>by(cases hr),λ_=>rfl⟩
 |a::j=>by
  simp only[X2];rw[XV d8,XW,arB];constructor
  .grind[aet]
  intro h;have g:=h a dT;have i:=g.len<;>grind[aet]
theorem anp(l:am Col)(s:ByteArray):decide (zf l s>=0)=true↔s∈l.map Col.name:=by
 unfold zf;have:=Qf (λx:Col=>zo x.name s) l 0
 grind[AM.beqS_iff]
theorem anq(l:am Col)(s:ByteArray):decide (zf l s>=0)=false↔s∉l.map Col.name:=by rw[<-anp,Bool.not_eq_true]
def ColF(c:Col):Prop:=w6 c.name=0/\(c.t=1\/c.t=2\/c.t=3)
theorem aqU:∀{l:am Col}{all:am Col}{i:Nat},all.drop i=l->i<=all.length->(Y0 all i l=0↔(∀c∈l,ColF c)/\(∀c∈l,c.name∉(all.take i).map Col.name)/\(l.map Col.name).Nodup)
 |[],_,_,_,_=>⟨λ_=>⟨λ_ h=>(by cases h),λ_ h=>(by cases h),df⟩,λ_=>rfl⟩
 |c::r,all,i,h,hi=>by
  have o:i<all.length:=d9
  have U:=zt o;rw[h]at U;obtain⟨e1,e2⟩:=List.cons.inj U;have p:all.take (i+1)=all.take i++[c]:=d9
  simp only[Y0];rw[XW,XV d8,XV d8,aqU e2.symm d8,anq,p];have ht:(c.t !=1&&c.t !=2&&c.t !=3)=false↔(c.t=1\/c.t=2\/c.t=3):=d9
  rw[ht];simp only[cE,bF,aZ,cT,bO,cY];constructor
  .rintro⟨j,I,J,P,h5,h6⟩;refine⟨λx g=>?_,λx g=>?_,?_,h6⟩
   .rcases bI.1 g with rfl|g
    .exact⟨j,J⟩
    grind
   .grind
   grind
  rintro⟨j,I,J,P⟩;have R:=j c dT;refine⟨R.1,I c dT,R.2,λx g=>j x (by simp[g]),λx g=>?_,P⟩
  grind
structure ColsF(cols:am Col):Prop where
 few:cols.length<=32
 ok:∀c∈cols,ColF c
 nd:(cols.map Col.name).Nodup
theorem jb(t:Tbl):zH t=0↔ColsF t.cols/\t.rows.length<=20000/\∀r∈t.rows,zN t.cols r:=by
 unfold zH;rw[XV d8,XW,aqU (by rfl) (aN _),arB];simp only[dg,decide_eq_false_iff_not,dh,cT,cd,not_false_eq_true,implies_true,true_and];constructor
 .rintro⟨⟨l,o⟩,⟨g,i⟩,j⟩;exact⟨⟨d8,g,i⟩,d8,j⟩
 rintro⟨⟨l,g,i⟩,o,j⟩<;>grind
theorem aq4:∀{cols:am Col}{row:am Val},zN cols row->Wh cols row=true
 |[],[],_=>rfl
 |c::cs,v::r,h=>by simp only[Wh];rw[show(yV c.t v !=0)=false by simpa using aer h.1];exact aq4 h.2
theorem aq1{cols:am Col}{row:am Val}(h:zN cols row):vT cols row=true:=by
 unfold vT;rw[h.len]
 grind[aq4]
theorem aup:∀{l pre:am Col},dupL pre l=false↔(∀c∈l,c.name∉pre.map Col.name)/\(l.map Col.name).Nodup
 |[],_=>⟨λ_=>⟨λ_ h=>(by cases h),df⟩,λ_=>rfl⟩
 |c::r,pre=>by
  simp only[dupL];have g:=aup (l:=r) (pre:=pre++[c]);cases i:decide (zf pre c.name>=0)
  .rw[aB,g]
   grind[anq]
  rw[aE]
  grind[anp]
theorem apM:∀c:Fin 256,amu ((c.val:Int))=false->aeO (c.val:Int)=true:=by decide+kernel
theorem arb:∀{l:am UInt8},idL l=true->adI l=0
 |[],_=>rfl
 |c::r,h=>by
  simp only[idL]at h;simp only[adI];cases g:amu c.toNat
  .rw[g,aB]at h;have:=apM ⟨c.toNat,c.toNat_lt⟩ g;simp only at this;rw[this];exact arb h
  grind
theorem Ja{s:ByteArray}(h:yB s=true):w6 s=0:=by
 unfold yB at h;unfold w6;cases g:(zo s ⟨#[]⟩||decide ((s.size:Int)>40)||decide (aeD s<97)||decide (aeD s>122))
 .rw[g,aB]at h
  grind[arb]
 grind
theorem aw6{l:am ByteArray}{s:ByteArray}:hasB l s=true↔s∈l:=by grind[hasB,AM.beqS_iff]
theorem anL{l:am ByteArray}{s:ByteArray}:hasB l s=false↔s∉l:=by rw[<-aw6,Bool.not_eq_true]
theorem awo{g:am ByteArray}{s:ByteArray}(h:yv g s=0):yB s=true/\s∉g:=by unfold yv at h;rw[XV d8,XV d8]at h;exact⟨d9,anL.1 h.2.1⟩
theorem ki{α:Type}(f:α->ByteArray){E:am ByteArray->am α->Int}(i:∀g x r,E g (x::r)=0->yv g (f x)=0/\E (g++[f x]) r=0):∀(l:am α) (g:am ByteArray),E g l=0->(∀x∈l,yB (f x)=true)/\(∀x∈l,f x∉g)/\(l.map f).Nodup
 |[],_,_=>⟨λ_ h=>(by cases h),λ_ h=>(by cases h),df⟩
 |x::r,g,h=>by
  obtain⟨j,o⟩:=i g x r h;obtain⟨p,I⟩:=awo j;obtain⟨J,i2,i3⟩:=ki f i r _ o
  grind
theorem akm{l g:am ByteArray}(h:vR g l=0):(∀x∈l,yB x=true)/\(∀x∈l,x∉g)/\l.Nodup:=by
 have:=ki (λs:ByteArray=>s) (E:=vR) (λg x r h=>by grind[vR]) l g h
 grind
theorem ap1{l:am Itm}{g:am ByteArray}(h:qg g l=0):(∀x∈l,yB x.nm=true)/\(∀x∈l,x.nm∉g)/\(l.map Itm.nm).Nodup:=
 ki Itm.nm (E:=qg) (λg x r h=>by grind[qg]) l g h
theorem ar0{l:am Agg}{g:am ByteArray}(h:uc g l=0):(∀x∈l,yB x.nm=true)/\(∀x∈l,x.nm∉g)/\(l.map Agg.nm).Nodup:=
 ki Agg.nm (E:=uc) (λg x r h=>by grind[uc]) l g h
def nul:Val:=⟨0,0,⟨#[]⟩⟩
def Qg(c:ByteArray):Ex:=⟨2,c,nul,[]⟩
def Wg(n:Int):Ex:=⟨1,⟨#[]⟩,⟨2,n,⟨#[]⟩⟩,[]⟩
def Kw(op:Int)(a b:Ex):Ex:=⟨op,⟨#[]⟩,nul,[a,b]⟩
theorem aBa{n:Int}(h:inB n=true):yD 1 ⟨#[]⟩ ⟨2,n,⟨#[]⟩⟩ 0=0:=by unfold yD qh uN yV;rw[h];simp[beqS_self];rfl
def K2(g:Nat)(lo hi:Int)(row:am Val):Bool:=(at0 row g).k==2&&(decide (lo<=(at0 row g).n)&&decide ((at0 row g).n<=hi))
theorem akw{α:Type}(p:α->Bool):∀(l:am α) (i:Nat),yp p (i:Int) l<0\/∃k,∃h:k<l.length,yp p (i:Int) l=((i+k:Nat):Int)/\p l[k]=true
 |[],i=>.inl (by simp[yp])
 |x::r,i=>by
  simp only[yp];cases g:p x
  .have:=akw p r (i+1);simp only[aB];rcases this with h|⟨k,hk,e,j⟩
   .grind
   right
   refine⟨k+1,d9,?_,j⟩;have:yp p ((i:Int)+1) r=((i+1+k:Nat):Int):=e;omega
  right
  exact⟨0,dT,dT,g⟩
theorem Yq{cols:am Col}{s:ByteArray}(h:¬zf cols s<0):∃h:(zf cols s).toNat<cols.length,q9 cols (zf cols s)=cols[(zf cols s).toNat]/\(q9 cols (zf cols s)).name=s:=by
 have:=akw (λx:Col=>zo x.name s) cols 0
 grind[zf,q9,AM.beqS_iff]
theorem aeq{cols:am Col}{g:am ByteArray}(h:takeErr cols g=false):∀s∈g,¬zf cols s<0:=λs hs=>by grind[takeErr]
theorem afY{cols:am Col}{g:am ByteArray}(h:takeErr cols g=false):(takeC cols g).map Col.name=g:=by
 unfold takeC;rw[List.map_map];conv=>rhs;rw[<-List.map_id' g]
 exact List.map_congr_left λs hs=>(Yq (aeq h s hs)).2.2
theorem av3{cols:am Col}{g:am ByteArray}(h:takeErr cols g=false):∀c∈takeC cols g,c∈cols:=λc i=>by
 unfold takeC at i;obtain⟨s,hs,rfl⟩:=bG.1 i;obtain⟨j,l,_⟩:=Yq (aeq h s hs)
 grind
theorem zN.pick{cols:am Col}{r:am Val}(hr:zN cols r){g:am ByteArray}(h:takeErr cols g=false):zN (takeC cols g) (zn r (zi cols g)):=by
 unfold zn zi takeC;rw[List.map_map];refine zN.map _ _ λs hs=>?_
 obtain⟨i,j,_⟩:=Yq (aeq h s hs);rw[j];exact hr.get i
theorem au4(r:am Val)(a b:am Int):zn r (a++b)=zn r a++zn r b:=by simp[zn]
theorem aun{vs:am Val}{i:Nat}{v:Val}{r:am Val}(h:vs.drop i=v::r):at0 vs i=v/\vs.drop (i+1)=r:=by grind[aP,zt,at0]
theorem zN.rest(g:am ByteArray){y:am Val}:∀{tc:am Col}{i:Nat},zN tc (y.drop i)->zN (tc.filter λc=>!hasB g c.name) (zn y (oth g i tc))
 |[],i,_=>trivial
 |c::r,i,h=>by
  cases j:y.drop i with
  |nil=>rw[j]at h;exact False.elim h
  |cons v vs=>
   rw[j]at h;obtain⟨l,o⟩:=aun j;have I:=zN.rest g (y:=y) (tc:=r) (i:=i+1) (by rw[o];exact h.2);simp only[Go.Proofs.YtkdijaiaplkliaaGreatDoor.oth];cases p:(!hasB g c.name)
   .grind
   rw[cR,p,bX rfl,au4];refine zN.app (cs:=[c]) ?_ I;show zN [c] [at0 y ((i:Int)).toNat];rw[show((i:Int)).toNat=i by omega,l];exact⟨h.1,trivial⟩
theorem agI(g:am ByteArray):∀(l:am Col) (i:Nat),(oth g i l).length=(l.filter λc=>!hasB g c.name).length
 |[],_=>rfl
 |c::r,i=>by
  simp only[oth,aA];rw[agI g r (i+1)];cases j:(!hasB g c.name)
  .rw[cR,j];simp
  rw[cR,j];simp;omega
theorem aw5(a b:am ByteArray)(s:ByteArray):hasB (a++b) s=(hasB a s||hasB b s):=by simp[hasB]
theorem ady(g cs:am ByteArray)(tc:am Col):keepS g cs tc=tc.filter λc=>!hasB (cs++g) c.name:=by
 unfold keepS;congr 1
 funext c
 grind[aw5]
theorem zN.nulls:∀(l:am Col),zN l (aH l.length zw)
 |[]=>trivial
 |c::r=>⟨adf _,zN.nulls r⟩
theorem aA4{l:am Int}{w:Int}(h:xi l w=true):∀x∈l,x=w\/x=0:=λx i=>by
 cases g:qp x w
 .grind[xi]
 simp_all[qp]
theorem auy{l:am Int}{i:Nat}{P:Int->Prop}(h:∀x∈l,P x)(h0:P 0):P (l.getD i 0):=d9
theorem ay9{cols:am Col}(hc:∀c∈cols,ColF c){e:Ex}(he:e.err=0)(I:(e.ty cols).2=0):0<=(e.ty cols).1/\(e.ty cols).1<=3:=by
 obtain⟨op,j,v,ks⟩:=e;have p:yD op j v ks.length=0:=by grind[Ex.err]
 obtain⟨ac,g⟩:=aaS I;have hT:(Ex.ty cols (.mk op j v ks))=qC cols op j v (tyL cols ks).2:=by grind[Ex.ty]
 rw[hT];obtain⟨_,aa,ab⟩:=jE p;generalize(tyL cols ks).2=l at*;have ho:op=1\/op=2\/op=3\/op=4\/op=5\/op=6\/op=7\/op=8\/op=9\/op=10\/op=11\/op=12\/op=13\/op=14\/op=15\/op=16:=d8
 rcases ho with rfl|rfl|rfl|rfl|rfl|rfl|rfl|rfl|rfl|rfl|rfl|rfl|rfl|rfl|rfl|rfl
 .show 0<=v.k/\v.k<=3;have o:=XM (by rfl) p;unfold uN at o;have:=gU (XW.1 o).1;rcases this with rfl|⟨h,_⟩|⟨h,_⟩|⟨h,_⟩
  .exact⟨Int.le_refl _,by show(0:Int)<=3;omega⟩
  all_goals omega
 .have g:(bif decide (zf cols j<0)then((0:Int),(16:Int))else(xA cols (zf cols j),0)).2=0:=g;have r:¬zf cols j<0:=λh=>d9
  show 0<=(bif decide (zf cols j<0)then((0:Int),(16:Int))else(xA cols (zf cols j),0)).1/\(bif decide (zf cols j<0)then((0:Int),(16:Int))else(xA cols (zf cols j),0)).1<=3;rw[cg r];obtain⟨R,_,_⟩:=Yq r;have h7:xA cols (zf cols j)=cols[(zf cols j).toNat].t:=by grind[xA]
  simp only[aB];rw[h7];have:=(hc _ (aD R)).2;omega
 .grind[qC,yK]
 .grind[qC,yK]
 .grind[qC,yK]
 .grind[qC,yK]
 .grind[qC,yK]
 .grind[qC,yK]
 .grind[qC,yK]
 .grind[qC,yK]
 .grind[qC,yK]
 .grind[qC,yK]
 .grind[qC,yK]
 .grind[qC,yK]
 .grind[qC,yK]
 have g:(uZ j l).2=0:=g;show 0<=(uZ j l).1/\(uZ j l).1<=3;unfold uZ at g⊢;generalize(zo j ⟨#[109,105,110]⟩||zo j ⟨#[109,97,120]⟩)=q1 at*;generalize zo j ⟨#[97,98,115]⟩=q2 at*;generalize zo j ⟨#[108,101,110]⟩=q3 at*;cases q1 with
 |true=>
  simp only[aE]at g⊢;obtain⟨U,h2⟩:=yK g;rw[h2,aeS];have J:∀x∈l,0<=x/\x<=3:=λx hx=>by
   simp only[Bool.or_eq_true]at U
   grind[aA4]
  have r:=auy (i:=0) (P:=λx=>0<=x/\x<=3) J d8;have R:=auy (i:=1) (P:=λx=>0<=x/\x<=3) J d8;omega
 |false=>
  simp only[aB]at g⊢;cases q2 with
  |true=>simp_all[yK]
  |false=>
   simp only[aB]at g⊢;cases q3<;>simp_all[yK]
theorem ao6{cols:am Col}(p:∀c∈cols,ColF c):∀{l:am Itm},(∀x∈l,x.e.chk=0/\yB x.nm=true)->(uF cols l).1=0->(uF cols l).2=l.map (λx=>(⟨x.nm,(x.e.ty cols).1⟩:Col))/\∀x∈l,(x.e.ty cols).2=0/\ColF ⟨x.nm,(x.e.ty cols).1⟩
 |[],_,_=>⟨rfl,λ_ h=>by(cases h)⟩
 |x::r,I,h=>by
  simp only[uF]at h⊢;cases i:((x.e.ty cols).2 !=0)
  .rw[i]at h;cases o:((x.e.ty cols).1==0)
   .rw[o]at h;cases J:((uF cols r).1 !=0)
    .rw[J]at h;obtain⟨P,i2⟩:=ao6 p (λy j=>I y (by simp[j])) (l:=r) d9;simp only[aB,aZ];have i:(x.e.ty cols).2=0:=d9
     have o:(x.e.ty cols).1≠0:=d9
     have g:=I x dT;have hr:=ay9 p (ji g.1) i;refine⟨by rw[P],λy j=>?_⟩;rcases bI.1 j with rfl|j
     .exact⟨i,Ja g.2,d9⟩
     grind
    simp_all
   grind
  simp_all
theorem ayP{cols:am Col}(g:∀c∈cols,ColF c){l:am Itm}(i:∀x∈l,x.e.chk=0/\yB x.nm=true)(h:(uF cols l).1=0){row:am Val}(hr:zN cols row):zN (uF cols l).2 (itR cols row l):=by grind[ao6,itR,zN.map,Ex.tyE,auv,aq1]
theorem awV(l:am Val):yI 2 (gw l):=by grind[gw,yI,atq,KV]
theorem aod:∀{l:am Val}{m:Val}{P:Val->Prop},P m->(∀v∈l,P v)->P (jT m l)
 |[],_,_,h,_=>h
 |v::r,m,P,h,g=>by
  simp only[jT];refine aod ?_ λx i=>g x (by simp[i])
  grind
theorem aoa:∀{l:am Val}{m:Val}{P:Val->Prop},P m->(∀v∈l,P v)->P (Ws m l)
 |[],_,_,h,_=>h
 |v::r,m,P,h,g=>by
  simp only[Ws];refine aoa ?_ λx i=>g x (by simp[i])
  grind
theorem ar3{l:am Val}{i:Nat}{P:Val->Prop}(h:∀v∈l,P v)(h0:P zw):P (at0 l i):=by grind[at0]
theorem amX{fn:ByteArray}{l:am Val}{t:Int}(I:l.length<=20000)(g:zo fn Zp=false->∀v∈l,yI t v)(hs:zo fn adZ=true->zo fn Zp=false->t=2)(j:zo fn Zp=true->t=2):yI t (Jv fn l):=by
 unfold Jv;cases o:zo fn Zp
 .have g:=g o;have i:∀v∈yC l,yI t v:=λv hv=>g v (List.mem_filter.1 hv).1
  cases r:zo fn adZ
  .simp only[aB];cases(zo fn aoE&&decide ((l.length:Int)>0))
   .simp only[aB];have p:∀v∈(yC l).drop 1,yI t v:=λv hv=>i v (cr hv)
    cases(zo fn ayp&&decide (((yC l).length:Int)>0))
    .simp only[aB];cases(zo fn ayo&&decide (((yC l).length:Int)>0))
     .exact .inl rfl
     exact aoa (ar3 i (.inl rfl)) p
    exact aod (ar3 i (.inl rfl)) p
   exact ar3 g (.inl rfl)
  grind[awV]
 rw[j o];simp only[aE];exact uP (V6 d8 d8)
theorem af6{cols:am Col}:∀{l:am Agg},(xB cols l).1=0->(xB cols l).2=l.map (λa=>(Yh cols a).2)/\∀a∈l,(Yh cols a).1=0
 |[],_=>⟨rfl,λ_ h=>by(cases h)⟩
 |a::r,h=>by
  simp only[xB]at h⊢;cases i:((Yh cols a).1 !=0)
  .rw[i]at h;simp only[aB]at h⊢;obtain⟨j,i2⟩:=af6 h;refine⟨by rw[j,aZ],λy g=>?_⟩;rcases bI.1 g with rfl|g
   .simpa using i
   exact i2 y g
  simp_all
theorem akj(cols:am Col)(a:Agg):(Yh cols a).2.name=a.nm:=by
 unfold Yh;cases(!zo a.fn Zp)
 .rfl
 simp only[aE];cases decide (zf cols a.col<0)
 .simp only[aB]
  grind
 rfl
theorem azF{cols:am Col}(P:∀c∈cols,ColF c){a:Agg}(hid:yB a.nm=true)(h:(Yh cols a).1=0){rows:am (am Val)}(R:rows.length<=20000)(hr:∀r∈rows,zN cols r):ColF (Yh cols a).2/\yI (Yh cols a).2.t (Jv a.fn (W9 cols rows a)):=by
 have g:w6 (Yh cols a).2.name=0:=by grind[akj,Ja]
 have j:(W9 cols rows a).length<=20000:=by grind[anr]
 unfold ColF;refine⟨⟨g,?_⟩,?_⟩;all_goals clear g
 all_goals unfold Yh at h⊢
 all_goals cases l:zo a.fn Zp
 .rw[l]at h;simp only[di,aE]at h⊢;cases i:decide (zf cols a.col<0)
  .rw[i]at h;simp only[aB]at h⊢;cases J:(zo a.fn adZ&&(q9 cols (zf cols a.col)).t !=2)
   .obtain⟨o,p,_⟩:=Yq (bK i);simp only[aB];rw[p];exact(P _ (aD o)).2
   grind
  grind
 .grind
 .rw[l]at h;simp only[di,aE]at h⊢;cases i:decide (zf cols a.col<0)
  .rw[i]at h;simp only[aB]at h⊢;cases J:(zo a.fn adZ&&(q9 cols (zf cols a.col)).t !=2)
   .obtain⟨o,p,_⟩:=Yq (bK i);simp only[aB];refine amX j (λ_ v hv=>?_) (λhs _=>?_) (λh=>d9)
    .unfold W9 at hv;rw[l,show decide (zf cols a.col>=0)=true by grind]at hv;simp only[di,Bool.and_true,aE]at hv;obtain⟨r,I,rfl⟩:=bG.1 hv;rw[p];exact(hr r I).get o
    grind
   grind
  grind
 grind[amX]
theorem ass{at_:am Int}{P:Gr->Prop}{gs:am Gr}{row:am Val}(h:∀g∈gs,P g)(o:∀g j:Gr,g.key=j.key->P g->P j)(hk:∀p,P ⟨zn row at_,p⟩):∀g∈V5 at_ gs row,P g:=by
 have hi:∀g∈Yt gs (zn row at_),P g:=by
  unfold Yt;cases Xv gs (zn row at_)
  .intro g i;simp only[aB,bF,bO]at i
   grind
  exact h
 unfold V5 YX;intro g i;cases l:(Yt gs (zn row at_))[qI gs (zn row at_)]? with
 |none=>grind
 |some x=>
  rw[l]at i;rcases cN i with i|rfl
  .grind
  exact o x _ rfl (hi x (aJ l))
theorem anJ(at_:am Int){P:Gr->Prop}(o:∀g l:Gr,g.key=l.key->P g->P l):∀(rows:am (am Val)) (i:am Gr),(∀g∈i,P g)->(∀r∈rows,∀j,P ⟨zn r at_,j⟩)->∀g∈rows.foldl (V5 at_) i,P g
 |[],i,h,_=>h
 |r::j,i,h,hk=>by rw[cC];exact anJ at_ o j _ (ass h o (hk r dT)) λx p=>hk x (by simp[p])
theorem apX(at_:am Int)(rows:am (am Val)):∀g∈vC at_ rows,(at_=[]/\g.key=[])\/∃r∈rows,g.key=zn r at_:=by
 unfold vC;split
 .grind
 intro g i;exact .inr (anJ at_ (P:=λg=>∃r∈rows,g.key=zn r at_) (λg j e h=>d9) rows [] (λ_ h=>by cases h) (λr hr _=>⟨r,hr,rfl⟩) g i)
theorem zN.rest0(g cs:am ByteArray){tc:am Col}{y:am Val}(h:zN tc y):zN (keepS g cs tc) (zn y (oth (cs++g) 0 tc)):=by grind[ady,zN.rest]
theorem auE{left right g:am Int}{xs ys:am (am Val)}{z:am Val}(h:z∈xO left right g xs ys):∃x∈xs,∃y∈ys,z=x++zn y g:=by
 unfold xO at h;obtain⟨x,j,h⟩:=bW.1 h;unfold kX at h;cases i:(zn x left).any (xf zw)
 .rw[i,aB]at h
  grind[wD]
 grind
theorem zN.setN{cols:am Col}{R:am Val}(h:zN cols R){k n:Int}(hk:k.toNat<cols.length)(o:cols[k.toNat].t=2)(l:(at0 R k.toNat).k≠0)(hi:inB n=true):zN cols (setN R k n)/\∀j,(at0 (setN R k n) j).k=(at0 R j).k:=by
 have g:=h.get hk;rw[o]at g;obtain⟨m,_,e⟩:=g.num l rfl;have p:=h.len;have i:Go.Proofs.YtkdijaiaplkliaaGreatDoor.setN R k n=R.set k.toNat (abA n):=by unfold Go.Proofs.YtkdijaiaplkliaaGreatDoor.setN;rw[e];rfl
 rw[i];refine⟨h.set hk (by grind[uP]),λj=>?_⟩
 grind[at0,abA]
theorem aeA{x m:am Val}{i:Nat}(h:i<x.length):at0 (x++m) i=at0 x i:=by grind[at0]
theorem ae5{a b:Val}(h:xx a b=true):a.k=2/\b.k=2/\a.n<b.n:=by simp_all[xx]
theorem zN.inB{cols:am Col}{R:am Val}(h:zN cols R){k:Nat}(hk:k<cols.length)(i:(at0 R k).k=2):inB (at0 R k).n=true:=by obtain⟨e,_⟩:=(h.get hk).kind d9;obtain⟨m,j,g⟩:=(h.get hk).num d9 (by rw[<-e,i];rfl);rw[g];exact j
theorem Ve{b:Bool}{x y:Int}(g:Go.Proofs.YtkdijaiaplkliaaGreatDoor.inB x=true)(i:Go.Proofs.YtkdijaiaplkliaaGreatDoor.inB y=true):Go.Proofs.YtkdijaiaplkliaaGreatDoor.inB (zI b x y)=true:=by grind[zI]
structure Spn(cols:am Col)(p q:Int):Prop where
 p1:p.toNat<cols.length
 p2:cols[p.toNat].t=2
 q1:q.toNat<cols.length
 q2:cols[q.toNat].t=2
theorem V1{cols:am Col}{s:ByteArray}(h:colInt cols s=0):∃h:(zf cols s).toNat<cols.length,cols[(zf cols s).toNat].t=2:=by
 unfold colInt at h;rw[XV d8,XV d8]at h
 grind[Yq]
theorem apr{cols:am Col}(h:intErr cols [sFrom,sTo]=0):Spn cols (zf cols sFrom) (zf cols sTo):=by simp only[intErr]at h;rw[XW,XW]at h;obtain⟨g,a2⟩:=V1 h.1;obtain⟨i,j⟩:=V1 h.2.1;exact⟨g,a2,i,j⟩
theorem amq{A B:am Col}{i:Nat}(h:i<A.length)(g:A[i].t=2):∃h:i<(A++B).length,(A++B)[i].t=2:=
 ⟨d9,d9⟩
theorem auZ{cols tc K:am Col}{p q J P:Int}{left right g:am Int}{R br:am (am Val)}(hs:Spn cols p q)(o:Spn tc J P)(ha:∀r∈R,zN cols r)(hb:∀r∈br,zN tc r)(hm:∀r∈br,zN K (zn r g)):∀z∈xL p q J P left right g R br,zN (cols++K) z:=by
 intro z i;unfold xL at i;obtain⟨x,hx,i⟩:=bW.1 i;unfold XO at i;cases U:xx (at0 x p.toNat) (at0 x q.toNat)
 .grind
 rw[U,aE]at i;unfold wF at i;obtain⟨y,hy,i⟩:=bW.1 i;cases l:Yb J P left right (at0 x p.toNat).n (at0 x q.toNat).n x y
 .grind
 rw[l,aE,bO]at i;subst i;unfold Yb at l;simp only[aQ]at l;obtain⟨l,_⟩:=l;have j:=ha x hx;have I:=hb y hy;obtain⟨k1,k2,_⟩:=ae5 U;obtain⟨k3,k4,_⟩:=ae5 l;have hR:zN (cols++K) (x++zn y g):=j.app (hm y hy);have hl:=j.len;obtain⟨P1,P2⟩:=amq (B:=K) hs.p1 hs.p2;obtain⟨Q1,Q2⟩:=amq (B:=K) hs.q1 hs.q2;have i1:=j.inB hs.p1 k1;have i2:=j.inB hs.q1 k2;have i3:=I.inB o.p1 k3;have i4:=I.inB o.q1 k4;unfold Je;have aa:=hs.p1;have ab:=hs.q1;obtain⟨s1,s2⟩:=hR.setN P1 P2 (by grind[aeA]) (Ve (b:=true) i1 i3);exact(s1.setN Q1 Q2 (by grind[aeA]) (Ve (b:=false) i2 i4)).1
theorem arm{p i:Int}{left right:am Int}{x:am Val}:∀{ys:am (am Val)}{b:aT (am Val)}{P:am Val->Prop},(∀z,b=some z->P z)->(∀y∈ys,P y)->∀z,ys.foldl (λb y=>bif VJ (at0 x p.toNat) (at0 y i.toNat) (uv (zn x left) (zn y right))then gm i y b else b) b=some z->P z
 |[],b,P,h,_,z,j=>h z j
 |y::r,b,P,h,I,z,j=>by
  rw[cC]at j;refine arm (P:=P) (ys:=r) ?_ (λw g=>I w (by simp[g])) z j;intro w g;cases l:VJ (at0 x p.toNat) (at0 y i.toNat) (uv (zn x left) (zn y right))
  .grind
  rw[l,aE]at g;cases b with
  |none=>cases g;grind
  |some u=>
   simp only[gm]at g;cases o:decide ((at0 y i.toNat).n>=(at0 u i.toNat).n)
   .simp_all
   rw[o,aE]at g;grind
theorem auT{cols K:am Col}{p i:Int}{left right g:am Int}{br:am (am Val)}(I:g.length=K.length)(j:∀r∈br,zN K (zn r g)){x:am Val}(l:zN cols x):zN (cols++K) (w7 p i left right g br x):=by
 unfold w7;refine l.app ?_;unfold UT;cases h:br.foldl (λb y=>bif VJ (at0 x p.toNat) (at0 y i.toNat) (uv (zn x left) (zn y right))then gm i y b else b) none with
 |none=>
  show zN K (aH g.length zw)
  grind[zN.nulls]
 |some z=>exact arm (P:=λr=>zN K (zn r g)) (λz o=>by cases o) j z h
def PcF(K:am Col)(x:Pc):Prop:=zN K x.key/\inB x.a=true/\inB x.b=true
theorem au2{cols K:am Col}{at_:am Int}{p q:Int}{rows:am (am Val)}(hs:Spn cols p q)(hr:∀r∈rows,zN cols r/\zN K (zn r at_)):∀z∈u7 at_ p q rows,PcF K z:=by
 intro z g;unfold u7 at g;obtain⟨x,l,g⟩:=bW.1 g;unfold agL at g;cases i:(xx (at0 x p.toNat) (at0 x q.toNat)&&decide ((at0 x p.toNat).n>=0))
 .grind
 rw[i,aE,bO]at g;subst g;simp only[aQ]at i;obtain⟨o,I,_⟩:=ae5 i.1;obtain⟨j,hk⟩:=hr x l;exact⟨hk,j.inB hs.p1 o,j.inB hs.q1 I⟩
theorem axO{K:am Col}{g:am Pc}{x:Pc}(h:∀z∈g,PcF K z)(l:PcF K x):∀z∈J9 g x,PcF K z:=by
 have j:∀z∈g++[x],PcF K z:=λz i=>d9
 unfold J9;split
 .exact j
 rename_i y o;cases(xp y.key x.key&&_)
 .exact j
 intro z i;rcases cN i with i|rfl
 .exact h z i
 have:=h y (am.mem_of_getLast? o);exact⟨this.1,this.2.1,by show inB (zI true y.b x.b)=true;exact Ve this.2.2 l.2.2⟩
theorem axM{K:am Col}{l:am Pc}(h:∀z∈l,PcF K z):∀z∈Z0 l,PcF K z:=by
 have gen:∀(l g:am Pc),(∀z∈l,PcF K z)->(∀z∈g,PcF K z)->∀z∈l.foldl J9 g,PcF K z:=by intro l;induction l<;>grind[axO,aU]
 exact gen l [] h (λz i=>by cases i)
theorem anP{α:Type}(c:α->α->Int)(l:am α):∀z∈yM c l,z∈l:=by
 have gen:∀(l g:am α),∀z∈l.foldl (λg x=>wc c x g) g,z∈g\/z∈l:=by intro l;induction l<;>grind[QF]
 intro z i;rcases gen l [] z i with h|h<;>grind
theorem avE{α:Type}(c:α->α->Int)(l:am α):(yM c l).length=l.length:=by
 have gen:∀(l g:am α),(l.foldl (λg x=>wc c x g) g).length=g.length+l.length:=by
  intro l;induction l with
  |nil=>grind
  |cons x r i=>
   intro g;rw[cC,i,(QF c x g).length_eq]
   grind
 have:=gen l [];rw[bQ,cU]at this;exact this
theorem asc{cols K:am Col}{at_:am Int}{p q:Int}{rows:am (am Val)}(hs:Spn cols p q)(hr:∀r∈rows,zN cols r/\zN K (zn r at_)):∀z∈Yo at_ p q rows,zN (K++[⟨sFrom,2⟩,⟨sTo,2⟩]) z:=by intro z g;unfold Yo at g;obtain⟨x,i,rfl⟩:=bG.1 g;have:=axM (λz g=>au2 hs hr z (anP Uu _ z g)) x i;unfold Yc;exact this.1.app ⟨uP this.2.1,uP this.2.2,trivial⟩
theorem asd(at_:am Int)(p q:Int)(rows:am (am Val)):(Yo at_ p q rows).length<=rows.length:=by
 unfold Yo;rw[cZ];have g:=agE (yM Uu (u7 at_ p q rows)) (yM Uu (u7 at_ p q rows)).length (aI _)
 grind[avE,adN]
end
end Go.Proofs.YtkdijaiaplkliaaGreatDoor
set_option linter.unusedVariables false
namespace Go.Proofs.YtkdijaiaplkliaaGreatDoor
open Go Go.Proofs Go.RowKit Go.Lib
section
variable {P:Program}
theorem VA(w:aG){ops:bB Oper}{rest:am Oper}{o:Oper}{a:Act}{Q:Exit->Act->aG->Prop}(g:o.guard=none)(d s:Operand)(t t':TypeId)
 (l:o.op=.call {callee:=.builtin .copy,args:= #[d,s],argTypes:= #[t,t']}) (v u:Value) (j:a.eval d=v) (hs:a.eval s=u) {v':Value}{w':aG}
 (hr:(bJ #[t,t'] o.type #[v,u]).run P w=.ok v' w') (h:wpList P ops Q rest (a.put o.dst v') w'):wpList P ops Q (o::rest) a w:=
 wpList_plain g λK i=>by unfold Oper.wp execOp;simp only[l,resolve,invoke,builtin,Sem.run_bind,Sem.run_pure,Result.andThen_ok,List.map_toArray,aZ,cT,j,hs,hr];exact i _ _ h
theorem aeo{ops:bB Oper}{o:Oper}{a:Act}{w:aG}{K:Act->aG->Prop}{Q:Exit->Act->aG->Prop}{E:Prop}
 (p:o.guard=none) (d x:Operand) (i sT:TypeId) (g:o.op=Op.call {callee:=Callee.builtin Builtin.copy,args:= #[d,x],argTypes:= #[i,sT]})
 (v u:Value) (l:a.eval d=v) (I:a.eval x=u) {v':Value}{w':aG}(hr:(bJ #[i,sT] o.type #[v,u]).run P w=.ok v' w') (j:K (a.put o.dst v') w'):
 if dx o (yielded ops a.tmps)=true then Oper.wp P o a w K Q else E:=by
 have r:dx o (yielded ops a.tmps)=true:=by simp[dx,p]
 rw[bX r];unfold Oper.wp;simp[execOp,g,resolve,invoke,builtin,l,I,hr,cL];exact j
end
theorem YN(g:Nat)(t:TypeId):∀(vs:am Value) (o:Nat) (w:aG) (i:bB Value),w.heap[g]?=some (.cells i t (0,0))->o+vs.length<=i.size->
 (∃j,(w.setCells g o vs).heap[g]?=some (.cells j t (0,0))/\j.size=i.size/\j.toList=i.toList.take o++vs++i.toList.drop (o+vs.length))/\w.grownBy (w.setCells g o vs) (some g)/\(w.setCells g o vs).drawn=w.drawn
 |[],o,w,i,h,_=>⟨⟨i,h,rfl,dT⟩,⟨rfl,rfl,rfl,aI _,λ_ _ _=>rfl⟩,rfl⟩
 |v::r,o,w,i,h,hl=>by
  simp only[aP]at hl;have P:=heap_setCell_same w g o i t v h;obtain⟨⟨j,R,U,h4⟩,l,h6⟩:=YN g t r (o+1) (w.setCell ⟨g,o,none⟩ v) (i.setIfInBounds o v) P dX;refine⟨⟨j,R,by rw[U];simp,?_⟩,?_,h6⟩
  .rw[h4,Array.toList_setIfInBounds];have J:o<i.toList.length:=dX
   rw[List.set_eq_take_append_cons_drop,bX J];have p:(i.toList.take o).length=o:=by rw[aL];omega
   rw[List.take_append,p,show o+1-o=1 by omega,bA d8];rw[List.drop_append,p,aR (by omega:(i.toList.take o).length<=o+1+r.length)];rw[show o+1+r.length-o=r.length+1 by omega];simp only[dt,dh,List.drop_succ_cons,List.nil_append,List.drop_drop,bH,bL,aP];rw[show o+1+r.length=o+(r.length+1)by omega]
  exact⟨l.os,l.tape,l.output,aM dT l.size,λk hk I=>(l.block k (by simpa using hk) I).trans (cG w ⟨g,o,none⟩ k v (λe=>I (by rw[e])))⟩
theorem akP{w:aG}{base g n cap:Nat}{xs:am Value}(l:w.ownsRow base tG 2 (.slice (some ⟨g,0,none⟩) n cap) n xs):∃i,w.heap[g]?=some (.cells i tG (0,0))/\n<=cap/\cap<=maxLen/\i.size=cap*2/\i.toList.take (n*2)=xs/\base<=g:=by
 rcases l.2 with⟨o,_⟩|⟨U,J,i,o,P,R,I,p,r,j⟩
 .simp at o
 simp only[Value.slice.injEq,Option.some.injEq,Addr.mk.injEq,and_true,true_and]at o;obtain⟨⟨rfl,_⟩,rfl⟩:=o;exact⟨i,R,I,p,r,j,P⟩
theorem Wx{P:Program}(w:aG)(U sT ty elem:TypeId)(b o g p:Nat)(a:dn)(l I:Nat)(cs:am Value)
 (hu:P.underlying U=some (.slice elem)) (hs:(P.info? elem).map (·.size)=some 2) (hn:cs.length=cH l g*2)
 (r:∀j v,cs[j]?=some v->w.cell? (a.add j)=some v) (hc:∀j,j<cs.length->(w.cell? ⟨b,o+j,none⟩).isSome=true) (hf:∀j,j<cs.length->w.frozen? ⟨b,o+j,none⟩=false) (h1:∀v∈cs,v.oneCell'=true):
 (bJ #[U,sT] ty #[.slice (some ⟨b,o,none⟩) g p,.slice (some a) l I]).run P w=.ok (goInt (cH l g)) (w.setCells b o cs):=by
 have hl:=run_loadCells_list (P:=P) w a cs r;have R:=run_storeCells_cells (P:=P) b o cs 0 w (by simpa using hc) (by simpa using hf) h1;cases J:P.info? elem with
 |none=>simp[J]at hs
 |some i=>
  have hi:i.size=2:=by simpa[J]using hs
  simp[bJ,run_underlying hu,Builtin.lenOf,dy,sizeOf,typeInfo,J,hi,<-hn,hl,R]
theorem JX(b:Nat)(vs:am Value)(o:Nat)(w:aG)(h:∀j,j<vs.length->(w.cell? ⟨b,o+j,none⟩).isSome=true)(k:Nat)(hk:(w.cell? ⟨b,k,none⟩).isSome=true):((w.setCells b o vs).cell? ⟨b,k,none⟩).isSome=true:=by
 by_cases g:o<=k/\k<o+vs.length
 .have:=aG.cell?_setCells_in b vs o w h (k-o) d8;rw[show o+(k-o)=k by omega]at this;rw[this];rfl
 rw[aG.cell?_setCells_out b vs o w ⟨b,k,none⟩ (λ_ _=>by show k<o\/o+vs.length<=k;omega)];exact hk
theorem axa(L:am Value)(xs:am Value)(n i:Nat)(k r:Value)(p:L.take (n*2)=xs)(R:(n+1)*2<=L.length)(hi:i<n):
 let g:=L.take ((i+1)*2)++xs.drop (i*2)++L.drop ((i+1)*2+(xs.drop (i*2)).length)
 (g.take (i*2)++[k,r]++g.drop (i*2+2)).take ((n+1)*2)=xs.take (2*i)++[k,r]++xs.drop (2*i):=by
 intro g;have l:xs.length=n*2:=by rw[<-p,aL];omega
 have P:(xs.drop (i*2)).length=n*2-i*2:=by rw[bM,l]
 have I:g.take (i*2)=xs.take (i*2):=by show(L.take ((i+1)*2)++xs.drop (i*2)++L.drop ((i+1)*2+(xs.drop (i*2)).length)).take (i*2)=_;rw[bH,cw (by rw[aL];omega),List.take_take,<-p,List.take_take];congr 1;omega
 have J:g.drop (i*2+2)=xs.drop (i*2)++L.drop ((i+1)*2+(xs.drop (i*2)).length):=by
  show(L.take ((i+1)*2)++xs.drop (i*2)++L.drop ((i+1)*2+(xs.drop (i*2)).length)).drop (i*2+2)=_;have o:(L.take ((i+1)*2)).length=i*2+2:=by rw[aL];omega
  rw[bH,<-o,List.drop_left]
 rw[I,J,show 2*i=i*2 by omega];have j:(xs.take (i*2)++[k,r]++xs.drop (i*2)).length=(n+1)*2:=by simp only[aA,aP,bQ,P,aL,l];omega
 rw[<-bH,<-j,dj]
set_option maxRecDepth 100000 in
set_option maxHeartbeats 4000000 in
theorem anT(w:aG)(base g n cap i:Nat)(xs:am Value)(o:w.ownsRow base tG 2 (.slice (some ⟨g,0,none⟩) n cap) n xs)(hn:n<=1000000)(hi:i<n)(an:n+1<=cap)
 (I:Nat) (k r:Value) (hv:w.heap[I]?=some (.cells #[k,r] tG (0,0))) (ag:I≠g) (h2:k.oneCell'=true) (h3:r.oneCell'=true) (ah:∀v∈xs,v.oneCell'=true):
 b9 Tryz.prog 199 #[.slice (some ⟨g,0,none⟩) n cap,.int .i64 i,.slice (some ⟨I,0,none⟩) 1 1] w λe w'=>e=.returned (.slice (some ⟨g,0,none⟩) (n+1) cap)/\w'=(w.drew.setCells g ((i+1)*2) (xs.drop (i*2))).setCells g (i*2) [k,r]:=by
 obtain⟨ar,hg,a2,az,aj,ao,ay⟩:=akP o;have a5:¬((i:Int)=(n:Int)):=d8
 have aq:xs.length=n*2:=o.1;have af:(Tryz.prog.info? tG).map (·.size)=some 2:=by obtain⟨i0,ak,h0,h1,h2⟩:=info_parts asy;rw[ak];simp[h1]
 have al:(callFunc 226 #[.slice (some ⟨I,0,none⟩) 1 1,.slice (some ⟨g,(i+1)*2,none⟩) (n-i) (cap-(i+1))]).run Tryz.prog w=.ok (.value (.bool false)) w:=by
  rw[dq Tryz.func226 dU dU dU (e:=Extern.SlicesOverlaps.overlaps #[248,248] #[4]) dU,
   Lib.run_overlaps_apart w 248 4 tG Tryz.underlying248 2 Tryz.sizeOf252 ⟨I,0,none⟩ ⟨g,(i+1)*2,none⟩ 1 1 (n-i) (cap-(i+1)) ag tG tG 2 (cap*2) (by simp[aG.shape?,hv]) (by simp[aG.shape?,hg,aj]) d8 (by simp[aG.frozen?,hv]) (by simp[aG.frozen?,hv])]
  rfl
 have U:∀j,j<cap*2->(w.cell? ⟨g,j,none⟩).isSome=true:=λj l=>by simp only[cz,hg];rw[bB.getElem?_eq_getElem d8];rfl
 have ad:∀j,w.frozen? ⟨g,j,none⟩=false:=λj=>o.frozenAt j
 have ac:∀j v,xs[j]?=some v->w.cell? ⟨g,j,none⟩=some v:=λj v h=>by have a1:=(am.getElem?_eq_some_iff.1 h).1;rw[o.cellAt j d8];exact h
 have R:(xs.drop (i*2)).length=(n-i)*2:=by rw[bM,aq,Nat.sub_mul]
 have J:∀ty P sc,(bJ #[248,248] ty #[.slice (some ⟨g,(i+1)*2,none⟩) (n-i) P,.slice (some ⟨g,i*2,none⟩) (n+1-i) sc]).run Tryz.prog w.drew=.ok (goInt (cH (n+1-i) (n-i))) (w.drew.setCells g ((i+1)*2) (xs.drop (i*2))):=λty P sc=>
  Wx w.drew _ _ ty tG g ((i+1)*2) (n-i) P ⟨g,i*2,none⟩ (n+1-i) sc (xs.drop (i*2)) Tryz.underlying248 af (by rw[R];show _=cH _ _*2;simp only[dl];split<;>omega)
   (λj v l=>by rw[cJ];exact ac (i*2+j) v (by rwa[am.getElem?_drop]at l))
   (λj l=>U _ (by rw[R]at l;have:n-i+i=n:= d8;omega)) (λj l=>ad _) (λv hv=>ah v (cr hv))
 obtain⟨W1,p⟩:∃W1,W1=w.drew.setCells g ((i+1)*2) (xs.drop (i*2)):=⟨_,rfl⟩;have ae:∀k,k<cap*2->(W1.cell? ⟨g,k,none⟩).isSome=true:=λk hk=>by rw[p];exact JX g _ ((i+1)*2) w.drew (λj l=>U _ (by rw[R]at l;have:n-i+i=n:= d8;omega)) _ (U k hk)
 have ab:∀(W:aG),(∀x,W.cell? x=W1.cell? x)->(∀x,W.frozen? x=W1.frozen? x)->∀ty P,(bJ #[248,248] ty #[.slice (some ⟨g,i*2,none⟩) (n+1-i) P,.slice (some ⟨I,0,none⟩) 1 1]).run Tryz.prog W=.ok (goInt (cH 1 (n+1-i))) (W.setCells g (i*2) [k,r]):=λW aa ai ty P=>
  Wx W _ _ ty tG g (i*2) (n+1-i) P ⟨I,0,none⟩ 1 1 [k,r] Tryz.underlying248 af (by show 2=cH _ _*2;simp only[dl];split<;>omega)
   (λj v l=>by
    rw[cJ,aa,p,aG.cell?_setCells_out g _ _ _ _ (λh _=>absurd h ag)]
    match j,l with
    |0,l=>exact(aF some (bR l))▸(show w.cell? ⟨I,0,none⟩=some k by simp[cz,hv])
    |1,l=>exact(aF some (bR l))▸(show w.cell? ⟨I,1,none⟩=some r by simp[cz,hv])
    |(j+2),l=>cases l)
   (λj l=>by rw[aa];exact ae _ (by have:j<2:=l;omega)) (λj l=>by rw[ai,p,aG.frozen?_setCells];exact ad _) (aeX h2 h3)
 rw[<-p]at J;have a4:aK.wrap ((i:Int)+1)=(i:Int)+1:=by rw[IntKind.wrap_i64];omega
 have au:(0:Int)<=(i:Int)+1:=d8
 have a0:i<=n:=d8
 have a3:((i:Int)+1).toNat=i+1:=d8
 have av:¬(cap=i+1):=d8
 have aw:(i:Int)<=(n:Int)+1:=d8
 have ax:¬(cap=i):=d8
 have mixed:Tryz.prog.follows .mixedOrders=true:=dU
 go_enter Tryz.func199,Tryz.ntmps199
 go_wp2_with (simp only[al])
 go_region_law_o (refine aeo rfl _ _ 248 248 rfl _ _ (by simp[Act.eval,Act.put]) (by simp[Act.eval,Act.put]) (J _ _ _) ?_)
 go_wp2_with (at_builtin;refine VA _ rfl _ _ 248 248 rfl _ _ rfl rfl (ab _ (λ_=>rfl) (λ_=>rfl) _ _) ?_)
 go_ret
 first|exact⟨rfl,rfl⟩|exact⟨rfl,by rw[p]⟩
def zG:Value:=.agg #[.slice none 0 0,.slice none 0 0]
def Wv(xs:am Value)(n i G:Nat):bB Value:=(xs.take (i*2)).toArray++aY zG.cells (n+1-i)++aY zG.cells (G-(n+1))
theorem Xj(k:Nat):(aY zG.cells k).size=2*k:=by simp[aY,Value.cells,zG];omega
set_option maxRecDepth 100000 in
set_option maxHeartbeats 4000000 in
theorem ap0(w:aG)(base g n cap i:Nat)(xs:am Value)(P:w.ownsRow base tG 2 (.slice (some ⟨g,0,none⟩) n cap) n xs)(hn:n<=1000000)(hi:i<n)(ag:cap<n+1)
 (U:Nat) (k r:Value) (hv:w.heap[U]?=some (.cells #[k,r] tG (0,0))) (h2:k.oneCell'=true) (h3:r.oneCell'=true) (aq:∀v∈xs,v.oneCell'=true):
 b9 Tryz.prog 199 #[.slice (some ⟨g,0,none⟩) n cap,.int .i64 i,.slice (some ⟨U,0,none⟩) 1 1] w λe w'=>e=.returned (.slice (some ⟨w.heap.size,0,none⟩) (n+1) (cj w (n+1) cap tG))/\
  w'=(((w.alloc (.cells (Wv xs n i (cj w (n+1) cap tG)) tG)).drew.setCells w.heap.size (i*2) [k,r]).drew).setCells w.heap.size ((i+1)*2) (xs.drop (i*2)):=by
 obtain⟨a9,hg,bk,bg,bh,a3,be⟩:=akP P;obtain⟨i0,al,a6,au,ar⟩:=info_parts asy;have bn:¬((i:Int)=(n:Int)):=d8
 have bo:(cap:Int)<(n:Int)+1:=d8
 have a5:xs.length=n*2:=P.1;have ao:(Tryz.prog.info? tG).map (·.size)=some 2:=by rw[al];simp[au]
 have a2:g<w.heap.size:=(bB.getElem?_eq_some_iff.1 hg).1;have a4:U<w.heap.size:=(bB.getElem?_eq_some_iff.1 hv).1;have an:(n:Int)+1-(i:Int)=((n+1-i:Nat):Int):=d8
 have af:i+(n+1-i)=n+1:=d8
 have ac:∀j v,xs[j]?=some v->w.cell? ⟨g,j,none⟩=some v:=λj v h=>by have bj:=(am.getElem?_eq_some_iff.1 h).1;rw[P.cellAt j d8];exact h
 have ad:(dy i0.size i (.slice (some ⟨g,0,none⟩) i cap)).run Tryz.prog w.drew=.ok (xs.take (i*2)).toArray w.drew:=by
  rw[au];exact run_firstCells_some w.drew 2 i ⟨g,0,none⟩ i cap (xs.take (i*2)) (by rw[aL];omega) (λj v o=>by
   rw[cJ,cU];rw[am.getElem?_take]at o;split at o
   .exact ac j v o
   cases o)
 have aa:∀ty,(Builtin.append_ #[248,3] ty #[.slice (some ⟨g,0,none⟩) i cap,.int .i64 ((n:Int)+1-(i:Int))]).run Tryz.prog w=
  .ok (.slice (some ⟨w.heap.size,0,none⟩) (n+1) (cj w (n+1) cap tG)) (w.drew.alloc (.cells (Wv xs n i (cj w (n+1) cap tG)) tG)):=λty=>by have h:=Lib.run_append_grow_zeros w 248 3 ty tG i0 _ .i64 .i64 Tryz.underlying248 Tryz.underlying3 al a6 (some ⟨g,0,none⟩) i cap (xs.take (i*2)) ad (n+1-i) d8 d8 d8 d8 (by rw[ar];omega) (by rw[ar,af];exact growslice_fits ag d8);rw[af]at h;rw[an];exact h
 obtain⟨G,hG⟩:∃G,G=cj w (n+1) cap tG:=⟨_,rfl⟩;obtain⟨l,I⟩:∃l:bB Value,l=Wv xs n i G:=⟨_,rfl⟩;rw[<-hG]at aa⊢;rw[<-I]at aa⊢;have bb:n+1<=G:=by rw[hG];exact grownCap_ge w _ _ _
 have a0:(n+1)*2<=l.size:=by rw[I];unfold Wv;rw[bY,bY,Xj,Xj,List.size_toArray,aL];omega
 obtain⟨R,p⟩:∃R,R=w.drew.alloc (.cells l tG):=⟨_,rfl⟩;rw[<-p]at aa;have hN:∀j,j<(n+1)*2->(R.cell? ⟨w.heap.size,j,none⟩).isSome=true:=λj o=>by rw[p,aG.cell?_alloc_at (w:=w.drew) l _ w.heap.size j rfl,bB.getElem?_eq_getElem d8];rfl
 have ah:∀j,R.frozen? ⟨w.heap.size,j,none⟩=false:=λj=>by rw[p];exact aG.frozen?_alloc_at (w:=w.drew) l _ w.heap.size j rfl
 have az:∀j v,w.cell? ⟨g,j,none⟩=some v->R.cell? ⟨g,j,none⟩=some v:=λj v h=>by rw[p,aG.cell?_alloc_past (w:=w.drew) _ g j a2];exact h
 have ai:∀j v,w.cell? ⟨U,j,none⟩=some v->R.cell? ⟨U,j,none⟩=some v:=λj v h=>by rw[p,aG.cell?_alloc_past (w:=w.drew) _ U j a4];exact h
 have aj:∀(W:aG),(∀x,W.cell? x=R.cell? x)->(∀x,W.frozen? x=R.frozen? x)->∀ty dc,(bJ #[248,248] ty #[.slice (some ⟨w.heap.size,i*2,none⟩) (n+1-i) dc,.slice (some ⟨U,0,none⟩) 1 1]).run Tryz.prog W=.ok (goInt (cH 1 (n+1-i))) (W.setCells w.heap.size (i*2) [k,r]):=λW J ae ty dc=>
  Wx W _ _ ty tG w.heap.size (i*2) (n+1-i) dc ⟨U,0,none⟩ 1 1 [k,r] Tryz.underlying248 ao (by show 2=cH _ _*2;simp only[dl];split<;>omega)
   (λj v o=>by
    rw[cJ,J]
    match j,o with
    |0,o=>exact ai _ _ ((aF some (bR o))▸(show w.cell? ⟨U,0,none⟩=some k by simp[cz,hv]))
    |1,o=>exact ai _ _ ((aF some (bR o))▸(show w.cell? ⟨U,1,none⟩=some r by simp[cz,hv]))
    |(j+2),o=>cases o)
   (λj o=>by rw[J];exact hN _ (by have:j<2:=o;omega)) (λj o=>by rw[ae];exact ah _) (aeX h2 h3)
 have a7:G<=9223372036854775807:=by have:=dv w (n+1) cap tG (by unfold maxLen;omega);rw[<-hG]at this;unfold maxLen at this;omega
 have ba:¬(G=i):=d8
 have a8:¬(G=i+1):=d8
 have bf:¬(cap=i):=d8
 have a1:g≠w.heap.size:=d8
 have ak:(xs.drop (i*2)).length=(n-i)*2:=by rw[bM,a5,Nat.sub_mul]
 have ab:∀(W:aG),(∀x,W.cell? x=(R.setCells w.heap.size (i*2) [k,r]).cell? x)->(∀x,W.frozen? x=(R.setCells w.heap.size (i*2) [k,r]).frozen? x)->∀ty dc sc,(bJ #[248,248] ty #[.slice (some ⟨w.heap.size,(i+1)*2,none⟩) (n-i) dc,.slice (some ⟨g,i*2,none⟩) (n-i) sc]).run Tryz.prog W=.ok (goInt (cH (n-i) (n-i))) (W.setCells w.heap.size ((i+1)*2) (xs.drop (i*2))):=λW J ae ty dc sc=>
  Wx W _ _ ty tG w.heap.size ((i+1)*2) (n-i) dc ⟨g,i*2,none⟩ (n-i) sc (xs.drop (i*2)) Tryz.underlying248 ao (by rw[ak];show _=cH _ _*2;simp only[dl];split<;>omega)
   (λj v o=>by rw[cJ,J,aG.cell?_setCells_out _ _ _ _ _ (λh _=>absurd h a1)];exact az _ v (ac (i*2+j) v (by rwa[am.getElem?_drop]at o)))
   (λj o=>by rw[J];exact JX _ _ _ _ (λt ht=>hN _ (by have:t<2:=ht;omega)) _ (hN _ (by rw[ak]at o;have:n-i+i=n:= d8;omega)))
   (λj o=>by rw[ae,aG.frozen?_setCells];exact ah _) (λv hv=>aq v (cr hv))
 subst p;have av:∀x,((w.alloc (.cells l tG)).drew).cell? x=(w.drew.alloc (.cells l tG)).cell? x:=λx=>rfl
 have aw:∀x,((w.alloc (.cells l tG)).drew).frozen? x=(w.drew.alloc (.cells l tG)).frozen? x:=λx=>rfl
 have ax:∀x,(((w.alloc (.cells l tG)).drew.setCells w.heap.size (i*2) [k,r]).drew).cell? x=((w.drew.alloc (.cells l tG)).setCells w.heap.size (i*2) [k,r]).cell? x:=λx=>rfl
 have ay:∀x,(((w.alloc (.cells l tG)).drew.setCells w.heap.size (i*2) [k,r]).drew).frozen? x=((w.drew.alloc (.cells l tG)).setCells w.heap.size (i*2) [k,r]).frozen? x:=λx=>rfl
 have bm:aK.wrap ((i:Int)+1)=(i:Int)+1:=by rw[IntKind.wrap_i64];omega
 have bc:(0:Int)<=(i:Int)+1:=d8
 have bi:i<=n:=d8
 have bl:((i:Int)+1).toNat=i+1:=d8
 have bd:(i:Int)<=(n:Int):=d8
 clear an af ad I hG a0;have mixed:Tryz.prog.follows .mixedOrders=true:=dU
 go_enter Tryz.func199,Tryz.ntmps199
 go_wp2_with (first
  |(at_builtin;refine Lib.wpList_append_run _ rfl _ _ _ _ rfl _ _ rfl rfl _ _ (aa _) ?_)
  |(at_builtin;refine VA _ rfl _ _ 248 248 rfl _ _ rfl rfl (aj _ av aw _ _) ?_)
  |(at_builtin;refine VA _ rfl _ _ 248 248 rfl _ _ rfl rfl (ab _ (λ_=>rfl) (λ_=>rfl) _ _ _) ?_))
 go_region_law_o (refine aeo rfl _ _ 248 248 rfl (.slice (some ⟨w.heap.size,(i+1)*2,none⟩) (n-i) (G-(i+1))) (.slice (some ⟨g,i*2,none⟩) (n-i) (cap-i)) (by simp[Act.eval,Act.put]) (by simp[Act.eval,Act.put]) (ab _ ax ay 3 (G-(i+1)) (cap-i)) ?_)
 go_wp2
 go_ret
 exact⟨rfl,rfl⟩
theorem auC(L:am Value)(xs:am Value)(n i G:Nat)(k r:Value)(p:L=(xs.take (i*2))++(aY zG.cells (n+1-i)).toList++(aY zG.cells (G-(n+1))).toList)(j:xs.length=n*2)(hi:i<n)(J:n+1<=G):
 let g:=L.take (i*2)++[k,r]++L.drop (i*2+2)
 (g.take ((i+1)*2)++xs.drop (i*2)++g.drop ((i+1)*2+(xs.drop (i*2)).length)).take ((n+1)*2)=xs.take (2*i)++[k,r]++xs.drop (2*i):=by
 intro g;have I:(xs.drop (i*2)).length=n*2-i*2:=by rw[bM,j]
 have l:(xs.take (i*2)).length=i*2:=by rw[aL];omega
 have h0:L.take (i*2)=xs.take (i*2):=by rw[p,bH,cw d8,bA d8]
 have o:g.take ((i+1)*2)=xs.take (i*2)++[k,r]:=by
  show(L.take (i*2)++[k,r]++L.drop (i*2+2)).take ((i+1)*2)=_;rw[h0];have:(xs.take (i*2)++[k,r]).length=(i+1)*2:=by rw[aA,l];simp;omega
  rw[<-this,dj]
 rw[o,show 2*i=i*2 by omega];have:(xs.take (i*2)++[k,r]++xs.drop (i*2)).length=(n+1)*2:=by rw[aA,aA,l,I];simp;omega
 rw[<-this,dj]
theorem K1{w p r:aG}{g:aT Nat}(i:w.grownBy p g){b:Nat}(j:p.grownBy r (some b))(o:w.heap.size<=b\/some b=g):w.grownBy r g:=
 ⟨j.os.trans i.os,j.tape.trans i.tape,j.output.trans i.output,aM i.size j.size,λk hk l=>(j.block k (Nat.lt_of_lt_of_le hk i.size) (λe=>by
  rcases o with o|o
  .have:=bR e;omega
  exact l (e.trans o))).trans (i.block k hk l)⟩
theorem ard:∀n p,p<=n->n<=100000->amn n p:=by
 intro n p hp hn;by_cases an:p=n
 .subst an;exact azY d8
 intro w base v xs j hb h1 vb k r hv ao hk hr;have hi:p<n:=d8
 have J:xs.length=n*2:=j.1;have al:=j;rcases j.2 with⟨_,h0⟩|⟨g,cap,P,rfl,ag,hg,ar,ah,ai,I⟩
 .omega
 have hd:(xs.drop (p*2)).length=n*2-p*2:=by rw[bM,J]
 have aa:(xs.take (2*p)++[k,r]++xs.drop (2*p)).length=(n+1)*2:=by simp only[aA,aL,bM,aP,bQ,J];omega
 have ak:vb≠g:=λe=>ao (by rw[e];rfl)
 have aq:g<w.heap.size:=(bB.getElem?_eq_some_iff.1 hg).1;by_cases i:n+1<=cap
 .refine(anT w base g n cap p xs j d8 hi i vb k r hv ak hk hr h1).mono ?_;rintro e w' ⟨rfl,rfl⟩;obtain⟨⟨c1,a1,a2,a3⟩,a4,a5⟩:=YN g tG (xs.drop (p*2)) ((p+1)*2) w.drew P hg d8;obtain⟨⟨c2,b1,b2,b3⟩,b4,b5⟩:=YN g tG [k,r] (p*2) _ c1 a1 dX;have h0:w.grownBy w.drew (some g):=⟨rfl,rfl,rfl,aI _,λ_ _ _=>rfl⟩;refine⟨_,rfl,⟨aa,.inr ⟨g,cap,c2,rfl,ag,b1,i,ah,by rw[b2,a2,ai],?_⟩⟩,K1 (K1 h0 a4 (.inr rfl)) b4 (.inr rfl),?_,λb o=>.inl o⟩
  .rw[b3,a3];exact axa P.toList xs n p k r I dX hi
  rw[b5,a5];exact Nat.le_succ _
 have i:cap<n+1:=d8
 have U:n+1<=cj w (n+1) cap tG:=grownCap_ge w _ _ _;have ad:cj w (n+1) cap tG<=maxLen:=dv w (n+1) cap tG (by unfold maxLen;omega);refine(ap0 w base g n cap p xs j d8 hi i vb k r hv hk hr h1).mono ?_;rintro e w' ⟨rfl,rfl⟩;generalize cj w (n+1) cap tG=G at*;have af:(Wv xs n p G).size=G*2:=by unfold Wv;rw[bY,bY,Xj,Xj,List.size_toArray,aL];omega
 have ae:(Wv xs n p G).toList=xs.take (p*2)++(aY zG.cells (n+1-p)).toList++(aY zG.cells (G-(n+1))).toList:=by simp[Wv]
 generalize Wv xs n p G=R at*;have aj:(w.alloc (.cells R tG)).drew.heap[w.heap.size]?=some (.cells R tG (0,0)):=heap_alloc_new w _;obtain⟨⟨c1,a1,a2,a3⟩,a4,a5⟩:=YN w.heap.size tG [k,r] (p*2) _ R aj dX;have ab:((w.alloc (.cells R tG)).drew.setCells w.heap.size (p*2) [k,r]).drew.heap[w.heap.size]?=some (.cells c1 tG (0,0)):=a1;obtain⟨⟨c2,b1,b2,b3⟩,b4,b5⟩:=YN w.heap.size tG (xs.drop (p*2)) ((p+1)*2) _ c1 ab d8;have h0:w.grownBy (w.alloc (.cells R tG)).drew (some g):=by have h:=World.grownBy_alloc w (.cells R tG) (some g);exact⟨h.os,h.tape,h.output,h.size,h.block⟩
 have l:=K1 h0 a4 (.inl (aI _));have ac:w.grownBy ((w.alloc (.cells R tG)).drew.setCells w.heap.size (p*2) [k,r]).drew (some g):=⟨l.os,l.tape,l.output,l.size,l.block⟩;refine⟨_,rfl,⟨aa,.inr ⟨w.heap.size,G,c2,rfl,hb,b1,U,ad,by rw[b2,a2,af],?_⟩⟩,K1 ac b4 (.inl (aI _)),?_,λb o=>.inr ?_⟩
 .rw[b3,a3];exact auC R.toList xs n p G k r ae J hi U
 .rw[b5];show w.drawn<=((w.alloc (.cells R tG)).drew.setCells w.heap.size (p*2) [k,r]).drawn+1;rw[a5];show w.drawn<=w.drawn+1+1;omega
 cases o;exact aI _
end Go.Proofs.YtkdijaiaplkliaaGreatDoor
namespace Go.Proofs.YtkdijaiaplkliaaGreatDoor
open Go Go.AM
section
attribute [local irreducible] Sat zA zX zo
theorem acx(d:am Nmd)(t:Tbl)(st:Stp)(l:yH d≠0):dY vW [.c (.d (.sl (zq d))),t.w,st.w] (rNT (yH d)):=by
 have o:=wt d;have l:(yH d !=0)=true:=d9
 obtain⟨op,⟨I,J,⟨R,U,vs⟩,ks⟩,g,p,i,j,P,tb⟩:=st;refine Yn.s T8 ?_;refine aC o ?_;rw[l];exact rfl
structure Stp.Sm(st:Stp):Prop where
 sorts:st.sorts.length<=1000
 cols:st.cols.length<=1000
 aggs:st.aggs.length<=1000
 items:st.items.length<=1000
theorem Stp.Sm.ok{st:Stp}(h:st.Sm):st.OK:=⟨aM h.sorts d8,aM h.cols d8,aM h.aggs d8,aM h.items d8⟩
def aiX(x:Int×am Col):Prop:=x.1≠0->x.2=[]
theorem v6(e:Int):aiX (e,[]):=λ_=>rfl
theorem Ka(l:am Col):aiX (0,l):=λh=>absurd rfl h
theorem qM{b:Bool}{x y:Int×am Col}(g:aiX x)(i:aiX y):aiX (bif b then x else y):=d9
theorem ae9{d:am Nmd}{cols:am Col}{st:Stp}:aiX (zT d cols st):=by
 refine qM (v6 _) (qM ?_ (qM ?_ (qM ?_ (qM ?_ (qM (Ka _) (qM ?_ ?_))))))
 .exact qM (v6 _) (Ka _)
 .rw[ao5];simp_all[qM,v6,Ka]
 .exact qM (v6 _) (qM (v6 _) (Ka _))
 .exact qM (v6 _) (Ka _)
 .exact qM (v6 _) (qM (v6 _) (qM (v6 _) (qM (v6 _) (Ka _))))
 unfold Vg;cases zU st.table d with
 |none=>exact v6 _
 |some t=>exact qM (v6 _) (qM (v6 _) (qM (v6 _) (qM (v6 _) (qM (v6 _) (qM (v6 _) (Ka _))))))
theorem amB{d:am Nmd}{cols:am Col}{st:Stp}(i:st.op=3)(h:(zT d cols st).1=0):takeErr cols st.cols=false/\(xB cols st.aggs).1=0/\zT d cols st=(0,takeC cols st.cols++(xB cols st.aggs).2):=by
 have e:zT d cols st=grT cols st.cols st.aggs:=by grind[zT]
 rw[e]at h⊢;unfold grT at h⊢;obtain⟨l,g⟩:=qt d9 h;rw[g]at h⊢;obtain⟨o,j⟩:=qt dT h<;>simp_all
theorem amC{d:am Nmd}{cols:am Col}{st:Stp}(j:st.op=4)(h:(zT d cols st).1=0):vx cols st.sorts=false/\zT d cols st=(0,cols):=by
 have e:zT d cols st=soT cols st.sorts:=by grind[zT]
 rw[e]at h⊢;obtain⟨i,g⟩:=qt d9 h;exact⟨i,g⟩
theorem azl{st:Stp}(h:st.err=0)(g:st.op=5):0<=st.n:=by have h:=(yt d8 h).2;rw[g]at h;have h:(bif decide (st.n<0)||decide (st.n>20000)then 2 else 0)=(0:Int):=h;have:=(yt d8 h).1<;>simp_all
theorem aoZ(d:am Nmd)(t:Tbl)(st:Stp)(hk:st.Sm)(h1:yH d=0)(h2:zH t=0)(J:(zT d t.cols st).1=0)(hr:t.rows.length<20000)(R:st.op=6\/st.op=7->t.rows.length*(qb d st).rows.length<=20000):
 dY wg [.c (.d (.sl (zq d))),t.w,.agg st.cs,.c (.d (.sl (zl (zT d t.cols st).2)))] (qY ⟨(zT d t.cols st).2,stR d t st⟩ 0):=by
 have he:=QR J;have j:=ac9 he;have j:st.op=1\/st.op=2\/st.op=3\/st.op=4\/st.op=5\/st.op=6\/st.op=7\/st.op=8\/st.op=9:=d8
 have hw:=wP h2;have hf:=xT h2;have k1:=hk.sorts;have k2:=hk.cols;have k3:=hk.aggs;have k4:=hk.items;have ae:(zi t.cols st.cols).length=st.cols.length:=by simp[zi]
 rcases j with j|j|j|j|j|j|j|j|j
 .have e:stR d t st=whereR t.cols t.rows st.cond:=by grind[stR]
  rw[e];refine qD d t st _ _ d9 d9 d9 d9 (aM (ab7 _ _ _) d8) ?_;obtain⟨tc,tr⟩:=t;obtain⟨op,⟨eo,nm,⟨vk,vn,vs⟩,ks⟩,o,U,p,I,sn,tb⟩:=st;subst j;exact aaH anM (.sl (zq d)) tc tr d9 eo nm ⟨vk,vn,vs⟩ ks (yP o) (zp U) (qv p) (xz I) sn tb
 .have e:stR d t st=selR t.cols t.rows st.items:=by grind[stR]
  rw[e];refine qD d t st _ _ d9 d9 d9 d9 (by grind[selR]) ?_;obtain⟨tc,tr⟩:=t;obtain⟨op,⟨eo,nm,⟨vk,vn,vs⟩,ks⟩,o,U,p,I,sn,tb⟩:=st;subst j;exact kC anM (.sl (zq d)) tc tr d9 eo nm ⟨vk,vn,vs⟩ ks o (zp U) (qv p) (xz I) sn tb d9
 .have e:stR d t st=(vC (zi t.cols st.cols) t.rows).map (qy t.cols st.aggs):=by grind[stR]
  rw[e];have ad:=akb (amB j J).1;have hG:=adh (zi t.cols st.cols) t.rows;have ab:=ait t.cols t.rows (zi t.cols st.cols) d8 (λr hr=>d9) d8 (λi hi _=>ard _ _ (aav _ _) (by grind[Vc]));generalize vC (zi t.cols st.cols) t.rows=G at*;have aa:=afT t.cols t.rows st G d8 d8 (by have:=hG.few;omega) (λg hg=>by rw[hG.key g hg];omega) (λg hg=>by have:=hG.cnt g hg;omega) (λg hg r hr=>hw r (hG.mem g hg r hr)) ab;exact qD d t st _ _ d9 d9 d9 d9 (by rw[cZ];have:=hG.few;omega) (aaF d t st j G aa)
 .have e:stR d t st=yM (Zi (jJ t.cols st.sorts) st.sorts) t.rows:=by grind[stR]
  obtain⟨P,ac⟩:=amC j J;rw[e,ac];have hS:=ais t st.sorts d8 d8 d8;simp_all[amz,kD]
 .have e:stR d t st=t.rows.take (zI false st.n t.rows.length).toNat:=by grind[stR]
  rw[e];exact qD d t st _ _ d9 d9 d9 d9 d9 (aaG d t st j (azl he j))
 .have hj:=qV (.inl j) J;have l:=J;rw[hj]at l;obtain⟨b,P,ho⟩:=vd l;have e:stR d t st=xO (zi t.cols st.cols) (zi b.cols st.cols) (oth st.cols 0 b.cols) t.rows b.rows:=by grind[stR,qb]
  have hm:=R (.inl j);rw[show qb d st=b by grind[qb]]at hm;rw[e];have tb:=vq h1 P;have wb:=wP tb;have fb:=xT tb;have i:=Zt ho.jn;have hJ:=aqt t.cols t.rows b.cols b.rows st.cols d8 d8 hm d8 hw d8 wb i.1 i.2;exact qD d t st _ _ d9 d9 d9 d9 (aM (adq _ _ _ _ _) hm) (acA d t st j b P _ hJ)
 .have hj:=qV (.inr (.inl j)) J;have l:=J;rw[hj]at l;obtain⟨b,P,ho⟩:=vd l;have tb:=vq h1 P;have fb:=xT tb;have hm:=R (.inr j);have e:stR d t st=xL (zf t.cols sFrom) (zf t.cols sTo) (zf b.cols sFrom) (zf b.cols sTo) (zi t.cols st.cols) (zi b.cols st.cols) (oth (st.cols++[sFrom,sTo]) 0 b.cols) t.rows b.rows:=by grind[stR,qb]
  rw[show qb d st=b by grind[qb]]at hm;have hO:=aqg t b st.cols d8 d8 d8 hm;have hc:=aaN (.inl j) h2 tb he P;simp_all[ovQ,Kq]
 .have hj:=qV (.inr (.inr j)) J;have l:=J;rw[hj]at l;obtain⟨b,P,ho⟩:=vd l;have tb:=vq h1 P;have fb:=xT tb;have e:stR d t st=t.rows.map (w7 (zf t.cols sFrom) (zf b.cols sFrom) (zi t.cols st.cols) (zi b.cols st.cols) (oth (st.cols++[sFrom]) 0 b.cols) b.rows):=by grind[stR,qb]
  have hO:=afQ t b st.cols d8 d8 d8;have hc:=aaN (.inr j) h2 tb he P;simp_all[nrQ,Kp]
 have e:stR d t st=Yo (zi t.cols st.cols) (zf t.cols sFrom) (zf t.cols sTo) t.rows:=by grind[stR]
 have hO:=ad1 t st.cols d8 d8;have hc:=arL (d:=d) j h2 he<;>simp_all[coQ,UY]
theorem Jo{d:am Nmd}{i:ByteArray}{b:Tbl}(h:yH d=0)(g:zU i d=some b):b.cols.length<=32:=(xT (vq h g)).1
theorem aoI(d:am Nmd)(t:Tbl)(st:Stp)(hk:st.Sm)(hr:t.rows.length<20000)(o:st.op=6\/st.op=7->st.err=0->t.rows.length*(qb d st).rows.length<=20000):
 dY vW [.c (.d (.sl (zq d))),t.w,st.w] (wO (nStepT d t st)):=by
 unfold nStepT;by_cases i:yH d=0
 .rw[i];by_cases j:zH t=0
  .rw[j];have fa:=xT j;have R:=Zz d t.cols st hk.ok d8 (λb U=>by grind[Jo]);by_cases l:(zT d t.cols st).1=0
   .have g:dY zQ [.c (.d (.sl (zq d))),.c (.d (.sl (zl t.cols))),st.w] (rCs (zT d t.cols st).2):=R.mono λr hr=>by rw[hr];show Res.mk (.tup [.c (.d (.sl (zl (zT d t.cols st).2))),.c (int (zT d t.cols st).1)]) []=_;rw[l];rfl
    have:=aqo d t st _ _ i j g (aoZ d t st hk i j l hr λP=>o P (QR l));rw[l];exact this
   have J:((zT d t.cols st).1 !=0)=true:=d9
   have h0:(zT d t.cols st).2=[]:=ae9 l;have g:dY zQ [.c (.d (.sl (zq d))),.c (.d (.sl (zl t.cols))),st.w] (Uf (zT d t.cols st).1):=R.mono λr hr=>by rw[hr];show Res.mk (.tup [.c (.d (.sl (zl (zT d t.cols st).2))),.c (int (zT d t.cols st).1)]) []=_;rw[h0];rfl
   rw[J];exact zC (ae0 (ad5 d t st _ i j l g))
  have I:(zH t !=0)=true:=d9
  rw[I];exact zC (ae0 (acy d t st i j))
 have p:(yH d !=0)=true:=d9
 rw[p];exact zC (ae0 (acx d t st i))
theorem ahD{cols:am Col}(i:ColsF cols){g:am ByteArray}(h:takeErr cols g=false):∀c∈takeC cols g,ColF c:=λc j=>i.ok c (av3 h c j)
theorem alb{n jB:Int}(h:ja n jB=0):n<=16:=by simp_all[ja,XV]
theorem auh{l:am ByteArray}{m:Int}(h:vA l m=0):(l.length:Int)<=16/\vR [] l=0:=by unfold vA at h;rw[XW]at h;exact⟨alb h.1,h.2⟩
theorem aus{st:Stp}(h:st.err=0)(g:st.op=2):(st.items.length:Int)<=16/\qg [] st.items=0:=by unfold Stp.err at h;have h:=(yt d8 h).2;rw[g]at h;have h:(bif ja st.items.length 1 !=0 then ja st.items.length 1 else qg [] st.items)=0:=h;rw[XW]at h;exact⟨alb h.1,h.2⟩
theorem aut{st:Stp}(h:st.err=0)(g:st.op=3):(st.cols.length:Int)<=16/\(st.aggs.length:Int)<=16/\vR [] st.cols=0/\uc st.cols st.aggs=0:=by unfold Stp.err at h;have h:=(yt d8 h).2;simp_all[JR,XV,XW]
theorem auu{st:Stp}(h:st.err=0)(g:st.op=9):(st.cols.length:Int)<=16/\vR [] st.cols=0:=by unfold Stp.err at h;have h:=(yt d8 h).2;rw[g]at h;have h:vA st.cols 0=0:=h;exact auh h
theorem azA{d:am Nmd}{cols:am Col}{st:Stp}(g:st.op=1)(h:(zT d cols st).1=0):zT d cols st=(0,cols):=by
 have e:zT d cols st=whT cols st.cond:=by grind[zT]
 simp_all[whT,qt]
theorem azx{d:am Nmd}{cols:am Col}{st:Stp}(g:st.op=2)(h:(zT d cols st).1=0):zT d cols st=uF cols st.items:=by grind[zT]
theorem azy{d:am Nmd}{cols:am Col}{st:Stp}(g:st.op=5)(h:(zT d cols st).1=0):zT d cols st=(0,cols):=by grind[zT]
theorem auH{g cs:am ByteArray}{tc:am Col}:∀c∈keepS g cs tc,c∈tc:=λc h=>by grind[keepS]
theorem U6{i:am ByteArray}{cols tc:am Col}{cs:am ByteArray}{R:am Col}(j:ColsF cols)(l:ColsF tc)(h:JnOK i cols tc cs R):ColsF (cols++keepS i cs tc):=by
 refine⟨h.few,λc g=>?_,(aup.1 h.dup).2⟩;rcases bF.1 g with g|g
 .exact j.ok c g
 exact l.ok c (auH c g)
theorem aiL(d:am Nmd)(t:Tbl)(st:Stp)(h1:yH d=0)(h2:zH t=0)(l:(zT d t.cols st).1=0)(hr:(stR d t st).length<=20000):zH ⟨(zT d t.cols st).2,stR d t st⟩=0:=by
 obtain⟨P,ad,j⟩:=(jb t).1 h2;refine(jb _).2 ?_;suffices hs:ColsF (zT d t.cols st).2/\∀r∈stR d t st,zN (zT d t.cols st).2 r from⟨hs.1,hr,hs.2⟩
 clear hr;have he:=QR l;have i:=ac9 he;have i:st.op=1\/st.op=2\/st.op=3\/st.op=4\/st.op=5\/st.op=6\/st.op=7\/st.op=8\/st.op=9:=d8
 rcases i with i|i|i|i|i|i|i|i|i
 .grind[stR,whereR,azA]
 .have e:stR d t st=selR t.cols t.rows st.items:=by grind[stR]
  obtain⟨hl,hi⟩:=aus he i;obtain⟨n1,n2,n3⟩:=ap1 hi;have R:∀x∈st.items,x.e.chk=0/\yB x.nm=true:=λx J=>⟨adp _ _ hi x J,n1 x J⟩
  have e2:=azx i l;rw[e2]at l⊢;obtain⟨s1,s2⟩:=ao6 P.ok R l;rw[e];refine⟨?_,λr hr=>?_⟩
  .rw[s1];refine⟨d9,λc J=>?_,?_⟩
   .grind
   grind
  unfold selR at hr;obtain⟨r0,ac,rfl⟩:=bG.1 hr;exact ayP P.ok R l (j r0 ac)
 .have e:stR d t st=(vC (zi t.cols st.cols) t.rows).map (qy t.cols st.aggs):=by grind[stR]
  obtain⟨g1,g2,g3⟩:=amB i l;obtain⟨m1,m2,m3,m4⟩:=aut he i;obtain⟨a1,a2,a3⟩:=akm m3;obtain⟨b1,b2,b3⟩:=ar0 m4;obtain⟨c1,c2⟩:=af6 g2;have hG:=adh (zi t.cols st.cols) t.rows;have ab:∀(rows:am (am Val)),rows.length<=20000->(∀r∈rows,zN t.cols r)->∀a∈st.aggs,ColF (Yh t.cols a).2/\yI (Yh t.cols a).2.t (Jv a.fn (W9 t.cols rows a)):=λrows hn hr a ha=>azF P.ok (b1 a ha) (c2 a ha) hn hr
  rw[e,g3];have tl:(takeC t.cols st.cols).length=st.cols.length:=by simp[takeC]
  refine⟨⟨?_,λc J=>?_,?_⟩,λr hr=>?_⟩
  .grind
  .grind[ahD]
  .show((takeC t.cols st.cols++(xB t.cols st.aggs).2).map Col.name).Nodup;rw[cE,afY g1,c1,List.map_map,List.nodup_append];have e2:(Col.name∘ λa=>(Yh t.cols a).2)=Agg.nm:=by funext a;grind[akj]
   grind
  obtain⟨g,hg,rfl⟩:=bG.1 hr;unfold qy XU;show zN (takeC t.cols st.cols++(xB t.cols st.aggs).2) _;refine zN.app ?_ ?_
  .rcases apX _ _ g hg with⟨k1,k2⟩|⟨r,k1,k2⟩
   .rw[k2];have:st.cols=[]:=by grind[zi]
    rw[this];exact trivial
   rw[k2];exact(j r k1).pick g1
  rw[c1];exact zN.map _ _ λa ha=>(ab g.rows (aM (hG.cnt g hg) ad) (λr hr=>j r (hG.mem g hg r hr)) a ha).2
 .have e:stR d t st=yM (Zi (jJ t.cols st.sorts) st.sorts) t.rows:=by grind[stR]
  rw[e,(amC i l).2]
  grind[anP]
 .grind[stR,azy]
 .have hj:=qV (.inl i) l;rw[hj]at l⊢;obtain⟨b,U,o⟩:=vd l;have e:stR d t st=xO (zi t.cols st.cols) (zi b.cols st.cols) (oth st.cols 0 b.cols) t.rows b.rows:=by grind[stR,qb]
  obtain⟨I,aa,p⟩:=(jb b).1 (vq h1 U);rw[e,o.eq];refine⟨U6 P I o,λz hz=>?_⟩;obtain⟨x,R,y,hy,rfl⟩:=auE hz;refine(j x R).app ?_;have:=zN.rest0 (Vx st.op) st.cols (p y hy)
  grind[Vx]
 .have hj:=qV (.inr (.inl i)) l;rw[hj]at l⊢;obtain⟨b,U,o⟩:=vd l;have e:stR d t st=xL (zf t.cols sFrom) (zf t.cols sTo) (zf b.cols sFrom) (zf b.cols sTo) (zi t.cols st.cols) (zi b.cols st.cols) (oth (st.cols++[sFrom,sTo]) 0 b.cols) t.rows b.rows:=by grind[stR,qb]
  obtain⟨I,aa,p⟩:=(jb b).1 (vq h1 U);rw[e,o.eq];refine⟨U6 P I o,?_⟩;have i1:=o.i1;have i2:=o.i2;rw[i]at i1 i2⊢;exact auZ (apr i1) (apr i2) j p λr hr=>zN.rest0 [sFrom,sTo] st.cols (p r hr)
 .have hj:=qV (.inr (.inr i)) l;rw[hj]at l⊢;obtain⟨b,U,o⟩:=vd l;have e:stR d t st=t.rows.map (w7 (zf t.cols sFrom) (zf b.cols sFrom) (zi t.cols st.cols) (zi b.cols st.cols) (oth (st.cols++[sFrom]) 0 b.cols) b.rows):=by grind[stR,qb]
  obtain⟨I,aa,p⟩:=(jb b).1 (vq h1 U);rw[e,o.eq];refine⟨U6 P I o,λz hz=>?_⟩;obtain⟨x,R,rfl⟩:=bG.1 hz;rw[i];refine auT ?_ (λr hr=>zN.rest0 [sFrom] st.cols (p r hr)) (j x R)
  grind[agI,ady]
 have e:stR d t st=Yo (zi t.cols st.cols) (zf t.cols sFrom) (zf t.cols sTo) t.rows:=by grind[stR]
 have e2:=apA i l;rw[e2]at l⊢;have o:=ano l;obtain⟨m1,m2⟩:=auu he i;obtain⟨a1,a2,a3⟩:=akm m2;have tw:=o.two;simp only[dg]at tw;have f1:=anL.1 tw.1;have f2:=anL.1 tw.2;have tl:(takeC t.cols st.cols).length=st.cols.length:=by simp[takeC]
 obtain⟨p1,p2⟩:=V1 o.i1;obtain⟨q1,q2⟩:=V1 o.i2;rw[e,o.eq];have ae:sFrom≠sTo:=by decide+kernel
 refine⟨⟨?_,λc J=>?_,?_⟩,asc ⟨p1,p2,q1,q2⟩ λr hr=>⟨j r hr,(j r hr).pick o.tk⟩⟩
 .grind
 .rcases bF.1 J with J|J
  .exact ahD P o.tk c J
  simp only[bI,cd,or_false]at J;have g1:w6 sFrom=0:=Ja (by decide+kernel);have g2:w6 sTo=0:=Ja (by decide+kernel);rcases J with rfl|rfl
  .exact⟨g1,.inr (.inl rfl)⟩
  exact⟨g2,.inr (.inl rfl)⟩
 rw[cE,afY o.tk,List.nodup_append];refine⟨a3,d9,λs hs u hu=>?_⟩;simp only[aZ,cT,bI,cd,or_false]at hu
 grind
noncomputable def runT(d:am Nmd)(t:Tbl):am Stp->Int×Tbl
 |[]=>(0,t)
 |s::r=>bif (nStepT d t s).1 !=0 then((nStepT d t s).1,⟨[],[]⟩)else runT d (nStepT d t s).2 r
def Ks(d:am Nmd)(q:Qry):Tbl:=(zU q.src d).getD ⟨[],[]⟩
theorem aoe{d:am Nmd}{t:Tbl}{st:Stp}(g:yH d=0)(i:zH t=0)(j:(zT d t.cols st).1=0):nStepT d t st=(0,⟨(zT d t.cols st).2,stR d t st⟩):=by grind[nStepT]
theorem aiM:∀{l:am Stp},YQ l=0↔ ∀s∈l,s.err=0
 |[]=>⟨λ_ _ h=>(by cases h),λ_=>rfl⟩
 |x::r=>by simp only[YQ];rw[XW,aiM];simp
theorem ab4{d:am Nmd}{q:Qry}(h:(vi d q).1=0):yH d=0/\q.err=0/\∃t,zU q.src d=some t/\vi d q=jV d t.cols q.steps:=by
 unfold vi at h⊢;obtain⟨j,g⟩:=qt dT h;rw[g]at h⊢;obtain⟨l,i⟩:=qt dT h
 grind
end
section
attribute [local irreducible] Sat zA zX
theorem aAF{d:am Nmd}{cols:am Col}{st:Stp}(I:cols.length<=1000):(zT d cols st).2.length<=1000:=by
 by_cases h:(zT d cols st).1=0
 .have i:=QR h;have g:=ac9 i;have g:st.op=1\/st.op=2\/st.op=3\/st.op=4\/st.op=5\/(st.op=6\/st.op=7\/st.op=8)\/st.op=9:=d8
  rcases g with g|g|g|g|g|g|g
  .grind[azA]
  .obtain⟨J,hi⟩:=aus i g;rw[azx g h];have:∀l:am Itm,(uF cols l).2.length<=l.length:=by
    intro l;induction l with
    |nil=>exact aI _
    |cons x r P=>
     simp only[uF];cases((x.e.ty cols).2 !=0)
     .cases((x.e.ty cols).1==0)
      .cases((uF cols r).1 !=0)<;>simp_all
      simp_all
     simp_all
   grind
  .obtain⟨g1,g2,g3⟩:=amB g h;obtain⟨m1,R,_,_⟩:=aut i g<;>grind[takeC,af6]
  .simp_all[amC]
  .grind[azy]
  .have p:=qV g h;rw[p]at h⊢;obtain⟨b,_,j⟩:=vd h;rw[j.eq];have:=j.few;omega
  have o:=apA g h;rw[o]at h⊢;have j:=ano h;obtain⟨m1,_⟩:=auu i g;rw[j.eq,aA]
  grind[takeC]
 rw[ae9 h];simp_all
theorem aay{q:Qry}(h:q.err=0):q.steps.length<=16:=by
 unfold Qry.err at h;rw[XV d8,XV d8]at h
 grind
theorem aj6(d:am Nmd)(j:ByteArray)(l:am Stp)(hs:∀s∈l,s.Sm)(R:yH d=0)(U:Qry.err ⟨j,l⟩=0)(tc:am Col)(tr:am (am Val))(hf:zU j d=some ⟨tc,tr⟩)(y:Int×am Col)(hy:jV d tc l=y):dY wK [.c (.d (.sl (zq d))),Qry.w ⟨j,l⟩] (xH y):=by
 have hc:=wt d;have hq:=ak3 ⟨j,l⟩ (λs h=>aM (hs s h).sorts d8);have J:=y4 d j;have hT:=λcols (hl:cols.length<=1000) i (hi:i<l.length)=>Zz d cols l[i] (hs _ (aD hi)).ok d8 (λb hb=>by grind[Jo])
 have ae:l.length<=16:=aay U;have hX:tc.length<=32:=Jo R hf;have o:=vG tc d8;rw[R]at hc;rw[U]at hq;rw[hf]at J;clear hf R U;refine zC ?_;refine Zh.s T8 ?_;refine aC hc ?_;refine aC hq ?_;refine aC J ?_;refine aC o ?_;refine yq (P:=Pg) (f:=T8.f) (body:=(Zh.l 0)) (λz:Nat×am Col=>⟨[(0,.w (.c (.d (.sl (zq d))))),(10,.w (.c (.d (.sl (zl z.2))))),(38,.w (.c (.d (.sl (qB l))))),(39,zm (qB l).length),(40,zm z.1)],[]⟩) (λz=>l.length-z.1) (λz=>z.1<=l.length/\z.2.length<=1000/\y=jV d z.2 (l.drop z.1)) ⟨(0,tc),⟨aN _,d9,hy.symm⟩,ze ?_⟩ ?_
 .exact rfl
 rintro⟨i,cols⟩ hz;obtain⟨hi,o,p⟩:i<=l.length/\cols.length<=1000/\y=jV d cols (l.drop i):=hz;clear hy;refine zj (λh3=>?_) (λh3=>?_)
 .have g:i<l.length:=by simp_all[qU]
  have hT:=hT cols o i g;have hg:=YR g;have wi:aK.wrap ((i:Int)+1)=((i+1:Nat):Int):=zB g d8;rw[zt g]at p;simp only[jV]at p;have I:=aAF (d:=d) (st:=l[i]) o;generalize l[i]=s at*;generalize zT d cols s=x at*;obtain⟨x1,x2⟩:=x;obtain⟨op,⟨eo,nm,⟨vk,vn,vs⟩,ks⟩,ab,af,ac,ad,sn,tb⟩:=s;refine yb hg ?_;refine aC hT ?_;refine zx (b:=x1 !=0) (λh4=>?_) (λh4=>?_)
  .simp only[h4,aE]at p;subst p;exact⟨rfl,rfl⟩
  simp only[h4,aB]at p;(conv=>whnf);refine⟨(i+1,x2),⟨⟨g,I,p⟩,d9⟩,ze ?_⟩;(conv=>whnf);rw[wi];rfl
 have aa:l.length<=i:=by grind[qU]
 rw[aR aa]at p;subst p;exact⟨rfl,rfl⟩
end
section
attribute [local irreducible] Sat zA zX zo
theorem awX{t:Tbl}(h:zH t=0):∀r∈t.rows,vT t.cols r=true:=by grind[aq1,jb]
inductive Pln where
 |mk (op:Int) (tb col:ByteArray) (lo hi:Int) (st:Stp) (ks:am Pln)
mutual
def Pln.ds:Pln->am D
 |.mk op tb col lo hi st ks=> [.lit (.int .i64 op),.lit (.string tb),.lit (.string col),.lit (.int .i64 lo),.lit (.int .i64 hi)]++(st.ds++[.sl (plnsD ks)])
def plnsD:am Pln->am (am D)
 |[]=> []
 |p::r=>p.ds::plnsD r
end
def Pln.w(p:Pln):W:=.agg (p.ds.map .d)
theorem akS:∀l:am Pln,plnsD l=l.map Pln.ds
 |[]=>rfl
 |p::r=>by simp only[plnsD,aZ,akS r]
theorem akR(l:am Pln):(plnsD l).length=l.length:=by simp[akS]
def u6(op:Int):Int:=bif op==7 then 3 else bif op==8 then 4 else bif op==6 then 5 else 2
def w9(op:Int)(tb col:ByteArray)(lo hi:Int)(g:Int)(i:Int):Bool:=
 bif (!zo tb ⟨#[]⟩||(!zo col ⟨#[]⟩||(lo !=0||(hi !=0||i !=1))))then false else
 bif op==2 then true else bif op==3||(op==4||op==5)then u6 g==op else false
def Yr(s:Stp):Bool:=s.op==0&&(s.cond.zero&&(decide ((s.items.length+s.cols.length+s.aggs.length+s.sorts.length:Nat)=0)&&(s.n==0&&zo s.table ⟨#[]⟩)))
def Qs(op:Int)(col:ByteArray)(lo hi:Int)(s:Stp)(g:Int):Bool:=
 bif (op !=1||(!Yr s||decide (g>0)))then false else
 bif zo col ⟨#[]⟩then lo==0&&hi==0 else(inB lo&&(inB hi&&decide (lo<=hi)))||(lo==1&&hi==0)
def Pln.steps:Pln->Bool
 |.mk op tb col lo hi st ks=>w9 op tb col lo hi st.op ks.length
def Pln.scans:Pln->Bool
 |.mk op _ col lo hi st ks=>Qs op col lo hi st ks.length
def Pln.base:Pln->Pln×am Stp
 |.mk op tb col lo hi st [k]=>bif w9 op tb col lo hi st.op 1 then(k.base.1,k.base.2++[st])else(.mk op tb col lo hi st [k],[])
 |p=>(p,[])
def Pln.tb:Pln->ByteArray|.mk _ tb _ _ _ _ _=>tb
def Pln.qry(p:Pln):Qry×Bool:=bif p.base.1.scans then(⟨p.base.1.tb,p.base.2⟩,true)else(⟨⟨#[]⟩,[]⟩,false)
end
end Go.Proofs.YtkdijaiaplkliaaGreatDoor
namespace Go.AM
def laid(P:Program):Nat->am Field->aT Nat
 |o,[]=>some o
 |o,f::r=>bif Nat.beq f.offset o then laid P (o+P.cellsOf f.type) r else none
def acL{α β:Type}(R:α->β->Prop):am α->am β->Prop
 |[],[]=>True
 |x::xs,y::ys=>R x y/\acL R xs ys
 |_,_=>False
section
variable {H:Type}{enc:TypeId×Value->H}{P:Program}{w:aG}{base:Nat}{spare:Nat->Bool}{held:Bool}{ι:Nat->Gh}
def VT(w:aG)(b:Nat):Prop:=b<w.heap.size
theorem atX(a:dn)(j:Nat)(h:a.spot=none):a.add j=⟨a.block,a.off+j,none⟩:=by cases a<;>grind[vy]
theorem auc{a:dn}{v:Value}(h:w.cell? a=some v):a.spot=none/\a.block<w.heap.size:=by
 unfold cz at h;split at h
 .rename_i g;cases hs:a.spot<;>grind
 cases h
theorem ahh{b:Nat}:∀{g:am D}{vs:am Value}{o:Nat},CRs ι w (VT w) (g.map .d) vs->(∀j v,vs[j]?=some v->w.cell? ⟨b,o+j,none⟩=some v)->RDc w (VT w) b o g
 |[],_,_,_,_=>by grind[RDc]
 |d::g,[],_,h,_=>h.elim
 |d::g,v::vs,o,h,i=>by simp only[RDc];refine⟨⟨v,i 0 v rfl,h.1⟩,ahh h.2 λj u l=>?_⟩;rw[show o+1+j=o+(j+1)by omega];exact i (j+1) u (by simpa using l)
theorem atJ{b sz:Nat}:∀(g:am (am D)) (o:Nat),(∀(i:Nat) (e:am D),g[i]?=some e->e.length=sz/\RDc w (VT w) b (o+i*sz) e)->RDs w (VT w) b sz o g
 |[],_,_=>by grind[RDs]
 |e::r,o,h=>by
  simp only[RDs];refine⟨(h 0 e rfl).1,by simpa using (h 0 e rfl).2,atJ r (o+sz) λi x j=>?_⟩;have:=h (i+1) x d9;refine⟨this.1,?_⟩;rw[show o+sz+i*sz=o+(i+1)*sz by rw[Nat.add_mul,Nat.one_mul];omega]
  grind
end
section
variable {H:Type}{enc:TypeId×Value->H}{P:Program}{w:aG}{base:Nat}{spare:Nat->Bool}{held:Bool}{ι:Nat->Gh}
theorem azE{ok:Nat->Prop}:∀{g:am D}{vs:am Value},CRs ι w ok (g.map .d) vs->g.length=vs.length:=λh=>by have:=h.length<;>grind
theorem auq{R:am D->Prop}{ok:Nat->Prop}{g:Nat->aT (am Value)}:∀(len:Nat),(∀i,i<len->∃cs p,g i=some cs/\R p/\CRs ι w ok (p.map .d) cs)->
 ∃j:am (am D),j.length=len/\(∀y∈j,R y)/\∀i e,j[i]?=some e->∃cs,g i=some cs/\CRs ι w ok (e.map .d) cs
 |0,_=>⟨[],rfl,λ_ h=>(by cases h),λi e h=>(by simp at h)⟩
 |n+1,h=>by
  obtain⟨j,r,I,J⟩:=auq (R:=R) (ok:=ok) (g:=g) n (λi hi=>h i d8);obtain⟨cs,p,P,U,h6⟩:=h n d8;refine⟨j++[p],by simp[r],λy o=>?_,λi e l=>?_⟩
  .rcases bF.1 o with o|o
   .exact I y o
   simp at o;subst o;exact U
  by_cases hi:i<j.length
  .rw[am.getElem?_append_left hi]at l;exact J i e l
  rw[am.getElem?_append_right d8]at l;have:i-j.length=0:=by
   rcases Nat.eq_zero_or_pos (i-j.length)with h|h
   .exact h
   rw[am.getElem?_eq_none dX]at l;cases l
  rw[this]at l;simp at l;subst l;rw[show i=n by omega];exact⟨cs,P,h6⟩
end
section
variable {H:Type}{enc:TypeId×Value->H}{P:Program}{w:aG}{base:Nat}{spare:Nat->Bool}{held:Bool}{ι:Nat->Gh}
end
section
open Go.RowKit Go.WideShapes Go.ChangeShapes
section
variable {H:Type}{enc:TypeId×Value->H}{P:Program}
def Vf(P:Program)(t:TypeId):Bool:=match P.underlying t with|some (.struct _)=>true|some (.array _ _)=>true|_=>false
theorem apV{W:aG}{j:Nat}{t:TypeId}{v:Value}(g:bP P W .any j t v)(i:Vf P t=false):v.cells= #[v]:=by
 unfold bP at g;unfold Vf at i;split at g
 .rename_i h;rw[h]at i;cases i
 .rename_i h;rw[h]at i;cases i
 cases v with
 |agg cs=>
  unfold Cell.okWide at g;unfold Cell.ok at g;(repeat' split at g)<;>first|exact g.elim|(rename_i h _;cases h)|skip
  all_goals simp_all
 |_=>rfl
theorem atY{W:aG}{j:Nat}{t:TypeId}{v:Value}(g:bP P W .any j t v)(i:Vf P t=true):∃cs,v=.agg cs:=by
 unfold bP at g;unfold Vf at i;split at g
 .exact⟨_,g.choose_spec.1⟩
 .exact⟨_,g.choose_spec.1⟩
 rename_i l o;split at i
 .rename_i h;exact absurd h (l _)
 .rename_i h;exact absurd h (o _ _)
 cases i
theorem am3{W W':aG}(hl:laidOutB P=true)(U:Below W.heap.size W W')(J:Nat->Bool):∀(l:am TypeId) (vs:am Value) (o:am (bD H)) (p:am cK),(∀t∈l,P.readableRec t=true/\t<P.types.size)->
 (∀x∈p,J x.block=true)->(∀x∈p,x.block<W.heap.size)->ck enc P W 0 (λ_=>true) true l vs o p->ck enc P W' 0 J true l vs o p
 |[],vs,o,p,_,_,_,h=>by obtain⟨rfl,rfl,rfl⟩:=trodAll_nil h;exact rfl
 |t::l,vs,o,p,I,j,i,h=>by
  obtain⟨v,R,d,r,a,b,rfl,rfl,rfl,h1,h2⟩:=trodAll_cons h
  exact⟨a,b,WideElems.Trod_stays hl (I t aU).1 (I t aU).2 h1 (λx g=>U.same (i x (dm _ g))) (λx g=>j x (dm _ g)),
   am3 hl U J l R r b (λt h=>I t (cA _ h)) (λx g=>j x (c9 _ g)) (λx g=>i x (c9 _ g)) h2,rfl⟩
theorem alV{f:Func}{s:ChangeSpec}{i fresh l ab:Bool}{W W':aG}{args:bB Value}{v:Value}{ds gs:am (bD H)}{g pa pv:am cK}
 (hW:DataW.Whole enc P f.params.toList s.vars i W args.toList ds gs g)
 (aa:∀(b:Nat) (sp:Nat->Bool) (hd:Bool),ck enc P W' b sp hd f.resultTypes.toList (v.resultList f.resultTypes.size) (s.fn H (ds++gs)).results [])
 (o:∀sp:Nat->Bool,(∀p∈g,sp p.block=true)->ck enc P W' 0 sp true f.params.toList args.toList (s.fn H (ds++gs)).args pa)
 (J:∀sp:Nat->Bool,(∀p∈g,sp p.block=true)->DataW.TrodVars enc P W' sp s.vars (s.fn H (ds++gs)).vars pv)
 (R:g=pa++pv) (hb:Below W.heap.size W W')
 (ae:∀(j:Nat) (t:TypeId) (r:Value),f.resultTypes[j]?=some t->(v.resultList f.resultTypes.size)[j]?=some r->bP P W' .any 0 t r):
 s.post enc P f i fresh l ab W args v W':=by
 have ad:∀p∈g,p.block<W.heap.size:=λp I=>hW.lt p I
 have U:∀p∈g,(λb=>decide (b<W.heap.size)) p.block=true:=λp I=>by simpa using ad p I
 refine⟨ds,gs,g,[],pa,pv,hW,aa _ _ _,o _ U,J _ U,World.keptBut_mono (λp I=>⟨I,?_⟩) (hb.frame (· ∈g)),λ_=>?_⟩
 .rw[R,bF]at I;exact Or.inr I
 obtain⟨_,_,_,_,_,hz,hn⟩:=hW;refine⟨ae,_,_,([]++pa)++pv,⟨[]++pa,pv,trodAll_append (o _ (λ_ _=>rfl)) (aa _ _ _),J _ (λ_ _=>rfl),rfl,?_,?_⟩,?_⟩
 .intro b off I;have ac:MemPlace.cell b off∈g:=by rw[R];simpa using I
  rw[hb.frozen (ad _ ac)];exact hz b off ac
 .intro ha;have:=hn ha;rw[R]at this;simpa using this
 intro p I _;rw[R];simpa using I
def arM:Res:=⟨.w (.c (.d (.lit (.bool true)))),[]⟩
end
inductive Fd where
 |bool
 |int (k:aO)
 |str
 |ref (i:Nat)
inductive Sh where
 |sl (e:Fd)
 |st (fs:am Fd)
def yE(tab:am Sh):Nat->Fd->am D->Prop
 |_,.bool,g=>∃b,g=[.lit (.bool b)]
 |_,.int k,g=>∃m,g=[.lit (.int k m)]/\(Lit.int k m).wf=true
 |_,.str,g=>∃s:ByteArray,g=[.lit (.string s)]/\s.size<=maxLen
 |0,.ref _,_=>False
 |n+1,.ref i,g=>match tab[i]? with
  |some (.sl e)=>∃j,g=[.sl j]/\j.length<=maxLen/\∀y∈j,yE tab n e y
  |some (.st o)=>∃l:am (am D),g=l.flatten/\acL (λf d=>yE tab n f d) o l
  |none=>False
def Qp(P:Program)(nums:am TypeId)(t:TypeId):Fd->Bool
 |.bool=>match P.underlying t with|some .bool=>true|_=>false
 |.int k=>match P.underlying t with|some (.int g)=>wl g k|_=>false
 |.str=>match P.underlying t with|some .string=>true|_=>false
 |.ref i=>match nums[i]? with|some u=>Nat.beq t u|none=>false
def amx(P:Program)(nums:am TypeId):am Field->am Fd->Bool
 |[],[]=>true
 |f::i,d::g=>Qp P nums f.type d&&amx P nums i g
 |_,_=>false
def ajE(P:Program)(nums:am TypeId)(t:TypeId):Sh->Bool
 |.sl e=>match P.underlying t with
   |some (.slice u)=>Nat.blt 0 (P.cellsOf u)&&Qp P nums u e
   |_=>false
 |.st g=>match P.underlying t with
   |some (.struct l)=>(match laid P 0 l.toList with|some m=>Nat.beq m (P.cellsOf t)|none=>false)&&amx P nums l.toList g
   |_=>false
def aid(P:Program)(nums:am TypeId):am TypeId->am Sh->Bool
 |[],[]=>true
 |t::i,s::g=>ajE P nums t s&&aid P nums i g
 |_,_=>false
def aeW(P:Program)(nums:am TypeId)(tab:am Sh):Bool:=aid P nums nums tab
theorem abE{P:Program}{nums:am TypeId}:∀{g:am TypeId}{j:am Sh}{i:Nat}{t:TypeId},aid P nums g j=true->g[i]?=some t->∃s,j[i]?=some s/\ajE P nums t s=true
 |[],_,i,t,_,h=>by simp at h
 |t::g,[],i,u,h,_=>by cases h
 |t::g,s::j,i,u,h,hi=>by
  simp only[aid,aQ]at h;cases i with
  |zero=>simp at hi;subst hi;exact⟨s,rfl,h.1⟩
  |succ i=>
   simp at hi;obtain⟨x,o,l⟩:=abE h.2 hi;exact⟨x,by simpa using o,l⟩
section
variable {H:Type}{enc:TypeId×Value->H}{P:Program}{w:aG}{base:Nat}{spare:Nat->Bool}{held:Bool}{ι:Nat->Gh}{nums:am TypeId}{tab:am Sh}
theorem aqZ{ok:Nat->Prop}{n:Nat}(cs:am Value):∀(l:am Field) (gs:am Fd) (o m:Nat),laid P o l=some m->m<=cs.length->amx P nums l gs=true->
 (∀f∈l,∀g,Qp P nums f.type g=true->∃r,yE tab n g r/\CRs ι w ok (r.map .d) ((cs.drop f.offset).take (P.cellsOf f.type)))->
 o<=m/\∃i:am (am D),acL (λf d=>yE tab n f d) gs i/\CRs ι w ok (i.flatten.map .d) ((cs.drop o).take (m-o))
 |[],[],o,m,h,_,_,_=>by cases h;exact⟨aI _,[],trivial,by simp;trivial⟩
 |[],_::_,_,_,_,_,h,_=>by cases h
 |_::_,[],_,_,_,_,h,_=>by cases h
 |f::l,g::gs,o,m,h,hm,I,j=>by
  simp only[amx,aQ]at I;simp only[laid]at h;cases p:Nat.beq f.offset o with
  |false=>rw[p]at h;cases h
  |true=>
   rw[p]at h;have p:=bU p;obtain⟨r,U,J⟩:=j f aU g I.1;obtain⟨h3,i,h4,h5⟩:=aqZ cs l gs _ m h hm I.2 λR hf=>j R (cA _ hf)
   refine⟨d8,r::i,⟨U,h4⟩,?_⟩;rw[p]at J;rw[List.flatten_cons,cE];have:(cs.drop o).take (m-o)=(cs.drop o).take (P.cellsOf f.type)++(cs.drop (o+P.cellsOf f.type)).take (m-(o+P.cellsOf f.type)):=by rw[show m-o=P.cellsOf f.type+(m-(o+P.cellsOf f.type))by omega,List.take_add,List.drop_drop]
   rw[this];exact CRs.append J h5
theorem auL{a b:aO}(h:wl a b=true):a=b:=by cases a<;>cases b<;>first|rfl|cases h
theorem aCv(ar:aeW P nums tab=true):∀(U:Nat) (t:TypeId) (g:Fd),Qp P nums t g=true->∀(cs:am Value) (x:bD H×am cK),DataW.trod enc P w base spare held U t cs=some x->
 ∃ds,yE tab U g ds/\CRs ι w (VT w) (ds.map .d) cs:=by
 intro U;induction U with
 |zero=>intro t g _ cs x hx;simp[DataW.trod]at hx
 |succ n ih=>
  intro t g I cs x hx;cases g with
  |bool=>
   simp only[Qp]at I;split at I
   .rename_i hu;obtain⟨b,rfl,_⟩:=DataW.trod_bool hu hx;exact⟨[.lit (.bool b)],by simp only[yE];exact⟨b,rfl⟩,⟨by simp only[CR,RD];exact⟨trivial,rfl⟩,trivial⟩⟩
   cases I
  |int k=>
   simp only[Qp]at I;split at I
   .rename_i k1 hu;have:=auL I;subst this;obtain⟨m,rfl,_,hw⟩:=DataW.trod_int hu hx;exact⟨[.lit (.int k1 m)],by simp only[yE];exact⟨m,rfl,hw⟩,⟨by simp only[CR,RD];exact⟨trivial,rfl⟩,trivial⟩⟩
   cases I
  |str=>
   simp only[Qp]at I;split at I
   .rename_i hu;obtain⟨s,rfl,_,hw⟩:=DataW.trod_string hu hx;exact⟨[.lit (.string s)],by simp only[yE];exact⟨s,rfl,hw⟩,⟨by simp only[CR,RD];exact⟨trivial,rfl⟩,trivial⟩⟩
   cases I
  |ref i=>
   simp only[Qp]at I;split at I
   .rename_i u aq;have:=bU I;subst this;obtain⟨s,hs,l⟩:=abE ar aq;cases s with
    |sl e=>
     simp only[ajE]at l;split at l
     .rename_i u hu;rw[aQ]at l;have aj:0<P.cellsOf u:=c8 l.1;simp only[yE,hs];rcases DataW.trod_slice hu hx with⟨rfl,_⟩|⟨a,len,cap,ak,rest,m,ad,rfl,_,hb,hl,hm,ai,al,_,_⟩
      .exact⟨_,⟨[],rfl,aN _,λ_ h=>(by cases h)⟩,⟨by simp only[CR,RD];exact⟨none,0,0,rfl,rfl,aI _,aN _,.inl trivial⟩,trivial⟩⟩
      cases ad;obtain⟨ab,h1,h2,h3⟩:=auq (w:=w) (ι:=ι) (R:=yE tab n e) (ok:=VT w) (g:=λi=>w.cells? base (a.add (i*P.cellsOf u)) (P.cellsOf u)) len (λi hi=>by have h:=al i hi;rw[am.getElem?_eq_getElem d8]at h;obtain⟨p,g1,g2⟩:=Option.bind_eq_some_iff.1 h;obtain⟨ds,g3,g4⟩:=ih u e l.2 p _ g2;exact⟨p,ds,g1,g3,g4⟩)
      refine⟨_,⟨ab,rfl,d8,h2⟩,⟨?_,trivial⟩⟩;simp only[CR,RD];refine⟨some a,len,cap,rfl,h1.symm,hl,hm,?_⟩;cases ac:ab with
      |nil=>exact .inl rfl
      |cons e0 r=>
       right
       have aa:∀i y,ab[i]?=some y->∃p,p.length=P.cellsOf u/\(∀j,j<P.cellsOf u->w.cell? ((a.add (i*P.cellsOf u)).add j)=p[j]?)/\CRs ι w (VT w) (y.map .d) p:=λi y hy=>by obtain⟨p,g1,g2⟩:=h3 i y hy;obtain⟨_,g3,g4⟩:=aG.cells?_some g1;exact⟨p,g3,g4,g2⟩
       obtain⟨aw,c1,c2,_⟩:=aa 0 e0 (by rw[ac];rfl);have ag:=c2 0 aj;rw[am.getElem?_eq_getElem d8]at ag;have J:a.spot=none/\a.block<w.heap.size:=by
        have:=auc ag;refine⟨?_,?_⟩
        .cases hs:a.spot with
         |none=>rfl
         |some s=>exfalso;have h5:=this.1;simp[Addr.add,hs]at h5
        have h5:=this.2;unfold Addr.add at h5;(repeat' split at h5)<;>exact h5
       refine⟨a.block,a.off,P.cellsOf u,?_,J.2,?_⟩
       .obtain⟨b,o,s⟩:=a;cases J.1;rfl
       rw[<-ac];refine atJ ab a.off λi y hy=>?_
       obtain⟨p,g1,g2,g3⟩:=aa i y hy;refine⟨by rw[azE g3,g1],ahh g3 λj v hv=>?_⟩;have hj:j<P.cellsOf u:=by rw[<-g1];exact(am.getElem?_eq_some_iff.1 hv).1
       have:=g2 j hj;rw[atX a _ J.1,vy]at this;rw[this,hv]
     cases l
    |st gs=>
     simp only[ajE]at l;split at l
     .rename_i fs hu;rw[aQ]at l;obtain⟨ae,au⟩:=l;split at ae
      .rename_i m hm;have ax:=bU ae;obtain⟨xs,k,ad,_,ai,av,hf⟩:=DataW.trod_struct hu hx;cases ad;simp only[yE,hs];obtain⟨_,af,h1,h2⟩:=aqZ (w:=w) (ι:=ι) (ok:=VT w) (n:=n) (tab:=tab) (nums:=nums) cs fs.toList gs 0 m hm d8 au (λf an g I=>by
        obtain⟨i,hi⟩:=am.getElem?_of_mem an;have ah:fs[i]?=some f:=by rw[<-bB.getElem?_toList];exact hi
        have ao:i<xs.length:=by rw[av];exact(bB.getElem?_eq_some_iff.1 ah).1
        have h:=hf i f ah;rw[am.getElem?_eq_getElem ao]at h;exact ih f.type g I _ _ h)
       refine⟨af.flatten,⟨af,rfl,h1⟩,?_⟩;rw[List.drop_zero,Nat.sub_zero,bA d8]at h2;exact h2
      cases ae
     cases l
   cases I
def Fd.isAgg(tab:am Sh):Fd->Bool
 |.ref i=>match tab[i]? with|some (.st _)=>true|_=>false
 |_=>false
def af2(tab:am Sh)(g:Fd)(x:W):Prop:=∃n i,yE tab n g i/\(g.isAgg tab=true->x=.agg (i.map .d))/\(g.isAgg tab=false->∃d,i=[d]/\x=.c (.d d))
theorem anW(p:aeW P nums tab=true){t:TypeId}{g:Fd}(j:Qp P nums t g=true):g.isAgg tab=Vf P t:=by
 unfold Vf;cases g with
 |bool=>
  simp only[Qp]at j;split at j
  .rename_i h;rw[h];rfl
  cases j
 |int k=>
  simp only[Qp]at j;split at j
  .rename_i h;rw[h];rfl
  cases j
 |str=>
  simp only[Qp]at j;split at j
  .rename_i h;rw[h];rfl
  cases j
 |ref i=>
  simp only[Qp]at j;split at j
  .rename_i u o;have:=bU j;subst this;obtain⟨s,hs,l⟩:=abE p o;simp only[Fd.isAgg,hs];cases s with
   |sl e=>
    simp only[ajE]at l;split at l
    .rename_i h;rw[h]
    cases l
   |st e=>
    simp only[ajE]at l;split at l
    .rename_i h;rw[h]
    cases l
  cases j
theorem ayf(o:aeW P nums tab=true){W:aG}{U:Nat}{t:TypeId}{g:Fd}{v:Value}{d:bD H}{p:am cK}{ι:Nat->Gh}(R:Qp P nums t g=true)(l:bP P W .any U t v)
 (h:DataW.Trod enc P W 0 (λ_=>true) true t v d p):∃x,af2 tab g x/\WR ι W (VT W) x v:=by
 obtain⟨j,hf⟩:=h;obtain⟨J,r,i⟩:=aCv (ι:=ι) o j t g R _ _ hf;cases I:Vf P t with
 |true=>
  obtain⟨cs,rfl⟩:=atY l I;refine⟨.agg (J.map .d),⟨j,J,r,λ_=>rfl,λh=>(by rw[anW o R,I]at h;cases h)⟩,cs.toList,dT,?_⟩;simpa[Value.cells]using i
 |false=>
  rw[apV l I]at i
  match J,i with
  |[d],i=>exact⟨.c (.d d),⟨j,[d],r,λh=>(by rw[anW o R,I]at h;cases h),λ_=>⟨d,rfl,rfl⟩⟩,i.1⟩
  |[],i=>exact i.elim
  |_::_::_,i=>exact i.2.elim
def aeV(P:Program)(nums:am TypeId):am TypeId->am Fd->Bool
 |[],[]=>true
 |t::i,g::gs=>Qp P nums t g&&aeV P nums i gs
 |_,_=>false
theorem akU(o:aeW P nums tab=true){W:aG}{b0:Nat}{ι:Nat->Gh}:∀(l:am TypeId) (gs:am Fd) (vs:am Value) (J:am (bD H)) (p:am cK),aeV P nums l gs=true->
 (∀(j:Nat) t v,l[j]?=some t->vs[j]?=some v->bP P W .any b0 t v)->ck enc P W 0 (λ_=>true) true l vs J p->
 ∃xs,acL (af2 tab) gs xs/\qq ι W (VT W) xs vs/\J.length=l.length
 |[],[],vs,J,p,_,_,h=>by obtain⟨rfl,rfl,rfl⟩:=trodAll_nil h;exact⟨[],trivial,trivial,rfl⟩
 |[],_::_,_,_,_,h,_,_=>by cases h
 |_::_,[],_,_,_,h,_,_=>by cases h
 |t::l,g::gs,vs,J,p,U,i,h=>by simp only[aeV,aQ]at U;obtain⟨v,ac,d,R,a,b,rfl,rfl,rfl,h1,h2⟩:=trodAll_cons h;obtain⟨x,aa,ab⟩:=ayf (ι:=ι) o U.1 (i 0 t v rfl rfl) h1;obtain⟨xs,r,I,hl⟩:=akU (ι:=ι) o l gs ac R b U.2 (λj t v hj hv=>i (j+1) t v hj hv) h2;exact⟨x::xs,⟨aa,r⟩,⟨ab,I⟩,by simp[hl]⟩
def ari(P:Program)(g:am TypeId):Bool:=g.all λt=>P.readableRec t&&decide (t<P.types.size)
theorem akH{f:FuncId}{fn:Func}{s:ChangeSpec}{tb:TypeId}{gs0:am Fd}(hl:laidOutB P=true)(ai:aeW P nums tab=true)(ab:aeV P nums fn.params.toList gs0=true)(l:ari P fn.params.toList=true)(o:s.vars=[])(U:fn.resultTypes= #[tb])(hb:P.underlying tb=some .bool)
 (ad:∀(H:Type) (J:am (bD H)),J.length=fn.params.toList.length->(s.fn H J).results=[.lit (.bool true)]/\(s.fn H J).args=J/\(s.fn H J).vars=[])
 (ag:∀xs,acL (af2 tab) gs0 xs->Sat P f xs (λr=>r=arM)) {g fresh i aa:Bool}
 (W:aG) (af:Glb (VT W) W) (base:Nat) (args:bB Value) (J gs:am (bD H)) (I:am cK)
 (ah:∀(j:Nat) t v,fn.params[j]?=some t->args[j]?=some v->bP P W .any base t v)
 (hW:DataW.Whole enc P fn.params.toList s.vars g W args.toList J gs I):
 b9 P f args W λe W'=>∃v,e=.returned v/\s.post enc P fn g fresh i aa W args v W':=by
 have ae:=hW;obtain⟨p,q,hA,hV,rfl,ak,al⟩:=hW;rw[o]at hV;obtain⟨rfl,rfl⟩:=trodVars_none hV;simp only[ari,List.all_eq_true,aQ,dz]at l;obtain⟨xs,h1,h2,h3⟩:=akU (ι:=λ_=>⟨none,0,.nilFunc,[]⟩) ai fn.params.toList gs0 args.toList J p ab (λj t v hj hv=>ah j t v (by simpa using hj) (by simpa using hv)) hA;have hc:=(ag xs h1).2 W (VT W) args.toList ⟨λb h=>h,af⟩ h2;rw[Array.toArray_toList]at hc;refine hc.mono λe W' ⟨v,r,he,hr,ac,hg⟩=>⟨v,he,?_⟩
 subst hr;obtain⟨_,ι,hv,_⟩:=ac;have hv:v=.bool true:=by simp only[VR,WR,CR,RD,arM]at hv;exact hv.1
 subst hv;obtain⟨s1,s2,s3⟩:=ad H (J++[]) (by simpa using h3);have R:Below W.heap.size W W':=⟨hg.os,hg.tape,hg.output,hg.size,λk hk=>hg.block k hk λh=>h⟩;refine alV (pa:=p) (pv:=[]) ae ?_ ?_ ?_ dT R ?_
 .intro b sp hd;rw[s1,U];exact trodAll_cons_mk (shut_bool hb _) trodAll_mk0
 .intro sp aj;rw[s2,bE];exact am3 hl R sp _ _ _ _ (λt ht=>⟨(l t ht).1,(l t ht).2⟩) (λx hx=>aj x (by simpa using hx)) (λx hx=>ae.lt x (by simpa using hx)) hA
 .intro sp _;rw[s3,o];rfl
 exact ok_one U rfl (okWide_bool_mk hb _)
theorem uk{α β:Type}{R:α->β->Prop}{xs:am β}(h:acL R [] xs):xs=[]:=by cases xs with|nil=>rfl|cons _ _=>exact h.elim
theorem ym{α β:Type}{R:α->β->Prop}{a:α}{l:am α}{xs:am β}(h:acL R (a::l) xs):∃x r,xs=x::r/\R a x/\acL R l r:=by cases xs with|nil=>exact h.elim|cons x r=>exact⟨x,r,rfl,h.1,h.2⟩
theorem Wp{α:Type}{f:α->am D}{R:am D->Prop}(h:∀y,R y->∃x,y=f x):∀{g:am (am D)},(∀y∈g,R y)->∃l:am α,g=l.map f
 |[],_=>⟨[],rfl⟩
 |e::r,hr=>by
  obtain⟨l,i⟩:=Wp (f:=f) h λy o=>hr y (cA _ o)
  obtain⟨x,j⟩:=h e (hr e aU);exact⟨x::l,by rw[j,i];rfl⟩
end
end
end Go.AM
namespace Go.Proofs.YtkdijaiaplkliaaGreatDoor
open Go Go.AM
def z6:am Sh:=[.st [.int .i64,.int .i64,.str],.sl (.ref 0),.sl (.ref 1),.st [.str,.int .i64],.sl (.ref 3),.st [.ref 4,.ref 2],.st [.int .i64,.int .i64,.str],.sl (.ref 0),
 .st [.int .i64,.str,.ref 0,.ref 9],.sl (.ref 8),.st [.ref 8,.str],.sl (.ref 10),.sl .str,.st [.str,.str,.str],.sl (.ref 13),.st [.str,.bool],.sl (.ref 15),
 .st [.int .i64,.ref 8,.ref 11,.ref 12,.ref 14,.ref 16,.int .i64,.str],.sl (.ref 17),.st [.str,.ref 18],.st [.str,.ref 5],.sl (.ref 20),.st [.int .i64,.str,.str,.int .i64,.int .i64,.ref 17,.ref 23],.sl (.ref 22)]
def ai3:am TypeId:=[28,77,45,81,44,47,28,77,
 31,29,107,32,33,184,34,136,35,37,56,58,76,22,40,38]
theorem own:ownKnob Pg.godebug=none:=dU
theorem arh:laidOutB Pg=true:=dU
theorem at2:aeW Pg ai3 z6=true:=dU
theorem aaR{n:Nat}{g:am D}(h:yE z6 n (.int .i64) g):∃x:Int,g=[.lit (.int .i64 x)]:=by grind[yE]
theorem YS{n:Nat}{g:am D}(h:yE z6 n .str g):∃x:ByteArray,g=[.lit (.string x)]:=by grind[yE]
theorem aAH{n:Nat}{g:am D}(h:yE z6 n .bool g):∃x:Bool,g=[.lit (.bool x)]:=by grind[yE]
theorem av8{n:Nat}{g:am D}(h:yE z6 n (.ref 0) g):∃x:Val,g=x.ds:=by
 cases n with
 |zero=>grind[yE]
 |succ n=>
  simp only[yE,show z6[0]?=some (.st [.int .i64,.int .i64,.str])from rfl]at h;obtain⟨i,rfl,h⟩:=h;obtain⟨I,_,rfl,h0,h⟩:=ym h;obtain⟨J,_,rfl,j,h⟩:=ym h;obtain⟨P,_,rfl,l,h⟩:=ym h;cases uk h;obtain⟨o,rfl⟩:=aaR h0;obtain⟨p,rfl⟩:=aaR j;obtain⟨r,rfl⟩:=YS l;exact⟨⟨o,p,r⟩,rfl⟩
theorem aBT{n:Nat}{g:am D}(h:yE z6 n (.ref 1) g):∃x:am Val,g=[.sl (x.map Val.ds)]:=by
 cases n with
 |zero=>grind[yE]
 |succ n=>
  simp only[yE,show z6[1]?=some (.sl (.ref 0))from rfl]at h;obtain⟨i,rfl,_,h⟩:=h;obtain⟨l,rfl⟩:=Wp (f:=Val.ds) (R:=yE z6 n (.ref 0)) (λy j=>av8 j) h
  grind
theorem aAL{n:Nat}{g:am D}(h:yE z6 n (.ref 2) g):∃x:am (am Val),g=[.sl (zg x)]:=by
 cases n with
 |zero=>grind[yE]
 |succ n=>
  simp only[yE,show z6[2]?=some (.sl (.ref 1))from rfl]at h;obtain⟨i,rfl,_,h⟩:=h;obtain⟨l,rfl⟩:=Wp (f:=λr:am Val=> [D.sl (rowD r)]) (R:=yE z6 n (.ref 1)) (λy j=>aBT j) h;exact⟨l,rfl⟩
theorem aBQ{n:Nat}{g:am D}(h:yE z6 n (.ref 3) g):∃x:Col,g=x.ds:=by
 cases n with
 |zero=>grind[yE]
 |succ n=>
  simp only[yE,show z6[3]?=some (.st [.str,.int .i64])from rfl]at h;obtain⟨i,rfl,h⟩:=h;obtain⟨p,_,rfl,h0,h⟩:=ym h;obtain⟨r,_,rfl,j,h⟩:=ym h;cases uk h;obtain⟨l,rfl⟩:=YS h0;obtain⟨o,rfl⟩:=aaR j;exact⟨⟨l,o⟩,rfl⟩
theorem aAI{n:Nat}{g:am D}(h:yE z6 n (.ref 4) g):∃x:am Col,g=[.sl (x.map Col.ds)]:=by
 cases n with
 |zero=>grind[yE]
 |succ n=>
  simp only[yE,show z6[4]?=some (.sl (.ref 3))from rfl]at h;obtain⟨i,rfl,_,h⟩:=h;obtain⟨l,rfl⟩:=Wp (f:=Col.ds) (R:=yE z6 n (.ref 3)) (λy j=>aBQ j) h
  grind
theorem aBW{n:Nat}{g:am D}(h:yE z6 n (.ref 5) g):∃x:Tbl,g=x.ds:=by
 cases n with
 |zero=>grind[yE]
 |succ n=>
  simp only[yE,show z6[5]?=some (.st [.ref 4,.ref 2])from rfl]at h;obtain⟨i,rfl,h⟩:=h;obtain⟨p,_,rfl,h0,h⟩:=ym h;obtain⟨r,_,rfl,j,h⟩:=ym h;cases uk h;obtain⟨l,rfl⟩:=aAI h0;obtain⟨o,rfl⟩:=aAL j;exact⟨⟨l,o⟩,rfl⟩
theorem azz:∀{n:Nat}{i:am D}(_:yE z6 n (.ref 8) i),∃x:Ex,i=x.ds:=by
 intro n;induction n using Nat.strongRecOn with
 |ind n J=>
  intro i h;cases n with
  |zero=>grind[yE]
  |succ n=>
   simp only[yE,show z6[8]?=some (.st [.int .i64,.str,.ref 0,.ref 9])from rfl]at h;obtain⟨j,rfl,h⟩:=h;obtain⟨d0,_,rfl,h0,h⟩:=ym h;obtain⟨d1,_,rfl,p,h⟩:=ym h;obtain⟨d2,_,rfl,r,h⟩:=ym h;obtain⟨d3,_,rfl,g,h⟩:=ym h;cases uk h;obtain⟨P,rfl⟩:=aaR h0;obtain⟨U,rfl⟩:=YS p;obtain⟨x2,rfl⟩:=av8 r;cases n with
   |zero=>grind[yE]
   |succ n=>
    simp only[yE,show z6[9]?=some (.sl (.ref 8))from rfl]at g;obtain⟨o,rfl,_,g⟩:=g;obtain⟨l,rfl⟩:=Wp (f:=Ex.ds) (R:=yE z6 n (.ref 8)) (λy I=>J n d8 I) g;exact⟨⟨P,U,x2,l⟩,by rw[<-Va];rfl⟩
theorem aBR{n:Nat}{g:am D}(h:yE z6 n (.ref 10) g):∃x:Itm,g=x.ds:=by
 cases n with
 |zero=>grind[yE]
 |succ n=>
  simp only[yE,show z6[10]?=some (.st [.ref 8,.str])from rfl]at h;obtain⟨i,rfl,h⟩:=h;obtain⟨p,_,rfl,h0,h⟩:=ym h;obtain⟨r,_,rfl,j,h⟩:=ym h;cases uk h;obtain⟨l,rfl⟩:=azz h0;obtain⟨o,rfl⟩:=YS j;exact⟨⟨l,o⟩,rfl⟩
theorem aAJ{n:Nat}{g:am D}(h:yE z6 n (.ref 11) g):∃x:am Itm,g=[.sl (x.map Itm.ds)]:=by
 cases n with
 |zero=>grind[yE]
 |succ n=>
  simp only[yE,show z6[11]?=some (.sl (.ref 10))from rfl]at h;obtain⟨i,rfl,_,h⟩:=h;obtain⟨l,rfl⟩:=Wp (f:=Itm.ds) (R:=yE z6 n (.ref 10)) (λy j=>aBR j) h
  grind
theorem aAO{n:Nat}{g:am D}(h:yE z6 n (.ref 12) g):∃x:am ByteArray,g=[.sl (x.map (λb=> [D.lit (.string b)]))]:=by
 cases n with
 |zero=>grind[yE]
 |succ n=>
  simp only[yE,show z6[12]?=some (.sl .str)from rfl]at h;obtain⟨i,rfl,_,h⟩:=h;obtain⟨l,rfl⟩:=Wp (f:=(λb=> [D.lit (.string b)])) (R:=λy=>∃s:ByteArray,y=[D.lit (.string s)]/\s.size<=maxLen) (λy ⟨s,e,_⟩=>⟨s,e⟩) h
  grind
theorem aBP{n:Nat}{g:am D}(h:yE z6 n (.ref 13) g):∃x:Agg,g=x.ds:=by
 cases n with
 |zero=>grind[yE]
 |succ n=>
  simp only[yE,show z6[13]?=some (.st [.str,.str,.str])from rfl]at h;obtain⟨i,rfl,h⟩:=h;obtain⟨I,_,rfl,h0,h⟩:=ym h;obtain⟨J,_,rfl,j,h⟩:=ym h;obtain⟨P,_,rfl,l,h⟩:=ym h;cases uk h;obtain⟨o,rfl⟩:=YS h0;obtain⟨p,rfl⟩:=YS j;obtain⟨r,rfl⟩:=YS l;exact⟨⟨o,p,r⟩,rfl⟩
theorem aAG{n:Nat}{g:am D}(h:yE z6 n (.ref 14) g):∃x:am Agg,g=[.sl (x.map Agg.ds)]:=by
 cases n with
 |zero=>grind[yE]
 |succ n=>
  simp only[yE,show z6[14]?=some (.sl (.ref 13))from rfl]at h;obtain⟨i,rfl,_,h⟩:=h;obtain⟨l,rfl⟩:=Wp (f:=Agg.ds) (R:=yE z6 n (.ref 13)) (λy j=>aBP j) h
  grind
theorem aBU{n:Nat}{g:am D}(h:yE z6 n (.ref 15) g):∃x:Srt,g=x.ds:=by
 cases n with
 |zero=>grind[yE]
 |succ n=>
  simp only[yE,show z6[15]?=some (.st [.str,.bool])from rfl]at h;obtain⟨i,rfl,h⟩:=h;obtain⟨p,_,rfl,h0,h⟩:=ym h;obtain⟨r,_,rfl,j,h⟩:=ym h;cases uk h;obtain⟨l,rfl⟩:=YS h0;obtain⟨o,rfl⟩:=aAH j;exact⟨⟨l,o⟩,rfl⟩
theorem aAM{n:Nat}{g:am D}(h:yE z6 n (.ref 16) g):∃x:am Srt,g=[.sl (x.map Srt.ds)]:=by
 cases n with
 |zero=>grind[yE]
 |succ n=>
  simp only[yE,show z6[16]?=some (.sl (.ref 15))from rfl]at h;obtain⟨i,rfl,_,h⟩:=h;obtain⟨l,rfl⟩:=Wp (f:=Srt.ds) (R:=yE z6 n (.ref 15)) (λy j=>aBU j) h
  grind
theorem aBV{n:Nat}{g:am D}(h:yE z6 n (.ref 17) g):∃x:Stp,g=x.ds:=by
 cases n with
 |zero=>grind[yE]
 |succ n=>
  simp only[yE,show z6[17]?=some (.st [.int .i64,.ref 8,.ref 11,.ref 12,.ref 14,.ref 16,.int .i64,.str])from rfl]at h;obtain⟨i,rfl,h⟩:=h;obtain⟨d0,_,rfl,h0,h⟩:=ym h;obtain⟨d1,_,rfl,j,h⟩:=ym h;obtain⟨d2,_,rfl,l,h⟩:=ym h;obtain⟨d3,_,rfl,o,h⟩:=ym h;obtain⟨d4,_,rfl,p,h⟩:=ym h;obtain⟨d5,_,rfl,r,h⟩:=ym h;obtain⟨d6,_,rfl,I,h⟩:=ym h;obtain⟨d7,_,rfl,J,h⟩:=ym h;cases uk h;obtain⟨P,rfl⟩:=aaR h0;obtain⟨R,rfl⟩:=azz j;obtain⟨U,rfl⟩:=aAJ l;obtain⟨x3,rfl⟩:=aAO o;obtain⟨x4,rfl⟩:=aAG p;obtain⟨x5,rfl⟩:=aAM r;obtain⟨x6,rfl⟩:=aaR I;obtain⟨x7,rfl⟩:=YS J;exact⟨⟨P,R,U,x3,x4,x5,x6,x7⟩,rfl⟩
theorem aAN{n:Nat}{g:am D}(h:yE z6 n (.ref 18) g):∃x:am Stp,g=[.sl (x.map cM)]:=by
 cases n with
 |zero=>grind[yE]
 |succ n=>
  simp only[yE,show z6[18]?=some (.sl (.ref 17))from rfl]at h;obtain⟨i,rfl,_,h⟩:=h;obtain⟨l,rfl⟩:=Wp (f:=cM) (R:=yE z6 n (.ref 17)) (λy j=>aBV j) h
  grind
theorem aBS{n:Nat}{g:am D}(h:yE z6 n (.ref 20) g):∃x:Nmd,g=x.ds:=by
 cases n with
 |zero=>grind[yE]
 |succ n=>
  simp only[yE,show z6[20]?=some (.st [.str,.ref 5])from rfl]at h;obtain⟨i,rfl,h⟩:=h;obtain⟨p,_,rfl,h0,h⟩:=ym h;obtain⟨r,_,rfl,j,h⟩:=ym h;cases uk h;obtain⟨l,rfl⟩:=YS h0;obtain⟨o,rfl⟩:=aBW j;exact⟨⟨l,o⟩,rfl⟩
theorem aAK{n:Nat}{g:am D}(h:yE z6 n (.ref 21) g):∃x:am Nmd,g=[.sl (x.map Nmd.ds)]:=by
 cases n with
 |zero=>grind[yE]
 |succ n=>
  simp only[yE,show z6[21]?=some (.sl (.ref 20))from rfl]at h;obtain⟨i,rfl,_,h⟩:=h;obtain⟨l,rfl⟩:=Wp (f:=Nmd.ds) (R:=yE z6 n (.ref 20)) (λy j=>aBS j) h
  grind
theorem aA6{g:AM.Fd}{x:W}(h:af2 z6 g x)(o:g.isAgg z6=true):∃n i,yE z6 n g i/\x=.agg (i.map .d):=by obtain⟨n,i,j,l,_⟩:=h<;>grind
theorem azK{g:AM.Fd}{x:W}(h:af2 z6 g x)(o:g.isAgg z6=false):∃n d,yE z6 n g [d]/\x=.c (.d d):=by obtain⟨n,i,j,_,l⟩:=h<;>grind
theorem aqN{x:W}(h:af2 z6 (.ref 19) x):∃t:Qry,x=t.w:=by
 obtain⟨n,I,g,rfl⟩:=aA6 h rfl;clear h;have h:=g;clear g;cases n with
 |zero=>grind[yE]
 |succ n=>
  simp only[yE,show z6[19]?=some (.st [.str,.ref 18])from rfl]at h;obtain⟨i,rfl,h⟩:=h;obtain⟨p,_,rfl,h0,h⟩:=ym h;obtain⟨r,_,rfl,j,h⟩:=ym h;cases uk h;obtain⟨l,rfl⟩:=YS h0;obtain⟨o,rfl⟩:=aAN j;exact⟨⟨l,o⟩,rfl⟩
theorem am2{x:W}(h:af2 z6 (.ref 21) x):∃t:am Nmd,x=.c (.d (.sl (zq t))):=by obtain⟨n,d,g,rfl⟩:=azK h rfl;clear h;have h:=g;clear g;obtain⟨t,h⟩:=aAK h;cases h;exact⟨t,rfl⟩
section
attribute [local irreducible] Sat zA zX zo
def Pln.col:Pln->ByteArray|.mk _ _ col _ _ _ _=>col
def Pln.lo:Pln->Int|.mk _ _ _ lo _ _ _=>lo
def Pln.hi:Pln->Int|.mk _ _ _ _ hi _ _=>hi
def uW(t:Tbl)(c:ByteArray):Int:=bif decide (zf t.cols c<0)then 16 else bif xA t.cols (zf t.cols c) !=2 then 14 else 0
def qj(d:am Nmd)(p:Pln):Int:=
 bif yH d !=0 then yH d else bif !p.qry.2 then 1 else bif (vi d p.qry.1).1 !=0 then(vi d p.qry.1).1 else
 bif zo p.base.1.col ⟨#[]⟩then 0 else uW ((zU p.base.1.tb d).getD ⟨[],[]⟩) p.base.1.col
def ZV(d:am Nmd)(p:Pln):Tbl:=
 bif zo p.col ⟨#[]⟩then(zU p.tb d).getD ⟨[],[]⟩else⟨((zU p.tb d).getD ⟨[],[]⟩).cols,((zU p.tb d).getD ⟨[],[]⟩).rows.filter (K2 (zf ((zU p.tb d).getD ⟨[],[]⟩).cols p.col).toNat p.lo p.hi)⟩
end
section
attribute [local irreducible] Sat zA zX
theorem VM(d:am Nmd)(q:Qry)(hs:∀s∈q.steps,s.Sm):dY wK [.c (.d (.sl (zq d))),q.w] (xH (vi d q)):=by
 obtain⟨g,l⟩:=q;have hs:∀s∈l,s.Sm:=hs;have p:=wt d;have R:=ak3 ⟨g,l⟩ (λs h=>aM (hs s h).sorts d8);have I:=y4 d g;unfold vi;by_cases i:yH d=0
 .by_cases J:Qry.err ⟨g,l⟩=0
  .cases P:zU g d with
   |some t=>
    obtain⟨tc,U⟩:=t;have:=aj6 d g l hs i J tc U P _ rfl
    grind
   |none=>
    rw[i]at p;rw[J]at R;rw[P]at I;rw[i,J];simp only[P];refine zC ?_;refine Zh.s T8 ?_;refine aC p ?_;refine aC R ?_;refine aC I ?_;exact⟨rfl,rfl⟩
  have o:(Qry.err ⟨g,l⟩ !=0)=true:=d9
  rw[i]at p;rw[i,o];simp only[dC,aE,aB];generalize Qry.err ⟨g,l⟩=e2 at*;refine zC ?_;refine Zh.s T8 ?_;refine aC p ?_;refine aC R ?_;rw[o];exact⟨rfl,rfl⟩
 have j:(yH d !=0)=true:=d9
 rw[j];simp only[aE];generalize yH d=e1 at*;refine zC ?_;refine Zh.s T8 ?_;refine aC p ?_;rw[j];exact⟨rfl,rfl⟩
theorem aqm(d:am Nmd)(g:ByteArray)(l:am Stp)(i:Int)(p:am Col)(j:(i !=0)=true)(o:dY wK [.c (.d (.sl (zq d))),Qry.w ⟨g,l⟩] (xH (i,p))):dY ZR [.c (.d (.sl (zq d))),Qry.w ⟨g,l⟩] (wO (i,⟨[],[]⟩)):=by refine zC ?_;refine kT.s T8 ?_;refine aC o ?_;rw[j];exact⟨rfl,rfl⟩
end
section
attribute [local irreducible] Sat zA zX zo
theorem Qq(op:Int):dY k7 [.c (int op)] (rI (u6 op)):=by
 unfold u6;refine yA T8 apS.ok dU ?_
 repeat' (conv=>whnf
          refine zx (λh=>?_) (λh=>?_))
 all_goals refine aF rI ?_
 all_goals first|(simp only[*,aE,aB];done)|(simp_all only[Bool.false_eq_true,aE,aB];done)|(simp_all;done)
def Pln.cs:Pln->am C
 |.mk op tb col lo hi ⟨p,⟨I,J,⟨P,R,vs⟩,l⟩,g,o,j,i,n,r⟩ ks=> [int op,str tb,str col,int lo,int hi,int p,int I,str J,int P,int R,str vs,.d (.sl (exsD l)),.d (.sl (yP g)),.d (.sl (zp o)),.d (.sl (qv j)),.d (.sl (xz i)),int n,str r,.d (.sl (plnsD ks))]
theorem qd(p:Pln):p.w=.agg p.cs:=by obtain⟨op,tb,col,lo,hi,⟨r,⟨J,P,⟨R,U,vs⟩,l⟩,g,o,j,i,n,I⟩,ks⟩:=p;simp only[Pln.w,Pln.ds,cM,Ex.ds];rfl
theorem uB(op o:Int)(p:ByteArray)(r I:Int)(vs:ByteArray)(ks:am Ex)(g:am Itm)(l:am ByteArray)(j:am Agg)(i:am Srt)(n:Int)(tb:ByteArray):
 Stp.w ⟨op,⟨o,p,⟨r,I,vs⟩,ks⟩,g,l,j,i,n,tb⟩=.agg [int op,int o,str p,int r,int I,str vs,.d (.sl (exsD ks)),.d (.sl (yP g)),.d (.sl (zp l)),.d (.sl (qv j)),.d (.sl (xz i)),int n,str tb]:=by simp only[Stp.w,cM,Ex.ds];rfl
def Stp.lens(s:Stp):Nat:=s.cond.ks.length+s.items.length+s.cols.length+s.aggs.length+s.sorts.length
theorem avq(st:Stp)(hl:st.lens<=1000000):dY ads [st.w] (rB (Yr st)):=by
 suffices h:∀b,Yr st=b->dY ads [st.w] (rB b)from h _ rfl
 intro b R;obtain⟨op,⟨eo,nm,⟨vk,vn,vs⟩,ks⟩,g,p,j,i,n,tb⟩:=st;rw[uB];have hl:ks.length+g.length+p.length+j.length+i.length<=1000000:=hl;have R:(op==0&&(((eo==0&&zo nm ⟨#[]⟩)&&xf ⟨vk,vn,vs⟩ ⟨0,0,⟨#[]⟩⟩)&&(ks.length:Int)==0&&(decide ((g.length+p.length+j.length+i.length:Nat)=0)&&(n==0&&zo tb ⟨#[]⟩))))=b:=R;rw[<-y0,<-vg,<-zP,<-jN,<-YP]at R hl;generalize exsD ks=l at*;generalize yP g=o at*;generalize zp p=I at*;generalize qv j=J at*;generalize xz i=U at*;refine ank.s T8 ?_;refine zj (b:=op==0&&eo==0&&zo nm ⟨#[]⟩) (λP=>?_) (λP=>?_)
 .simp only[aQ]at P;rw[P.1.1,P.1.2,P.2]at R;(conv=>whnf);refine Eq.trans (b:=rB (xf ⟨vk,vn,vs⟩ ⟨0,0,⟨#[]⟩⟩&&(aK.wrap (aK.wrap (aK.wrap (aK.wrap (aK.wrap (l.length+o.length)+I.length)+J.length)+U.length)+n)==0)&&(n==0)&&zo tb ⟨#[]⟩)) ?_ ?_
  .have e:∀a b c d:Bool,rB (a&&b&&c&&d)=⟨.w (.c (bool (a&&b&&c&&d))),[]⟩:=λ_ _ _ _=>rfl
   rw[e];show Res.mk (.w (.c (bool _))) []=_;congr 5
  congr 1
  rw[<-R];by_cases hn:n=0
  .subst hn;rw[yf (n:=(l.length:Int)+o.length) d8 d8,yf (n:=(l.length:Int)+o.length+I.length) d8 d8,yf (n:=(l.length:Int)+o.length+I.length+J.length) d8 d8,yf (n:=(l.length:Int)+o.length+I.length+J.length+U.length) d8 d8,Int.add_zero,yf d8 d8];have e:((l.length:Int)+o.length+I.length+J.length+U.length==0)=((l.length:Int)==0&&decide (o.length+I.length+J.length+U.length=0)):=by rw[Bool.eq_iff_iff];simp only[beq_iff_eq,aQ,dz];omega
   simp_all[Bool.and_assoc]
  grind
 have e:b=false:=d9
 subst e;exact rfl
def ua:Stp:=⟨0,.mk 0 ⟨#[]⟩ ⟨0,0,⟨#[]⟩⟩ [],[],[],[],[],0,⟨#[]⟩⟩
theorem aml(p:Pln):dY agv [p.w] ⟨.tup [ua.w,.c (bool false)],[]⟩:=by refine zC ?_;rw[qd];obtain⟨op,tb,col,lo,hi,⟨I,⟨P,R,⟨U,vn,vs⟩,l⟩,g,o,j,i,n,J⟩,ks⟩:=p;refine yA T8 agc.ok dU ?_;exact⟨rfl,rfl⟩
theorem aaD(s:Stp):dY afi [s.w] ⟨.tup [s.w,.c (bool true)],[]⟩:=by obtain⟨op,⟨o,p,⟨I,J,vs⟩,ks⟩,g,l,j,i,n,tb⟩:=s;rw[uB];refine yA T8 afb.ok dU ?_;exact rfl
theorem Zy(n:Int):dY ajq [.c (int n)] (rV ⟨2,n,⟨#[]⟩⟩):=by refine yA T8 ajc.ok dU ?_;exact rfl
theorem aed(n:Int):dY agw [.c (int n)] ⟨.w (Wg n).w,[]⟩:=by refine zC ?_;refine agd.s T8 ?_;refine aC (Zy n) ?_;exact⟨rfl,rfl⟩
theorem ag4(s:ByteArray):dY ajp [.c (str s)] ⟨.w (Qg s).w,[]⟩:=by refine zC ?_;refine yA T8 ajb.ok dU ?_;exact⟨rfl,rfl⟩
theorem amb(op:Int)(a b:Ex):dY ap8 [.c (int op),a.w,b.w] ⟨.w (Kw op a b).w,[]⟩:=by refine zC ?_;obtain⟨R,P,⟨i,j,l⟩,g⟩:=a;obtain⟨bo,U,⟨p,I,J⟩,o⟩:=b;refine yA T8 apR.ok dU ?_;exact⟨rfl,rfl⟩
theorem avA(p:Pln):dY adu [p.w] (rB p.steps):=by
 suffices h:∀b,p.steps=b->dY adu [p.w] (rB b)from h _ rfl
 intro b i;rw[qd];obtain⟨op,tb,col,lo,hi,⟨g,⟨eo,nm,⟨vk,vn,vs⟩,U⟩,o,aa,J,I,n,ab⟩,ks⟩:=p;have i:w9 op tb col lo hi g ks.length=b:=i;unfold w9 at i;refine anm.s T8 ?_;rw[akR];refine zx (b:=!zo tb ⟨#[]⟩||!zo col ⟨#[]⟩||lo !=0||hi !=0||(ks.length:Int) !=1) (λj=>?_) (λj=>?_)
 .simp only[Bool.or_assoc]at j;rw[j]at i;subst i;exact rfl
 simp only[Bool.or_assoc]at j;rw[j,aB]at i;refine zj (b:=op==2) (λl=>?_) (λl=>?_)
 .rw[l]at i;subst i;exact rfl
 rw[l,aB]at i;have fin:∀c:Bool,(op==3||(op==4||op==5))=c->(bif c then u6 g==op else false)=b:=λc hc=>d9
 refine zj (b:=op==3) (λP=>?_) (λP=>?_)
 .have fin:=fin true d9;subst fin;(conv=>whnf);rw[P];refine aC (Qq g) ?_;rfl
 refine zj (b:=op==4) (λR=>?_) (λR=>?_)
 .have fin:=fin true d9;subst fin;(conv=>whnf);rw[R];refine aC (Qq g) ?_;rfl
 refine zj (b:=op==5) (λh5=>?_) (λh5=>?_)
 .have fin:=fin true d9;subst fin;refine aC (Qq g) ?_;rfl
 have fin:=fin false d9;subst fin;exact rfl
def Pln.st:Pln->Stp|.mk _ _ _ _ _ st _=>st
theorem avx(p:Pln)(hl:p.st.lens<=1000000):dY adt [p.w] (rB p.scans):=by
 suffices h:∀b,p.scans=b->dY adt [p.w] (rB b)from h _ rfl
 intro b g;rw[qd];obtain⟨op,tb,col,lo,hi,⟨J,⟨eo,nm,⟨vk,vn,vs⟩,o⟩,i,I,l,j,n,P⟩,ks⟩:=p;have g:Qs op col lo hi ⟨J,⟨eo,nm,⟨vk,vn,vs⟩,o⟩,i,I,l,j,n,P⟩ ks.length=b:=g;have he:=avq ⟨J,⟨eo,nm,⟨vk,vn,vs⟩,o⟩,i,I,l,j,n,P⟩ hl;rw[uB]at he;unfold Qs at g;generalize Yr _=e at*;refine anl.s T8 ?_;refine zj (b:=op !=1) (λR=>?_) (λR=>?_)
 .rw[R,Bool.true_or]at g;subst g;exact rfl
 rw[R,Bool.false_or]at g;refine aC he ?_;rw[akR];refine zx (b:=!e||decide ((ks.length:Int)>0)) (λU=>?_) (λU=>?_)
 .rw[U]at g;subst g;exact rfl
 rw[U,aB]at g;refine zj (b:=zo col ⟨#[]⟩) (λh3=>?_) (λh3=>?_)
 .rw[h3,aE]at g;subst g;exact rfl
 rw[h3,aB]at g;subst g;(conv=>whnf);rw[<-Bool.and_assoc];rfl
def acO{α:Type}(l:am α)(i:Nat)(c:am α):Prop:=c.length=l.length/\∀k,k<l.length->c[k]?=if k<i\/l.length-i<=k then l[l.length-1-k]? else l[k]?
theorem ava{α:Type}(l:am α):acO l 0 l:=⟨rfl,λk h=>by simp_all[cm]⟩
theorem akW{α:Type}{l c:am α}{i:Nat}(h:acO l i c)(hi:2*i+1<l.length){x y:α}(I:c[i]?=some x)(J:c[l.length-1-i]?=some y):acO l (i+1) ((c.set i y).set (l.length-1-i) x):=by
 obtain⟨r,g⟩:=h;refine⟨by simp[r],λk hk=>?_⟩;rw[am.getElem?_set,am.getElem?_set];simp only[cD,r];by_cases j:l.length-1-i=k
 .rw[bX j,bX d8,bX d8];rw[<-I,g i d8,cm d8];congr 1
  omega
 rw[cm j];by_cases o:i=k
 .rw[bX o,bX d8,bX d8];rw[<-J,g _ d8,cm d8];congr 1
  omega
 rw[cm o,g k hk];by_cases p:k<i\/l.length-i<=k
 .rw[bX p,bX d8]
 rw[cm p,cm d8]
theorem aoz{α:Type}{l c:am α}{i:Nat}(h:acO l i c)(hi:l.length<=2*i+1):c=l.reverse:=by
 obtain⟨j,g⟩:=h;refine bZ λk=>?_
 by_cases hk:k<l.length
 .rw[g k hk,am.getElem?_reverse hk];by_cases e:k<i\/l.length-i<=k
  .simp_all
  rw[cm e];congr 1
  omega
 grind
theorem apu(l:am Stp)(i:Nat)(s:Stp):(qB l).set i s.ds=qB (l.set i s):=by grind[qB,bV]
def rvS(sz n:Nat)(g:am (am D))(i:Nat):S:=⟨[(0,cV (.own 100000 sz n)),(2,zm i),(3,zm ((n:Int)-1-i))],[(100000,.arr sz g false)]⟩
theorem afq(l:am Stp)(n:Nat)(hn:n=l.length)(hl:n<=1000000):zA Pg k9 [.c (.own 0 13 n)] [.arr 13 (qB l) false] (λr=>r=⟨.tup [],[.arr 13 (qB l.reverse) false]⟩):=by
 subst hn;refine qe T8 XD.ok dU dT ?_
 conv=>whnf
 refine yq (P:=Pg) (f:=T8.f) (body:=(XD.l 0)) (λz:Nat×am Stp=>rvS 13 l.length (qB z.2) z.1) (λz=>l.length-z.1) (λz=>z.1<=l.length/\acO l z.1 z.2) ⟨(0,l),⟨aN _,ava l⟩,ze ?_⟩ ?_
 ·(conv=>whnf);rw[yf d8 d8];rw[show((l.length:Int)-1)=(l.length:Int)-1-((0:Nat):Int)by omega];rfl
 rintro⟨i,c⟩ ⟨hi,g⟩;have hi:i<=l.length:=hi;have g:acO l i c:=g;have ac:=g.1;unfold rvS;refine zj (λj=>?_) (λj=>?_)
 .have ae:2*i+1<l.length:=by have j:decide ((i:Int)<(l.length:Int)-1-i)=true:=j;have:=aV j;omega
  have hj:(l.length:Int)-1-i=((l.length-1-i:Nat):Int):=d8
  have g1:=YR (show i<c.length by omega);have g2:=YR (show l.length-1-i<c.length by omega);have U:=akW g d8 (am.getElem?_eq_getElem (show i<c.length by omega)) (am.getElem?_eq_getElem (show l.length-1-i<c.length by omega));have s1:=apu c i c[l.length-1-i];have s2:=apu (c.set i c[l.length-1-i]) (l.length-1-i) c[i];rw[<-s1]at s2;have g3:((qB c).set i (c[l.length-1-i]).ds)[((l.length-1-i:Nat):Int).toNat]?=some (c[l.length-1-i]).ds:=by rw[s1,YR (show l.length-1-i<(c.set i c[l.length-1-i]).length by rw[cD];omega)];rw[du d8]
  have w1:aK.wrap ((i:Int)+1)=((i+1:Nat):Int):=zB (show i<l.length by omega) d8;have w2:aK.wrap (((l.length-1-i:Nat):Int)-1)=(l.length:Int)-1-((i+1:Nat):Int):=by rw[yf d8 d8];omega
  rw[hj];generalize c[l.length-1-i]=y at*;generalize c[i]=x at*;obtain⟨xo,⟨ag,ai,⟨ak,al,an⟩,ah⟩,o,af,aa,p,xn,aj⟩:=x;obtain⟨yo,⟨aq,au,⟨aw,ax,ay⟩,ar⟩,I,ao,ab,J,yn,av⟩:=y;(conv=>whnf);refine⟨d8,d8,?_⟩;(conv=>whnf);refine⟨_,g2,?_⟩;(conv=>whnf);refine⟨d9,d9,?_⟩;(conv=>whnf);refine⟨_,g1,?_⟩;(conv=>whnf);refine⟨d9,d9,?_⟩;(conv=>whnf);refine⟨_,g1,aI 13,?_⟩;(conv=>whnf);refine⟨d8,d8,?_⟩;(conv=>whnf);refine⟨_,g3,aI 13,?_⟩;(conv=>whnf);refine⟨(i+1,_),⟨⟨d9,U⟩,d9⟩,ze ?_⟩;(conv=>whnf);refine Eq.trans ?_ (aF (λR=>rvS 13 l.length R (i+1)) s2)
  dsimp only
  rw[w1,w2];rfl
 have ad:l.length<=2*i+1:=d9
 rw[<-aoz g d8];exact rfl
def qT(l:am D):am (am D):=l.map λd=> [d]
theorem abF(l:am D):(qT l).length=l.length:=by simp[qT]
theorem Kd{r:am D}{i:Nat}(h:i<r.length):(qT r)[((i:Int)).toNat]?=some [r[i]]:=by grind[qT]
theorem aom(l:am D)(i:Nat)(s:D):(qT l).set i [s]=qT (l.set i s):=by grind[qT,bV]
theorem abS(l:am D)(n:Nat)(hn:n=l.length)(hl:n<=1000000):zA Pg Jc [.c (.own 0 1 n)] [.arr 1 (qT l) false] (λr=>r=⟨.tup [],[.arr 1 (qT l.reverse) false]⟩):=by
 subst hn;refine qe T8 Z6.ok dU dT ?_
 conv=>whnf
 refine yq (P:=Pg) (f:=T8.f) (body:=(Z6.l 0)) (λz:Nat×am D=>rvS 1 l.length (qT z.2) z.1) (λz=>l.length-z.1) (λz=>z.1<=l.length/\acO l z.1 z.2) ⟨(0,l),⟨aN _,ava l⟩,ze ?_⟩ ?_
 ·(conv=>whnf);rw[yf d8 d8];rw[show((l.length:Int)-1)=(l.length:Int)-1-((0:Nat):Int)by omega];rfl
 rintro⟨i,c⟩ ⟨hi,g⟩;have hi:i<=l.length:=hi;have g:acO l i c:=g;have I:=g.1;unfold rvS;refine zj (λj=>?_) (λj=>?_)
 .have aa:2*i+1<l.length:=by have j:decide ((i:Int)<(l.length:Int)-1-i)=true:=j;have:=aV j;omega
  have hj:(l.length:Int)-1-i=((l.length-1-i:Nat):Int):=d8
  have g1:=Kd (show i<c.length by omega);have g2:=Kd (show l.length-1-i<c.length by omega);have p:=akW g d8 (am.getElem?_eq_getElem (show i<c.length by omega)) (am.getElem?_eq_getElem (show l.length-1-i<c.length by omega));have J:=aom c i c[l.length-1-i];have R:=aom (c.set i c[l.length-1-i]) (l.length-1-i) c[i];rw[<-J]at R;have g3:((qT c).set i [c[l.length-1-i]])[((l.length-1-i:Nat):Int).toNat]?=some [c[l.length-1-i]]:=by rw[J,Kd (show l.length-1-i<(c.set i c[l.length-1-i]).length by rw[cD];omega)];rw[du d8]
  have w1:aK.wrap ((i:Int)+1)=((i+1:Nat):Int):=zB (show i<l.length by omega) d8;have w2:aK.wrap (((l.length-1-i:Nat):Int)-1)=(l.length:Int)-1-((i+1:Nat):Int):=by rw[yf d8 d8];omega
  rw[hj];generalize c[l.length-1-i]=y at*;generalize c[i]=x at*;(conv=>whnf);refine⟨d8,d8,?_⟩;(conv=>whnf);refine⟨_,g2,?_⟩;(conv=>whnf);refine⟨d9,d9,?_⟩;(conv=>whnf);refine⟨_,g1,?_⟩;(conv=>whnf);refine⟨d9,d9,?_⟩;(conv=>whnf);refine⟨_,g1,aI 1,?_⟩;(conv=>whnf);refine⟨d8,d8,?_⟩;(conv=>whnf);refine⟨_,g3,aI 1,?_⟩;(conv=>whnf);refine⟨(i+1,_),⟨⟨d9,p⟩,d9⟩,ze ?_⟩;(conv=>whnf);refine Eq.trans ?_ (aF (λo=>rvS 1 l.length o (i+1)) R)
  dsimp only
  rw[w1,w2];rfl
 have U:l.length<=2*i+1:=d9
 rw[<-aoz g d8];exact rfl
theorem ay0{op:Int}{tb col:ByteArray}{lo hi g i:Int}(h:w9 op tb col lo hi g i=true):i=1:=by grind[w9]
theorem KP{op:Int}{tb col:ByteArray}{lo hi:Int}{st:Stp}{ks:am Pln}(h:(Pln.mk op tb col lo hi st ks).steps=true):∃k,ks=[k]/\(Pln.mk op tb col lo hi st ks).base=(k.base.1,k.base.2++[st]):=by
 have h:w9 op tb col lo hi st.op ks.length=true:=h;have g:=ay0 h
 match ks,h,g with
 |[k],h,_=>
   grind[Pln.base]
 |[],_,g=>cases g
 |_::_::_,_,g=>grind
theorem acU{p:Pln}(h:p.steps=false):p.base=(p,[]):=by
 obtain⟨op,tb,col,lo,hi,st,ks⟩:=p;have h:w9 op tb col lo hi st.op ks.length=false:=h
 match ks,h with
 |[k],h=>
   grind[Pln.base]
 |[],_=>rfl
 |_::_::_,_=>rfl
theorem ayZ(a b:am Stp):qB (a++b)=qB a++qB b:=by simp[qB]
def rQB(x:Qry×Bool):Res:=⟨.tup [.agg [str x.1.src,.d (.sl (qB x.1.steps))],.c (bool x.2)],[]⟩
theorem vu(op:Int)(tb col:ByteArray)(lo hi p I:Int)(J:ByteArray)(P R:Int)(vs:ByteArray)(l:am Ex)(g:am Itm)(o:am ByteArray)(j:am Agg)(i:am Srt)(n:Int)(r:ByteArray)(ks:am Pln):
 (Pln.mk op tb col lo hi ⟨p,⟨I,J,⟨P,R,vs⟩,l⟩,g,o,j,i,n,r⟩ ks).cs=[int op,str tb,str col,int lo,int hi,int p,int I,str J,int P,int R,str vs,.d (.sl (exsD l)),.d (.sl (yP g)),.d (.sl (zp o)),.d (.sl (qv j)),.d (.sl (xz i)),int n,str r,.d (.sl (plnsD ks))]:=rfl
def pqS(p:Pln)(l:am Stp):S:=⟨[(1,cV (.ptr 1 0)),(2,cV (.ptr 2 0)),(4,cV (.own 11 13 l.length))],[(1,.box p.cs),(2,.box [str ⟨#[]⟩,.nil]),(11,.arr 13 (qB l) false)]⟩
def PqR(P p:Pln)(l:am Stp)(m:Nat):Prop:=l++p.base.2.reverse=P.base.2.reverse/\p.base.1=P.base.1/\m=p.base.2.length
theorem aCu(P:Pln):PqR P P [] P.base.2.length:=⟨rfl,rfl,rfl⟩
theorem ayd{P:Pln}{l:am Stp}{m:Nat}{op:Int}{tb col:ByteArray}{lo hi:Int}{st:Stp}{ks:am Pln}(h:PqR P (.mk op tb col lo hi st ks) l m)(hs:(Pln.mk op tb col lo hi st ks).steps=true):∃k m',ks=[k]/\m'<m/\PqR P k (l++[st]) m':=by obtain⟨k,rfl,o⟩:=KP hs;obtain⟨i,g,j⟩:=h;rw[o]at i g j;exact⟨k,k.base.2.length,rfl,d9,d9,g,rfl⟩
theorem ary{P p:Pln}{l:am Stp}{m:Nat}(h:PqR P p l m):l.length<=P.base.2.length:=by have:=aF cB h.1<;>grind
theorem aaE(P:Pln)(hn:P.base.2.length<=100000)(hz:P.base.1.st.lens<=1000000):dY Zl [P.w] (rQB P.qry):=by
 refine zC ?_;rw[qd];suffices h:∀x,P.qry=x->Sat Pg Zl [.agg P.cs] (DQ (rQB x))from h _ rfl
 intro x hx;have h0:=aCu P;obtain⟨N,hN⟩:∃N,N=P.base.2.length:=⟨_,rfl⟩;rw[<-hN]at h0 hn;obtain⟨R,hR⟩:∃R:Pln×am Stp×Nat->Prop,∀p l m,R (p,l,m)↔PqR P p l m:=⟨λz=>PqR P z.1 z.2.1 z.2.2,λ_ _ _=>Iff.rfl⟩
 replace h0:R (P,[],N):=(hR _ _ _).2 h0
 have I:∀p l m,R (p,l,m)->p.steps=false->p.st.lens<=1000000/\l.length<=100000/\(bif p.scans then((⟨p.tb,l.reverse⟩,true):Qry×Bool)else(⟨⟨#[]⟩,[]⟩,false))=x:=λp l m h hs=>by have h:=(hR p l m).1 h;have hl:=ary h;obtain⟨h1,h2,_⟩:=h<;>grind[acU,Pln.qry]
 have j:∀op tb col lo hi st ks l m,R (.mk op tb col lo hi st ks,l,m)->(Pln.mk op tb col lo hi st ks).steps=true->∃k m',ks=[k]/\m'<m/\l.length<=100000/\R (k,l++[st],m'):=λop tb col lo hi st ks l m h hs=>by have h:=(hR _ l m).1 h;have hl:=ary h<;>grind[ayd]
 clear hR hx hz hn hN;obtain⟨op,tb,col,lo,hi,⟨aa,⟨eo,nm,⟨vk,vn,vs⟩,J⟩,g,U,o,i,n,ab⟩,ks⟩:=P;refine JC.s T8 ?_;refine yq (P:=Pg) (f:=T8.f) (body:=(JC.l 0)) (λz:Pln×am Stp×Nat=>pqS z.1 z.2.1) (λz=>z.2.2) R ⟨(_,[],N),h0,⟨_,ya 4 11 13 d8 d8 rfl,?_⟩⟩ ?_
 .exact rfl
 clear h0;clear op tb col lo hi aa eo nm vk vn vs J g U o i n ab ks N;rintro⟨p,l,m⟩ h;have hs:=avA p;have hc:=avx p;rw[qd]at hs hc;show mwpR Pg T8.f (JC.l 0) _ (pqS p l);unfold pqS;cases hb:p.steps with
 |true=>
  rw[hb]at hs;clear hc;obtain⟨op,tb,col,lo,hi,⟨aa,⟨eo,nm,⟨vk,vn,vs⟩,J⟩,g,U,o,i,n,ab⟩,ks⟩:=p;obtain⟨k,m',rfl,hm,ai,h2⟩:=j _ _ _ _ _ _ _ _ _ h hb;have al:(qB l).take l.length=qB l:=by grind[qU]
  have ak:=ayZ l [⟨aa,⟨eo,nm,⟨vk,vn,vs⟩,J⟩,g,U,o,i,n,ab⟩];have hg:(plnsD [k])[((0:Int)).toNat]?=some k.ds:=rfl;clear hb h I j;rw[vu]at hs⊢;generalize plnsD [k]=K at*;obtain⟨a1,a2,an,az,aw,⟨ar,⟨av,a0,⟨a3,a4,a5⟩,ao⟩,af,aq,ah,ag,n1,au⟩,ay⟩:=k;refine aC hs ?_;refine⟨dT,by grind[yz],dX,?_⟩;(conv=>whnf);refine⟨d8,_,hg,rfl,?_⟩;(conv=>whnf);refine⟨(_,_,m'),⟨h2,hm⟩,ze ?_⟩;(conv=>whnf)
  dsimp only
  rw[ak,aA,al];rfl
 |false=>
  rw[hb]at hs;obtain⟨hz,ai,hx⟩:=I _ _ _ h hb;have hc:=hc hz;have ac:=afq l l.length rfl d8;clear I j h hb hz;generalize aj:p.scans=b at*;have ax:p.tb=p.tb:=rfl;clear aj;obtain⟨op,tb,col,lo,hi,⟨aa,⟨eo,nm,⟨vk,vn,vs⟩,J⟩,g,U,o,i,n,ab⟩,ks⟩:=p;refine aC hs ?_;refine aC hc ?_;cases b with
  |false=>
   have hx:((⟨⟨#[]⟩,[]⟩,false):Qry×Bool)=x:=hx;subst hx;exact⟨rfl,rfl⟩
  |true=>
   have hx:((⟨tb,l.reverse⟩,true):Qry×Bool)=x:=hx;subst hx;have ae:(qB l.reverse).take l.length=qB l.reverse:=by rw[<-l.length_reverse,<-qU,bN]
   obtain⟨LR,ad⟩:∃LR,LR=qB l.reverse:=⟨_,rfl⟩;rw[<-ad]at ac ae;(conv=>whnf);refine zA.mono (ac) ?_;rintro _ rfl;(conv=>whnf);refine⟨rfl,?_⟩;show Res.mk (.tup [.agg [str tb,.d (.sl (LR.take l.length))],.c (bool true)]) []=_;rw[ae,ad];rfl
theorem ayN{op:Int}{tb col:ByteArray}{lo hi:Int}{st:Stp}{ks:am Pln}(h:(Pln.mk op tb col lo hi st ks).scans=true):op=1/\ks=[]:=by
 have h:Qs op col lo hi st ks.length=true:=h;unfold Qs at h;cases g:(op !=1||(!Yr st||decide ((ks.length:Int)>0)))
 .simp_all
 grind
theorem ayY{op:Int}{tb col:ByteArray}{lo hi:Int}{st:Stp}{ks:am Pln}(h:(Pln.mk op tb col lo hi st ks).steps=true):op≠1:=by
 have h:w9 op tb col lo hi st.op ks.length=true:=h
 grind[w9]
def KI(B p:Pln)(m:Nat):Prop:=p.base.1=B/\B.scans=true/\m=p.base.2.length
theorem agj{B:Pln}{m:Nat}{op:Int}{tb col:ByteArray}{lo hi:Int}{st:Stp}{ks:am Pln}(h:KI B (.mk op tb col lo hi st ks) m):(∃k m',ks=[k]/\m'<m/\op≠1/\KI B k m')\/(ks=[]/\op=1/\B=.mk op tb col lo hi st ks):=by
 obtain⟨g,i,j⟩:=h;cases hs:(Pln.mk op tb col lo hi st ks).steps with
 |true=>
  obtain⟨k,rfl,l⟩:=KP hs;rw[l]at g j;exact .inl ⟨k,_,rfl,d9,ayY hs,g,i,rfl⟩
 |false=>
  grind[acU,ayN]
def aau(d:am Nmd)(p:Pln):Int×am Col:=bif qj d p !=0 then(qj d p,[])else(0,(vi d p.qry.1).2)
def pcS(d:am Nmd)(cols:am Col)(p:Pln):S:=⟨[(0,.w (.c (.d (.sl (zq d))))),(3,cV (.ptr 3 0)),(9,.w (.c (.d (.sl (zl cols)))))],[(3,.box p.cs)]⟩
theorem amf(d:am Nmd)(P:Pln)(h1:yH d=0)(cols:am Col)(q:Qry)(hq:dY Zl [.agg P.cs] (rQB (q,true)))(ht:dY wK [.c (.d (.sl (zq d))),q.w] (xH (0,cols)))(B:Pln)(m:Nat)(J:KI B P m)(tc:am Col)(tr:am (am Val))(hf:zU B.tb d=some ⟨tc,tr⟩)(b:Bool)(hb:zo B.col ⟨#[]⟩=b)(y:Int×am Col)(g:(bif b then(0,cols)else bif uW ⟨tc,tr⟩ B.col !=0 then(uW ⟨tc,tr⟩ B.col,[])else(0,cols))=y):
 dY Zk [.c (.d (.sl (zq d))),.agg P.cs] (xH y):=by
 refine zC ?_;have ad:=wt d;rw[h1]at ad;have U:=y4 d B.tb;rw[hf]at U;have j:=xC tc (.d (.sl (zg tr))) B.col ⟨_,rfl⟩;clear hf;obtain⟨R,hR⟩:∃R:Pln×Nat->Prop,∀p l,R (p,l)↔KI B p l:=⟨λz=>KI B z.1 z.2,λ_ _=>Iff.rfl⟩
 replace J:R (P,m):=(hR _ _).2 J
 have i:∀op tb col lo hi st ks m,R (.mk op tb col lo hi st ks,m)->(∃k m',ks=[k]/\m'<m/\op≠1/\R (k,m'))\/(ks=[]/\op=1/\B=.mk op tb col lo hi st ks):=λop tb col lo hi st ks m h=>by grind[agj]
 clear hR;obtain⟨qs,ql⟩:=q;obtain⟨op,tb,col,lo,hi,⟨ag,⟨eo,nm,⟨vk,vn,vs⟩,ac⟩,o,af,aa,I,n,ah⟩,ks⟩:=P;refine Zd.s T8 ?_;refine aC ad ?_;refine aC hq ?_;refine aC ht ?_;refine yq (P:=Pg) (f:=T8.f) (body:=(Zd.l 0)) (λz:Pln×Nat=>pcS d cols z.1) (λz=>z.2) R ⟨(_,m),J,ze ?_⟩ ?_
 .exact rfl
 clear J hq;clear op tb col lo hi ag eo nm vk vn vs ac o af aa I n ah ks m;rintro⟨p,m⟩ h;show mwpR Pg T8.f (Zd.l 0) _ (pcS d cols p);unfold pcS;obtain⟨op,tb,col,lo,hi,⟨ag,⟨eo,nm,⟨vk,vn,vs⟩,ac⟩,o,af,aa,I,n,ah⟩,ks⟩:=p;rcases i _ _ _ _ _ _ _ _ h with⟨k,m',rfl,hm,_,h2⟩|⟨rfl,rfl,rfl⟩
 .obtain⟨kd,ab⟩:∃kd,kd=k.ds:=⟨_,rfl⟩;have hK:plnsD [k]=[kd]:=by rw[ab];rfl
  clear h i;rw[vu,hK];(conv=>whnf);obtain⟨az,a0,al,ax,av,⟨aq,⟨au,ay,⟨a1,a2,a3⟩,an⟩,ai,ao,ak,aj,n1,ar⟩,aw⟩:=k;refine⟨d8,_,rfl,by rw[ab];rfl,?_⟩;subst ab;(conv=>whnf);refine⟨(_,m'),⟨h2,hm⟩,ze ?_⟩;exact rfl
 clear h i;have U:dY Yx [.c (.d (.sl (zq d))),.c (str tb)] (rF (some ⟨tc,tr⟩)):=U;have j:dY gc [.agg [.d (.sl (zl tc)),.d (.sl (zg tr))],.c (str col)] (rI (zf tc col)):=j;have hb:zo col ⟨#[]⟩=b:=hb;have g:(bif b then(0,cols)else bif uW ⟨tc,tr⟩ col !=0 then(uW ⟨tc,tr⟩ col,[])else(0,cols))=y:=g;(conv=>whnf);rw[hb];cases b with
 |true=>
  have g:(0,cols)=y:=g;subst g;exact⟨rfl,rfl⟩
 |false=>
  rw[aB]at g;unfold uW at g;refine aC U ?_;refine cP (j) ?_;generalize J:zf tc col=c at*;refine zj (b:=decide (c<0)) (λh3=>?_) (λh3=>?_)
  .simp only[J,h3,aE]at g;have g:(16,[])=y:=g;subst g;exact⟨rfl,rfl⟩
  simp only[J,h3,aB]at g;obtain⟨b1,b2⟩:=wI tc col d9;rw[J]at b1 b2;obtain⟨k,rfl⟩:=cS b1;have hk:k<tc.length:=d8
  have hg:=xJ hk;have ae:xA tc (k:Int)=tc[k].t:=by grind[xA]
  rw[ae]at g;generalize tc[k]=u at*;obtain⟨u1,u2⟩:=u;clear h3 J ae;refine yb hg ?_;refine zj (b:=u2 !=2) (λh4=>?_) (λh4=>?_)
  .simp only[h4,aE]at g;have g:(14,[])=y:=g;subst g;exact⟨rfl,rfl⟩
  simp only[h4,aB]at g;have g:(0,cols)=y:=g;subst g;exact⟨rfl,rfl⟩
theorem ame(d:am Nmd)(P:Pln)(e:Int)(p:(e !=0)=true)(g:dY vE [.c (.d (.sl (zq d)))] (rI e)):dY Zk [.c (.d (.sl (zq d))),.agg P.cs] (xH (e,[])):=by refine zC ?_;obtain⟨op,tb,col,lo,hi,⟨J,⟨U,nm,⟨vk,vn,vs⟩,o⟩,i,I,l,j,n,R⟩,ks⟩:=P;refine Zd.s T8 ?_;refine aC g ?_;rw[p];exact⟨rfl,rfl⟩
theorem aoU(d:am Nmd)(P:Pln)(g:dY vE [.c (.d (.sl (zq d)))] (rI 0))(q:Qry)(p:dY Zl [.agg P.cs] (rQB (q,false))):dY Zk [.c (.d (.sl (zq d))),.agg P.cs] (xH (1,[])):=by refine zC ?_;obtain⟨qs,ql⟩:=q;obtain⟨op,tb,col,lo,hi,⟨J,⟨U,nm,⟨vk,vn,vs⟩,o⟩,i,I,l,j,n,R⟩,ks⟩:=P;refine Zd.s T8 ?_;refine aC g ?_;refine aC p ?_;exact⟨rfl,rfl⟩
theorem amg(d:am Nmd)(P:Pln)(g:dY vE [.c (.d (.sl (zq d)))] (rI 0))(q:Qry)(I:dY Zl [.agg P.cs] (rQB (q,true)))(e:Int)(p:(e !=0)=true)(cols:am Col)(J:dY wK [.c (.d (.sl (zq d))),q.w] (xH (e,cols))):dY Zk [.c (.d (.sl (zq d))),.agg P.cs] (xH (e,[])):=by refine zC ?_;obtain⟨qs,ql⟩:=q;obtain⟨op,tb,col,lo,hi,⟨U,⟨eo,nm,⟨vk,vn,vs⟩,o⟩,i,R,l,j,n,aa⟩,ks⟩:=P;refine Zd.s T8 ?_;refine aC g ?_;refine aC I ?_;refine aC J ?_;rw[p];exact⟨rfl,rfl⟩
theorem aqQ{p:Pln}(h:p.qry.2=true):KI p.base.1 p p.base.2.length/\p.qry.1=⟨p.base.1.tb,p.base.2⟩:=by
 unfold Pln.qry at h⊢;cases hs:p.base.1.scans
 .grind
 exact⟨⟨rfl,hs,rfl⟩,rfl⟩
structure Pln.Sm(p:Pln):Prop where
 len:p.base.2.length<=100000
 lens:p.base.1.st.lens<=1000000
 st:∀s∈p.base.2,s.Sm
theorem aj0(d:am Nmd)(p:Pln)(I:p.Sm):dY Zk [.c (.d (.sl (zq d))),p.w] (xH (aau d p)):=by
 have g:=wt d;have i:=aaE p I.len I.lens;rw[qd]at i⊢;unfold aau qj;by_cases j:yH d=0
 .rw[j]at g⊢;cases P:p.qry.2 with
  |false=>
   rw[show p.qry=(p.qry.1,false)by grind]at i;exact aoU d p g _ i
  |true=>
   rw[show p.qry=(p.qry.1,true)by grind]at i;obtain⟨R,e⟩:=aqQ P;have J:=VM d p.qry.1 (by rw[e];exact I.st);by_cases l:(vi d p.qry.1).1=0
   .obtain⟨_,_,t,o,_⟩:=ab4 l;rw[show vi d p.qry.1=(0,(vi d p.qry.1).2)by grind]at J;rw[l];rw[e]at o;have o:zU p.base.1.tb d=some t:=o;obtain⟨tc,U⟩:=t;rw[o];refine amf d p j _ _ i J _ _ R tc U o _ rfl _ ?_
    grind
   have l:((vi d p.qry.1).1 !=0)=true:=d9
   have:=amg d p g _ i _ l _ J;simp only[l,dC,Bool.not_true,aB,aE];exact this
 have j:(yH d !=0)=true:=d9
 have:=ame d p _ j g;simp only[j,aE];exact this
theorem ag1(d:am Nmd)(P:Pln)(e:Int)(g:dY vE [.c (.d (.sl (zq d)))] (rI 0))(cols:am Col)(p:dY Zk [.c (.d (.sl (zq d))),.agg P.cs] (xH (e,cols))):dY uQ [.c (.d (.sl (zq d))),.agg P.cs] (rI e):=by obtain⟨op,tb,col,lo,hi,⟨J,⟨U,nm,⟨vk,vn,vs⟩,o⟩,i,I,l,j,n,R⟩,ks⟩:=P;refine ac1.s T8 ?_;refine aC g ?_;refine aC p ?_;rfl
theorem ag2(d:am Nmd)(P:Pln)(e:Int)(p:(e !=0)=true)(g:dY vE [.c (.d (.sl (zq d)))] (rI e)):dY uQ [.c (.d (.sl (zq d))),.agg P.cs] (rI e):=by obtain⟨op,tb,col,lo,hi,⟨J,⟨U,nm,⟨vk,vn,vs⟩,o⟩,i,I,l,j,n,R⟩,ks⟩:=P;refine ac1.s T8 ?_;refine aC g ?_;rw[p];exact rfl
theorem ax8(d:am Nmd)(p:Pln):(aau d p).1=qj d p:=by grind[aau]
theorem Xd(d:am Nmd)(p:Pln)(l:p.Sm):dY uQ [.c (.d (.sl (zq d))),p.w] (rI (qj d p)):=by
 have g:=wt d;have j:=aj0 d p l;rw[qd]at j⊢;by_cases i:yH d=0
 .rw[i]at g;rw[show aau d p=(qj d p,(aau d p).2)by grind[ax8]]at j;exact ag1 d p _ g _ j
 have i:(yH d !=0)=true:=d9
 have:=ag2 d p _ i g
 grind[qj]
def scS(p:am C)(cols:am Col)(rows:am (am Val))(c:Int)(i:Nat):am (am Val)->S
 |[]=>⟨[(2,cV (.ptr 2 0)),(4,cV (.ptr 4 0)),(7,zm c),(8,cV (.ptr 8 0)),(34,.w (.c (.d (.sl (zg rows))))),(35,zm rows.length),(36,zm i)],[(2,.box p),(4,.box [.nil,.nil]),(8,.box [.d (.sl (zl cols)),.nil])]⟩
 |a::r=>⟨[(2,cV (.ptr 2 0)),(4,cV (.ptr 4 0)),(7,zm c),(8,cV (.ptr 8 0)),(34,.w (.c (.d (.sl (zg rows))))),(35,zm rows.length),(36,zm i)],[(2,.box p),(4,.box [.nil,.nil]),(8,.box [.d (.sl (zl cols)),.own 67 1 (a::r).length]),(67,.arr 1 (zg (a::r)) false)]⟩
theorem aef(d:am Nmd)(p:Pln)(h:zo p.col ⟨#[]⟩=true):dY x8 [p.w,.c (.d (.sl (zq d)))] ⟨.w ((zU p.tb d).getD ⟨[],[]⟩).w,[]⟩:=by
 refine zC ?_;have g:=y4 d p.tb;rw[qd];obtain⟨op,tb,col,lo,hi,⟨J,⟨R,U,⟨vk,vn,vs⟩,o⟩,i,I,l,j,n,P⟩,ks⟩:=p;have h:zo col ⟨#[]⟩=true:=h;have g:dY Yx [.c (.d (.sl (zq d))),.c (str tb)] (rF (zU tb d)):=g;show Sat Pg _ _ (DQ ⟨.w ((zU tb d).getD ⟨[],[]⟩).w,[]⟩);generalize zU tb d=f at*;cases f with
 |none=>
  refine uK.s T8 ?_;refine aC g ?_;rw[h];exact⟨rfl,rfl⟩
 |some t=>
  obtain⟨tc,tr⟩:=t;refine uK.s T8 ?_;refine aC g ?_;rw[h];exact⟨rfl,rfl⟩
theorem aeg(d:am Nmd)(p:Pln)(h:zo p.col ⟨#[]⟩=false)(tc:am Col)(o:am (am Val))(hf:zU p.tb d=some ⟨tc,o⟩)(hr:o.length<=20000)(hc:0<=zf tc p.col)(hi:∀r∈o,zf tc p.col<r.length):
 dY x8 [p.w,.c (.d (.sl (zq d)))] ⟨.w (Tbl.w ⟨tc,o.filter (K2 (zf tc p.col).toNat p.lo p.hi)⟩),[]⟩:=by
 refine zC ?_;have hF:=y4 d p.tb;rw[hf]at hF;have R:=xC tc (.d (.sl (zg o))) p.col ⟨_,rfl⟩;rw[qd];obtain⟨op,tb,col,lo,I,⟨aj,⟨eo,nm,⟨vk,vn,vs⟩,ah⟩,ad,ai,af,ae,n,ak⟩,ks⟩:=p;have h:zo col ⟨#[]⟩=false:=h;have hF:dY Yx [.c (.d (.sl (zq d))),.c (str tb)] (rF (some ⟨tc,o⟩)):=hF;have R:dY gc [.agg [.d (.sl (zl tc)),.d (.sl (zg o))],.c (str col)] (rI (zf tc col)):=R;have hc:0<=zf tc col:=hc;have hi:∀r∈o,zf tc col<r.length:=hi;show Sat Pg _ _ (DQ ⟨.w (Tbl.w ⟨tc,o.filter (K2 (zf tc col).toNat lo I)⟩),[]⟩);clear hf;generalize zf tc col=c at*;obtain⟨k,rfl⟩:=cS hc;rw[Int.toNat_natCast];obtain⟨q,hq⟩:∃q,q=K2 k lo I:=⟨_,rfl⟩;rw[<-hq];refine uK.s T8 ?_;refine aC hF ?_;rw[h];refine aC R ?_;rw[zy];refine yy (P:=Pg) (f:=T8.f) (body:=(uK.l 0)) o.length (λi=>scS (Pln.cs (.mk op tb col lo I ⟨aj,⟨eo,nm,⟨vk,vn,vs⟩,ah⟩,ad,ai,af,ae,n,ak⟩ ks)) tc o k i ((o.take i).filter q)) (λ_=>True) ⟨trivial,ze ?_⟩ ?_
 .exact rfl
 intro i an _;have wi:i<o.length->aK.wrap ((i:Int)+1)=((i+1:Nat):Int):=λh=>zB h d8
 obtain⟨T,hT⟩:∃T,T=(o.take i).filter q:=⟨_,rfl⟩;have al:T.length<=i:=d9
 have ag:(zg T).take T.length=zg T:=by grind[zy]
 have g:∀h:i<o.length,(o.take (i+1)).filter q=T++(bif q o[i]then [o[i]]else []):=λh=>by grind[ZP]
 have U:o.length<=i->T=o.filter q:=λh=>d9
 show mwpR Pg T8.f (uK.l 0) _ (scS _ tc o k i ((o.take i).filter q));rw[<-hT,vu];clear hT;cases T with
 |nil=>
  unfold scS;refine zj (λh1=>?_) (λh1=>?_)
  .have j:i<o.length:=by have:=aV h1;omega
   have hg:=yS j;have g:=g j;have hk:=hi _ (aD j);generalize o[i]=x at*;have hk:k<x.length:=d8
   have ab:=xw hk;have ac:q x=((x[k]).k==2&&(decide (lo<=(x[k]).n)&&decide ((x[k]).n<=I))):=by simp_all[K2,at0]
   rw[ac]at g;generalize x[k]=v at*;obtain⟨v1,v2,v3⟩:=v;simp only at g;(conv=>whnf);refine⟨d8,_,hg,rfl,?_⟩;(conv=>whnf);refine⟨d8,_,ab,rfl,?_⟩;refine zj (λJ=>?_) (λJ=>?_)
   .have J:(v1==2&&(decide (lo<=v2)&&decide (v2<=I)))=true:=d9
    rw[J,aE]at g;(conv=>whnf);refine⟨dT,by grind[yz],dT,?_⟩;(conv=>whnf);refine⟨j,trivial,ze ?_⟩;rw[g];(conv=>whnf);rw[wi j];rfl
   have J:(v1==2&&(decide (lo<=v2)&&decide (v2<=I)))=false:=d9
   rw[J,aB,bE]at g;(conv=>whnf);refine⟨j,trivial,ze ?_⟩;rw[g];(conv=>whnf);rw[wi j];rfl
  have aa:o.length<=i:=d9
  rw[<-U aa];exact⟨rfl,rfl⟩
 |cons a T=>
  unfold scS;refine zj (λh1=>?_) (λh1=>?_)
  .have j:i<o.length:=by have:=aV h1;omega
   have hg:=yS j;have g:=g j;have hk:=hi _ (aD j);generalize o[i]=x at*;have hk:k<x.length:=d8
   have ab:=xw hk;have ac:q x=((x[k]).k==2&&(decide (lo<=(x[k]).n)&&decide ((x[k]).n<=I))):=by simp_all[K2,at0]
   rw[ac]at g;generalize x[k]=v at*;obtain⟨v1,v2,v3⟩:=v;simp only at g;(conv=>whnf);refine⟨d8,_,hg,rfl,?_⟩;(conv=>whnf);refine⟨d8,_,ab,rfl,?_⟩;refine zj (λJ=>?_) (λJ=>?_)
   .have J:(v1==2&&(decide (lo<=v2)&&decide (v2<=I)))=true:=d9
    rw[J,aE]at g;(conv=>whnf);refine⟨dT,by grind[yz],d9,?_⟩;(conv=>whnf);refine⟨j,trivial,ze ?_⟩;rw[g];(conv=>whnf);rw[wi j,ag,bL];show _=S.mk _ [_,_,(8,.box [_,.own 67 1 (a::(T++[x])).length]),(67,.arr 1 (zg (a::(T++[x]))) false)];rw[<-bL,xy,aA];rfl
   have J:(v1==2&&(decide (lo<=v2)&&decide (v2<=I)))=false:=d9
   rw[J,aB,bE]at g;(conv=>whnf);refine⟨j,trivial,ze ?_⟩;rw[g];(conv=>whnf);rw[wi j];rfl
  have aa:o.length<=i:=d9
  rw[<-U aa];(conv=>whnf);refine⟨rfl,?_⟩;show Res.mk (.w (.agg [.d (.sl (zl tc)),.d (.sl ((zg (a::T)).take (a::T).length))])) []=_;rw[ag];rfl
def Pln.nodes:Pln->am (Int×Stp)
 |.mk op tb col lo hi st [k]=>bif w9 op tb col lo hi st.op 1 then k.nodes++[(op,st)]else []
 |_=> []
theorem abz{op:Int}{tb col:ByteArray}{lo hi:Int}{st:Stp}{k:Pln}(h:(Pln.mk op tb col lo hi st [k]).steps=true):(Pln.mk op tb col lo hi st [k]).nodes=k.nodes++[(op,st)]:=by simp only[Pln.nodes];rw[show w9 op tb col lo hi st.op 1=true from h];rfl
theorem kj:∀p:Pln,p.nodes.map Prod.snd=p.base.2
 |.mk op tb col lo hi st [k]=>by have g:=kj k;simp only[Pln.nodes,Pln.base];cases w9 op tb col lo hi st.op 1<;>simp_all
 |.mk _ _ _ _ _ _ []=>rfl
 |.mk _ _ _ _ _ _ (_::_::_)=>rfl
def w8(x:Int×Stp):D:=bif x.1==3 then .ifc 109 x.2.ds else bif x.1==4 then .ifc 110 x.2.ds else bif x.1==5 then .ifc 111 x.2.ds else .ifc 112 x.2.ds
def abV(p:Pln):D:=.ifc 103 p.ds
theorem Kc(a b:am D):qT (a++b)=qT a++qT b:=by simp[qT]
def OpR(P B p:Pln)(g:am D)(m:Nat):Prop:=KI B p m/\g++(p.nodes.map w8).reverse=(P.nodes.map w8).reverse
theorem axZ{P B:Pln}{g:am D}{m:Nat}{op:Int}{tb col:ByteArray}{lo hi:Int}{st:Stp}{ks:am Pln}(h:OpR P B (.mk op tb col lo hi st ks) g m):(∃k m',ks=[k]/\m'<m/\op≠1/\OpR P B k (g++[w8 (op,st)]) m')\/(ks=[]/\op=1/\B=.mk op tb col lo hi st ks/\g=(P.nodes.map w8).reverse):=by
 obtain⟨j,l⟩:=h;rcases agj j with⟨k,m',rfl,o,p,i⟩|⟨rfl,rfl,i⟩
 .refine .inl ⟨k,m',rfl,o,p,i,?_⟩;rw[<-l];cases hs:(Pln.mk op tb col lo hi st [k]).steps with
  |true=>grind[abz]
  |false=>
   have e:=acU hs;have:=j.2.2<;>grind
 refine .inr ⟨rfl,rfl,i,?_⟩;rw[<-l];show g=g++([]:am D).reverse;simp
def opS(p:Pln)(g:am D):S:=⟨[(1,cV (.ptr 1 0)),(3,cV (.own 19 1 g.length))],[(1,.box p.cs),(19,.arr 1 (qT g) false)]⟩
theorem UG(P B:Pln)(m:Nat)(hc:KI B P m)(hm:m<=100000):dY Zu [P.w] (rC (.d (.sl (qT (abV B::P.nodes.map w8))))):=by
 refine zC ?_;rw[qd];suffices h:∀x,qT (abV B::P.nodes.map w8)=x->Sat Pg Zu [.agg P.cs] (DQ (rC (.d (.sl x))))from h _ rfl
 intro x hx;have a3:(P.nodes.map w8).length<=100000:=by have:=aF cB (kj P);rw[cZ]at this⊢;rw[this,<-hc.2.2];exact hm
 obtain⟨R,hR⟩:∃R:Pln×am D×Nat->Prop,∀p l m,R (p,l,m)↔OpR P B p l m:=⟨λz=>OpR P B z.1 z.2.1 z.2.2,λ_ _ _=>Iff.rfl⟩;have h0:R (P,[],m):=(hR _ _ _).2 ⟨hc,rfl⟩;have ai:∀p l m,R (p,l,m)->l.length<=100000:=λp l m h=>by
  have:=aF cB ((hR _ _ _).1 h).2
  grind
 have af:∀op tb col lo hi st ks l m,R (.mk op tb col lo hi st ks,l,m)->(∃k m',ks=[k]/\m'<m/\op≠1/\R (k,l++[w8 (op,st)],m'))\/(ks=[]/\op=1/\abV B=abV (.mk op tb col lo hi st ks)/\qT ((l++[abV B]).reverse)=x):=λop tb col lo hi st ks l m h=>by grind[axZ]
 clear hR hx hc hm a3;obtain⟨op,tb,col,lo,hi,⟨J,⟨eo,nm,⟨vk,vn,vs⟩,o⟩,g,I,j,i,n,U⟩,ks⟩:=P;refine Qb.s T8 ?_;refine yq (P:=Pg) (f:=T8.f) (body:=(Qb.l 0)) (λz:Pln×am D×Nat=>opS z.1 z.2.1) (λz=>z.2.2) R ⟨(_,[],m),h0,⟨_,ya 3 19 1 d8 d8 rfl,?_⟩⟩ ?_
 .exact rfl
 clear h0;clear op tb col lo hi J eo nm vk vn vs o g I j i n U ks m;rintro⟨p,l,m⟩ h;show mwpR Pg T8.f (Qb.l 0) _ (opS p l);unfold opS;have a5:=ai _ _ _ h;have ak:(qT l).take l.length=qT l:=by grind[abF]
 obtain⟨op,tb,col,lo,hi,⟨J,⟨eo,nm,⟨vk,vn,vs⟩,o⟩,g,I,j,i,n,U⟩,ks⟩:=p;rcases af _ _ _ _ _ _ _ _ _ h with⟨k,m',rfl,hm,a2,h2⟩|⟨rfl,rfl,hB,hx⟩
 .obtain⟨kd,ab⟩:∃kd,kd=k.ds:=⟨_,rfl⟩;have hK:plnsD [k]=[kd]:=by rw[ab];rfl
  have a2:(op !=1)=true:=d9
  clear h af ai;rw[vu,hK];(conv=>whnf);rw[a2];refine zj (b:=op==3) (λh3=>?_) (λh3=>?_)
  .have e:w8 (op,⟨J,⟨eo,nm,⟨vk,vn,vs⟩,o⟩,g,I,j,i,n,U⟩)=.ifc 109 (cM ⟨J,⟨eo,nm,⟨vk,vn,vs⟩,o⟩,g,I,j,i,n,U⟩):=by simp_all[w8]
   rw[e]at h2;have aa:=Kc l [.ifc 109 (cM ⟨J,⟨eo,nm,⟨vk,vn,vs⟩,o⟩,g,I,j,i,n,U⟩)];(conv=>whnf);refine⟨dT,by grind[yz],dX,?_⟩;(conv=>whnf);obtain⟨ax,ay,ag,av,ar,⟨an,⟨aq,aw,⟨az,a0,a1⟩,ah⟩,ac,al,ae,ad,n1,ao⟩,au⟩:=k;refine⟨d8,_,rfl,by rw[ab];rfl,?_⟩;subst ab;(conv=>whnf);refine⟨(_,_,m'),⟨h2,hm⟩,⟨_,jK 3 28 19 1 _ _ d8 rfl rfl,?_⟩⟩;(conv=>whnf)
   dsimp only
   rw[aa,aA,ak];rfl
  refine zj (b:=op==4) (λh4=>?_) (λh4=>?_)
  .have e:w8 (op,⟨J,⟨eo,nm,⟨vk,vn,vs⟩,o⟩,g,I,j,i,n,U⟩)=.ifc 110 (cM ⟨J,⟨eo,nm,⟨vk,vn,vs⟩,o⟩,g,I,j,i,n,U⟩):=by simp_all[w8]
   rw[e]at h2;have aa:=Kc l [.ifc 110 (cM ⟨J,⟨eo,nm,⟨vk,vn,vs⟩,o⟩,g,I,j,i,n,U⟩)];(conv=>whnf);refine⟨dT,by grind[yz],dX,?_⟩;(conv=>whnf);obtain⟨ax,ay,ag,av,ar,⟨an,⟨aq,aw,⟨az,a0,a1⟩,ah⟩,ac,al,ae,ad,n1,ao⟩,au⟩:=k;refine⟨d8,_,rfl,by rw[ab];rfl,?_⟩;subst ab;(conv=>whnf);refine⟨(_,_,m'),⟨h2,hm⟩,⟨_,jK 3 37 19 1 _ _ d8 rfl rfl,?_⟩⟩;(conv=>whnf)
   dsimp only
   rw[aa,aA,ak];rfl
  refine zj (b:=op==5) (λh5=>?_) (λh5=>?_)
  .have e:w8 (op,⟨J,⟨eo,nm,⟨vk,vn,vs⟩,o⟩,g,I,j,i,n,U⟩)=.ifc 111 (cM ⟨J,⟨eo,nm,⟨vk,vn,vs⟩,o⟩,g,I,j,i,n,U⟩):=by simp_all[w8]
   rw[e]at h2;have aa:=Kc l [.ifc 111 (cM ⟨J,⟨eo,nm,⟨vk,vn,vs⟩,o⟩,g,I,j,i,n,U⟩)];(conv=>whnf);refine⟨dT,by grind[yz],dX,?_⟩;(conv=>whnf);obtain⟨ax,ay,ag,av,ar,⟨an,⟨aq,aw,⟨az,a0,a1⟩,ah⟩,ac,al,ae,ad,n1,ao⟩,au⟩:=k;refine⟨d8,_,rfl,by rw[ab];rfl,?_⟩;subst ab;(conv=>whnf);refine⟨(_,_,m'),⟨h2,hm⟩,⟨_,jK 3 46 19 1 _ _ d8 rfl rfl,?_⟩⟩;(conv=>whnf)
   dsimp only
   rw[aa,aA,ak];rfl
  have e:w8 (op,⟨J,⟨eo,nm,⟨vk,vn,vs⟩,o⟩,g,I,j,i,n,U⟩)=.ifc 112 (cM ⟨J,⟨eo,nm,⟨vk,vn,vs⟩,o⟩,g,I,j,i,n,U⟩):=by unfold w8;simp only[h3,h4,h5,aB]
  rw[e]at h2;have aa:=Kc l [.ifc 112 (cM ⟨J,⟨eo,nm,⟨vk,vn,vs⟩,o⟩,g,I,j,i,n,U⟩)];(conv=>whnf);refine⟨dT,by unfold yz;simp;omega,dX,?_⟩;(conv=>whnf);obtain⟨ax,ay,ag,av,ar,⟨an,⟨aq,aw,⟨az,a0,a1⟩,ah⟩,ac,al,ae,ad,n1,ao⟩,au⟩:=k;refine⟨d8,_,rfl,by rw[ab];rfl,?_⟩;subst ab;(conv=>whnf);refine⟨(_,_,m'),⟨h2,hm⟩,ze ?_⟩;(conv=>whnf)
  dsimp only
  rw[aa,aA,ak];rfl
 clear h af ai;have aa:=Kc l [abV B];have aj:=abS (l++[abV B]) (l.length+1) dT d8;rw[hx]at aj;have a4:x.take (l.length+1)=x:=by rw[<-hx];refine bA ?_;rw[abF];simp
 rw[hB]at aj aa;clear hx hB;(conv=>whnf);refine⟨dT,by unfold yz;simp;omega,dX,?_⟩;(conv=>whnf);rw[ak];(conv=>whnf);refine zA.mono (aa▸aj) ?_;rintro _ rfl;(conv=>whnf);refine⟨rfl,?_⟩;show Res.mk (.w (.c (.d (.sl (x.take (l.length+1)))))) []=_;rw[a4];rfl
theorem Kn(d:am Nmd)(t:Tbl)(p:Pln)(X:Tbl)(o:dY x8 [p.w,.c (.d (.sl (zq d)))] ⟨.w X.w,[]⟩):dY xP [.c (.d (.sl (zq d))),t.w,.c (.d (abV p))] (qY X 0):=by
 have hs:=aml p;have U:=y4 d ⟨#[]⟩;rw[qd]at o hs;obtain⟨tc,tr⟩:=t;obtain⟨xc,xr⟩:=X;generalize zU ⟨#[]⟩ d=f at*;unfold abV;obtain⟨op,tb,col,lo,hi,⟨J,⟨eo,nm,⟨vk,vn,vs⟩,l⟩,g,I,j,i,n,P⟩,ks⟩:=p;obtain⟨R,aa⟩:∃R,R=Pln.ds (.mk op tb col lo hi ⟨J,⟨eo,nm,⟨vk,vn,vs⟩,l⟩,g,I,j,i,n,P⟩ ks):=⟨_,rfl⟩;cases f with
 |none=>
  refine wz.s T8 ?_;refine aC hs ?_;refine aC U ?_;refine aC o ?_;rfl
 |some ft=>
  obtain⟨fc,fr⟩:=ft;refine wz.s T8 ?_;refine aC hs ?_;refine aC U ?_;refine aC o ?_;rfl
theorem aft(d:am Nmd)(t:Tbl)(st:Stp)(e:Int)(o:(e !=0)=true)(cols:am Col)(l:dY zQ [.c (.d (.sl (zq d))),.c (.d (.sl (zl t.cols))),st.w] (xH (e,cols))):dY xP [.c (.d (.sl (zq d))),t.w,.c (.d (.ifc 112 st.ds))] (qY ⟨[],[]⟩ e):=by refine zC ?_;have hs:=aaD st;obtain⟨tc,P⟩:=t;obtain⟨op,⟨I,J,⟨R,U,vs⟩,ks⟩,g,p,j,i,n,tb⟩:=st;rw[uB]at hs l;refine wz.s T8 ?_;refine aC hs ?_;refine aC l ?_;rw[o];exact⟨rfl,rfl⟩
theorem acB(d:am Nmd)(t:Tbl)(st:Stp)(cols:am Col)(i:dY zQ [.c (.d (.sl (zq d))),.c (.d (.sl (zl t.cols))),st.w] (xH (0,cols)))(y:Int×Tbl)(g:dY vW [.c (.d (.sl (zq d))),t.w,st.w] (wO y)):dY xP [.c (.d (.sl (zq d))),t.w,.c (.d (.ifc 112 st.ds))] (wO y):=by
 have hs:=aaD st;have j:=y4 d st.table;obtain⟨tc,tr⟩:=t;obtain⟨y1,⟨y2,y3⟩⟩:=y;obtain⟨op,⟨P,nm,⟨vk,vn,vs⟩,ks⟩,l,J,p,o,n,tb⟩:=st;rw[uB]at hs i g;simp only at j;generalize zU tb d=f at*;cases f with
 |none=>
  refine wz.s T8 ?_;refine aC hs ?_;refine aC i ?_;refine aC j ?_;refine aC g ?_;rfl
 |some I=>
  obtain⟨R,U⟩:=I;refine wz.s T8 ?_;refine aC hs ?_;refine aC i ?_;refine aC j ?_;refine aC g ?_;rfl
end
end Go.Proofs.YtkdijaiaplkliaaGreatDoor
namespace Go.Proofs
section
open Go.Shelf
def Tryz.lays177_ren:Go.Shelf.Ren:=⟨fun|177=>144|250=>181|289=>219|197=>241|323=>242|260=>264|339=>265|340=>266|242=>267|119=>268|345=>279|346=>280|278=>281|n=>n,fun|9=>9|5=>5|4=>4|3=>3|37=>209|21=>21|105=>312|46=>228|119=>339|0=>0|139=>342|138=>341|49=>343|234=>344|131=>78|51=>288|236=>346|n=>n,fun|3=>2|4=>3|20=>4|21=>5|22=>6|23=>7|24=>8|n=>n⟩
theorem Tryz.lays177:Go.Proofs.Lays.n177 Tryz.prog Tryz.lays177_ren:={
 mixed:=dU
 f119:=Tryz.func268.trans (aF some dU)
 f177:=Tryz.func144.trans (aF some dU)
 f197:=Tryz.func241.trans (aF some dU)
 f242:=Tryz.func267.trans (aF some dU)
 f250:=Tryz.func181.trans (aF some dU)
 f260:=Tryz.func264.trans (aF some dU)
 f278:=Tryz.func281.trans (aF some dU)
 f289:=Tryz.func219.trans (aF some dU)
 f323:=Tryz.func242.trans (aF some dU)
 f339:=Tryz.func265.trans (aF some dU)
 f340:=Tryz.func266.trans (aF some dU)
 f345:=Tryz.func279.trans (aF some dU)
 f346:=Tryz.func280.trans (aF some dU)
 t0:=Tryz.underlying0
 a0:=Tryz.isAgg0
 z0:=Tryz.sizeOf0
 v0:=Tryz.zeroValue0
 t3:=Tryz.underlying3
 a3:=Tryz.isAgg3
 z3:=Tryz.sizeOf3
 v3:=Tryz.zeroValue3
 t4:=Tryz.underlying4
 a4:=Tryz.isAgg4
 z4:=Tryz.sizeOf4
 v4:=Tryz.zeroValue4
 t5:=Tryz.underlying5
 a5:=Tryz.isAgg5
 z5:=Tryz.sizeOf5
 v5:=Tryz.zeroValue5
 t9:=Tryz.underlying9
 a9:=Tryz.isAgg9
 z9:=Tryz.sizeOf9
 v9:=Tryz.zeroValue9
 t21:=Tryz.underlying21
 a21:=Tryz.isAgg21
 z21:=Tryz.sizeOf21
 v21:=Tryz.zeroValue21
 t37:=Tryz.underlying209
 a37:=Tryz.isAgg209
 z37:=Tryz.sizeOf209
 v37:=Tryz.zeroValue209
 t46:=Tryz.underlying228
 a46:=Tryz.isAgg228
 z46:=Tryz.sizeOf228
 v46:=Tryz.zeroValue228
 t49:=Tryz.underlying343
 a49:=Tryz.isAgg343
 z49:=Tryz.sizeOf343
 v49:=Tryz.zeroValue343
 t51:=Tryz.underlying288
 a51:=Tryz.isAgg288
 z51:=Tryz.sizeOf288
 v51:=Tryz.zeroValue288
 t105:=Tryz.underlying312
 a105:=Tryz.isAgg312
 z105:=Tryz.sizeOf312
 v105:=Tryz.zeroValue312
 t119:=Tryz.underlying339
 a119:=Tryz.isAgg339
 z119:=Tryz.sizeOf339
 t131:=Tryz.underlying78
 a131:=Tryz.isAgg78
 z131:=Tryz.sizeOf78
 v131:=Tryz.zeroValue78
 t138:=Tryz.underlying341
 a138:=Tryz.isAgg341
 z138:=Tryz.sizeOf341
 v138:=Tryz.zeroValue341
 t139:=Tryz.underlying342
 a139:=Tryz.isAgg342
 z139:=Tryz.sizeOf342
 v139:=Tryz.zeroValue342
 t234:=Tryz.underlying344
 a234:=Tryz.isAgg344
 z234:=Tryz.sizeOf344
 v234:=Tryz.zeroValue344
 t236:=Tryz.underlying346
 a236:=Tryz.isAgg346
 z236:=Tryz.sizeOf346
 v236:=Tryz.zeroValue346
 g3:=dU
 g4:=dU
 g20:=dU
 g21:=dU
 g22:=dU
 g23:=dU
 g24:=dU}
def Tryz.laysM171_ren:Go.Shelf.Ren:=⟨fun|171=>143|243=>180|246=>218|283=>237|284=>238|285=>239|286=>240|129=>216|317=>260|318=>261|319=>262|320=>263|337=>277|338=>278|n=>n,fun|3=>3|9=>9|2=>2|4=>4|171=>308|0=>0|53=>290|37=>209|5=>5|173=>310|212=>327|51=>288|20=>20|213=>328|46=>228|232=>349|233=>350|n=>n,fun|17=>1|18=>11|19=>12|n=>n⟩
theorem Tryz.laysM171:Go.Proofs.LaysM.n171 Tryz.prog Tryz.laysM171_ren:={
 mixed:=dU
 f129:=Tryz.func216.trans (aF some dU)
 f171:=Tryz.func143.trans (aF some dU)
 f243:=Tryz.func180.trans (aF some dU)
 f246:=Tryz.func218.trans (aF some dU)
 f283:=Tryz.func237.trans (aF some dU)
 f284:=Tryz.func238.trans (aF some dU)
 f285:=Tryz.func239.trans (aF some dU)
 f286:=Tryz.func240.trans (aF some dU)
 f317:=Tryz.func260.trans (aF some dU)
 f318:=Tryz.func261.trans (aF some dU)
 f319:=Tryz.func262.trans (aF some dU)
 f320:=Tryz.func263.trans (aF some dU)
 f337:=Tryz.func277.trans (aF some dU)
 f338:=Tryz.func278.trans (aF some dU)
 t0:=Tryz.underlying0
 a0:=Tryz.isAgg0
 z0:=Tryz.sizeOf0
 v0:=Tryz.zeroValue0
 t2:=Tryz.underlying2
 a2:=Tryz.isAgg2
 z2:=Tryz.sizeOf2
 v2:=Tryz.zeroValue2
 t3:=Tryz.underlying3
 a3:=Tryz.isAgg3
 z3:=Tryz.sizeOf3
 v3:=Tryz.zeroValue3
 t4:=Tryz.underlying4
 a4:=Tryz.isAgg4
 z4:=Tryz.sizeOf4
 v4:=Tryz.zeroValue4
 t5:=Tryz.underlying5
 a5:=Tryz.isAgg5
 z5:=Tryz.sizeOf5
 v5:=Tryz.zeroValue5
 t9:=Tryz.underlying9
 a9:=Tryz.isAgg9
 z9:=Tryz.sizeOf9
 v9:=Tryz.zeroValue9
 t20:=Tryz.underlying20
 a20:=Tryz.isAgg20
 z20:=Tryz.sizeOf20
 v20:=Tryz.zeroValue20
 t37:=Tryz.underlying209
 a37:=Tryz.isAgg209
 z37:=Tryz.sizeOf209
 v37:=Tryz.zeroValue209
 t46:=Tryz.underlying228
 a46:=Tryz.isAgg228
 z46:=Tryz.sizeOf228
 v46:=Tryz.zeroValue228
 t51:=Tryz.underlying288
 a51:=Tryz.isAgg288
 z51:=Tryz.sizeOf288
 v51:=Tryz.zeroValue288
 t53:=Tryz.underlying290
 a53:=Tryz.isAgg290
 z53:=Tryz.sizeOf290
 v53:=Tryz.zeroValue290
 t171:=Tryz.underlying308
 a171:=Tryz.isAgg308
 z171:=Tryz.sizeOf308
 v171:=Tryz.zeroValue308
 t173:=Tryz.underlying310
 a173:=Tryz.isAgg310
 z173:=Tryz.sizeOf310
 v173:=Tryz.zeroValue310
 t212:=Tryz.underlying327
 a212:=Tryz.isAgg327
 z212:=Tryz.sizeOf327
 v212:=Tryz.zeroValue327
 t213:=Tryz.underlying328
 a213:=Tryz.isAgg328
 z213:=Tryz.sizeOf328
 t232:=Tryz.underlying349
 a232:=Tryz.isAgg349
 z232:=Tryz.sizeOf349
 v232:=Tryz.zeroValue349
 t233:=Tryz.underlying350
 a233:=Tryz.isAgg350
 z233:=Tryz.sizeOf350
 v233:=Tryz.zeroValue350
 g17:=dU
 g18:=dU
 g19:=dU
 i0:=dU
 i2:=dU
 i3:=dU
 i4:=dU
 i5:=dU
 i9:=dU
 i20:=dU
 i37:=dU
 i46:=dU
 i51:=dU
 i53:=dU
 i171:=dU
 i173:=dU
 i212:=dU
 i232:=dU
 i233:=dU
 m17:=dU
 m18:=dU
 m19:=dU}
def Tryz.lays169_ren:Go.Shelf.Ren:=⟨fun|169=>145|n=>n,fun|70=>208|9=>9|0=>0|72=>211|37=>209|127=>260|3=>3|5=>5|n=>n,fun|n=>n⟩
theorem Tryz.lays169:Go.Proofs.Lays.n169 Tryz.prog Tryz.lays169_ren:={
 mixed:=dU
 f169:=Tryz.func145.trans (aF some dU)
 t0:=Tryz.underlying0
 a0:=Tryz.isAgg0
 z0:=Tryz.sizeOf0
 v0:=Tryz.zeroValue0
 t3:=Tryz.underlying3
 a3:=Tryz.isAgg3
 z3:=Tryz.sizeOf3
 v3:=Tryz.zeroValue3
 t9:=Tryz.underlying9
 a9:=Tryz.isAgg9
 z9:=Tryz.sizeOf9
 v9:=Tryz.zeroValue9
 t37:=Tryz.underlying209
 a37:=Tryz.isAgg209
 z37:=Tryz.sizeOf209
 v37:=Tryz.zeroValue209
 t70:=Tryz.underlying208
 a70:=Tryz.isAgg208
 z70:=Tryz.sizeOf208
 v70:=Tryz.zeroValue208
 t72:=Tryz.underlying211
 a72:=Tryz.isAgg211
 z72:=Tryz.sizeOf211
 v72:=Tryz.zeroValue211
 t127:=Tryz.underlying260
 a127:=Tryz.isAgg260
 z127:=Tryz.sizeOf260
 v127:=Tryz.zeroValue260}
theorem Tryz.Builder_Extra_169:Builder.Extra Tryz.prog Tryz.lays169_ren:={
 sizeBuilder:=dU
 liesBuilder:=dU
 t5:=Tryz.underlying5
 a5:=Tryz.isAgg5
 z5:=Tryz.sizeOf5
 v5:=Tryz.zeroValue5
 infoByte:=dU
 cellsByte:=dU
 sizeByte:=dU
 neB5:=dV}
end
end Go.Proofs
namespace Go.Proofs.YtkdijaiaplkliaaGreatDoor
section
open Go Go.AM Go.Proofs Go.RowKit Go.Sort
attribute [local irreducible] zX
theorem aAe {w:aG}(h:Psi w):Lib.TabIs Tryz.prog w "internal/strconv.uint64pow10" .u64 Lib.pow10Tab:=by
 obtain⟨_,_,_,t,f,h⟩:=h;unfold Lib.TabIs aG.var?;have g:Tryz.prog.globalNamed "internal/strconv.uint64pow10" =some 1:=dU
 grind
def Z7(n:Int):ByteArray:=⟨(Lib.itoa n).toArray⟩
def Ki(s:ByteArray):ByteArray:=strOfNums (Lib.quoteZ Lib.goPrintTabs s)
theorem afK(s:ByteArray):(Ki s).size<=10*s.size+2:=by simp_all[Ki,strOfNums_size,Lib.quoteZ_length_le]
theorem ar4(w:aG)(k:Nat)(os:bB Obj):Below w.heap.size w (grow (w.drewN k) os):=
 ⟨rfl,rfl,rfl,dW,λb g=>by simp[grow,bB.getElem?_append,g]⟩
abbrev tB:Nat:=211
abbrev t8:Nat:=5
theorem awx(b:Nat)(w:aG)(h0:w.cell? ⟨b,0,none⟩=some (.pointer (some ⟨b,0,none⟩))):
 b9 Tryz.prog 179 #[.pointer (some ⟨b,0,none⟩)] w λe w'=>e=.returned (.tuple #[])/\w'=w:=by
 obtain⟨j,g,_⟩:=cX.1 Tryz.Builder_Extra_169.sizeBuilder
 go_enter Tryz.func179,Tryz.ntmps179
 go_wp2
 rw[Lib.run_neq_ptr_same w _ Tryz.underlying208 g]
 go_wp2
 go_end0
 grind
theorem at8(b:Nat)(w:aG)(h0:w.cell? ⟨b,0,none⟩=some (.pointer none))(g:w.shape? b=some (tB,2))(l:w.frozen? ⟨b,0,none⟩=false):
 b9 Tryz.prog 179 #[.pointer (some ⟨b,0,none⟩)] w λe w'=>e=.returned (.tuple #[])/\w'=w.setCell ⟨b,0,none⟩ (.pointer (some ⟨b,0,none⟩)):=by
 obtain⟨j,i,o⟩:=cX.1 Tryz.Builder_Extra_169.sizeBuilder
 go_enter Tryz.func179,Tryz.ntmps179
 go_wp2
 rw[Lib.run_to_unsafe w ⟨b,0,none⟩ Tryz.underlying208 Tryz.underlying291 i d9 g (Nat.zero_lt_succ 1)];simp only[cL];rw[c6]
 go_wp2
 rw[dq Tryz.func217 dU dU dU (e:=Extern.AbiNoEscape.same) dU];rw[Lib.run_noEscape];simp only[cL];rw[c6]
 go_wp2
 rw[Lib.run_from_unsafe w ⟨b,0,none⟩ Tryz.underlying291 Tryz.underlying208 i g Tryz.Builder_Extra_169.liesBuilder];simp only[cL];rw[c6]
 go_wp2
 go_end0
 grind
theorem at7(B b:Nat)(g:am Value)(w:aG)(h:bS tB t8 B b g w):
 b9 Tryz.prog 179 #[.pointer (some ⟨b,0,none⟩)] w λe w'=>e=.returned (.tuple #[])/\(bT tB t8 B b (.pointer (some ⟨b,0,none⟩)) g w'/\Below B w w')/\∀c,c≠b->w'.heap[c]?=w.heap[c]? :=by
 rcases h with h|h
 .refine(at8 b w h.cell0 h.shape h.frozen0).mono ?_;rintro e w' ⟨rfl,rfl⟩;exact⟨rfl,⟨h.used _,(Below.refl B w).setCell (p:=⟨b,0,none⟩) h.1 _⟩,λc i=>cG w ⟨b,0,none⟩ c _ i⟩
 refine(awx b w h.cell0).mono ?_<;>grind[Below.refl]
end
section
open Go Go.AM Go.Proofs Go.RowKit
theorem at9(B b:Nat)(R:am Value)(s:ByteArray)(w:aG)(h:bS tB t8 B b R w)(ah:R.length+s.size<=140737488355328)(ai:B<=w.heap.size):
 b9 Tryz.prog 142 #[.pointer (some ⟨b,0,none⟩),.string s] w λe w'=>e=.returned (.tuple #[.int .i64 s.size,.nilIface])/\(bT tB t8 B b (.pointer (some ⟨b,0,none⟩)) (R++Lib.strCells s) w'/\Below B w w')/\∀c cs t f,c≠b->w.heap[c]?=some (.cells cs t f)->t≠t8->w'.heap[c]?=w.heap[c]? :=by
 obtain⟨i0,hi,ad,ae,af⟩:=info_parts Tryz.Builder_Extra_169.infoByte
 go_enter Tryz.func142,Tryz.ntmps142
 go_wp2_with (go_at_call 179;refine(at7 B b R _ h).mono ?_)
 rintro e w1 ⟨rfl,⟨h1,aa⟩,J⟩;obtain⟨hB,v,o,j,ac⟩:=h1;have c0:w1.cell? ⟨b,0,none⟩=some (.pointer (some ⟨b,0,none⟩)):=by rw[bC o];rfl
 have c1:w1.cell? ⟨b,1,none⟩=some v:=by rw[bC o];rfl
 go_wp2_with (at_builtin;refine Lib.wpList_append_own_string _ rfl _ _ 209 9 rfl B t8 i0 Tryz.underlying209 Tryz.underlying9 hi ad ae af _ _ _ rfl j s rfl ?c3 ?c4 ?c5 ?_)
 case c3=>grind[maxLen]
 case c4=>omega
 case c5=>grind
 intro v' P r i _;have ab:b<w1.heap.size:=d9
 have l:P.heap[b]?=some (.cells #[.pointer (some ⟨b,0,none⟩),v] tB (0,0)):=by rw[i.block b ab (λe=>ac e.symm)];exact o
 have d0:P.cell? ⟨b,0,none⟩=some (.pointer (some ⟨b,0,none⟩)):=by rw[bC l];rfl
 have d1:P.cell? ⟨b,1,none⟩=some v:=by rw[bC l];rfl
 have f1:P.frozen? ⟨b,1,none⟩=false:=Lib.frozen_of_heap l 1;obtain⟨ao,n',cap,rfl⟩:∃ao n' cap,v'=.slice ao n' cap:=by
  rcases r.2 with⟨hv,_⟩|⟨g,cap,U,hv,_⟩
  .grind
  grind
 go_wp2
 go_ret2
 refine⟨rfl,⟨?_,?_⟩,λc cs t f hc I ht=>?_⟩
 .simp_all[Lib.BuilderAt.put,tB,t8,Lib.strCells_length]
 .exact(aa.grown i d9 (λk hk=>(j.lt k hk).1)).setCell (p:=⟨b,1,none⟩) hB _
 rw[<-J c hc]at I;refine(cG P ⟨b,1,none⟩ c _ hc).trans ((i.block c (bB.getElem?_eq_some_iff.1 I).1 (λe=>?_)).trans (J c hc));rcases j.2 with⟨rfl,_⟩|⟨g,ag,U,rfl,_,hg,_⟩
 .cases e
 grind[Value.ownBlock]
theorem ar5(B b:Nat)(l:am UInt8)(w:aG)(h:bS tB t8 B b (aX l) w)(g:B<=w.heap.size):
 b9 Tryz.prog 145 #[.pointer (some ⟨b,0,none⟩)] w λe w'=>e=.returned (.string ⟨l.toArray⟩)/\Below B w w':=
 Any.Builder_String_any Tryz.lays169 Tryz.Builder_Extra_169 B b l w h g
def apn:ByteArray:=⟨#[32]⟩
def agA(v:Val):ByteArray:=Z7 v.k++apn++Z7 v.n++apn++Ki v.s++apn
def J5(v:Val):am UInt8:=(agA v).data.toList
def uq(row:am Val):am Int->aT (am UInt8)
 |[]=>some []
 |i::r=>bif (at0 row i.toNat).k==0 then none else(uq row r).map (J5 (at0 row i.toNat)++ ·)
def VS(v:Val):Prop:=(-9223372036854775808<=v.k/\v.k<=9223372036854775807)/\(-9223372036854775808<=v.n/\v.n<=9223372036854775807)/\v.s.size<=1000000
theorem Jb{n:Int}(h0: -9223372036854775808<=n)(g:n<=9223372036854775807):(Z7 n).size<=21:=Lib.itoa_length_le n h0 g
theorem auJ{v:Val}(h:VS v):(agA v).size<=10000100:=by have g:=Jb h.1.1 h.1.2;have i:=Jb h.2.1.1 h.2.1.2;have j:=afK v.s;have l:=h.2.2;have o:apn.size=1:=rfl<;>grind[agA,ByteArray.size_append]
theorem akG(row:am Val):∀(l:am Int) (i:Int),uq row (l++[i])=(uq row l).bind λx=>bif (at0 row i.toNat).k==0 then none else some (x++J5 (at0 row i.toNat))
 |[],i=>by grind[uq]
 |j::r,i=>by
  simp only[bL,uq,akG row r i];cases(at0 row j.toNat).k==0 with
  |true=>rfl
  |false=>
   simp only[aB];cases uq row r<;>grind
theorem an5(row:am Val):∀(l r:am Int),uq row l=none->uq row (l++r)=none
 |[],_,h=>by cases h
 |i::l,r,h=>by
  simp only[bL,uq]at h⊢;cases hk:(at0 row i.toNat).k==0 with
  |true=>rfl
  |false=>
   simp_all[an5]
def aBs:aT (am UInt8)->Value
 |none=>.tuple #[.string ⟨#[]⟩,.bool false]
 |some l=>.tuple #[.string ⟨l.toArray⟩,.bool true]
theorem akY{w:aG}{ok:Nat->Prop}{b sz:Nat}:∀(x:am Val) (o:Nat),RDs w ok b sz o (rowD x)->∀(i:Nat) (h:i<x.length),sz=3/\w.cell? ⟨b,o+i*3,none⟩=some (.int .i64 x[i].k)/\w.cell? ⟨b,o+i*3+1,none⟩=some (.int .i64 x[i].n)/\w.cell? ⟨b,o+i*3+2,none⟩=some (.string x[i].s)
 |[],_,_,i,h=>by simp at h
 |v::r,o,h,i,hi=>by
  simp only[rowD,aZ,RDs,Val.ds,RDc,RD]at h;obtain⟨j,⟨⟨_,l,rfl,_⟩,⟨_,p,rfl,_⟩,⟨_,I,rfl,_⟩,_⟩,g⟩:=h;have hs:sz=3:=d9
  subst hs;cases i with
  |zero=>grind
  |succ i=>
   obtain⟨J,P,R,U⟩:=akY r (o+3) g i d9
   grind
theorem adk{w:aG}{ok:Nat->Prop}{b sz:Nat}:∀(x:am Int) (o:Nat),RDs w ok b sz o (zh x)->∀(i:Nat) (h:i<x.length),w.cell? ⟨b,o+i,none⟩=some (.int .i64 x[i])
 |[],_,_,i,h=>by simp at h
 |v::r,o,h,i,hi=>by
  simp only[zh,aZ,RDs,RDc,RD]at h;obtain⟨j,⟨⟨_,l,rfl,_⟩,_⟩,g⟩:=h;have hs:sz=1:=d9
  subst hs;cases i with
  |zero=>grind
  |succ i=>
   have:=adk r (o+1) g i d9
   grind
structure KeyS(B vb:Nat)(v:Val)(l:am UInt8)(w W:aG):Prop where
 c:W.heap[vb]?=some (.cells #[.int .i64 v.k,.int .i64 v.n,.string v.s] 28 (0,0))
 bl:bS tB t8 B B (aX l) W
 be:Below B w W
 ne:vb≠B
def azh(g:Nat)(v:Val)(W:aG):Prop:=W.cell? ⟨g,0,none⟩=some (.int .i64 v.k)/\W.cell? ⟨g,1,none⟩=some (.int .i64 v.n)/\W.cell? ⟨g,2,none⟩=some (.string v.s)
theorem KT{g:Nat}{v:Val}{W:aG}{e:TypeId}(h:W.heap[g]?=some (.cells #[.int .i64 v.k,.int .i64 v.n,.string v.s] e (0,0))):azh g v W:=
 ⟨by rw[bC h];rfl,by rw[bC h];rfl,by rw[bC h];rfl⟩
theorem afz{w w':aG}(h:Below w.heap.size w w'):w.grownBy w' none:=⟨h.os,h.tape,h.output,h.size,λk hk _=>h.block k hk⟩
theorem KeyS.next{B j:Nat}{v:Val}{l:am UInt8}{w W W':aG}(h:KeyS B j v l w W)(g:Below W.heap.size W W')(hB:B<=W.heap.size):KeyS B j v l w W':=by
 refine⟨by rw[g.block _ (bB.getElem?_eq_some_iff.1 h.c).1];exact h.c,?_,h.be.grown (afz g) hB (λk e=>by cases e),h.ne⟩;have gen:∀p,bT tB t8 B B p (aX l) W->bT tB t8 B B p (aX l) W':=by rintro p ⟨o,u,i,r,I⟩;exact⟨o,u,by rw[g.block _ (bB.getElem?_eq_some_iff.1 i).1];exact i,r.kept (afz g) d9,I⟩
 exact h.bl.imp (gen _) (gen _)
theorem KeyS.start{B:Nat}{v:Val}{l:am UInt8}{w wr:aG}(hB:B<=wr.heap.size)(r:bS tB t8 B B (aX l) wr)(g:Below B w wr):KeyS B wr.heap.size v l w (wr.alloc (.cells #[.int .i64 v.k,.int .i64 v.n,.string v.s] 28)):=by
 have i:=heap_alloc_new wr (.cells #[.int .i64 v.k,.int .i64 v.n,.string v.s] 28);refine⟨i,?_,g.alloc hB _,λe=>?_⟩
 .have gen:∀p,bT tB t8 B B p (aX l) wr->bT tB t8 B B p (aX l) (wr.alloc (.cells #[.int .i64 v.k,.int .i64 v.n,.string v.s] 28)):=by rintro p ⟨i,u,I,j,o⟩;exact⟨i,u,by grind[heap_alloc_old],j.alloc _,o⟩
  exact r.imp (gen _) (gen _)
 have gen:∀p,bT tB t8 B B p (aX l) wr->B<wr.heap.size:=by rintro p ⟨i,u,I,j,o⟩<;>grind
 have:B<wr.heap.size:=r.elim (gen _) (gen _);omega
theorem axD(w:aG)(A:Nat->Prop)(hA:(∀b,A b->b<w.heap.size)/\Glb A w)(row:am Val)(at_:am Int)(ra aa:aT dn)(rc ac:Nat)(hr:RD w A (.sl (rowD row)) (.slice ra row.length rc))(U:RD w A (.sl (zh at_)) (.slice aa at_.length ac))
 (an:zS row.length at_) (a1:at_.length<=1000000) (hv:∀v∈row,VS v):
 b9 Tryz.prog 84 #[.slice ra row.length rc,.slice aa at_.length ac] w λe w'=>e=.returned (aBs (uq row at_))/\Below w.heap.size w w':=by
 have hP:∀W,Below w.heap.size w W->Psi W:=λW h=>(K0 hA h).psi
 simp only[RD]at hr U;obtain⟨_,_,_,e1,n1,bc,bd,hr⟩:=hr;obtain⟨_,_,_,e2,n2,a6,a7,U⟩:=U;cases e1;cases e2;clear n1 n2
 go_enter Tryz.func84,Tryz.ntmps84
 go_wp2
 go_loopw [12] (λi wr=>∃(k:Nat) (l:am UInt8),k<=at_.length/\i=.int .i64 k/\uq row (at_.take k)=some l/\l.length<=k*10000100/\bS tB t8 w.heap.size w.heap.size (aX l) wr/\Below w.heap.size w wr) (λi _=>at_.length-(intOf i).toNat)
 case atStart=>
  refine⟨0,[],aN _,rfl,rfl,aN _,?_,(Below.refl _ _).alloc (aI _) _⟩;exact Lib.fresh_isBuilder tB t8 w
 case round=>
  obtain⟨k,l,hk,rfl,I,bb,R,r⟩:=hrel;have hB:=r.size;by_cases ad:k<at_.length
  .have a9:=an _ (aD ad);rcases U with U|⟨ab,ao,a2,rfl,ai,U⟩
   .have:=aF cB U;rw[zE]at this;simp only[bQ]at this;omega
   rcases hr with hr|⟨rb,ro,bf,rfl,P,hr⟩
   .have:=aF cB hr;rw[zu]at this;simp only[bQ]at this;omega
   have ae:=adk at_ ao U k ad;have J:=akG row (at_.take k) at_[k];have ar:=zJ ad;rw[I,Option.bind_some]at J;generalize at_[k]=i at*;obtain⟨i,rfl⟩:∃n:Nat,i=n:=⟨i.toNat,d8⟩;have al:i<row.length:=d8
   obtain⟨_,af,ag,ah⟩:=akY row ro hr i al;have o:=hv _ (aD al);rw[show at0 row ((i:Int)).toNat=row[i]by grind[at0]]at J;generalize row[i]=v at*;have kc:∀(b j:Nat) (u:Value),A b->w.cell? ⟨b,j,none⟩=some u->wr.cell? ⟨b,j,none⟩=some u:=λb j u hb h=>(r.cell (p:=⟨b,j,none⟩) (hA.1 b hb)).trans h
   have ca:=kc _ _ _ ai ae;have a3:=kc _ _ _ P af;have a4:=kc _ _ _ P ag;have a5:=kc _ _ _ P ah;clear hv hr U af ag ah ae kc an;cases aq:(v.k==0)with
   |true=>
    rw[aq,aE]at J
    go_wp2
    go_ret2
    have hn:=an5 row _ (at_.drop (k+1)) (ar▸J);rw[List.take_append_drop]at hn;rw[hn];exact⟨rfl,r.alloc hB _⟩
   |false=>
    rw[aq,aB]at J
    go_wp2
    have g:KeyS w.heap.size wr.heap.size v l w (wr.alloc (.cells #[.int .i64 v.k,.int .i64 v.n,.string v.s] 28)):=KeyS.start hB R r;generalize wr.alloc (.cells #[.int .i64 v.k,.int .i64 v.n,.string v.s] 28)=W at*;have cI:∀(n:Int) (W:aG),(-9223372036854775808<=n/\n<=9223372036854775807)->KeyS w.heap.size wr.heap.size v l w W->b9 Tryz.prog 143 #[.int .i64 n] W λe w'=>e=.returned (.string (Z7 n))/\KeyS w.heap.size wr.heap.size v l w w':=λn W hn g=>by refine(Any.strconv_Itoa Tryz.laysM171 n hn.1 hn.2 W (aAe (hP W g.be))).mono ?_;rintro e w' ⟨rfl,k,os,rfl⟩;exact⟨rfl,g.next (ar4 W k os) g.be.size⟩
    have cQ:∀(W:aG),KeyS w.heap.size wr.heap.size v l w W->b9 Tryz.prog 144 #[.string v.s] W λe w'=>e=.returned (.string (Ki v.s))/\KeyS w.heap.size wr.heap.size v l w w':=λW g=>by have hp:=hP W g.be;refine(Any.strconv_Quote Tryz.lays177 dU Lib.goPrintTabs v.s W (by have:=o.2.2;omega) hp.2.1 hp.2.2.1).mono ?_;rintro e w' ⟨rfl,hb⟩;exact⟨rfl,g.next hb g.be.size⟩
    have ba:=auJ o;have cW:∀(s:ByteArray) (W:aG),s=agA v->KeyS w.heap.size wr.heap.size v l w W->b9 Tryz.prog 142 #[.pointer (some ⟨w.heap.size,0,none⟩),.string s] W λe w'=>e=.returned (.tuple #[.int .i64 s.size,.nilIface])/\bS tB t8 w.heap.size w.heap.size (aX (l++J5 v)) w'/\Below w.heap.size w w'/\azh wr.heap.size v w':=λs W hs g=>by subst hs;refine(at9 w.heap.size w.heap.size _ (agA v) W g.bl (by rw[Lib.byteCells_length];omega) g.be.size).mono ?_;rintro e w' ⟨rfl,⟨a8,hb⟩,a0⟩;refine⟨rfl,.inr ?_,g.be.trans hb,KT ((a0 _ _ _ _ g.ne g.c dV).trans g.c)⟩;simp_all[aX,Lib.strCells,J5]
    have z1:=Jb o.1.1 o.1.2;have z2:=Jb o.2.1.1 o.2.1.2;have z3:=afK v.s;have z4:=o.2.2;have g1:¬9223372036854775807<(Z7 v.k).size+1:=d8
    have g2:¬9223372036854775807<(Z7 v.k).size+1+(Z7 v.n).size:=d8
    have g3:¬9223372036854775807<(Z7 v.k).size+1+(Z7 v.n).size+1:=d8
    have g4:¬9223372036854775807<(Z7 v.k).size+1+(Z7 v.n).size+1+(Ki v.s).size:=d8
    have g5:¬9223372036854775807<(Z7 v.k).size+1+(Z7 v.n).size+1+(Ki v.s).size+1:=d8
    have b1:=o.1;have b2:=o.2.1;clear o hP hA R I;have ax:KeyS w.heap.size wr.heap.size v l w W.drew:=g.next ⟨rfl,rfl,rfl,aI _,λ_ _=>rfl⟩ g.be.size;have d0:=(KT g.c).1;have d1:=(KT g.c).2.1;have d2:=(KT g.c).2.2
    go_region_held3 (λW=>W.cell? ⟨wr.heap.size,0,none⟩=some (.int .i64 v.k)/\W.cell? ⟨wr.heap.size,1,none⟩=some (.int .i64 v.n)/\W.cell? ⟨wr.heap.size,2,none⟩=some (.string v.s))
     (first
      |exact aw
      |exact KT av.c
      |exact KT au.c
      |exact KT ax.c
      |exact KT g.c)
     (first
      |(go_at_call 142;refine Calls.mono (cW _ _ rfl (by assumption)) ?_;rintro e w4 ⟨rfl,ak,aj,aw⟩)
      |(go_at_call 144;refine Calls.mono (cQ _ (by assumption)) ?_;rintro e w3 ⟨rfl,av⟩)
      |(go_at_call 143;refine Calls.mono (cI _ _ (by assumption) (by assumption)) ?_;rintro e w2 ⟨rfl,au⟩))
    all_goals go_wp2
    all_goals go_roundw
    all_goals first
     |(refine⟨k+1,l++J5 v,ad,by go_num,by rw[ar];exact J,?_,ak,aj⟩;rw[aA,show(J5 v).length=(agA v).size from rfl];omega)
     |(simp[intOf];omega)
  have az:k=at_.length:=d8
  subst az;rw[bN]at I
  go_wp2_with (go_at_call 145;refine(ar5 w.heap.size w.heap.size l _ R hB).mono ?_;rintro e w1 ⟨rfl,ay⟩)
  go_ret2
  rw[I];exact⟨rfl,r.trans ay⟩
def aBr:aT (am UInt8)->Res
 |none=>⟨.tup [.c (str ⟨#[]⟩),.c (bool false)],[]⟩
 |some l=>⟨.tup [.c (str ⟨l.toArray⟩),.c (bool true)],[]⟩
theorem ae3(row:am Val)(at_:am Int)(o:zS row.length at_)(j:at_.length<=1000000)(hv:∀v∈row,VS v):dY Wm [yu row,.c (.d (.sl (zh at_)))] (aBr (uq row at_)):=by
 refine⟨dU,λw A vals hA g=>?_⟩
 match vals,g with
 |[],g=>exact g.elim
 |[_],g=>exact g.2.elim
 |_::_::_::_,g=>exact g.2.2.elim
 |[rv,I],g=>
 have J:RD w A (.sl (rowD row)) rv:=g.1;have P:RD w A (.sl (zh at_)) I:=g.2.1;obtain⟨ra,rn,rc,e1,R,_⟩:=(by simpa only[RD]using J:∃a n c,rv=.slice a n c/\n=(rowD row).length/\_);obtain⟨aa,an,ac,e2,U,_⟩:=(by simpa only[RD]using P:∃a n c,I=.slice a n c/\n=(zh at_).length/\_);subst e1 e2;rw[zu]at R;rw[zE]at U;subst R U;refine(axD w A hA row at_ ra aa rc ac J P o j hv).mono ?_;rintro e w' ⟨rfl,hb⟩;have hR:aaY ⟨w,A,λ_=>False,λ_=>none⟩ w' (aBr (uq row at_)) (aBs (uq row at_)):=by
  have gen:∀(x y:Value),x.oneCell'=true->y.oneCell'=true->aaY ⟨w,A,λ_=>False,λ_=>none⟩ w' ⟨.tup [.c (.d (.lit x)),.c (.d (.lit y))],[]⟩ (.tuple #[x,y]):=λx y hx hy=>by
   refine⟨aI _,λ_=>⟨none,0,.nilFunc,[]⟩,⟨[x,y],rfl,?_,?_,trivial⟩,?_,?_,?_,?_,?_⟩
   .grind[WR,CR,RD]
   .grind[WR,CR,RD]
   .intro p y i;cases i
   .intro p q y z b i;cases i
   .intro p y b i;cases i
   .intro p y i;cases i
   grind
  cases uq row at_ with
  |none=>exact gen _ _ rfl rfl
  |some l=>exact gen _ _ rfl rfl
 grind[afA]
end
section
open Go Go.AM
attribute [local irreducible] Sat zA zX zo
def erS(d:am Nmd)(O:am D):aT (Nat×Tbl)->S
 |none=>⟨[(0,.w (.c (.d (.sl (zq d))))),(4,cV (.ptr 4 0)),(7,cV (.ptr 7 0)),(20,.w (.c (.d (.sl (qT O))))),(21,zm (qT O).length),(22,zm 0)],[(4,.box [.nil,.nil]),(7,.box [.nil,.nil])]⟩
 |some (i,t)=>⟨[(0,.w (.c (.d (.sl (zq d))))),(4,cV (.ptr 4 0)),(7,cV (.ptr 7 0)),(20,.w (.c (.d (.sl (qT O))))),(21,zm (qT O).length),(22,zm ((i+1:Nat):Int))],[(4,.box [.nil,.nil]),(7,.box [.d (.sl (zl t.cols)),.d (.sl (zg t.rows))])]⟩
def erR(d:am Nmd)(l:am Stp)(K:Nat->Tbl->Prop)(y:Int×Tbl):aT (Nat×Tbl)->Prop
 |none=>True
 |some (i,t)=>i<=l.length/\K i t/\y=runT d t (l.drop i)
theorem kA(d:am Nmd)(P:Pln)(J:dY uQ [.c (.d (.sl (zq d))),.agg P.cs] (rI 0))(g:am (Int×Stp))(hn:g.length<=100000)(sc:D)(p:dY Zu [.agg P.cs] (rC (.d (.sl (qT (sc::g.map w8))))))
 (X:Tbl) (ai:dY xP [.c (.d (.sl (zq d))),Tbl.w ⟨[],[]⟩,.c (.d sc)] (qY X 0)) (K:Nat->Tbl->Prop) (h0:K 0 X)
 (hO:∀i (h:i<g.length) t,K i t->dY xP [.c (.d (.sl (zq d))),t.w,.c (.d (w8 g[i]))] (wO (nStepT d t g[i].2)))
 (hK:∀i (h:i<g.length) t,K i t->(nStepT d t g[i].2).1=0->K (i+1) (nStepT d t g[i].2).2) (y:Int×Tbl) (hy:y=runT d X (g.map Prod.snd)):
 dY jz [.c (.d (.sl (zq d))),.agg P.cs] (wO y):=by
 refine zC ?_;obtain⟨l,hl⟩:∃l,l=g.map Prod.snd:=⟨_,rfl⟩;have ar:l.length=g.length:=d9
 have ah:∀i (h:i<g.length),l[i]' d8 =g[i].2:=λi h=>d9
 rw[<-hl]at hy;obtain⟨O,aa⟩:∃O,O=sc::g.map w8:=⟨_,rfl⟩;have ao:O.length=g.length+1:=d9
 have af:(qT O)[((0:Int)).toNat]?=some [sc]:=by rw[aa];rfl
 have ag:∀i (h:i<g.length),(qT O)[(((i+1:Nat):Int)).toNat]?=some [w8 g[i]]:=λi h=>by grind[Kd]
 rw[<-aa]at p;clear aa hl;obtain⟨op,tb,col,lo,hi,⟨al,⟨eo,nm,⟨vk,vn,vs⟩,aj⟩,ab,ak,ad,ac,n,an⟩,ks⟩:=P;obtain⟨R,hR⟩:∃R,R=erR d l K y:=⟨_,rfl⟩;refine uz.s T8 ?_;refine aC J ?_;refine aC p ?_;refine yq (P:=Pg) (f:=T8.f) (body:=(uz.l 0)) (erS d O) (λz=>match z with|none=>g.length+5|some (i,_)=>g.length-i) R ⟨none,by rw[hR];trivial,ze ?_⟩ ?_
 .exact rfl
 clear J p;clear op tb col lo hi al eo nm vk vn vs aj ab ak ad ac n an ks;have o:((qT O).length:Int)=(g.length:Int)+1:=by grind[abF]
 rintro(_|⟨i,t⟩) h
 .show mwpR Pg T8.f (uz.l 0) _ (erS d O none);unfold erS;obtain⟨xc,xr⟩:=X;(conv=>whnf);rw[o];refine zx (λU=>?_) (λU=>?_)
  ·(conv=>whnf);refine⟨d8,_,af,rfl,?_⟩;refine aC ai ?_;refine⟨some (0,⟨xc,xr⟩),⟨by rw[hR];exact⟨d8,h0,hy⟩,d9⟩,ze ?_⟩;(conv=>whnf);rw[<-o];rfl
  have:=bK U;omega
 rw[hR]at h;obtain⟨hi,ae,j⟩:i<=l.length/\K i t/\y=runT d t (l.drop i):=h;show mwpR Pg T8.f (uz.l 0) _ (erS d O (some (i,t)));unfold erS;obtain⟨tc,tr⟩:=t;(conv=>whnf);rw[o];refine zx (λU=>?_) (λU=>?_)
 .have I:i<g.length:=by have U:decide (((i+1:Nat):Int)<(g.length:Int)+1)=true:=U;have:=aV U;omega
  have hg:=ag i I;have ho:=hO i I _ ae;have hk:=hK i I _ ae;have wi:aK.wrap (((i+1:Nat):Int)+1)=((i+1+1:Nat):Int):=by grind[yf]
  rw[zt (show i<l.length by omega),ah i I]at j;simp only[runT]at j;generalize g[i]=z at*;generalize w8 z=zd at*;generalize nStepT d ⟨tc,tr⟩ z.2=x at*;obtain⟨x1,⟨x2,x3⟩⟩:=x;clear hO hK ag af ai ah;(conv=>whnf);refine⟨d8,_,hg,rfl,?_⟩;refine aC ho ?_;refine zx (b:=x1 !=0) (λh4=>?_) (λh4=>?_)
  .simp only[h4,aE]at j;subst j;exact⟨rfl,rfl⟩
  simp only[h4,aB]at j;(conv=>whnf);refine⟨some (i+1,⟨x2,x3⟩),⟨by rw[hR];exact⟨d8,hk d9,j⟩,d9⟩,ze ?_⟩;(conv=>whnf);rw[wi,<-o];rfl
 have aq:g.length<=i:=d9
 rw[aR d8]at j;have j:y=(0,⟨tc,tr⟩):=j;subst j;exact⟨rfl,rfl⟩
def rdS(d:am Nmd)(p:Pln):S:=⟨[(0,.w (.c (.d (.sl (zq d))))),(3,cV (.ptr 3 0))],[(3,.box p.cs)]⟩
theorem agZ(d:am Nmd)(P:Pln)(I:dY uQ [.c (.d (.sl (zq d))),.agg P.cs] (rI 0))(B:Pln)(m:Nat)(hc:KI B P m)(X:Tbl)(hX:dY x8 [.agg B.cs,.c (.d (.sl (zq d)))] ⟨.w X.w,[]⟩):
 dY afE [.c (.d (.sl (zq d))),.agg P.cs] (rII (X.rows.length,0)):=by
 obtain⟨R,hR⟩:∃R:Pln×Nat->Prop,∀p l,R (p,l)↔KI B p l:=⟨λz=>KI B z.1 z.2,λ_ _=>Iff.rfl⟩
 replace hc:R (P,m):=(hR _ _).2 hc
 have g:∀op tb col lo hi st ks m,R (.mk op tb col lo hi st ks,m)->(∃k m',ks=[k]/\m'<m/\op≠1/\R (k,m'))\/(ks=[]/\op=1/\B.cs=(Pln.mk op tb col lo hi st ks).cs):=λop tb col lo hi st ks m h=>by grind[agj]
 clear hR;rw[<-zy];obtain⟨xc,xr⟩:=X;obtain⟨op,tb,col,lo,hi,⟨ac,⟨eo,nm,⟨vk,vn,vs⟩,U⟩,i,ab,o,j,n,ad⟩,ks⟩:=P;refine kQ.s T8 ?_;refine aC I ?_;refine yq (P:=Pg) (f:=T8.f) (body:=(kQ.l 0)) (λz:Pln×Nat=>rdS d z.1) (λz=>z.2) R ⟨(_,m),hc,ze ?_⟩ ?_
 .exact rfl
 clear hc I;clear op tb col lo hi ac eo nm vk vn vs U i ab o j n ad ks m;rintro⟨p,m⟩ h;show mwpR Pg T8.f (kQ.l 0) _ (rdS d p);unfold rdS;obtain⟨op,tb,col,lo,hi,⟨ac,⟨eo,nm,⟨vk,vn,vs⟩,U⟩,i,ab,o,j,n,ad⟩,ks⟩:=p;rcases g _ _ _ _ _ _ _ _ h with⟨k,m',rfl,hm,aa,h2⟩|⟨rfl,rfl,hB⟩
 .obtain⟨kd,J⟩:∃kd,kd=k.ds:=⟨_,rfl⟩;have hK:plnsD [k]=[kd]:=by rw[J];rfl
  have aa:(op !=1)=true:=d9
  clear h g;rw[vu,hK];(conv=>whnf);rw[aa];(conv=>whnf);obtain⟨av,aw,ah,ar,ao,⟨ak,⟨an,au,⟨ax,ay,az⟩,ai⟩,ae,aj,ag,af,n1,al⟩,aq⟩:=k;refine⟨d8,_,rfl,by rw[J];rfl,?_⟩;subst J;(conv=>whnf);refine⟨(_,m'),⟨h2,hm⟩,ze ?_⟩;exact rfl
 clear h g;rw[hB]at hX;refine aC hX ?_;rfl
theorem ag0(d:am Nmd)(P:Pln)(e:Int)(p:(e !=0)=true)(g:dY uQ [.c (.d (.sl (zq d))),.agg P.cs] (rI e)):dY jz [.c (.d (.sl (zq d))),.agg P.cs] (wO (e,⟨[],[]⟩)):=by refine zC ?_;obtain⟨op,tb,col,lo,hi,⟨J,⟨U,nm,⟨vk,vn,vs⟩,o⟩,i,I,l,j,n,R⟩,ks⟩:=P;refine uz.s T8 ?_;refine aC g ?_;rw[p];exact⟨rfl,rfl⟩
end
section
open Go Go.AM
attribute [local irreducible] Sat zA zX
theorem uD(cols:am Col)(rows:D)(g:am ByteArray)(hn:g.length<=1000000):dY alL [.agg [.d (.sl (zl cols)),.d rows],.c (.d (.sl (zp g)))] (rC (.d (.sl (zh (zi cols g))))):=by
 refine zC ?_;refine Us.s T8 ?_;refine yy (P:=Pg) (f:=T8.f) (body:=(Us.l 0)) g.length (λi=>ae7 cols rows g i (zi cols (g.take i))) (λ_=>True) ⟨trivial,⟨_,ya 5 19 1 d8 d8 rfl,?_⟩⟩ ?_
 .exact rfl
 intro i hi _;have aa:(zi cols (g.take i)).length=i:=by grind[zi]
 have o:∀h:i<g.length,zi cols (g.take (i+1))=zi cols (g.take i)++[zf cols g[i]]:=λh=>by grind[zi,zJ]
 have I:g.length<=i->zi cols g=zi cols (g.take i):=λh=>d9
 show mwpR Pg T8.f (Us.l 0) _ (ae7 cols rows g i (zi cols (g.take i)));generalize zi cols (g.take i)=T at*;have J:(zh T).take T.length=zh T:=by grind[zE]
 unfold ae7;refine zj (λU=>?_) (λU=>?_)
 .have j:i<g.length:=by simp_all[zP]
  have hg:=vh j;have o:=o j;have p:=xC cols (.d rows) g[i] ⟨rows,rfl⟩;generalize g[i]=x at*;generalize zf cols x=c at*;(conv=>whnf);refine⟨d8,_,hg,rfl,?_⟩;refine aC p ?_;refine⟨dT,by grind[yz],dX,?_⟩;(conv=>whnf);refine⟨j,trivial,ze ?_⟩;(conv=>whnf);rw[zB j d8,J,o,<-vV,aA];rfl
 have R:g.length<=i:=by grind[zP]
 rw[I R];(conv=>whnf);refine⟨rfl,?_⟩;show Res.mk (.w (.c (.d (.sl ((zh T).take T.length))))) []=_;rw[J];rfl
theorem ad7(row:am Val)(at_:am Int)(hn:at_.length<=1000000)(R:zS row.length at_):dY ap5 [yu row,.c (.d (.sl (zh at_)))] (rC (.d (.sl (rowD (zn row at_))))):=by
 refine zC ?_;refine kR.s T8 ?_;refine yy (P:=Pg) (f:=T8.f) (body:=(kR.l 0)) at_.length (λi=>aaO row at_ i (zn row (at_.take i))) (λ_=>True) ⟨trivial,⟨_,ya 5 20 3 d8 d8 rfl,?_⟩⟩ ?_
 .exact rfl
 intro i hi _;have aa:(zn row (at_.take i)).length=i:=by grind[zn]
 have j:∀h:i<at_.length,zn row (at_.take (i+1))=zn row (at_.take i)++[at0 row (at_[i]).toNat]:=λh=>by grind[zn,zJ]
 have o:at_.length<=i->zn row at_=zn row (at_.take i):=λh=>d9
 show mwpR Pg T8.f (kR.l 0) _ (aaO row at_ i (zn row (at_.take i)));generalize zn row (at_.take i)=T at*;have p:(rowD T).take T.length=rowD T:=by grind[zu]
 unfold aaO;refine zj (λU=>?_) (λU=>?_)
 .have g:i<at_.length:=by simp_all[zE]
  have hg:=xg g;have j:=j g;have hk:=R _ (aD g);generalize at_[i]=k at*;have J:(rowD row)[k.toNat]?=some (at0 row k.toNat).ds:=by grind[at0,rowD]
  generalize at0 row k.toNat=v at*;obtain⟨v1,v2,v3⟩:=v;(conv=>whnf);refine⟨d8,_,hg,rfl,?_⟩;(conv=>whnf);(conv=>whnf);refine⟨hk.1,_,J,rfl,?_⟩;(conv=>whnf);refine⟨dT,by grind[yz],dX,?_⟩;(conv=>whnf);refine⟨g,trivial,ze ?_⟩;(conv=>whnf);rw[zB g d8,p,j,<-uu,aA];rfl
 have I:at_.length<=i:=by grind[zE]
 rw[o I];(conv=>whnf);refine⟨rfl,?_⟩;show Res.mk (.w (.c (.d (.sl ((rowD T).take T.length))))) []=_;rw[p];rfl
theorem ad8(cols:am Col)(rows:D)(g:am ByteArray)(aa:cols.length<=1000000):dY kZ [.agg [.d (.sl (zl cols)),.d rows],.c (.d (.sl (zp g)))] (rC (.d (.sl (zh (oth g 0 cols))))):=by
 refine zC ?_;refine kS.s T8 ?_;rw[z8];refine yq (P:=Pg) (f:=T8.f) (body:=(kS.l 0)) (λx:Nat×am Int=>trS cols g x.1 x.2) (λx=>cols.length-x.1) (λx=>x.1<=cols.length/\x.2.length<=x.1/\oth g 0 cols=x.2++oth g x.1 (cols.drop x.1)) ⟨(0,[]),⟨aN _,aI _,rfl⟩,⟨_,ya 5 24 1 d8 d8 rfl,?_⟩⟩ ?_
 .exact rfl
 rintro⟨i,A⟩ hx;obtain⟨hi,hA,o⟩:i<=cols.length/\A.length<=i/\oth g 0 cols=A++oth g i (cols.drop i):=hx;show mwpR Pg T8.f (kS.l 0) _ (trS cols g i A);have I:(zh A).take A.length=zh A:=by grind[zE]
 unfold trS;refine zj (λh1=>?_) (λh1=>?_)
 .have j:i<cols.length:=dW
  rw[zt j]at o;simp only[oth]at o;have hg:=xJ j;have U:=zB j d8;have p:=yk g cols[i].name;generalize cols[i]=c at*;obtain⟨c1,c2⟩:=c;simp only at o p;generalize hasB g c1=b at*;(conv=>whnf);refine⟨d8,_,hg,rfl,?_⟩;refine aC p ?_;refine zx (b:=!b) (λJ=>?_) (λJ=>?_)
  .rw[J,aE]at o;(conv=>whnf);refine⟨dT,by grind[yz],dX,?_⟩;(conv=>whnf);refine⟨(i+1,A++[(i:Int)]),⟨⟨j,dX,?_⟩,d9⟩,ze ?_⟩
   .grind
   (conv=>whnf);rw[U,I];show _=trS cols g (i+1) (A++[(i:Int)]);unfold trS;rw[aA,<-vV];rfl
  rw[J,aB,List.nil_append]at o;(conv=>whnf);refine⟨(i+1,A),⟨⟨j,d9,o⟩,d9⟩,ze ?_⟩;(conv=>whnf);rw[U];rfl
 have R:cols.length<=i:=d9
 rw[aR R]at o;have o:oth g 0 cols=A:=by grind[oth]
 rw[o];(conv=>whnf);refine⟨rfl,?_⟩;show Res.mk (.w (.c (.d (.sl ((zh A).take A.length))))) []=_;rw[I];rfl
theorem ak6(row:am Val)(p q:Int)(l:0<=p/\p<row.length)(o:0<=q/\q<row.length):dY ap6 [yu row,.c (.d (.sl (zh [p,q])))] (WC (at0 row p.toNat) (at0 row q.toNat)):=by
 have g:∀k:Int,0<=k/\k<row.length->(rowD row)[k.toNat]?=some (at0 row k.toNat).ds:=λk hk=>by grind[at0,rowD]
 have i:=g p l;have j:=g q o;generalize at0 row p.toNat=a at*;generalize at0 row q.toNat=b at*;obtain⟨I,a2,a3⟩:=a;obtain⟨J,P,R⟩:=b;refine apP.s T8 ?_
 repeat' (first
  |(refine⟨d8,[.lit (.int .i64 p)],rfl,rfl,?_⟩;conv=>whnf)
  |(refine⟨d8,[.lit (.int .i64 q)],rfl,rfl,?_⟩;conv=>whnf)
  |(refine⟨l.1,_,i,rfl,?_⟩;conv=>whnf)
  |(refine⟨o.1,_,j,rfl,?_⟩;conv=>whnf)
  |(refine dr ?_ ?_<;>conv=>whnf))
 all_goals refine zx (λh=>?_) (λh=>?_)
 all_goals conv=>whnf
 all_goals repeat' (first
  |(refine dr ?_ ?_<;>conv=>whnf))
 all_goals have h:(I==2&&J==2)=_:=h
 all_goals simp only[WC,xx,h,dw,de]
 all_goals rfl
def ui(a b:Int):Bool:=decide (a>=0)&&decide (a<b)&&decide (b<=1000000000000)
theorem kz(a b:Int):dY alO [.agg [int a,int b]] (rB (ui a b)):=by refine yA T8 alz.ok dU ?_;exact rfl
end
section
open Go Go.AM
attribute [local irreducible] Sat zA zX zo
structure Spa where
 a:Int
 b:Int
def Spa.ds(s:Spa):am D:=[.lit (.int .i64 s.a),.lit (.int .i64 s.b)]
def wG(l:am Spa):am (am D):=l.map Spa.ds
theorem Vy(l:am Spa):(wG l).length=l.length:=by simp[wG]
theorem apq(a b:am Spa):wG (a++b)=wG a++wG b:=by simp[wG]
def Ji(p q:Nat)(row:am Val):aT Spa:=
 bif xx (at0 row p) (at0 row q)then(bif ui (at0 row p).n (at0 row q).n then some ⟨(at0 row p).n,(at0 row q).n⟩else none)else some ⟨0,0⟩
def qm(p q:Nat):am (am Val)->aT (am Spa)
 |[]=>some []
 |r::g=>match Ji p q r with
  |some s=>(qm p q g).map (s:: ·)
  |none=>none
def rSO:aT (am Spa)->Res
 |some l=>⟨.tup [.c (.d (.sl (wG l))),.c (bool true)],[]⟩
 |none=>⟨.tup [.c (.d (.sl [])),.c (bool false)],[]⟩
def spS(p q:Int)(rows:am (am Val))(i:Nat)(g:am Spa):S:=⟨[(4,.w (.c (.d (.sl (zh [p,q]))))),(5,cV (.own 38 2 g.length)),(14,.w (.c (.d (.sl (zg rows))))),(15,zm rows.length),(16,zm i)],[(38,.arr 2 (wG g) false)]⟩
theorem aqv(cols:am Col)(rows:am (am Val))(hl:rows.length<=20000)(p q:Int)(hp:zf cols sFrom=p)(hq:zf cols sTo=q)(ab:∀r∈rows,(0<=p/\p<r.length)/\(0<=q/\q<r.length)):
 dY Y5 [Tbl.w ⟨cols,rows⟩] (rSO (qm p.toNat q.toNat rows)):=by
 refine zC ?_;suffices h:∀y,qm p.toNat q.toNat rows=y->Sat Pg Y5 [Tbl.w ⟨cols,rows⟩] (DQ (rSO y))from h _ rfl
 intro y hy;have I:=uD cols (.sl (zg rows)) [sFrom,sTo] dV;rw[show zi cols [sFrom,sTo]=[p,q]by grind[zi]]at I;clear hp hq;unfold sFrom sTo at I;refine WZ.s T8 ?_;refine aC I ?_;rw[zy];refine yq (P:=Pg) (f:=T8.f) (body:=(WZ.l 0)) (λz:Nat×am Spa=>spS p q rows z.1 z.2) (λz=>rows.length-z.1) (λz=>z.1<=rows.length/\z.2.length=z.1/\(qm p.toNat q.toNat (rows.drop z.1)).map (z.2++ ·)=y) ⟨(0,[]),⟨aN _,rfl,dW⟩,⟨_,ya 5 38 2 d8 d8 rfl,?_⟩⟩ ?_
 .exact rfl
 rintro⟨i,g⟩ ⟨hi,U,j⟩;have hi:i<=rows.length:=hi;have U:g.length=i:=U;have j:(qm p.toNat q.toNat (rows.drop i)).map (g++ ·)=y:=j;have R:(wG g).take g.length=wG g:=by grind[Vy]
 clear hy;show mwpR Pg T8.f (WZ.l 0) _ (spS p q rows i g);unfold spS;refine zj (λh1=>?_) (λh1=>?_)
 .have o:i<rows.length:=dW
  have hg:=yS o;have wi:=zB o d8;obtain⟨hp,hq⟩:=ab _ (aD o);have J:=ak6 rows[i] p q hp hq;rw[zt o]at j;simp only[qm,Ji]at j;generalize rows[i]=x at*;unfold WC at J;have hv:=kz (at0 x p.toNat).n (at0 x q.toNat).n;generalize xx (at0 x p.toNat) (at0 x q.toNat)=b at*;generalize at0 x p.toNat=u at*;generalize at0 x q.toNat=v at*;obtain⟨u1,u2,u3⟩:=u;obtain⟨v1,v2,v3⟩:=v;simp only at J hv j;generalize ui u2 v2=b2 at*;(conv=>whnf);refine⟨d8,_,hg,rfl,?_⟩;refine aC J ?_;cases b with
  |false=>
   simp only[aB]at j;(conv=>whnf);refine⟨dT,by grind[yz],dX,?_⟩;(conv=>whnf);refine⟨(i+1,g++[(⟨0,0⟩:Spa)]),⟨⟨d9,d9,?_⟩,d9⟩,ze ?_⟩
   .show(qm p.toNat q.toNat (rows.drop (i+1))).map ((g++[(⟨0,0⟩:Spa)])++ ·)=y;rw[<-j];cases qm p.toNat q.toNat (rows.drop (i+1))with
    |none=>rfl
    |some l=>simp
   conv=>whnf
   dsimp only
   rw[wi,R,apq,aA];rfl
  |true=>
   simp only[aE]at j;(conv=>whnf);refine cP (hv) ?_;cases b2 with
   |false=>
    simp only[aB]at j;have j:none=y:=j;subst j;exact⟨rfl,rfl⟩
   |true=>
    simp only[aE]at j;(conv=>whnf);refine⟨dT,by grind[yz],dX,?_⟩;(conv=>whnf);refine⟨(i+1,g++[(⟨u2,v2⟩:Spa)]),⟨⟨d9,d9,?_⟩,d9⟩,ze ?_⟩
    .show(qm p.toNat q.toNat (rows.drop (i+1))).map ((g++[(⟨u2,v2⟩:Spa)])++ ·)=y;rw[<-j];cases qm p.toNat q.toNat (rows.drop (i+1))with
     |none=>rfl
     |some l=>simp
    conv=>whnf
    dsimp only
    rw[wi,R,apq,aA];rfl
 have aa:rows.length<=i:=d9
 rw[aR aa]at j;have j:some (g++[])=y:=j;rw[bE]at j;subst j;(conv=>whnf);refine⟨rfl,?_⟩;show Res.mk (.tup [.c (.d (.sl ((wG g).take g.length))),.c (bool true)]) []=_;rw[R];rfl
end
section
open Go Go.AM
attribute [local irreducible] Sat zA zX
def qc(row:am Val)(at_:am Int):aT ByteArray:=(uq row at_).map λl=>⟨l.toArray⟩
def uw(at_:am Int)(k:ByteArray):Nat->am (am Val)->am Int
 |_,[]=> []
 |i,r::g=>(bif decide (qc r at_=some k)then [(i:Int)]else [])++uw at_ k (i+1) g
theorem am7(at_:am Int)(k:ByteArray)(r:am Val):∀(i:Nat) (g:am (am Val)),uw at_ k i (g++[r])=uw at_ k i g++(bif decide (qc r at_=some k)then [((i+g.length:Nat):Int)]else [])
 |i,[]=>by simp[uw]
 |i,x::g=>by simp only[bL,uw,am7 at_ k r (i+1) g,bH,aP];rw[show i+1+g.length=i+(g.length+1)by omega]
abbrev Bkt:Type:=am (ByteArray×am Int)
def Bk(F:ByteArray->am Int)(m:Bkt):Prop:=(m.map (·.1)).Nodup/\(∀x∈m,x.2=F x.1/\x.2≠ [])/\∀k,F k≠ []->∃x∈m,x.1=k
def bkE(l:am Int):am AM.T:=[.sl 1 ((zh l).map (·.map AM.T.d))]
def Zc(m:Bkt):am Value:=m.map λx=>.string x.1
def Q4(m:Bkt):am (am AM.T):=m.map λx=>bkE x.2
theorem akd(l:am (am D)):tsD (l.map (·.map AM.T.d))=some l:=by
 have g:∀r:am D,XR (r.map AM.T.d)=some r:=λr=>by induction r<;>grind[XR,AM.T.toD]
 induction l<;>grind[tsD]
theorem Bk.nil(at_:am Int)(rows:am (am Val)):Bk (λk=>uw at_ k 0 (rows.take 0)) []:=⟨dT,dT,λk h=>absurd rfl h⟩
theorem azL(at_:am Int){rows:am (am Val)}{i:Nat}(h:i<rows.length)(k:ByteArray):uw at_ k 0 (rows.take (i+1))=uw at_ k 0 (rows.take i)++(bif decide (qc rows[i] at_=some k)then [(i:Int)]else []):=by rw[zJ h,am7,aL,Nat.min_eq_left d8,cU]
theorem Bk.skip{F G:ByteArray->am Int}{m:Bkt}(h:Bk F m)(g:∀k,G k=F k):Bk G m:=by
 have:G=F:=funext g
 grind
theorem Bk.new{F G:ByteArray->am Int}{m:Bkt}(h:Bk F m){k:ByteArray}{n:Int}(hk:k∉m.map (·.1))(J:∀q,G q=F q++(bif decide (some k=some q)then [n]else [])):Bk G (m++[(k,[n])]):=by
 obtain⟨j,l,o⟩:=h;have p:F k=[]:=by cases I:F k<;>simp_all
 have g:∀x∈m,(some k=some x.1)=False:=λx i=>by
  simp only[Option.some.injEq,eq_iff_iff,iff_false]
  grind
 refine⟨?_,λx i=>?_,λq P=>?_⟩
 .grind
 .grind
 by_cases e:k=q
 .simp_all
 have r:decide (some k=some q)=false:=by simpa using e
 simp_all
theorem Bk.old{F G:ByteArray->am Int}{m:Bkt}(h:Bk F m){k:ByteArray}{l:am Int}{n:Int}{j:Nat}(o:m[j]?=some (k,l))(hg:∀q,G q=F q++(bif decide (some k=some q)then [n]else [])):Bk G (m.set j (k,l++[n])):=by
 obtain⟨R,U,h3⟩:=h;have g:=(am.getElem?_eq_some_iff.1 o).1;have p:(m.set j (k,l++[n])).map (·.1)=m.map (·.1):=by rw[bV];apply bZ;intro i;rw[am.getElem?_set];split<;>simp_all
 refine⟨d9,λx I=>?_,λq r=>?_⟩
 .obtain⟨i,hi⟩:=List.mem_iff_getElem?.1 I;rw[am.getElem?_set]at hi;split at hi
  .rename_i e;subst e;first|(rw[bX g]at hi;cases hi)|cases hi
   have h4:l=F k:=(U _ (aJ o)).1;simp_all
  rename_i e;have ab:=aJ hi;have aa:k≠x.1:=λP=>by
   have J:(m.map (·.1))[i]?=some k:=d9
   have a2:(m.map (·.1))[j]?=some k:=d9
   have:j=i:=(am.getElem?_inj d9 R).1 (a2.trans J.symm)
   grind
  grind
 by_cases e:k=q
 .exact⟨(k,l++[n]),aJ (i:=j) dW,e⟩
 have hd:decide (some k=some q)=false:=by simpa using e
 rw[hg,hd,aB,bE]at r;obtain⟨x,I,P⟩:=h3 q r;have:q∈(m.set j (k,l++[n])).map (·.1):=d9
 grind
theorem ahq(at_:am Int)(k:ByteArray):∀(i:Nat) (g:am (am Val)),(uw at_ k i g).length<=g.length
 |_,[]=>aI _
 |i,r::g=>by have:=ahq at_ k (i+1) g;simp only[uw,aA,aP];cases decide (qc r at_=some k)<;>simp<;>omega
theorem Jx{m:Bkt}{j:Nat}{k:ByteArray}(h:(Zc m)[j]?=some (.string k)):∃l,m[j]?=some (k,l):=by grind[Zc]
theorem Jm(m:Bkt):∀q∈Zc m,wC none q=true:=λq g=>by simp only[Zc,bG]at g;obtain⟨x,_,rfl⟩:=g;rfl
theorem af9{m:Bkt}{k:ByteArray}:Value.string k∈Zc m↔k∈m.map (·.1):=by simp[Zc]
theorem at4(m:Bkt)(k:ByteArray)(l:am Int):Zc m++[.string k]=Zc (m++[(k,l)]):=by simp[Zc]
theorem at5(m:Bkt)(k:ByteArray)(l:am Int):Q4 m++[bkE l]=Q4 (m++[(k,l)]):=by simp[Q4]
theorem ana(m:Bkt)(j:Nat)(k:ByteArray)(l:am Int):(Q4 m).set j (bkE l)=Q4 (m.set j (k,l)):=by grind[Q4,bV]
theorem am8{m:Bkt}{j:Nat}{k:ByteArray}{l l':am Int}(h:m[j]?=some (k,l)):Zc (m.set j (k,l'))=Zc m:=by
 unfold Zc;rw[bV];apply bZ;intro i;rw[am.getElem?_set];split
 .rename_i e;subst e;rw[bX d9,am.getElem?_map,h];rfl
 rfl
def bkS(at_:am Int)(rows:am (am Val))(i:Nat)(m:Bkt):S:=⟨[(1,.w (.c (.d (.sl (zh at_))))),(5,.w (.c (.root 10))),(12,.w (.c (.d (.sl (zg rows))))),(13,zm rows.length),(14,zm i)],[(10,.deep (.mp false (Zc m) (Q4 m)))]⟩
theorem afR(cols:am Col)(rows:am (am Val))(at_:am Int)(hl:rows.length<=1000000)(R:at_.length<=1000000)(ad:∀r∈rows,zS r.length at_)(hv:∀r∈rows,∀v∈r,VS v):
 Sat Pg aac [Tbl.w ⟨cols,rows⟩,.c (.d (.sl (zh at_)))] (λr=>∃m,Bk (λk=>uw at_ k 0 rows) m/\r=⟨.w (.c (.root 0)),[.deep (.mp false (Zc m) (Q4 m))]⟩):=by
 refine WY.s T8 ?_;rw[zy];refine yq (P:=Pg) (f:=T8.f) (body:=(WY.l 0)) (λz:Nat×Bkt=>bkS at_ rows z.1 z.2) (λz=>rows.length-z.1) (λz=>z.1<=rows.length/\Bk (λk=>uw at_ k 0 (rows.take z.1)) z.2) ⟨(0,[]),⟨aN _,Bk.nil at_ rows⟩,ze ?_⟩ ?_
 .exact rfl
 rintro⟨i,m⟩ ⟨hi,p⟩;have hi:i<=rows.length:=hi;have p:Bk (λk=>uw at_ k 0 (rows.take i)) m:=p;show mwpR Pg T8.f (WY.l 0) _ (bkS at_ rows i m);unfold bkS;refine zj (λh1=>?_) (λh1=>?_)
 .have g:i<rows.length:=dW
  have hg:=yS g;have wi:=zB g d8;have hk:=ae3 rows[i] at_ (ad _ (aD g)) R (hv _ (aD g));have ab:=azL at_ g;have ac:∀x∈m,x.2.length<=i:=λx hx=>by
   have e1:x.2=uw at_ x.1 0 (rows.take i):=(p.2.1 x hx).1
   grind[ahq]
  have aa:qc rows[i] at_=(uq rows[i] at_).map λl=>⟨l.toArray⟩:=rfl
  generalize qc rows[i] at_=ko at*;generalize uq rows[i] at_=kp at*;generalize rows[i]=x at*;cases kp with
  |none=>
   subst aa;(conv=>whnf);refine⟨d8,_,hg,rfl,?_⟩;refine aC hk ?_;refine⟨(i+1,m),⟨⟨g,p.skip λk=>d9⟩,d9⟩,ze ?_⟩;(conv=>whnf);rw[wi];rfl
  |some l=>
   obtain⟨k,U⟩:∃k:ByteArray,k=⟨l.toArray⟩:=⟨_,rfl⟩;have af:dY Wm [yu x,.c (.d (.sl (zh at_)))] ⟨.tup [.c (str k),.c (bool true)],[]⟩:=by rw[U];exact hk
   obtain rfl:ko=some k:=d9
   clear aa hk U;(conv=>whnf);refine⟨d8,_,hg,rfl,?_⟩;refine aC af ?_;refine⟨rfl,?_⟩;(conv=>whnf);refine⟨rfl,Jm m,λI=>?_,λj e hj he=>?_⟩
   ·(conv=>whnf);refine⟨dT,by grind[yz],dT,?_⟩;(conv=>whnf);refine⟨rfl,?_⟩;(conv=>whnf);refine⟨rfl,Jm m,λj hj=>absurd (aJ hj) I,λ_=>?_⟩;(conv=>whnf);refine⟨(i+1,m++[(k,[(i:Int)])]),⟨⟨g,p.new (λh=>I (af9.2 h)) ab⟩,d9⟩,ze ?_⟩;(conv=>whnf);rw[wi];show _=bkS at_ rows (i+1) (m++[(k,[(i:Int)])]);unfold bkS;rw[<-at4,<-at5];rfl
   obtain⟨o,J⟩:=Jx hj;obtain rfl:e=bkE o:=by grind[Q4]
   have ai:o.length<=i:=ac _ (aJ J);unfold bkE;(conv=>whnf);refine⟨zh o,akd _,?_⟩;(conv=>whnf);rw[zE];refine⟨dT,by grind[yz],dX,?_⟩;(conv=>whnf);refine⟨rfl,?_⟩;(conv=>whnf);refine⟨rfl,Jm m,λj2 ae=>?_,λh=>absurd (aJ hj) h⟩;obtain rfl:j2=j:=by
    obtain⟨l2,ak⟩:=Jx ae;have a1:(m.map (·.1))[j2]?=some k:=d9
    have a2:(m.map (·.1))[j]?=some k:=d9
    exact(am.getElem?_inj d9 p.1).1 (a1.trans a2.symm)
   (conv=>whnf);refine⟨(i+1,m.set j2 (k,o++[(i:Int)])),⟨⟨g,p.old J ab⟩,d9⟩,ze ?_⟩;(conv=>whnf);have ag:(zh o).take o.length=zh o:=by grind[zE]
   have ah:(zh o++[[D.lit (.int .i64 i)]]).take (o.length+1)=zh (o++[(i:Int)]):=by rw[<-vV];exact bA d9
   rw[wi];show _=bkS at_ rows (i+1) (m.set j2 (k,o++[(i:Int)]));unfold bkS;rw[am8 J,<-ana];simp only[AM.T.setE,List.set_set,ag,aP,bQ,cU,dt,dh,ah];rfl
 have aj:rows.length<=i:=d9
 have e:i=rows.length:=d8
 subst e;rw[bN]at p;(conv=>whnf);exact⟨m,p,rfl⟩
def bkD(m:Bkt):D:=.mp false (Zc m) (m.map λx=> [D.sl (zh x.2)])
theorem am9:∀m:Bkt,tsD (Q4 m)=some (m.map λx=> [D.sl (zh x.2)])
 |[]=>rfl
 |x::r=>by
  have g:=am9 r;have i:=akd (zh x.2);unfold Q4 at g⊢;have j:XR (bkE x.2)=some [D.sl (zh x.2)]:=by simp only[bkE,XR,AM.T.toD,i]
  simp only[aZ,tsD,j,g]
theorem aoL(cols:am Col)(rows:am (am Val))(at_:am Int)(j:rows.length<=1000000)(g:at_.length<=1000000)(i:∀r∈rows,zS r.length at_)(hv:∀r∈rows,∀v∈r,VS v):
 Sat Pg aac [Tbl.w ⟨cols,rows⟩,.c (.d (.sl (zh at_)))] (λr=>∃m,Bk (λk=>uw at_ k 0 rows) m/\r=rC (.d (bkD m))):=by refine(afR cols rows at_ j g i hv).data ?_;rintro r ⟨m,l,rfl⟩;refine⟨rfl,m,l,?_⟩;have h:=am9 m;unfold bkD;simp only[Res.asData,V.asData,W.asData,C.asData,am.getElem?_cons_zero,AM.T.toD,h];rfl
def hjX(left g:am Int)(br:am (am Val))(F:ByteArray->am Int)(x:am Val):am (am Val):=
 match qc x left with
 |none=> []
 |some k=>(F k).map λi=>x++zn (br.getD i.toNat []) g
def xG(cols:am Col)(l:am (am Val)):Int×Tbl:=bif decide (l.length<=20000)then(0,⟨cols,l⟩)else(7,⟨[],[]⟩)
theorem anb(at_:am Int)(k:ByteArray):∀(i:Nat) (g:am (am Val)),∀n∈uw at_ k i g,(i:Int)<=n/\n<i+g.length
 |_,[],n,h=>by cases h
 |i,r::g,n,h=>by
  simp only[uw,bF]at h;rcases h with h|h
  .cases j:decide (qc r at_=some k)
   .grind
   rw[j,aE,bO]at h
   grind
  have:=anb at_ k (i+1) g n h<;>grind
def hjS(l:am C)(cols:am Col)(left j:am Int)(m:Bkt)(o:am (am Val))(i:Nat)(g:am (am Val)):S:=
 ⟨[(6,cV (.ptr 6 0)),(8,cV (.ptr 8 0)),(10,.w (.c (.d (.sl (zh left))))),(11,.w (.c (.d (.sl (zh j))))),(12,.w (.c (.d (bkD m)))),(13,cV (.ptr 13 0)),(40,.w (.c (.d (.sl (zg o))))),(41,zm o.length),(42,zm i)],
 [(6,.box l),(8,.box [.nil,.nil]),(13,.box [.d (.sl (zl cols)),.own 80 1 g.length]),(80,.arr 1 (zg g) false)]⟩
def hjT(p:am C)(cols:am Col)(left o:am Int)(m:Bkt)(r:am (am Val))(i:Nat)(x:am Val)(l:am Int)(j:Nat)(g:am (am Val)):S:=
 ⟨[(6,cV (.ptr 6 0)),(8,cV (.ptr 8 0)),(10,.w (.c (.d (.sl (zh left))))),(11,.w (.c (.d (.sl (zh o))))),(12,.w (.c (.d (bkD m)))),(13,cV (.ptr 13 0)),(15,.w (yu x)),(40,.w (.c (.d (.sl (zg r))))),(41,zm r.length),(42,zm i),(56,.w (.c (.d (.sl (zh l))))),(57,zm l.length),(58,zm j)],
 [(6,.box p),(8,.box [.nil,.nil]),(13,.box [.d (.sl (zl cols)),.own 80 1 g.length]),(80,.arr 1 (zg g) false)]⟩
theorem akI{cols:am Col}{l:am (am Val)}(h:20000<l.length):xG cols l=(7,⟨[],[]⟩):=by grind[xG]
theorem azo{Q:E->S->Prop}{s:S}(J:am Col)(br:am (am Val))(cols:am Col)(left g:am Int)(m:Bkt)(U:am (am Val))(i:Nat)(x:am Val)(l:am Int)(p R:am (am Val))(y:Int×Tbl)
 (I:p.length<=20000) (aj:l.length<=1000000) (ak:g.length<=100000) (hx:x.length<=100000) (hl:∀n∈l,0<=n/\n<br.length) (al:∀r∈br,zS r.length g)
 (hy:y=xG cols (p++(l.map (λn=>x++zn (br.getD n.toNat []) g)++R)))
 (h0:y8 s [6,8,10,11,12,13,15,40,41,42,56,57,58] (· =hjT [.d (.sl (zl J)),.d (.sl (zg br))] cols left g m U i x l 0 p))
 (aa:∀T:am (am Val),y=(7,⟨[],[]⟩)->Q .ret ⟨[(8,cV (.ptr 8 0)),(9,zm 7)],[(6,.box [.d (.sl (zl J)),.d (.sl (zg br))]),(8,.box [.nil,.nil]),(13,.box [.d (.sl (zl cols)),.own 80 1 T.length]),(80,.arr 1 (zg T) false)]⟩)
 (hQ:∀T:am (am Val),T.length<=20000->y=xG cols (T++R)->Q (.exit 2) (xM (hjT [.d (.sl (zl J)),.d (.sl (zg br))] cols left g m U i x l l.length T) 59 (zZ (decide ((l.length:Int)<l.length))))):
 zX (mwpR Pg T8.f (qF.l 0)) [6,8,10,11,12,13,15,40,41,42,56,57,58] Q s:=by
 refine yq (P:=Pg) (f:=T8.f) (body:=(qF.l 0)) (λz:Nat×am (am Val)=>hjT [.d (.sl (zl J)),.d (.sl (zg br))] cols left g m U i x l z.1 z.2) (λz=>l.length-z.1)
  (λz=>z.1<=l.length/\z.2.length<=20000/\y=xG cols (z.2++((l.drop z.1).map (λn=>x++zn (br.getD n.toNat []) g)++R))) ⟨(0,p),⟨aN _,I,hy⟩,h0⟩ ?_
 clear h0 hy I;rintro⟨j,T⟩ ⟨hj,hT,hR⟩;have hj:j<=l.length:=hj;have hT:T.length<=20000:=hT;have hR:y=xG cols (T++((l.drop j).map (λn=>x++zn (br.getD n.toNat []) g)++R)):=hR;show mwpR Pg T8.f (qF.l 0) _ (hjT [.d (.sl (zl J)),.d (.sl (zg br))] cols left g m U i x l j T);have ah:(zg T).take T.length=zg T:=by grind[zy]
 unfold hjT;refine rgE (λo=>?_) (λad=>?_)
 .have hg:=xg o;have wi:=zB o d8;have hn:=hl _ (aD o);rw[zt o,aZ]at hR;clear hQ;generalize l[j]=n at*;have ae:(zg br)[n.toNat]?=some [.sl (rowD (br.getD n.toNat []))]:=by grind[zg]
  have af:=ad7 (br.getD n.toNat []) g d8 d9
  have ac:=vH x (zn (br.getD n.toNat []) g) hx (by grind[zn]);generalize br.getD n.toNat []=b at*;generalize x++zn b g=B at*;refine yb hg ?_;refine zj (b:=(T.length:Int)==20000) (λh2=>?_) (λh2=>?_)
  .have ab:T.length=20000:=by have:=eq_of_beq h2;omega
   have ai:y=(7,⟨[],[]⟩):=by grind[akI]
   (conv=>whnf);exact aa T ai
  have ab:T.length≠20000:=λe=>d9
  refine yb ae ?_ (hA:=hn.1);refine aC af ?_;refine aC ac ?_;refine qr ?_;refine⟨(j+1,T++[B]),⟨⟨o,d9,d9⟩,d9⟩,ze ?_⟩;(conv=>whnf);have ag:(rowD B).take B.length=rowD B:=by grind[zu]
  rw[wi,ah,ag];show _=hjT [.d (.sl (zl J)),.d (.sl (zg br))] cols left g m U i x l (j+1) (T++[B]);unfold hjT;rw[xy,aA];rfl
 subst ad;rw[List.drop_length]at hR;have hQ:=hQ T hT d9;unfold xM hjT at hQ;(conv=>whnf);exact hQ
theorem al8(st:Stp)(a b:Tbl)(cols:am Col)(a8:st.cols.length<=1000000)(a1:a.rows.length<=1000000)(ao:b.rows.length<=1000000)(a2:b.cols.length<=1000000)
 (ad:∀x∈a.rows,zS x.length (zi a.cols st.cols)) (ab:∀y∈b.rows,zS y.length (zi b.cols st.cols)/\zS y.length (oth st.cols 0 b.cols)) (ai:∀x∈a.rows,x.length<=100000) (a7:(oth st.cols 0 b.cols).length<=100000)
 (ah:∀r∈a.rows,∀v∈r,VS v) (ax:∀r∈b.rows,∀v∈r,VS v):
 Sat Pg Wl [st.w,a.w,b.w,.c (.d (.sl (zl cols)))]
  (λr=>r=wO (xG cols (a.rows.flatMap (hjX (zi a.cols st.cols) (oth st.cols 0 b.cols) b.rows (λk=>uw (zi b.cols st.cols) k 0 b.rows))))):=by
 obtain⟨ac,p⟩:=a;obtain⟨bc,br⟩:=b;have ae:=uD ac (.sl (zg p)) st.cols d8;have af:=uD bc (.sl (zg br)) st.cols d8;have ag:=ad8 bc (.sl (zg br)) st.cols d9;have a6:(zi ac st.cols).length=st.cols.length:=by simp[zi]
 have a9:(zi bc st.cols).length=st.cols.length:=by simp[zi]
 have aa:=aoL bc br (zi bc st.cols) ao d8 (λr hr=>(ab r hr).1) ax;obtain⟨op,⟨eo,nm,⟨vk,vn,vs⟩,bh⟩,be,al,bg,bf,n,bj⟩:=st;rw[uB];simp only at ae af ag a6 a9 aa a8 ad ab a1 ao a2 ai ah ax a7⊢;generalize zi ac al=left at*;generalize zi bc al=right at*;generalize oth al 0 bc=g at*;obtain⟨F,hF⟩:∃F:ByteArray->am Int,F= λk=>uw right k 0 br:=⟨_,rfl⟩
 have az:∀k,∀n∈F k,0<=n/\n<br.length:=λk n hn=>by rw[hF]at hn;have:=anb right k 0 br n hn;omega
 have bi:∀k,(F k).length<=br.length:=λk=>by grind[ahq]
 rw[<-hF]at aa⊢;clear hF;obtain⟨y,hy⟩:∃y,y=xG cols (p.flatMap (hjX left g br F)):=⟨_,rfl⟩;rw[<-hy];refine zC ?_;refine qF.s T8 ?_;refine aC ae ?_;refine aC ag ?_;refine aC af ?_;refine cq aa ?_;rintro _ ⟨m,hm,rfl⟩
 conv=>whnf
 rw[zy];refine yq (P:=Pg) (f:=T8.f) (body:=(qF.l 1)) (λz:Nat×am (am Val)=>hjS [.d (.sl (zl bc)),.d (.sl (zg br))] cols left g m p z.1 z.2) (λz=>p.length-z.1) (λz=>z.1<=p.length/\z.2.length<=20000/\y=xG cols (z.2++(p.drop z.1).flatMap (hjX left g br F))) ⟨(0,[]),⟨aN _,aN _,hy⟩,⟨_,uG 13 1 80 1 d8 d8 rfl,?_⟩⟩ ?_
 .exact rfl
 clear ae af ag aa hy;rintro⟨i,o⟩ ⟨hi,I,U⟩;have hi:i<=p.length:=hi;have I:o.length<=20000:=I;have U:y=xG cols (o++(p.drop i).flatMap (hjX left g br F)):=U;show mwpR Pg T8.f (qF.l 1) _ (hjS [.d (.sl (zl bc)),.d (.sl (zg br))] cols left g m p i o);have ba:(zg o).take o.length=zg o:=by grind[zy]
 unfold hjS;refine uT (λJ=>?_) (λa3=>?_)
 .have hg:=yS J;have wi:=zB J d8;have aj:=aD J;have hk:=ae3 p[i] left (ad _ aj) d8 (ah _ aj);have ai:=ai _ aj;rw[zt J,List.flatMap_cons]at U;obtain⟨R,a0⟩:∃R,R=(p.drop (i+1)).flatMap (hjX left g br F):=⟨_,rfl⟩;rw[<-a0]at U;unfold hjX at U;have au:qc p[i] left=(uq p[i] left).map λl=>⟨l.toArray⟩:=rfl
  clear ad ah;generalize qc p[i] left=ko at*;generalize uq p[i] left=kp at*;generalize p[i]=x at*;cases kp with
  |none=>
   subst au;refine yb hg ?_;refine aC hk ?_;refine⟨(i+1,o),⟨⟨J,I,d9⟩,d9⟩,ze ?_⟩;(conv=>whnf);rw[wi];rfl
  |some l=>
   obtain⟨k,aq⟩:∃k:ByteArray,k=⟨l.toArray⟩:=⟨_,rfl⟩;have a4:dY Wm [yu x,.c (.d (.sl (zh left)))] ⟨.tup [.c (str k),.c (bool true)],[]⟩:=by rw[aq];exact hk
   obtain rfl:ko=some k:=d9
   clear au hk aq;have U:y=xG cols (o++((F k).map (λi=>x++zn (br.getD i.toNat []) g)++R)):=U;have ay:=az k;refine yb hg ?_;refine aC a4 ?_;refine⟨rfl,?_⟩;(conv=>whnf);refine⟨rfl,Jm m,λaw=>?_,λj e hj he=>?_⟩
   .have an:F k=[]:=by
     cases hf:F k with
     |nil=>rfl
     |cons u v=>
      obtain⟨z,hz,bd⟩:=hm.2.2 k d9;exact absurd (af9.2 (bG.2 ⟨z,hz,bd⟩)) aw
    rw[an]at U;(conv=>whnf);refine azo bc br cols left g m p i x [] o R y I dT d8 d8 dT (λr hr=>(ab r hr).2) U ⟨_,Qu 56 .nil (.sl []) _ rfl rfl,?_⟩ (λT ak=>?_) (λT hT bb=>?_)
    .exact rfl
    .subst ak;exact⟨rfl,rfl⟩
    unfold xM hjT;(conv=>whnf);refine⟨(i+1,T),⟨⟨J,hT,d9⟩,d9⟩,ze ?_⟩;(conv=>whnf);rw[wi];rfl
   obtain⟨l0,a5⟩:=Jx hj;obtain rfl:e=[D.sl (zh l0)]:=d9
   have av:l0=F k:=(hm.2.1 _ (aJ a5)).1;subst av;(conv=>whnf);rw[zE];refine azo bc br cols left g m p i x (F k) o R y I d9 d8 d8 ay (λr hr=>(ab r hr).2) U (ze ?_) (λT ak=>?_) (λT hT bb=>?_)
   .exact rfl
   .subst ak;exact⟨rfl,rfl⟩
   unfold xM hjT;(conv=>whnf);refine⟨(i+1,T),⟨⟨J,hT,d9⟩,d9⟩,ze ?_⟩;(conv=>whnf);rw[wi];rfl
 rw[aR a3]at U;have U:y=(0,⟨cols,o⟩):=by grind[xG]
 subst U;(conv=>whnf);refine⟨rfl,?_⟩;show Res.mk (.tup [.agg [.d (.sl (zl cols)),.d (.sl ((zg o).take o.length))],.c (int 0)]) []=_;rw[ba];rfl
theorem axc(l:am Int):∀y∈zh l,y.length=1:=λy g=>by grind[zh]
theorem aiq(g:FuncId)(J R:am D)(p:Int->Bool)(l:am Int)(hp:∀x∈l,dY g [.c (int x),.c (.fp J),.c (.fp R)] (rB (p x))):
 dY k8 [.c (.d (.sl (zh l))),.c (.d (.fn g [J,R]))] (rI (yp p 0 l)):=by
 refine vI 0 dU rfl λo=>?_
 rw[zE]at o;refine XA.s T8 ?_;refine yy (P:=Pg) (f:=T8.f) (body:=(XA.l 0)) l.length (λi=>⟨[(0,.w (.c (.d (.sl (zh l))))),(1,.w (.c (.d (.fn g [J,R])))),(7,zm (zh l).length),(8,zm i)],[]⟩) (λi=>yp p 0 l=yp p i (l.drop i)) ⟨rfl,ze ?_⟩ ?_
 .exact rfl
 intro i hi I;refine zj (λh1=>?_) (λh1=>?_)
 .have j:i<l.length:=by simp_all[zE]
  (conv=>whnf);refine⟨d8,_,xg j,rfl,?_⟩;(conv=>whnf);refine cP (hp l[i] (aD j)) ?_;rw[zt j]at I;refine zj (λU=>?_) (λU=>?_)
  .simp only[yp,U,aE]at I;(conv=>whnf);exact aF rI I.symm
  simp only[yp,U,aB]at I;(conv=>whnf);refine⟨j,I,ze ?_⟩;(conv=>whnf);rw[zB j o];rfl
 have aa:l.length<=i:=by grind[zE]
 rw[aR aa]at I;(conv=>whnf);exact aF rI I.symm
def aCe(g:FuncId)(i j:am D)(n:Nat)(x:Nat×Nat×am (am D)):S:=⟨[(0,cV (.own 100000 1 n)),(1,.w (.c (.d (.fn g [i,j])))),(5,zm x.1),(6,zm x.2.1)],[(100000,.arr 1 x.2.2 false)]⟩
theorem agP(g:FuncId)(U c1:am D)(p:Int->Bool)(l:am Int)(hp:∀x∈l,dY g [.c (int x),.c (.fp U),.c (.fp c1)] (rB (p x)))(hl:l.length<=1000000):
 zA Pg Xo [.c (.own 0 1 l.length),.c (.d (.fn g [U,c1]))] [.arr 1 (zh l) false] (λr=>∃o:am (am D),o.take (l.filter λx=>!p x).length=zh (l.filter λx=>!p x)/\r=⟨.w (.c (.own 0 1 (l.filter λx=>!p x).length)),[.arr 1 o false]⟩):=by
 refine qe T8 Xk.ok dU dT ?_
 conv=>whnf
 have ht:(zh l).take l.length=zh l:=by grind[zE]
 rw[ht];refine cP (aiq g U c1 p l hp) ?_;rcases ahJ p l 0 with⟨R,h2⟩|⟨k,R,h2,h3,h4⟩
 .have R:yp p 0 l= -1:=R;rw[R,h2];(conv=>whnf);exact⟨zh l,ht,rfl⟩
 have h2:yp p 0 l=((k:Nat):Int):=d9
 rw[h2];have wk:aK.wrap ((k:Int)+1)=((k+1:Nat):Int):=zB R d8;(conv=>whnf)
 refine yq (P:=Pg) (f:=T8.f) (body:=(Xk.l 0)) (aCe g U c1 l.length) (λx=>l.length-x.2.1)
  (λx=>x.1<x.2.1/\x.2.1<=l.length/\x.2.2.length=l.length/\(∀y∈x.2.2,y.length=1)/\x.2.2.take x.1=zh ((l.take x.2.1).filter λc=>!p c)/\x.2.2.drop x.2.1=zh (l.drop x.2.1))
  ⟨(k,k+1,zh l),⟨d9,d9,zE l,axc l,by grind[zh,List.map_take],by grind[zh,List.map_drop]⟩,ze ?_⟩ ?_
 ·(conv=>whnf);rw[wk];rfl
 rintro⟨i,j,o⟩ hR;have hS:i<j/\j<=l.length/\o.length=l.length/\(∀y∈o,y.length=1)/\o.take i=zh ((l.take j).filter λc=>!p c)/\o.drop j=zh (l.drop j):=hR;clear hR;obtain⟨g1,g2,g3,g4,g5,g6⟩:=hS;refine zj (λh5=>?_) (λh5=>?_)
 .have J:j<l.length:=by have h5:decide ((j:Int)<(l.length:Int))=true:=h5;have:=aV h5;omega
  have ae:j<o.length:=d8
  have ac:o[j]?=some [D.lit (.int .i64 l[j])]:=by grind[zt,zh]
  have aa:o.drop (j+1)=zh (l.drop (j+1)):=by grind[zt,zh]
  have wj:aK.wrap ((j:Int)+1)=((j+1:Nat):Int):=zB J d8;have wi:aK.wrap ((i:Int)+1)=((i+1:Nat):Int):=zB (n:=l.length) d8 d8;have hf:=apW (λc=>!p c) J;(conv=>whnf);refine⟨d9,d9,?_⟩;(conv=>whnf);refine⟨_,ac,?_⟩;refine aC (hp l[j] (aD J)) ?_;refine zx (b:=!p l[j]) (λh6=>?_) (λh6=>?_)
  .rw[h6]at hf;(conv=>whnf);refine⟨d9,d9,?_⟩;have I:i<o.length:=d8
   have ab:o[i]?=some o[i]:=am.getElem?_eq_getElem I;have ad:o[i].length=1:=g4 _ (aD _);refine⟨o[i],ab,dW,?_⟩;rw[show ye o[i] 0 [D.lit (.int .i64 l[j])]=[D.lit (.int .i64 l[j])]from ato ad];(conv=>whnf);refine⟨(i+1,j+1,o.set i [D.lit (.int .i64 l[j])]),⟨⟨d9,d9,d9,?_,?_,?_⟩,d9⟩,ze ?_⟩
   .grind
   .show(o.set i _).take (i+1)=_;rw[apa I,hf,g5,aE,<-vV];rfl
   .grind[ao8]
   (conv=>whnf);rw[wi,wj];rfl
  rw[h6]at hf;(conv=>whnf);refine⟨(i,j+1,o),⟨⟨d9,d9,g3,g4,?_,aa⟩,d9⟩,ze ?_⟩
  .simp_all
  (conv=>whnf);rw[wj];rfl
 have hj:j=l.length:=d9
 subst hj;rw[bN]at g5;have hi:(l.filter λc=>!p c).length=i:=by grind[zE]
 rw[hi];(conv=>whnf);refine⟨by grind[yh],by grind[yh],by grind[yh],?_⟩;(conv=>whnf);refine⟨by grind[yh],by grind[yh],?_⟩;(conv=>whnf);refine⟨_,?_,rfl⟩<;>grind[yh,Int.toNat_natCast,ye,aL]
def jC(c:Int->Int)(l:am Int)(h:Nat):Bool:=match l[h]? with|some x=>decide (c x<0)|none=>false
def YI(c:Int->Int)(l:am Int):Nat:=vS (jC c l) l.length 0 l.length
def agt(c:Int->Int)(l:am Int)(i:Nat):Bool:=match l[i]? with|some x=>c x==0|none=>false
theorem arx(c:Int->Int)(l:am Int):YI c l<=l.length:=(aeC _ _ _ _ _ (aN _) (aI _)).2
def awD(g:FuncId)(o p:am D)(l:Int)(gs:am Int)(i j:Nat):S:=⟨[(0,.w (.c (.d (.sl (zh gs))))),(1,zm l),(2,.w (.c (.d (.fn g [o,p])))),(8,zm gs.length),(9,zm i),(10,zm j)],[]⟩
theorem ad0(fn:FuncId)(c0 c1:am D)(o:Int)(k:Int->Int)(gs:am Int)(hl:gs.length<=1000000)(J:∀x∈gs,dY fn [.c (int x),.c (int o),.c (.fp c0),.c (.fp c1)] (rI (k x))):dY WH [.c (.d (.sl (zh gs))),.c (int o),.c (.d (.fn fn [c0,c1]))] ⟨.tup [.c (int (YI k gs)),.c (bool (agt k gs (YI k gs)))],[]⟩:=by
 refine vl.s T8 ?_;refine yq (P:=Pg) (f:=T8.f) (body:=(vl.l 0)) (λx:Nat×Nat=>awD fn c0 c1 o gs x.1 x.2) (λx=>x.2-x.1) (λx=>x.1<=x.2/\x.2<=gs.length/\YI k gs=vS (jC k gs) gs.length x.1 x.2) ⟨(0,gs.length),⟨aN _,aI _,rfl⟩,ze ?_⟩ ?_
 ·(conv=>whnf);rw[zE];rfl
 rintro⟨i,j⟩ hx;obtain⟨af,ab,hR⟩:i<=j/\j<=gs.length/\YI k gs=vS (jC k gs) gs.length i j:=hx;show mwpR Pg T8.f (vl.l 0) _ (awD fn c0 c1 o gs i j);unfold awD;have wh:=aua i j d8;refine zj (λh1=>?_) (λh1=>?_)
 .have ac:i<j:=dW
  have hm:(i+j)/2<gs.length:=d8
  have hg:=xg hm;have hp:jC k gs ((i+j)/2)=decide (k gs[(i+j)/2]<0):=by grind[jC]
  have hc:=J gs[(i+j)/2] (aD hm);have I:YI k gs=bif jC k gs ((i+j)/2)then vS (jC k gs) gs.length ((i+j)/2+1) j else vS (jC k gs) gs.length i ((i+j)/2):=by
   rw[hR];have U:vS (jC k gs) gs.length i j=vS (jC k gs) (gs.length-1+1) i j:=d9
   rw[U];simp only[vS];rw[c7 ac,aE,Yj (jC k gs) (gs.length-1) gs.length ((i+j)/2+1) j d8 d8,Yj (jC k gs) (gs.length-1) gs.length i ((i+j)/2) d8 d8]
  rw[hp]at I;have ad:aK.wrap ((((i+j)/2:Nat):Int)+1)=(((i+j)/2+1:Nat):Int):=zB hm d8;generalize gs[(i+j)/2]=g at*;generalize k g=c at*;have ag:(i+j)/2<j/\i<=(i+j)/2:=d8
  generalize(i+j)/2=m at*;(conv=>whnf);refine⟨d8,?_⟩;(conv=>whnf);rw[wh];(conv=>whnf);refine⟨d8,_,hg,rfl,?_⟩;refine aC hc ?_;refine zx (b:=decide (c<0)) (λh2=>?_) (λh2=>?_)
  .rw[h2,aE]at I;(conv=>whnf);refine⟨(m+1,j),⟨⟨d9,ab,I⟩,d9⟩,ze ?_⟩;(conv=>whnf);rw[ad];rfl
  rw[h2,aB]at I;(conv=>whnf);refine⟨(i,m),⟨⟨d9,d9,I⟩,d9⟩,ze ?_⟩;exact rfl
 have ae:¬i<j:=d9
 have R:YI k gs=i:=by rw[hR];have e:vS (jC k gs) gs.length i j=vS (jC k gs) 0 i j:=Yj _ _ _ _ _ d8 d8;rw[e];rfl
 rw[R];clear hR R;by_cases aa:i<gs.length
 .have hg:=xg aa;have hh:agt k gs i=(k gs[i]==0):=by grind[agt]
  have hc:=J gs[i] (aD aa);rw[hh];clear hh;have U:decide ((i:Int)<(gs.length:Int))=true:=c7 d8;generalize gs[i]=g at*;generalize k g=c at*;refine zj (λp=>?_) (λp=>?_)
  ·(conv=>whnf);refine⟨d8,_,hg,rfl,?_⟩;refine aC hc ?_;rfl
  have p:decide ((i:Int)<(gs.length:Int))=false:=p;rw[U]at p;cases p
 have hh:agt k gs i=false:=by grind[agt]
 have U:decide ((i:Int)<(gs.length:Int))=false:=cg d8;rw[hh];clear hh;refine zj (λp=>?_) (λp=>?_)
 .have p:decide ((i:Int)<(gs.length:Int))=true:=p;rw[U]at p;cases p
 exact rfl
namespace So.I
structure En(α:Type) where
 d:α->D
 c0:am D
 c1:am D
abbrev en{α:Type}(E:En α)(x:α):am D:=[E.d x]
abbrev sz:Nat:=1
abbrev cal{α:Type}(E:En α)(x y:α):am W:=[.c (.d (E.d x)),.c (.d (E.d y)),.c (.fp E.c0),.c (.fp E.c1)]
abbrev clo{α:Type}(E:En α)(g:FuncId):W:=.c (.d (.fn g [E.c0,E.c1]))
noncomputable abbrev cI_L0:=(q8.l 0)
noncomputable abbrev cI_L1:=(q8.l 1)
abbrev cI_ok:=q8.ok
noncomputable abbrev cM_L0:=(xm.l 0)
noncomputable abbrev cM_L1:=(xm.l 1)
noncomputable abbrev cM_L2:=(xm.l 2)
noncomputable abbrev cM_L3:=(xm.l 3)
noncomputable abbrev cM_L4:=(xm.l 4)
abbrev cM_ok:=xm.ok
noncomputable abbrev cO_L0:=(ZI.l 0)
abbrev cO_ok:=ZI.ok
noncomputable abbrev cS_L0:=(wA.l 0)
noncomputable abbrev cS_L1:=(wA.l 1)
noncomputable abbrev cS_L2:=(wA.l 2)
abbrev cS_ok:=wA.ok
abbrev cT_ok:=VZ.ok
noncomputable abbrev cW_L0:=(jX.l 0)
abbrev cW_ok:=jX.ok
theorem g8{α:Type}(E:En α):gH XK sz (en E) (cal E) (clo E):=aeu
abbrev insSort'{α:Type}(E:En α):=(g8 E).p
theorem Ul{α:Type}(E:En α):VU WJ sz (en E) (clo E):=gF
abbrev swapRange'{α:Type}(E:En α):=(Ul E).p
theorem adU{α:Type}(E:En α):acP UA sz (en E) (clo E):=ahc
abbrev rotate'{α:Type}(E:En α):=(adU E).p
theorem symMerge{α:Type}(E:En α):af4 Vk sz (en E) (cal E) (clo E):=aca
theorem stable{α:Type}(E:En α):amJ UB sz (en E) (cal E) (clo E):=ahd
theorem SortStable{α:Type}(E:En α):SortStable Zq sz (en E) (cal E) (clo E):=KA
end So.I
abbrev aBb{α:Type}(d:α->D)(l:am α):am (am D):=l.map λx=> [d x]
abbrev agU{α:Type}(d:α->D)(g i:am D):=So.I.SortStable ⟨d,g,i⟩
def nV(br:am (am Val))(g:Int)(i:Int):Val:=at0 (br.getD i.toNat []) g.toNat
theorem adV{br:am (am Val)}{i:Int}(h:0<=i/\i<br.length):(zg br)[i.toNat]?=some [.sl (rowD (br.getD i.toNat []))]/\br.getD i.toNat []∈br:=by grind[zg]
theorem aes{row:am Val}{k:Int}(h:0<=k/\k<row.length):(rowD row)[k.toNat]?=some (at0 row k.toNat).ds:=by grind[at0,rowD]
theorem ayt(l:am Col)(br:am (am Val))(g i:Int)(hi:0<=i/\i<br.length)(J:∀r∈br,0<=g/\g<r.length):
 dY Xm [.c (int i),.c (.fp [.sl (zl l),.sl (zg br)]),.c (.fp [.lit (.int .i64 g)])] (rB ((nV br g i).k==0)):=by
 obtain⟨o,p⟩:=adV hi;have j:=J _ p;have I:=aes j;unfold nV;generalize br.getD i.toNat []=row at*;generalize at0 row g.toNat=v at*;obtain⟨v1,v2,v3⟩:=v;refine KC.s T8 ?_;refine⟨hi.1,_,o,rfl,?_⟩
 conv=>whnf
 refine⟨j.1,_,I,rfl,?_⟩;exact rfl
theorem ayu(J:am Col)(br:am (am Val))(g i j:Int)(hi:0<=i/\i<br.length)(p:0<=j/\j<br.length)(I:∀r∈br,0<=g/\g<r.length):
 dY jg [.c (int i),.c (int j),.c (.fp [.sl (zl J),.sl (zg br)]),.c (.fp [.lit (.int .i64 g)])] (rI (yw (nV br g i).n (nV br g j).n)):=by
 obtain⟨P,R⟩:=adV hi;have o:=I _ R;have U:=aes o;obtain⟨g1,g2⟩:=adV p;have g3:=I _ g2;have g4:=aes g3;unfold nV;generalize br.getD i.toNat []=row at*;generalize br.getD j.toNat []=l at*;generalize at0 row g.toNat=v at*;generalize at0 l g.toNat=u at*;obtain⟨v1,v2,v3⟩:=v;obtain⟨u1,u2,u3⟩:=u;refine KD.s T8 ?_;refine⟨hi.1,_,P,rfl,?_⟩
 conv=>whnf
 refine⟨o.1,_,U,rfl,?_⟩
 conv=>whnf
 refine⟨p.1,_,g1,rfl,?_⟩
 conv=>whnf
 refine⟨g3.1,_,g4,rfl,?_⟩;exact rfl
theorem ayv(o:am Col)(br:am (am Val))(j i g:Int)(hi:0<=i/\i<br.length)(P:∀r∈br,0<=j/\j<r.length):
 dY Xn [.c (int i),.c (int g),.c (.fp [.sl (zl o),.sl (zg br)]),.c (.fp [.lit (.int .i64 j)])] (rI (yw (nV br j i).n g)):=by
 obtain⟨p,I⟩:=adV hi;have l:=P _ I;have J:=aes l;unfold nV;generalize br.getD i.toNat []=row at*;generalize at0 row j.toNat=v at*;obtain⟨v1,v2,v3⟩:=v;refine KE.s T8 ?_;refine⟨hi.1,_,p,rfl,?_⟩
 conv=>whnf
 refine⟨l.1,_,J,rfl,?_⟩;exact rfl
end
end Go.Proofs.YtkdijaiaplkliaaGreatDoor
namespace Go.AM
theorem azb{s:S}(g:am Operand){l:am (am D)}{i:am (Nat×Pl)}(h:frz s s.pl (g.map cO)=some (l,i)):Za s (s.withPl i):=λ_ _ ι _ _ hr=>⟨ι,(JQ s g rfl hr h).1⟩
theorem zA.cut{P:Program}{k:Nat}{args:am W}{sz:Nat}{i:am (am D)}{L:am (am D)}{Q:Res->Prop}(h:zA P k args [.arr sz i false] Q)
 (hq:∀r,Q r->∃g:am (am D),∃n,g.take n=L/\n=L.length/\r=⟨.w (.c (.own 0 sz n)),[.arr sz g false]⟩):
 zA P k args [.arr sz i false] (λr=>r=⟨.w (.c (.own 1 sz L.length)),[.gone,.arr sz L false]⟩):=by
 refine⟨h.1,λw A ι0 vals h1 h2 h3 h4 h5=>(h.2 w A ι0 vals h1 h2 h3 h4 h5).mono ?_⟩;rintro e w' ⟨v,r,rfl,hQ,R,hg⟩;obtain⟨g,n,hL,hn,rfl⟩:=hq r hQ;refine⟨v,_,rfl,rfl,?_,hg⟩;obtain⟨_,ι,hv,hp,_,hm,_,_⟩:=R
 let ι2:Nat->Gh:=λp=>if p=1 then⟨(ι 0).b,n,.nilFunc,[]⟩else ι p
 have e1:yR (zY 0 ([Pl.arr sz g false]).length) [Pl.arr sz g false]=[(0,.arr sz g false)]:=rfl;have e2:yR (zY 0 ([Pl.gone,Pl.arr sz L false]).length) [Pl.gone,Pl.arr sz L false]=[(1,.arr sz L false)]:=rfl;have hb:(ι2 1).b=(ι 0).b:=rfl;have ab:∀b,Owns ι2 [(1,.arr sz L false)] b↔Owns ι [(0,.arr sz g false)] b:=λb=>by
  constructor
  .rintro⟨p,x,j,hl,J⟩;obtain⟨rfl,rfl⟩:=zD j;exact⟨0,.arr sz g false,rfl,rfl,J⟩
  rintro⟨p,x,j,hl,J⟩;obtain⟨rfl,rfl⟩:=zD j;exact⟨1,.arr sz L false,rfl,rfl,J⟩
 have aa:Fr.ok ⟨w,A,Handed ι0 [.arr sz i false],λ_=>none⟩ ι2 [(1,.arr sz L false)] w'=Fr.ok ⟨w,A,Handed ι0 [.arr sz i false],λ_=>none⟩ ι [(0,.arr sz g false)] w':=by funext b;simp_all[Fr.ok]
 rw[e1]at hp hm hv;obtain⟨h0,ac,l⟩:=hp 0 (.arr sz g false) rfl;have ad:n<=g.length:=d9
 have I:L.length=n:=hn.symm;refine⟨dT,ι2,?_⟩;simp only[e2,aa];refine⟨?_,?_,?_,?_,?_,?_⟩
 .have hv:CR ι w' (Fr.ok ⟨w,A,Handed ι0 [.arr sz i false],λ_=>none⟩ ι [(0,.arr sz g false)] w') (.own 0 sz n) v:=hv;show CR ι2 w' (Fr.ok ⟨w,A,Handed ι0 [.arr sz i false],λ_=>none⟩ ι [(0,.arr sz g false)] w') (.own 1 sz L.length) v;simp only[CR]at hv⊢;rcases hv with⟨o,a2,a3⟩|⟨b,cap,t,o,a2,a3,a4,a5,a6⟩
  .grind
  exact .inr ⟨b,cap,t,o,by rw[I];exact aI n,d9,d9,a5,a6⟩
 .intro p x j;obtain⟨rfl,rfl⟩:=zD j;refine⟨h0,I,?_⟩;rcases l with⟨o,rfl⟩|⟨b,o,a2,a3,a4⟩
  .grind
  refine .inr ⟨b,o,by grind[RDs.take],(λh=>by cases h),λ_=>?_⟩;obtain⟨U,c1,c2⟩:=a4 rfl;exact⟨U,c1,aM (dd _ d8) c2⟩
 .grind[zD]
 .intro p x b j J;obtain⟨rfl,rfl⟩:=zD j;exact hm 0 (.arr sz g false) b rfl J
 .intro p x j;obtain⟨rfl,rfl⟩:=zD j;rfl
 grind[zD]
end Go.AM
namespace Go.Proofs.YtkdijaiaplkliaaGreatDoor
open Go Go.AM
attribute [local irreducible] Sat zA zX
set_option maxRecDepth 100000
set_option maxHeartbeats 1000000
def aeE(br:am (am Val))(g:Int)(i j:Int):Int:=yw (nV br g i).n (nV br g j).n
theorem JL(br:am (am Val))(g:Int):CmpOK (aeE br g):=CmpOK.onF W7 (f:=λi=>(nV br g i).n)
theorem avy(I:am Col)(br:am (am Val))(g:Int)(ht:∀r∈br,0<=g/\g<r.length)(l:am Int)(n:Nat)(hn:l.length=n)(p:n<=1000000)(R:∀i∈l,0<=i/\i<br.length):
 zA Pg Zq [.c (.own 0 1 n),.c (.d (.fn jg [[.sl (zl I),.sl (zg br)],[.lit (.int .i64 g)]]))] [.arr 1 (zh l) false] (λr=>r=⟨.tup [],[.arr 1 (zh (yM (aeE br g) l)) false]⟩):=by
 have aa:∀L:am (Int×Nat),aBb (λx:Int×Nat=>D.lit (.int .i64 x.1)) L=zh (L.map Prod.fst):=λL=>by simp_all[zh]
 have e:zh l=aBb (λx:Int×Nat=>D.lit (.int .i64 x.1)) (qN l):=by grind[WD]
 rw[e];refine zA.mono (agU (λx:Int×Nat=>D.lit (.int .i64 x.1)) [.sl (zl I),.sl (zg br)] [.lit (.int .i64 g)] jg (jh (aeE br g)) (aaM (JL br g)) (λx y=>x.2<y.2/\(0<=x.1/\x.1<br.length)/\(0<=y.1/\y.1<br.length)) (λx y o=>?_) (qN l) n (by grind[Jk]) p ?_) ?_
 .refine(ayu I br g y.1 x.1 o.2.2 o.2.1 ht).mono ?_;rintro _ rfl;exact⟨_,rfl,aka (JL br g) o.1⟩
 .intro i j x y J P h3 hx hy;have U:∀(k:Nat) (z:Int×Nat),(qN l)[k]?=some z->z.1∈l:=λk z hz=>by
   have:=aJ hz;have h:=List.mem_map_of_mem (f:=Prod.fst) this
   grind[WD]
  exact⟨gz l n i j x y J P h3 hx hy,R _ (U i x hx),R _ (U j y hy)⟩
 rintro _ ⟨l',J,P,rfl⟩<;>grind[So.eL,aen,JL]
theorem ajS(g:FuncId)(i j:am D)(p:Int->Bool)(l:am Int)(I:∀x∈l,dY g [.c (int x),.c (.fp i),.c (.fp j)] (rB (p x)))(o:l.length<=1000000):
 zA Pg Xo [.c (.own 0 1 l.length),.c (.d (.fn g [i,j]))] [.arr 1 (zh l) false] (λr=>r=⟨.w (.c (.own 1 1 (zh (l.filter λx=>!p x)).length)),[.gone,.arr 1 (zh (l.filter λx=>!p x)) false]⟩):=by
 refine(agP g i j p l I o).cut ?_
 grind[zE]
end Go.Proofs.YtkdijaiaplkliaaGreatDoor
namespace Go.Proofs.YtkdijaiaplkliaaGreatDoor
open Go Go.AM
section
attribute [local irreducible] Sat zA zX
def YB(br:am (am Val))(g:Int)(l:am Int):am Int:=yM (aeE br g) (l.filter λi=>!((nV br g i).k==0))
structure MJ(G:am Int->am Int)(m0 m:Bkt)(seen:am Nat):Prop where
 ks:m.map (·.1)=m0.map (·.1)
 vs:∀(j:Nat) (x y:ByteArray×am Int),m[j]?=some x->m0[j]?=some y->x.2=if j∈seen then G y.2 else y.2
 nd:seen.Nodup
 lt:∀j∈seen,j<m0.length
theorem MJ.len{G:am Int->am Int}{g m:Bkt}{seen:am Nat}(h:MJ G g m seen):m.length=g.length:=by simpa using aF cB h.ks
theorem MJ.start(G:am Int->am Int)(g:Bkt):MJ G g g []:=⟨rfl,λj x y i l=>d9,dT,dT⟩
theorem MJ.step{G:am Int->am Int}{I m:Bkt}{seen:am Nat}(h:MJ G I m seen){j:Nat}{k:ByteArray}{l:am Int}(p:m[j]?=some (k,l))(hs:j∉seen):MJ G I (m.set j (k,G l)) (j::seen):=by
 have o:=(am.getElem?_eq_some_iff.1 p).1;refine⟨?_,λi x y g r=>?_,cY.2 ⟨hs,h.nd⟩,λi hi=>?_⟩
 .rw[bV,<-h.ks];apply bZ;intro i;rw[am.getElem?_set];split<;>simp_all
 .rw[am.getElem?_set]at g;split at g
  .rename_i e;subst e;first|(rw[bX o]at g;cases g)|cases g
   have:=h.vs _ _ y p r<;>simp_all
  rename_i e;have:=h.vs i x y g r;rw[this];by_cases hi:i∈seen
  .simp_all
  rw[cm hi,cm d9]
 rcases bI.1 hi with rfl|hi
 .rw[<-h.len];exact o
 exact h.lt i hi
theorem agG:∀(n:Nat) (l:am Nat),l.Nodup->(∀x∈l,x<n)->l.length<=n
 |0,l,_,h=>by
  cases l with
  |nil=>simp_all
  |cons x r=>exact absurd (h x dT) d8
 |n+1,l,i,h=>by
  by_cases p:n∈l
  .have j:=agG n (l.erase n) (i.erase n) (λx g=>by have o:=(List.Nodup.mem_erase_iff i).1 g;have:=h x o.2;have:=o.1;omega)
   rw[List.length_erase_of_mem p]at j;omega
  have:=agG n l i (λx g=>by
   have j:=h x g;have:x≠n:=λe=>p (e▸g)
   omega)
  omega
theorem MJ.room{G:am Int->am Int}{g m:Bkt}{seen:am Nat}(h:MJ G g m seen){j:Nat}(p:j<g.length)(hs:j∉seen):seen.length<g.length:=by
 have l:(j::seen).Nodup:=cY.2 ⟨hs,h.nd⟩;have o:∀i∈j::seen,i<g.length:=λi hi=>by
  rcases bI.1 hi with rfl|hi
  .exact p
  exact h.lt i hi
 have:=agG _ _ l o<;>grind
def mjS(j:am Col)(l:am (am Val))(o:am Col)(br:am (am Val))(cols:am Col)(g p:Int)(left i:am Int)(m:Bkt)(seen:am Nat):S:=
 ⟨[(3,.w (.c (.d (.sl (zl cols))))),(5,cV (.ptr 5 0)),(6,cV (.ptr 6 0)),(8,cV (.ptr 8 0)),(9,zm g),(10,cV (.ptr 10 0)),(11,.w (.c (.d (.sl (zh left))))),(12,.w (.c (.d (.sl (zh i))))),(13,.w (.c (.root 50))),(50,.w (.c (.iter 50)))],
 [(5,.box [.d (.sl (zl j)),.d (.sl (zg l))]),(6,.fbox [.sl (zl o),.sl (zg br)]),(8,.box [.nil,.nil]),(10,.fbox [.lit (.int .i64 p)]),(50,.deep (.mpi false (Zc m) (Q4 m) seen))]⟩
theorem aCm{Q:E->S->Prop}{s:S}(ac:am Col)(ar:am (am Val))(J:am Col)(br:am (am Val))(cols:am Col)(o g:Int)(left p:am Int)(I:Bkt)
 (ak:(I.map (·.1)).Nodup) (av:∀x∈I,x.2.length<=1000000/\∀i∈x.2,0<=i/\i<br.length) (ht:∀r∈br,0<=g/\g<r.length)
 (h0:y8 s [3,5,6,8,9,10,11,12,13,50] (· =mjS ac ar J br cols o g left p I []))
 (hQ:∀m seen,MJ (YB br g) I m seen->(∀j,j<I.length->j∈seen)->Q (.exit 0) (xM (mjS ac ar J br cols o g left p m seen) 52 (zZ false))):
 zX (mwpR Pg T8.f (yU.l 0)) [3,5,6,8,9,10,11,12,13,50] Q s:=by
 refine yq (P:=Pg) (f:=T8.f) (body:=(yU.l 0)) (λz:Bkt×am Nat=>mjS ac ar J br cols o g left p z.1 z.2) (λz=>I.length-z.2.length)
  (λz=>MJ (YB br g) I z.1 z.2) ⟨(I,[]),MJ.start _ _,h0⟩ ?_
 clear h0;rintro⟨m,seen⟩ R;have R:MJ (YB br g) I m seen:=R;have au:(Zc m).length=I.length:=by rw[<-R.len];simp[Zc]
 show mwpR Pg T8.f (yU.l 0) _ (mjS ac ar J br cols o g left p m seen);unfold mjS
 conv=>whnf
 refine⟨λaf=>?_,λj hj ad=>?_⟩
 .have hQ:=hQ m seen R (λj hj=>af j d9);unfold xM mjS at hQ;(conv=>whnf);exact hQ
 (conv=>whnf);refine λk e hk he=>?_
 obtain⟨k',l,rfl,ab⟩:∃k' l,k=.string k'/\m[j]?=some (k',l):=by grind[Zc]
 obtain rfl:e=bkE l:=by grind[Q4]
 have ah:j<I.length:=d9
 have al:=R.room ah ad;have aa:l.length<=1000000/\∀i∈l,0<=i/\i<br.length:=by
  have h1:=R.vs j _ _ ab (am.getElem?_eq_getElem ah);rw[cm ad]at h1
  grind
 have ag:=ajS Xm [.sl (zl J),.sl (zg br)] [.lit (.int .i64 g)] (λi=>(nV br g i).k==0) l (λx hx=>ayt J br g x (aa.2 x hx) ht) aa.1;have aq:(l.filter λi=>!((nV br g i).k==0)).length<=l.length:=List.length_filter_le _ _;have U:=avy J br g ht (l.filter λi=>!((nV br g i).k==0)) _ rfl d8 (λi hi=>aa.2 i (List.mem_filter.1 hi).1);have ae:=R.step ab ad;have ao:(YB br g l).length=(l.filter λi=>!((nV br g i).k==0)).length:=by unfold YB;exact(jH (JL br g) _).length_eq
 rw[show yM (aeE br g) (l.filter λi=>!((nV br g i).k==0))=YB br g l from rfl]at U;have ai:(m.map (·.1)).Nodup:=by rw[R.ks];exact ak
 clear hQ;generalize hA:(l.filter λi=>!((nV br g i).k==0))=A at*;generalize YB br g l=B at*;refine⟨rfl,?_⟩;unfold bkE;(conv=>whnf);refine⟨zh l,akd _,?_⟩;(conv=>whnf);rw[zE];refine zA.mono ag ?_;rintro _ rfl;rw[zE];(conv=>whnf);refine zA.mono U ?_;rintro _ rfl;(conv=>whnf);refine⟨rfl,?_⟩;(conv=>whnf);refine⟨rfl,Jm m,λj2 aj=>?_,λh=>absurd (aJ hk) h⟩;obtain rfl:j2=j:=by
  obtain⟨l2,aw⟩:=Jx aj;have a1:(m.map (·.1))[j2]?=some k':=d9
  have a2:(m.map (·.1))[j]?=some k':=d9
  exact(am.getElem?_inj d9 ai).1 (a1.trans a2.symm)
 (conv=>whnf);refine⟨(m.set j2 (k',B),j2::seen),⟨ae,d9⟩,ze ?_⟩;(conv=>whnf);have an:(zh B).take A.length=zh B:=by grind[zE]
 show _=mjS ac ar J br cols o g left p (m.set j2 (k',B)) (j2::seen);unfold mjS;rw[am8 ab,<-ana];simp only[AM.T.setE,List.set_set,an];rfl
def mjP(br:am (am Val))(j N:Int)(g:am Int)(l:am Int):am Val:=
 bif decide (0<YI (λi=>yw (nV br j i).n (N+1)) l)then zn (br.getD (l.getD (YI (λi=>yw (nV br j i).n (N+1)) l-1) 0).toNat []) g else aH g.length zw
def ZK(left g:am Int)(i j:Int)(br:am (am Val))(G:ByteArray->am Int)(x:am Val):am Val:=
 match qc x left with
 |some k=>bif (at0 x i.toNat).k==2 then mjP br j (at0 x i.toNat).n g (G k)else aH g.length zw
 |none=>aH g.length zw
def Ud(o:am Col)(br:am (am Val))(cols:am Col)(g p:Int)(left j:am Int)(m:Bkt)(l:am (am Val))(i:Nat)(out:am (am Val)):S:=
 ⟨[(6,cV (.ptr 6 0)),(8,cV (.ptr 8 0)),(9,zm g),(10,cV (.ptr 10 0)),(11,.w (.c (.d (.sl (zh left))))),(12,.w (.c (.d (.sl (zh j))))),(13,.w (.c (.d (bkD m)))),(16,cV (.ptr 16 0)),(68,.w (.c (.d (.sl (zg l))))),(69,zm l.length),(70,zm i)],
 [(6,.fbox [.sl (zl o),.sl (zg br)]),(8,.box [.nil,.nil]),(10,.fbox [.lit (.int .i64 p)]),(16,.box [.d (.sl (zl cols)),.own 127 1 out.length]),(127,.arr 1 (zg out) false)]⟩
noncomputable def mjRest:ACode:=y9 (y9 (y9 (y9 (y9 yU.A.code))))
theorem aCn{Q:E->S->Prop}{s:S}(bc:am Col)(br:am (am Val))(cols:am Col)(o J:Int)(left g:am Int)(m:Bkt)(I:am (am Val))(G:ByteArray->am Int)
 (bi:I.length<=20000) (bj:br.length<=1000000) (bk:left.length<=100000) (bl:g.length<=100000) (bm:(m.map (·.1)).Nodup) (a5:∀x∈m,x.2=G x.1) (a6:∀k,G k≠ []->∃x∈m,x.1=k) (hG:∀k,(G k).length<=1000000/\∀i∈G k,0<=i/\i<br.length)
 (hx:∀x∈I,x.length<=100000/\zS x.length left/\(0<=o/\o<x.length)/\∀v∈x,VS v/\v.n<9223372036854775807) (hy:∀y∈br,zS y.length g/\(0<=J/\J<y.length))
 (h0:y8 s [6,8,9,10,11,12,13,16,68,69,70] (· =Ud bc br cols o J left g m I 0 []))
 (hQ:Q (.exit 2) (xM (Ud bc br cols o J left g m I I.length (I.map λx=>x++ZK left g o J br G x)) 71 (zZ (decide ((I.length:Int)<I.length))))):
 zX (mwpR Pg T8.f (yU.l 1)) [6,8,9,10,11,12,13,16,68,69,70] Q s:=by
 refine yy (P:=Pg) (f:=T8.f) (body:=(yU.l 1)) I.length (λi=>Ud bc br cols o J left g m I i ((I.take i).map λx=>x++ZK left g o J br G x)) (λ_=>True) ⟨trivial,h0⟩ ?_;clear h0;intro i hi _;have p:∀h:i<I.length,(I.take (i+1)).map (λx=>x++ZK left g o J br G x)=(I.take i).map (λx=>x++ZK left g o J br G x)++[I[i]++ZK left g o J br G I[i]]:=λh=>by grind[zJ]
 have ah:i=I.length->I.map (λx=>x++ZK left g o J br G x)=(I.take i).map (λx=>x++ZK left g o J br G x):=λh=>d9
 have bh:((I.take i).map (λx=>x++ZK left g o J br G x)).length=i:=dX
 show mwpR Pg T8.f (yU.l 1) _ (Ud bc br cols o J left g m I i ((I.take i).map λx=>x++ZK left g o J br G x));generalize(I.take i).map (λx=>x++ZK left g o J br G x)=U at*;have ac:(zg U).take U.length=zg U:=by grind[zy]
 unfold Ud;refine rgE (λR=>?_) (λan=>?_)
 .have hg:=yS R;have p:=p R;obtain⟨bn,bd,af,al⟩:=hx _ (aD R);have wi:=zB R d8;have hk:=ae3 I[i] left bd d8 (λv hv=>(al v hv).1);have ak:=aes af;have ay:at0 I[i] o.toNat∈I[i]:=by grind[at0]
  have ba:=(al _ ay);have bo:(aH g.length zw).length=g.length:=dT
  have ae:=vH I[i] (aH g.length zw) d8 d8;clear ah hx hQ al ay;unfold ZK at p;have aq:qc I[i] left=(uq I[i] left).map λl=>⟨l.toArray⟩:=rfl
  generalize qc I[i] left=ko at*;generalize uq I[i] left=kp at*;generalize at0 I[i] o.toNat=v at*;generalize I[i]=x at*;obtain⟨v1,v2,v3⟩:=v;have bp:aH (((zh g).length:Int)).toNat VQ=rowD (aH g.length zw):=by rw[zE];simp[rowD];exact .inr rfl
  have bf:(((zh g).length:Int)).toNat=g.length:=by grind[zE]
  have ag:aS (((zh g).length:Int)).toNat (aH (((zh g).length:Int)).toNat [D.lit (.int .i64 0),D.lit (.int .i64 0),D.lit (.string ⟨#[]⟩)])=rowD (aH g.length zw):=by grind[VQ]
  cases kp with
  |none=>
   subst aq;refine yb hg ?_;refine⟨d8,d8,by grind[yz],d9,?_⟩;refine aC hk ?_;rw[ag];refine cP ae ?_;have p:(I.take (i+1)).map (λx=>x++ZK left g o J br G x)=U++[x++aH g.length zw]:=p;generalize x++aH g.length zw=B at*;refine qr ?_;refine yW R trivial ?_;have aa:(rowD B).take B.length=rowD B:=by grind[zu]
   rw[wi,ac,aa];show _=Ud bc br cols o J left g m I (i+1) _;rw[p];unfold Ud;rw[xy,aA];rfl
  |some l=>
   obtain⟨k,ao⟩:∃k:ByteArray,k=⟨l.toArray⟩:=⟨_,rfl⟩;have a4:dY Wm [yu x,.c (.d (.sl (zh left)))] ⟨.tup [.c (str k),.c (bool true)],[]⟩:=by rw[ao];exact hk
   obtain rfl:ko=some k:=d9
   clear aq hk ao;have p:(I.take (i+1)).map (λx=>x++ZK left g o J br G x)=U++[x++(bif v1==2 then mjP br J v2 g (G k)else aH g.length zw)]:=p;refine yb hg ?_;refine⟨d8,d8,by grind[yz],d9,?_⟩;refine aC a4 ?_;refine yb ak ?_ (hA:=af.1);cases ax:(v1==2)with
   |false=>
    rw[ax,aB]at p;(conv=>whnf);rw[ag];refine cP ae ?_;have p:(I.take (i+1)).map (λx=>x++ZK left g o J br G x)=U++[x++aH g.length zw]:=p;generalize x++aH g.length zw=B at*;refine qr ?_;refine yW R trivial ?_;have aa:(rowD B).take B.length=rowD B:=by grind[zu]
    rw[wi,ac,aa];show _=Ud bc br cols o J left g m I (i+1) _;rw[p];unfold Ud;rw[xy,aA];rfl
   |true=>
    rw[ax,aE]at p;unfold mjP at p;have az:aK.wrap (v2+1)=v2+1:=yf (by have:=ba.1.2.1;grind) d9;have ab:=ad0 Xn [.sl (zl bc),.sl (zg br)] [.lit (.int .i64 J)] (v2+1) (λi=>yw (nV br J i).n (v2+1)) (G k) (hG k).1 (λj hj=>ayv bc br J j (v2+1) ((hG k).2 j hj) (λr hr=>(hy r hr).2));have a9:=arx (λi=>yw (nV br J i).n (v2+1)) (G k);(conv=>whnf);refine⟨rfl,?_⟩;(conv=>whnf);refine⟨rfl,Jm m,λaw=>?_,λj e hj he=>?_⟩
    .have ad:G k=[]:=by
      cases hf:G k with
      |nil=>rfl
      |cons u w=>
       obtain⟨z,hz,be⟩:=a6 k (by rw[hf];simp);exact absurd (af9.2 (bG.2 ⟨z,hz,be⟩)) aw
     have a7:YI (λi=>yw (nV br J i).n (v2+1)) (G k)=0:=by rw[ad];rfl
     rw[a7]at ab p;rw[ad]at ab;generalize agt (λi=>yw (nV br J i).n (v2+1)) [] 0=hit at*;refine yb ak ?_ (hA:=af.1);rw[az];refine aC ab ?_;rw[ag];refine cP ae ?_;have p:(I.take (i+1)).map (λx=>x++ZK left g o J br G x)=U++[x++aH g.length zw]:=p;generalize x++aH g.length zw=B at*;refine qr ?_;refine yW R trivial ?_;have aa:(rowD B).take B.length=rowD B:=by grind[zu]
     rw[wi,ac,aa];show _=Ud bc br cols o J left g m I (i+1) _;rw[p];unfold Ud;rw[xy,aA];rfl
    obtain⟨l0,au⟩:=Jx hj;obtain rfl:e=[D.sl (zh l0)]:=by
     have:(m.map λx=> [D.sl (zh x.2)])[j]?=some [D.sl (zh l0)]:=by simp[au]
     exact bR (he.symm.trans this)
    have av:l0=G k:=a5 _ (aJ au);subst av;have ad:=hG k;generalize G k=L at*;obtain⟨n,hn⟩:∃n,n=YI (λi=>yw (nV br J i).n (v2+1)) L:=⟨_,rfl⟩;rw[<-hn]at ab p a9;generalize agt (λi=>yw (nV br J i).n (v2+1)) L n=hit at*;clear hn;refine yb ak ?_ (hA:=af.1);rw[az];refine aC ab ?_;refine zx (b:=decide ((n:Int)>0)) (λh5=>?_) (λh5=>?_)
    .have aj:0<n:=by have:=aV h5;omega
     rw[c7 aj,aE]at p;have ai:n-1<L.length:=d8
     have bb:aK.wrap ((n:Int)-1)=((n-1:Nat):Int):=by rw[yf d8 d8];omega
     have a3:=xg ai;rw[show L.getD (n-1) 0=L[n-1]by simp[List.getD,am.getElem?_eq_getElem ai]]at p;have hb:=ad.2 _ (aD ai);generalize L[n-1]=u at*;obtain⟨a2,a0⟩:=adV hb;have a8:=ad7 (br.getD u.toNat []) g d8 (hy _ a0).1;have bg:(zn (br.getD u.toNat []) g).length=g.length:=by simp[zn]
     have a1:=vH x (zn (br.getD u.toNat []) g) d8 d8;generalize br.getD u.toNat []=b at*;generalize zn b g=P at*;(conv=>whnf);rw[bb];refine yb a3 ?_;refine yb a2 ?_ (hA:=hb.1);refine aC a8 ?_;refine cP a1 ?_;have p:(I.take (i+1)).map (λx=>x++ZK left g o J br G x)=U++[x++P]:=p;generalize x++P=B at*;refine qr ?_;refine yW R trivial ?_;have aa:(rowD B).take B.length=rowD B:=by rw[<-zu,bN]
     rw[wi,ac,aa];show _=Ud bc br cols o J left g m I (i+1) _;rw[p];unfold Ud;rw[xy,aA];rfl
    have aj:¬0<n:=by have:=bK h5;omega
    rw[cg aj,aB]at p;(conv=>whnf);rw[ag];refine cP ae ?_;have p:(I.take (i+1)).map (λx=>x++ZK left g o J br G x)=U++[x++aH g.length zw]:=p;generalize x++aH g.length zw=B at*;refine qr ?_;refine yW R trivial ?_;have aa:(rowD B).take B.length=rowD B:=by rw[<-zu,bN]
    rw[wi,ac,aa];show _=Ud bc br cols o J left g m I (i+1) _;rw[p];unfold Ud;rw[xy,aA];rfl
 rw[ah an]at hQ;subst an;unfold xM Ud at hQ;(conv=>whnf);exact hQ
end
end Go.Proofs.YtkdijaiaplkliaaGreatDoor
