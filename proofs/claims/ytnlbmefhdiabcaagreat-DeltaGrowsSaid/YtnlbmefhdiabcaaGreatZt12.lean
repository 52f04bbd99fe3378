import Derived.Shelf.RegionOpenPlain
import Derived.Test.YtnlbmefhdiabcaaGreatZt11
set_option linter.unusedSimpArgs false
set_option linter.unusedVariables false
set_option maxRecDepth 100000
set_option maxHeartbeats 4000000
open _root_ renaming List->am,cond_false->aA,cond_true->aH,Option->aK,decide_eq_false->aM,of_decide_eq_true->aP,of_decide_eq_false->aT,decide_eq_true->bG,bne_self_eq_false->bL,Array->bP,congrArg->bX,decide_eq_false_iff_not->bZ,bne_eq_false_iff_eq->cW,or_false->cX
open List renaming length_append->aB,take->aD,getElem_mem->aE,drop_eq_nil_of_le->aI,mem_cons_of_mem->aO,mem_of_mem_take->aQ,mem_singleton->aR,mem_cons_self->aS,flatMap_cons->aU,mem_cons->aV,pairwise_append->aY,mem_map->bA,mem_of_mem_drop->bC,mem_append->bE,length_nil->bF,take_length->bJ,pairwise_cons->bK,append_nil->bM,take_of_length_le->bQ,nil_append->bR,drop->bS,take_append_drop->bT,length_take->bU,length_cons->bV,not_mem_nil->bW,length_map->cc,replicate->co,take_succ_eq_append_getElem->cA,length_filter_le->cB,length_singleton->cC,map_take->cD,eq_nil_of_length_eq_zero->cF,mem_of_getLast?->cH,length_set->cI,any_cons->cL,map_cons->cM,mem_flatMap->cQ,getElem_of_mem->cY,map_congr_left->cZ,take_nil->dd,append_assoc->dh
open Option.some renaming inj->aC,injEq->bO
open Go.AM.Sat renaming w->aF,mono->cJ
open Go.IntKind renaming i64->aG,wrap_i64->cP
open Go renaming IntKind->aJ,cell_of_row->bB
open Nat renaming le_trans->aL,le_refl->aN,lt_of_lt_of_le->aZ,zero_le->bI,zero_add->bN,ble->cK,min_eq_left->cT
open Int renaming le_refl->aW
open Bool renaming or_eq_false_iff->aX,not_true->c9,not_eq_false'->dg
open List.Pairwise renaming nil->bD
open Go.AM.RD renaming keep->bH
open Go.Proofs.YtnlbmefhdiabcaaGreat.Qry renaming w->bY,err->cE
open Go.AM.ACode renaming erase->cG
open Go.Region renaming wanted->cN
open Go.Proofs.YtnlbmefhdiabcaaGreat.Stp renaming cs->cR
open Option renaming map_eq_some_iff->cS
open Go.Code renaming region->cU
open Go.World renaming grownBy_alloc->c8,frozen?->de
namespace Go.Proofs.YtnlbmefhdiabcaaGreat
open Go Go.AM
def Vo:am (am Val)->am Val->Nat
 |[],_=>0
 |x::r,k=>bif decide (keyC x k<0)then Vo r k+1 else 0
def aio(g:am (am Val))(k:am Val):Bool:=match g[Vo g k]? with|some x=>keyC x k==0|none=>false
def aaH(g)(k):=bif aio g k then g else g.take (Vo g k)++[k]++g.drop (Vo g k)
def keysL(at_:am Int)(rows:am (am Val)):=rows.foldl (λg r=>aaH g (pickL r at_)) []
theorem agH:∀{g:am (am Val)}{k:am Val}{p:Nat},p<=g.length->(∀a (h:a<g.length),a<p->keyC g[a] k<0)->(∀h:p<g.length,¬keyC g[p] k<0)->Vo g k=p
 |[],_,p,l,_,_=>by
   have:p=0:=ek
   subst this;rfl
 |x::r,k,0,_,_,j=>by simp_all[Vo,aM]
 |x::r,k,p+1,l,i,j=>by have h0:=i 0 ep ej;simp only[List.getElem_cons_zero]at h0;simp only[Vo,bG h0,aH];rw[agH (p:=p) ek (λa h o=>i (a+1) (by simpa using h) ej) (λh=>j (by simpa using h))]
theorem aoh{gs}(hs:SortG gs)(k):Vo (gs.map Gr.key) k=xl gs k:=by
 obtain⟨i,j⟩:=afG hs k;have g:=KA gs k;refine agH ek (λa h l=>?_) (λh=>?_)
 .grind
 simp_all
theorem azN{gs}(hs:SortG gs)(k):aio (gs.map Gr.key) k=uN gs k:=by unfold aio;rw[aoh hs,am.getElem?_map];unfold uN Yi;rw[am.getElem?_map];cases gs[xl gs k]? <;>rfl
theorem azP{gs}(hs:SortG gs)(k):(vu gs k).map Gr.key=aaH (gs.map Gr.key) k:=by unfold vu aaH;rw[azN hs,aoh hs];cases uN gs k<;>simp_all
theorem aHE{gs}(hs:SortG gs){k}(R:uN gs k=false):∀g∈gs,keyC g.key k≠0:=by
 intro g r e;obtain⟨a,o,rfl⟩:=cY r;obtain⟨P,i⟩:=afG hs k;by_cases I:a<xl gs k
 .grind
 have J:xl gs k<gs.length:=ej
 by_cases p:a=xl gs k
 .grind[agw]
 have j:=acj hs (show xl gs k<a by omega) o;have l:=qy.lt_of j (show keyC gs[a].key k<=0 by omega);exact i _ J (aN _) l
def withKey(at_:am Int)(k:am Val)(rows:am (am Val)):=rows.filter λr=>keyC (pickL r at_) k==0
structure GrpI(at_:am Int)(gs:am Gr)(pre:am (am Val)):Prop where
 s:SortG gs
 k:gs.map Gr.key=keysL at_ pre
 r:∀g∈gs,g.rows=withKey at_ g.key pre
 m:∀r∈pre,∃g∈gs,keyC (pickL r at_) g.key=0
theorem ahV{at_}{k}{pre}{x}(h:keyC (pickL x at_) k=0):withKey at_ k (pre++[x])=withKey at_ k pre++[x]:=by grind[withKey]
theorem agb{at_}{k}{pre}{x}(h:keyC (pickL x at_) k≠0):withKey at_ k (pre++[x])=withKey at_ k pre:=by grind[withKey]
theorem anS{x y z}(g:keyC x y=0)(i:keyC x z=0):keyC y z=0:=by have a:=qy.zero.1 g;have b:=qy.trans y x z ej ej;have c:=qy.zero.1 i;have d:=qy.trans z x y ej ej;have:=qy.ge.2 d;omega
theorem akM(at_)(pre)(x):keysL at_ (pre++[x])=aaH (keysL at_ pre) (pickL x at_):=by simp[keysL]
theorem aCf{at_}{gs}{pre}(h:GrpI at_ gs pre)(x):GrpI at_ (ji at_ gs x) (pre++[x]):=by
 have hs:=an6 h.s (pickL x at_);have hk:=azP h.s (pickL x at_);have ac:=KA gs (pickL x at_);refine⟨aoF (J1 ..).symm hs,?_,?_,?_⟩
 .unfold ji;rw[J1,hk,h.k,akM]
 .unfold ji YS;cases hh:uN gs (pickL x at_)with
  |true=>
   have J:xl gs (pickL x at_)<gs.length:=by grind[uN,Yi]
   have h0:keyC gs[xl gs (pickL x at_)].key (pickL x at_)=0:=by grind[agw]
   have R:vu gs (pickL x at_)=gs:=by grind[vu]
   rw[R,am.getElem?_eq_getElem J];intro g i;obtain⟨j,U,rfl⟩:=cY i;rw[cI]at U;rw[List.getElem_set];split
   .simp only;rw[ahV (qy.zero.1 h0),h.r _ (aE J)]
   rename_i ad;have hn:keyC (pickL x at_) gs[j].key≠0:=λe=>by
    have I:=anS (qy.zero.1 h0) e;by_cases ab:j<xl gs (pickL x at_)
    .have:=acj h.s ab J;have:=qy.zero.1 I<;>grind
    have:=acj h.s (show xl gs (pickL x at_)<j by omega) U;omega
   rw[agb hn,h.r _ (aE U)]
  |false=>
   have hn:=aHE h.s hh;have R:vu gs (pickL x at_)=gs.take (xl gs (pickL x at_))++[⟨pickL x at_,[]⟩]++gs.drop (xl gs (pickL x at_)):=by grind[vu]
   have hl:(gs.take (xl gs (pickL x at_))).length=xl gs (pickL x at_):=ek
   have T:(gs.take (xl gs (pickL x at_))++[(⟨pickL x at_,[]⟩:Gr)]++gs.drop (xl gs (pickL x at_)))[xl gs (pickL x at_)]?=some ⟨pickL x at_,[]⟩:=eu
   rw[R,T];simp only[bR];have P:(gs.take (xl gs (pickL x at_))++[(⟨pickL x at_,[]⟩:Gr)]++gs.drop (xl gs (pickL x at_))).set (xl gs (pickL x at_)) ⟨pickL x at_,[x]⟩=gs.take (xl gs (pickL x at_))++[⟨pickL x at_,[x]⟩]++gs.drop (xl gs (pickL x at_)):=eu
   rw[P];have o:∀g∈gs,g.rows=withKey at_ g.key (pre++[x]):=λg i=>by rw[agb (λe=>hn g i (qy.zero.1 e)),h.r g i]
   intro g i;rcases bE.1 i with i|i
   .rcases bE.1 i with i|i
    .grind
    have e:=aR.1 i;subst e;rw[ahV (qy.refl _)];have:withKey at_ (pickL x at_) pre=[]:=by unfold withKey;rw[List.filter_eq_nil_iff];intro r hr e;obtain⟨g,i,I⟩:=h.m r hr<;>grind[anS]
    grind
   grind
 have aa:(ji at_ gs x).map Gr.key=(vu gs (pickL x at_)).map Gr.key:=by grind[ji,J1]
 have l:∀k,k∈(vu gs (pickL x at_)).map Gr.key->∃g∈ji at_ gs x,g.key=k:=λk hk=>ek
 have o:∀g∈gs,g.key∈(vu gs (pickL x at_)).map Gr.key:=λg i=>by
  unfold vu;cases uN gs (pickL x at_)
  .simp only[aA]
   grind[bT]
  grind
 intro r hr;rcases bE.1 hr with hr|hr
 .obtain⟨g,i,e⟩:=h.m r hr<;>grind
 have e:=aR.1 hr;subst e;cases hh:uN gs (pickL r at_)with
 |true=>
  have J:xl gs (pickL r at_)<gs.length:=by grind[uN,Yi]
  have h0:keyC gs[xl gs (pickL r at_)].key (pickL r at_)=0:=by grind[agw]
  obtain⟨g2,p,I⟩:=l _ (o _ (aE J));exact⟨g2,p,by rw[I];exact qy.zero.1 h0⟩
 |false=>
  have:pickL r at_∈(vu gs (pickL r at_)).map Gr.key:=by grind[vu]
  obtain⟨g2,p,I⟩:=l _ this;exact⟨g2,p,by rw[I];exact qy.refl _⟩
theorem arJ(at_):∀(rest) (gs:am Gr) (pre:am (am Val)),GrpI at_ gs pre->GrpI at_ (rest.foldl (ji at_) gs) (pre++rest)
 |[],gs,pre,h=>ek
 |x::r,gs,pre,h=>by have:=arJ at_ r _ _ (aCf h x);rw[dh]at this;exact this
theorem aE4(at_)(rows):GrpI at_ (vO at_ rows) rows:=
 arJ at_ rows [] [] ⟨bD,rfl,λ_ h=>(by cases h),λ_ h=>(by cases h)⟩
theorem avx(at_)(rows):vO at_ rows=(keysL at_ rows).map λk=>⟨k,withKey at_ k rows⟩:=by
 have h:=aE4 at_ rows;rw[<-h.k,List.map_map];conv=>lhs;rw[<-List.map_id (vO at_ rows)]
 refine cZ λg i=>?_
 show g=⟨g.key,withKey at_ g.key rows⟩;rw[<-h.r g i]
section
attribute [local irreducible] Sat zH z6 zl
def aC0(cols:am Col)(row:am Val)(on:am ByteArray)(i:Nat)(g:am Val):S:=⟨[(0,.w (.c (.d (.sl (zj cols))))),(1,.w (zE row)),(2,.w (.c (.d (.sl (zo on))))),(7,cV (.own 26 3 g.length)),(8,zh i)],[(26,.arr 3 (rowD g) false)]⟩
theorem Ya(cols)(row)(on)(aa:on.length<=100000)(I:yB row.length (zf cols on)):
 ex asd [.c (.d (.sl (zj cols))),zE row,.c (.d (.sl (zo on)))] (rC (.d (.sl (rowD (pickL row (zf cols on)))))):=by
 refine zJ ?_;refine z7 T8 KT.ok er ?_;refine zX (P:=Pg) (f:=T8.f) (body:=(KT.l 0)) on.length (λi=>aC0 cols row on i (pickL row (zf cols (on.take i)))) (λ_=>True) ⟨trivial,⟨_,zx 7 26 3 ej ej rfl,?_⟩⟩ ?_
 .exact rfl
 intro i hi _;have R:(pickL row (zf cols (on.take i))).length=i:=by grind[pickL,zf]
 have J:∀h:i<on.length,pickL row (zf cols (on.take (i+1)))=pickL row (zf cols (on.take i))++[at0 row (ze cols on[i]).toNat]:=λh=>by grind[pickL,zf,zD]
 have j:i=on.length->pickL row (zf cols on)=pickL row (zf cols (on.take i)):=λh=>ek
 show mwpR Pg T8.f (KT.l 0) _ (aC0 cols row on i (pickL row (zf cols (on.take i))));generalize pickL row (zf cols (on.take i))=T at*;have o:(rowD T).take T.length=rowD T:=by grind[zp]
 unfold aC0;(conv=>whnf);rw[zA];refine Zc (λg=>?_) (λp=>?_)
 .have hg:=xh g;have wi:=zu g ej;have U:=qu cols on[i];have hk:=I (ze cols on[i]) (bA.2 ⟨on[i],aE g,rfl⟩);have hr:(rowD row)[(ze cols on[i]).toNat]?=some (at0 row (ze cols on[i]).toNat).ds:=wH ej;refine zw hg ?_;refine aF U ?_;refine zw hr ?_ (hA:=hk.1);refine yQ ?_;refine zI g trivial ?_;rw[wi,o,J,uX,aB];rfl
 rw[j p];refine⟨rfl,?_⟩;show Res.mk (.w (.c (.d (.sl ((rowD T).take T.length))))) []=_;rw[o];rfl
def Z5:am Val->am Val->Bool
 |x::r,y::s=>bif x.k==0||!yH x y then false else Z5 r s
 |_,_=>true
theorem auw{a b:am Val}{i}(g:i<a.length)(j:i<b.length):Z5 (a.drop i) (b.drop i)=bif a[i].k==0||!yH a[i] b[i]then false else Z5 (a.drop (i+1)) (b.drop (i+1)):=by rw[zm g,zm j];rfl
theorem ahn(t u:Tbl)(x y)(on)(p:on.length<=100000)(hx:yB x.length (zf t.cols on))(hy:yB y.length (zf u.cols on)):
 ex akH [t.w,zE x,u.w,zE y,.c (.d (.sl (zo on)))] (rB (Z5 (pickL x (zf t.cols on)) (pickL y (zf u.cols on)))):=by
 have R:=Ya t.cols x on p hx;have T:=Ya u.cols y on p hy;have hl:(pickL x (zf t.cols on)).length=(pickL y (zf u.cols on)).length:=by grind[pickL,zf]
 have U:(pickL x (zf t.cols on)).length<=100000:=by grind[pickL,zf]
 generalize pickL x (zf t.cols on)=a,pickL y (zf u.cols on)=b at*;refine gq.s T8 ?_;refine aF R ?_;refine aF T ?_;refine xm T8 (gq.l 0) a.length (λi=>⟨[(11,.w (zE a)),(12,.w (zE b)),(13,zh i)],[]⟩) (λi=>Z5 a b=Z5 (a.drop i) (b.drop i)) ?_
 intro i hi g;(conv=>whnf);rw[zp];refine xL (λj=>?_) (λI=>?_)
 .have o:i<b.length:=ej
  rw[auw j o]at g;have g1:=yq j;have g2:=yq o;have wi:=zu j ej;generalize a[i]=v,b[i]=w at*;obtain⟨v1,v2,v3⟩:=v;obtain⟨w1,w2,w3⟩:=w;refine zw g1 ?_;cases P:(v1==0)with
  |true=>
   rw[P]at g;rw[g];exact rfl
  |false=>
   rw[P,Bool.false_or]at g;refine zw g1 ?_;refine zw g2 ?_;refine zg (b:=!yH ⟨v1,v2,v3⟩ ⟨w1,w2,w3⟩) (λJ=>?_) (λJ=>?_)
   .rw[J]at g;rw[g];exact rfl
   rw[J]at g;refine zI j g ?_;rw[wi];rfl
 rw[aI I]at g;rw[g];exact rfl
def awr(j l o:am C)(key:am Val)(p i:Nat)(g:am Val):S:=⟨[(2,.w (zE key)),(4,cV (.ptr 4 0)),(5,cV (.ptr 5 0)),(7,cV (.ptr 7 0)),(8,cV (.ptr 8 0)),(9,cV (.own p 3 g.length)),(10,zh i)],
 [(4,.box j),(5,.box l),(7,.box o),(8,.box [int 0,int 0,str ⟨#[]⟩]),(p,.arr 3 (rowD g) false)]⟩
theorem agc(at_)(key){l:am (am Val)}{i}(h:i<l.length):withKey at_ key (l.take (i+1))=withKey at_ key (l.take i)++(bif keyC (pickL l[i] at_) key==0 then [l[i]]else []):=by exact ud _ h
theorem UL(at_)(key)(l):(withKey at_ key l).length<=l.length:=cB _ _
def kX(cols)(g)(r):=at0 r (ze cols g).toNat
def JC(_:am Val):=zF
theorem aci(t:Tbl)(st:Stp)(key)(p:Agg)(hr:t.rows.length<=100000)(aj:st.cols.length<=100000)(al:t.cols.length<=100000)(hw:∀r∈t.rows,r.length=t.cols.length)(an:yB t.cols.length (zf t.cols st.cols))(hc:zl p.col ⟨#[]⟩=true)
 (hB:∀v∈(withKey (zf t.cols st.cols) key t.rows).map JC,inB v.n=true):
 ex Qf [t.w,.agg st.cs,zE key,.agg [str p.fn,str p.col,str p.nm]] (rV (vS p.fn ((withKey (zf t.cols st.cols) key t.rows).map JC))):=by
 have hA:=ad5 p.fn _ (by grind[UL]) hB;have J:=λr (hm:r∈t.rows)=>Ya t.cols r st.cols aj ek
 generalize vS p.fn ((withKey (zf t.cols st.cols) key t.rows).map JC)=V at*;obtain⟨cols,rows⟩:=t;obtain⟨af,ab,ah⟩:=p;obtain⟨op,⟨eo,nm,⟨vk,vn,vs⟩,ks⟩,R,g,U,aa,sn,tb⟩:=st;simp only at*;refine ZK.s T8 ?_;refine zX (P:=Pg) (f:=T8.f) (body:=(ZK.l 0)) rows.length (λi=>awr [.d (.sl (zj cols)),.d (.sl (zd rows))] [int op,int eo,str nm,int vk,int vn,str vs,.d (.sl (exsD ks)),.d (.sl (yI R)),.d (.sl (zo g)),.d (.sl (ql U)),.d (.sl (yU aa)),int sn,str tb] [str af,str ab,str ah] key 37 i ((withKey (zf cols g) key (rows.take i)).map JC)) (λ_=>True) ⟨trivial,⟨_,zx 9 37 3 ej ej rfl,?_⟩⟩ ?_
 .exact rfl
 intro i hi _;have ak:((withKey (zf cols g) key (rows.take i)).map JC).length<=i:=by grind[UL]
 have j:∀h:i<rows.length,((withKey (zf cols g) key (rows.take (i+1))).map JC)=((withKey (zf cols g) key (rows.take i)).map JC)++(bif keyC (pickL rows[i] (zf cols g)) key==0 then [JC rows[i]]else []):=λh=>by grind[agc]
 have ad:i=rows.length->(withKey (zf cols g) key rows).map JC=(withKey (zf cols g) key (rows.take i)).map JC:=λh=>ek
 generalize(withKey (zf cols g) key (rows.take i)).map JC=T at*;have ae:(rowD T).take T.length=rowD T:=by grind[zp]
 unfold awr;(conv=>whnf);rw[zq];refine Zc (λo=>?_) (λai=>?_)
 .have hg:=zZ o;have j:=j o;have wi:=zu o ej;have hm:=aE o;have J:=J _ hm;have ac:ex YZ [zE (pickL rows[i] (zf cols g)),zE key] (rI (keyC (pickL rows[i] (zf cols g)) key)):=vJ (pickL rows[i] (zf cols g)) key;generalize rows[i]=x at*;generalize keyC (pickL x (zf cols g)) key=n at*;generalize pickL x (zf cols g)=px at*;refine zw hg ?_;refine aF J ?_;refine aF ac ?_;refine zt (b:=n !=0) (λh2=>?_) (λh2=>?_)
  .have I:(n==0)=false:=ek
   rw[I]at j;have j:_=T:=j.trans (bM _);refine zI o trivial ?_;rw[wi,j];rfl
  have I:(n==0)=true:=ek
  rw[I]at j;(conv=>whnf);rw[hc];refine yQ ?_;refine zI o trivial ?_;rw[wi,ae,j,aH,uX,aB];rfl
 rw[ad ai]at hA;(conv=>whnf);rw[ae];refine aF hA ?_;rfl
theorem ach(t:Tbl)(st:Stp)(key)(p:Agg)(hr:t.rows.length<=100000)(ak:st.cols.length<=100000)(an:t.cols.length<=100000)(hw:∀r∈t.rows,r.length=t.cols.length)(ao:yB t.cols.length (zf t.cols st.cols))(hc:zl p.col ⟨#[]⟩=false)(hk:0<=ze t.cols p.col/\ze t.cols p.col<t.cols.length)
 (hB:∀v∈(withKey (zf t.cols st.cols) key t.rows).map (kX t.cols p.col),inB v.n=true):
 ex Qf [t.w,.agg st.cs,zE key,.agg [str p.fn,str p.col,str p.nm]] (rV (vS p.fn ((withKey (zf t.cols st.cols) key t.rows).map (kX t.cols p.col)))):=by
 have hA:=ad5 p.fn _ (by grind[UL]) hB;have R:=λr (hm:r∈t.rows)=>Ya t.cols r st.cols ak ek
 generalize vS p.fn ((withKey (zf t.cols st.cols) key t.rows).map (kX t.cols p.col))=V at*;obtain⟨V1,V2,V3⟩:=V;obtain⟨cols,rows⟩:=t;obtain⟨ah,g,ai⟩:=p;obtain⟨op,⟨eo,nm,⟨vk,vn,vs⟩,ks⟩,U,j,aa,ab,sn,tb⟩:=st;simp only at*;unfold cR wE;simp only;have hf:=qu cols g;refine ZK.s T8 ?_;refine zX (P:=Pg) (f:=T8.f) (body:=(ZK.l 0)) rows.length (λi=>awr [.d (.sl (zj cols)),.d (.sl (zd rows))] [int op,int eo,str nm,int vk,int vn,str vs,.d (.sl (exsD ks)),.d (.sl (yI U)),.d (.sl (zo j)),.d (.sl (ql aa)),.d (.sl (yU ab)),int sn,str tb] [str ah,str g,str ai] key 52 i ((withKey (zf cols j) key (rows.take i)).map (kX cols g))) (λ_=>True) ⟨trivial,⟨_,zx 9 52 3 ej ej rfl,?_⟩⟩ ?_
 .exact rfl
 intro i hi _;have al:((withKey (zf cols j) key (rows.take i)).map (kX cols g)).length<=i:=by grind[UL]
 have o:∀h:i<rows.length,((withKey (zf cols j) key (rows.take (i+1))).map (kX cols g))=((withKey (zf cols j) key (rows.take i)).map (kX cols g))++(bif keyC (pickL rows[i] (zf cols j)) key==0 then [(kX cols g) rows[i]]else []):=λh=>by grind[agc]
 have ad:i=rows.length->(withKey (zf cols j) key rows).map (kX cols g)=(withKey (zf cols j) key (rows.take i)).map (kX cols g):=λh=>ek
 generalize(withKey (zf cols j) key (rows.take i)).map (kX cols g)=T at*;have af:(rowD T).take T.length=rowD T:=by grind[zp]
 unfold awr;(conv=>whnf);rw[zq];refine Zc (λI=>?_) (λaj=>?_)
 .have hg:=zZ I;have o:=o I;have wi:=zu I ej;have hm:=aE I;have R:=R _ hm;have ac:ex YZ [zE (pickL rows[i] (zf cols j)),zE key] (rI (keyC (pickL rows[i] (zf cols j)) key)):=vJ (pickL rows[i] (zf cols j)) key;have ae:(rowD rows[i])[(ze cols g).toNat]?=some (kX cols g rows[i]).ds:=wH ek;generalize rows[i]=x at*;generalize keyC (pickL x (zf cols j)) key=n at*;generalize pickL x (zf cols j)=px,hu:kX cols g x=u at*;obtain⟨u1,u2,u3⟩:=u;refine zw hg ?_;refine aF R ?_;refine aF ac ?_;refine zt (b:=n !=0) (λh2=>?_) (λh2=>?_)
  .have J:(n==0)=false:=ek
   rw[J]at o;have o:_=T:=o.trans (bM _);refine zI I trivial ?_;rw[wi,o];rfl
  have J:(n==0)=true:=ek
  rw[J]at o;(conv=>whnf);rw[hc];refine zw hg ?_;refine aF hf ?_;refine zw ae ?_ (hA:=hk.1);refine yQ ?_;refine zI I trivial ?_;rw[wi,af,o,aH,uX,aB];rfl
 rw[ad aj]at hA;(conv=>whnf);rw[af];refine aF hA ?_;rfl
end
noncomputable section
def agy:=cp [(5,up 10),(2000011,[1,5,0,1,2,4,5,2,1,3,3,6,7,0,1,3,6,3,7,0]),(1000011,[3,6])] [[1,2,5,6],[1,2,5,6,7,8]] afl
end
section
attribute [local irreducible] Sat zH z6 zl
def aCt(cols:am Col)(rows:am (am Val))(on:am ByteArray)(i:Nat)(out:am (am Val)):S:=⟨[(1,.w (.c (.d (.sl (zo on))))),(2,cV (.ptr 2 0)),(5,cV (.own 55 1 out.length)),(6,zh i)],[(2,.box [.d (.sl (zj cols)),.d (.sl (zd rows))]),(55,.arr 1 (zd out) false)]⟩
def aGE(cols:am Col)(rows:am (am Val))(on:am ByteArray)(i:Nat)(out:am (am Val))(k:am Val)(a:Nat):S:=⟨[(1,.w (.c (.d (.sl (zo on))))),(2,cV (.ptr 2 0)),(5,cV (.own 55 1 out.length)),(6,zh i),(7,.w (zE k)),(8,zh a)],[(2,.box [.d (.sl (zj cols)),.d (.sl (zd rows))]),(55,.arr 1 (zd out) false)]⟩
theorem akN(at_){rows:am (am Val)}{i}(h:i<rows.length):keysL at_ (rows.take (i+1))=aaH (keysL at_ (rows.take i)) (pickL rows[i] at_):=by rw[zD h,akM]
theorem aCm(g)(k)(i:Vo g k<=g.length):(aaH g k).length<=g.length+1:=by grind[aaH]
theorem avR:∀(g) (k:am Val),Vo g k<=g.length
 |[],_=>aN _
 |x::r,k=>by
  simp only[Vo];have:=avR r k;cases decide (keyC x k<0)
  .simp_all
  simp_all
theorem aoa(at_):∀(rows:am (am Val)) (i:Nat),i<=rows.length->(keysL at_ (rows.take i)).length<=i
 |rows,0,_=>by simp[keysL]
 |rows,i+1,h=>by rw[akN at_ (by omega:i<rows.length)];have:=aCm (keysL at_ (rows.take i)) (pickL rows[i] at_) (avR _ _);have:=aoa at_ rows i ej;omega
theorem azl{α}(X)(z:α)(a)(l:a<=X.length):∃w,w∈X++[z]/\zM (X++[z]) (a+1) (aD (X.length+1-(a+1)) (aD (X.length+1-a) (bS a (X++[z]))))=X.take a++w::X.drop a:=by
 have g:a<(X++[z]).length:=ew
 refine⟨(X++[z])[a],aE g,?_⟩;have e1:aD (X.length+1-(a+1)) (aD (X.length+1-a) (bS a (X++[z])))=X.drop a:=ek
 have i:(X++[z]).take (a+1)=X.take a++[(X++[z])[a]]:=by grind[zD]
 rw[e1];unfold zM;have j:(X++[z]).drop (a+1+(X.drop a).length)=[]:=aI ek
 grind
theorem ana(t:Tbl)(on)(hr:t.rows.length<=100000)(ak:on.length<=100000)(hw:∀r∈t.rows,r.length=t.cols.length)(aq:yB t.cols.length (zf t.cols on)):
 ex afl [t.w,.c (.d (.sl (zo on)))] (rC (.d (.sl (zd (keysL (zf t.cols on) t.rows))))):=by
 have ag:=λr (hm:r∈t.rows)=>Ya t.cols r on ak ek
 obtain⟨cols,rows⟩:=t;simp only at*;refine zJ ?_;refine agy.s T8 ?_;refine zX (P:=Pg) (f:=T8.f) (body:=(agy.l 1)) rows.length (λi=>aCt cols rows on i (keysL (zf cols on) (rows.take i))) (λ_=>True) ⟨trivial,⟨_,zx 5 55 1 ej ej rfl,?_⟩⟩ ?_
 .exact rfl
 intro i hi _;have an:=aoa (zf cols on) rows i hi;have p:=λh:i<rows.length=>akN (zf cols on) h
 have ai:i=rows.length->keysL (zf cols on) rows=keysL (zf cols on) (rows.take i):=λh=>ek
 show mwpR Pg T8.f (agy.l 1) _ (aCt cols rows on i (keysL (zf cols on) (rows.take i)));generalize keysL (zf cols on) (rows.take i)=T at*;have aa:(zd T).take T.length=zd T:=by grind[zq]
 unfold aCt;(conv=>whnf);rw[zq];refine Zc (λI=>?_) (λaj=>?_)
 .have hg:=zZ I;have p:=p I;have wi:=zu I ej;have ag:=ag _ (aE I);generalize rows[i]=x at*;generalize pickL x (zf cols on)=k at*;refine zw hg ?_;refine aF ag ?_;refine zX (P:=Pg) (f:=T8.f) (body:=(agy.l 0)) T.length (λa=>aGE cols rows on i T k a) (λa=>∀j,(h:j<T.length)->j<a->keyC T[j] k<0) ⟨λj _ h=>absurd h (Nat.not_lt_zero j),zi ?_⟩ ?_
  .exact rfl
  intro a ha ae;unfold aGE;by_cases ad:a<T.length
  .have d1:decide ((a:Int)<(T.length:Int))=true:=bG ej;have gT:=zZ ad;have hc:ex YZ [zE T[a],zE k] (rI (keyC T[a] k)):=vJ T[a] k;have af:keyC T[a] k<0->∀j,(h:j<T.length)->j<a+1->keyC T[j] k<0:=λh0 j h hj=>ek
   have U:¬keyC T[a] k<0->Vo T k=a:=λh0=>agH (Nat.le_of_lt ad) ae λ_=>h0
   have ab:Vo T k=a->aio T k=(keyC T[a] k==0):=λh0=>by grind[aio]
   generalize keyC T[a] k=n at*;generalize T[a]=y at*;(conv=>whnf);rw[d1];(conv=>whnf);refine⟨ej,ek,?_⟩;(conv=>whnf);refine⟨_,gT,?_⟩;refine aF hc ?_;refine zt (b:=decide (n<0)) (λh2=>?_) (λh2=>?_)
   .refine zI ad (af (aP h2)) ?_;rw[zu ad ej];rfl
   have U:=U (aT h2);have ab:=ab U;(conv=>whnf);rw[d1];(conv=>whnf);refine⟨ej,ek,?_⟩;(conv=>whnf);refine⟨_,gT,?_⟩;refine aF hc ?_;refine zt (b:=n==0) (λh3=>?_) (λh3=>?_)
   .have p:keysL (zf cols on) (rows.take (i+1))=T:=by grind[aaH]
    refine zI I trivial ?_;rw[wi,p];rfl
   have p:keysL (zf cols on) (rows.take (i+1))=T.take a++[k]++T.drop a:=by grind[aaH]
   refine yQ ?_;have g:∀y∈zd T++[[D.sl []]],y.length=1:=λy hy=>by grind[vM]
   obtain⟨w,ah,ac⟩:=azl (zd T) [D.sl []] a ek;rw[zq]at ac;have al:w.length=1:=g w ah;have R:(zM (aD T.length (zd T)++[[D.sl []]]) (a+1) (aD (T.length+1-(a+1)) (aD (T.length+1-a) (bS a (aD T.length (zd T)++[[D.sl []]])))))[((a:Int)).toNat]?=some w:=by simp_all[zq]
   have J:(zM (aD T.length (zd T)++[[D.sl []]]) (a+1) (aD (T.length+1-(a+1)) (aD (T.length+1-a) (bS a (aD T.length (zd T)++[[D.sl []]]))))).set a (zM w 0 [D.sl (rowD k)])=zd (T.take a++[k]++T.drop a):=by
    rw[aa,ac,adt ek,List.set_append_right _ _ ek,bU,zq,show a-min a T.length=0 by omega]
    grind[zd,cD,List.map_drop]
   have o:(T.take a++[k]++T.drop a).length=T.length+1:=ew
   have wa:aG.wrap ((a:Int)+1)=((a+1:Nat):Int):=by rw[cP];omega
   refine⟨?_,?_⟩
   ·(conv=>whnf);rw[wa];refine⟨by show(0:Int)<=((a+1:Nat):Int);omega,by show((a+1:Nat):Int)<=((T.length+1:Nat):Int);omega,aW _,?_⟩;(conv=>whnf);refine⟨by show(0:Int)<=(a:Int);omega,by show(a:Int)<=((T.length+1:Nat):Int);omega,aW _,?_⟩;(conv=>whnf);refine⟨λy hy=>g y (by have:=bC (aQ hy);rw[aa]at this;exact this),?_⟩;(conv=>whnf);refine⟨ej,by show(a:Int)<((T.length+1:Nat):Int);omega,?_⟩;(conv=>whnf);refine⟨w,R,by show 0+1<=w.length;omega,?_⟩;refine zI I trivial ?_;rw[wi,p];show S.mk [_,_,(5,cV (.own 55 1 (T.length+1))),_] [_,(55,.arr 1 ((zM (aD T.length (zd T)++[[D.sl []]]) (a+1) (aD (T.length+1-(a+1)) (aD (T.length+1-a) (bS a (aD T.length (zd T)++[[D.sl []]]))))).set a (zM w 0 [D.sl (rowD k)])) false)]=S.mk [_,_,(5,cV (.own 55 1 (T.take a++[k]++T.drop a).length)),_] [_,(55,.arr 1 (zd (T.take a++[k]++T.drop a)) false)];rw[J,o];rfl
   (conv=>whnf);refine⟨by show(0:Int)<=(a:Int);omega,by show(a:Int)<=((T.length+1:Nat):Int);omega,aW _,?_⟩;(conv=>whnf);rw[wa];refine⟨by show(0:Int)<=((a+1:Nat):Int);omega,by show((a+1:Nat):Int)<=((T.length+1:Nat):Int);omega,aW _,?_⟩;(conv=>whnf);refine⟨λy hy=>g y (by have:=bC (aQ hy);rw[aa]at this;exact this),?_⟩;(conv=>whnf);refine⟨ej,by show(a:Int)<((T.length+1:Nat):Int);omega,?_⟩;(conv=>whnf);refine⟨w,R,by show 0+1<=w.length;omega,?_⟩;refine zI I trivial ?_;rw[wi,p];show S.mk [_,_,(5,cV (.own 55 1 (T.length+1))),_] [_,(55,.arr 1 ((zM (aD T.length (zd T)++[[D.sl []]]) (a+1) (aD (T.length+1-(a+1)) (aD (T.length+1-a) (bS a (aD T.length (zd T)++[[D.sl []]]))))).set a (zM w 0 [D.sl (rowD k)])) false)]=S.mk [_,_,(5,cV (.own 55 1 (T.take a++[k]++T.drop a).length)),_] [_,(55,.arr 1 (zd (T.take a++[k]++T.drop a)) false)];rw[J,o];rfl
  have ao:a=T.length:=ej
  have d1:decide ((a:Int)<(T.length:Int))=false:=aM ej;have U:Vo T k=a:=agH ej ae λh=>absurd h ej
  have ab:aio T k=false:=by grind[aio]
  have p:keysL (zf cols on) (rows.take (i+1))=T.take a++[k]++T.drop a:=by grind[aaH]
  (conv=>whnf);rw[d1];(conv=>whnf);rw[d1];refine yQ ?_;have g:∀y∈zd T++[[D.sl []]],y.length=1:=λy hy=>by grind[vM]
  obtain⟨w,ah,ac⟩:=azl (zd T) [D.sl []] a (by grind[zq]);rw[zq]at ac;have al:w.length=1:=g w ah;have R:(zM (aD T.length (zd T)++[[D.sl []]]) (a+1) (aD (T.length+1-(a+1)) (aD (T.length+1-a) (bS a (aD T.length (zd T)++[[D.sl []]])))))[((a:Int)).toNat]?=some w:=by grind[Int.toNat_natCast,zq]
  have J:(zM (aD T.length (zd T)++[[D.sl []]]) (a+1) (aD (T.length+1-(a+1)) (aD (T.length+1-a) (bS a (aD T.length (zd T)++[[D.sl []]]))))).set a (zM w 0 [D.sl (rowD k)])=zd (T.take a++[k]++T.drop a):=by grind[adt,zd]
  have o:(T.take a++[k]++T.drop a).length=T.length+1:=ew
  have wa:aG.wrap ((a:Int)+1)=((a+1:Nat):Int):=by grind[cP]
  refine⟨?_,?_⟩
  ·(conv=>whnf);rw[wa];refine⟨by show(0:Int)<=((a+1:Nat):Int);omega,by show((a+1:Nat):Int)<=((T.length+1:Nat):Int);omega,aW _,?_⟩;refine⟨by show(0:Int)<=(a:Int);omega,by show(a:Int)<=((T.length+1:Nat):Int);omega,aW _,?_⟩;refine⟨λy hy=>g y (by have:=bC (aQ hy);rw[aa]at this;exact this),?_⟩;refine⟨ej,ek,?_⟩;refine⟨w,R,ek,?_⟩;refine zI I trivial ?_;rw[wi,p];show S.mk [_,_,(5,cV (.own 55 1 (T.length+1))),_] [_,(55,.arr 1 ((zM (aD T.length (zd T)++[[D.sl []]]) (a+1) (aD (T.length+1-(a+1)) (aD (T.length+1-a) (bS a (aD T.length (zd T)++[[D.sl []]]))))).set a (zM w 0 [D.sl (rowD k)])) false)]=S.mk [_,_,(5,cV (.own 55 1 (T.take a++[k]++T.drop a).length)),_] [_,(55,.arr 1 (zd (T.take a++[k]++T.drop a)) false)];rw[J,o];rfl
  (conv=>whnf);refine⟨by show(0:Int)<=(a:Int);omega,by show(a:Int)<=((T.length+1:Nat):Int);omega,aW _,?_⟩;rw[wa];refine⟨by show(0:Int)<=((a+1:Nat):Int);omega,by show((a+1:Nat):Int)<=((T.length+1:Nat):Int);omega,aW _,?_⟩;(conv=>whnf);refine⟨λy hy=>g y (by have:=bC (aQ hy);rw[aa]at this;exact this),?_⟩;refine⟨ej,ek,?_⟩;refine⟨w,R,ek,?_⟩;refine zI I trivial ?_;rw[wi,p];show S.mk [_,_,(5,cV (.own 55 1 (T.length+1))),_] [_,(55,.arr 1 ((zM (aD T.length (zd T)++[[D.sl []]]) (a+1) (aD (T.length+1-(a+1)) (aD (T.length+1-a) (bS a (aD T.length (zd T)++[[D.sl []]]))))).set a (zM w 0 [D.sl (rowD k)])) false)]=S.mk [_,_,(5,cV (.own 55 1 (T.take a++[k]++T.drop a).length)),_] [_,(55,.arr 1 (zd (T.take a++[k]++T.drop a)) false)];rw[J,o];rfl
 rw[ai aj];refine⟨rfl,?_⟩;show Res.mk (.w (.c (.d (.sl ((zd T).take T.length))))) []=_;rw[aa];rfl
def aBh(cols:am Col)(g:am Agg):=∀a∈g,(zl a.col ⟨#[]⟩=true/\zl a.fn vj=true)\/(zl a.col ⟨#[]⟩=false/\zl a.fn vj=false/\0<=ze cols a.col/\ze cols a.col<cols.length)
def U8(at_)(rows):=if at_=[]then [[]]else keysL at_ rows
def axW(cols)(at_)(rows)(g)(k):=k++Yd cols (withKey at_ k rows) g
theorem axd(cols)(at_)(rows)(g):(vh at_ rows).map (qI cols g)=(U8 at_ rows).map (axW cols at_ rows g):=by
 unfold vh U8;by_cases h:at_=[]
 .rw[if_pos h,if_pos h];subst h;have:withKey [] [] rows=rows:=by unfold withKey;rw[List.filter_eq_self];intro r _;rfl
  show [([]:am Val)++Yd cols rows g]=[[]++Yd cols (withKey [] [] rows) g];rw[this]
 rw[if_neg h,if_neg h,avx,List.map_map];rfl
theorem aGl{cols}{rows}{a}(h:zl a.fn vj=true):vV cols rows a=rows.map JC:=by
 unfold vV;rw[h,c9,Bool.and_false];show co rows.length zF=rows.map λ_=>zF
 rw[List.map_const']
theorem aGk{cols}{rows}{a}(h:zl a.fn vj=false)(g:0<=ze cols a.col):vV cols rows a=rows.map (kX cols a.col):=by unfold vV;rw[h,Bool.not_false,Bool.and_true,bG (show ze cols a.col>=0 from g)];rfl
theorem aHz:inB 0=true:=UW ej ej
theorem aem(t)(st:Stp)(key)(g)(hr:t.rows.length<=100000)(l:st.cols.length<=100000)(T:tblErr t=0)(j:yB t.cols.length (zf t.cols st.cols))(I:aBh t.cols st.aggs)(hm:g∈st.aggs):
 ex Qf [t.w,.agg st.cs,zE key,.agg [str g.fn,str g.col,str g.nm]] (rV (vS g.fn (vV t.cols (withKey (zf t.cols st.cols) key t.rows) g))):=by
 have hw:=wJ T;have ab:=(qa T).1;obtain⟨aa,_,P⟩:=(Vy t).1 T;rcases I g hm with⟨o,p⟩|⟨o,p,h3,h4⟩
 .rw[aGl p];refine aci t st key g hr l ej hw j o λv U=>?_
  obtain⟨r,_,rfl⟩:=bA.1 U;exact aHz
 rw[aGk p h3];refine ach t st key g hr l ej hw j o ⟨h3,h4⟩ λv U=>?_
 obtain⟨r,J,rfl⟩:=bA.1 U;have R:r∈t.rows:=(List.mem_filter.1 J).1;exact(x9 ((P r R).get (i:=(ze t.cols g.col).toNat) ej)).2
def axV(g j:am C)(K:am (am Val))(i:Nat)(out:am (am Val)):S:=⟨[(2,cV (.ptr 2 0)),(3,cV (.ptr 3 0)),(5,.w (.c (.d (.sl (zd K))))),(6,cV (.own 56 1 out.length)),(7,zh i)],[(2,.box g),(3,.box j),(56,.arr 1 (zd out) false)]⟩
def aC8(g l:am C)(K:am (am Val))(i:Nat)(out:am (am Val))(j:Nat)(row:am Val):S:=⟨[(2,cV (.ptr 2 0)),(3,cV (.ptr 3 0)),(5,.w (.c (.d (.sl (zd K))))),(6,cV (.own 56 1 out.length)),(7,zh i),(8,cV (.own 52 3 row.length)),(9,zh j)],[(2,.box g),(3,.box l),(52,.arr 3 (rowD row) false),(56,.arr 1 (zd out) false)]⟩
theorem ajf(t)(st:Stp)(hr:t.rows.length<=20000)(aj:st.cols.length<=100000)(ay:st.aggs.length<=100000)(ht:tblErr t=0)(ai:yB t.cols.length (zf t.cols st.cols))(aq:aBh t.cols st.aggs):
 ex abO [t.w,.agg st.cs] (rC (.d (.sl (zd ((vh (zf t.cols st.cols) t.rows).map (qI t.cols st.aggs)))))):=by
 rw[axd];have hw:=wJ ht;have hK:=ana t st.cols ej aj hw ai;have hA:=λkey a (hm:a∈st.aggs)=>aem t st key a ej aj ht ai aq hm
 have ao:(U8 (zf t.cols st.cols) t.rows).length<=100000/\∀k∈U8 (zf t.cols st.cols) t.rows,k.length<=100000:=by
  have hg:=gG (zf t.cols st.cols) t.rows;have az:=avx (zf t.cols st.cols) t.rows;unfold U8;by_cases h:zf t.cols st.cols=[]
  .simp_all
  rw[if_neg h];have e:(vh (zf t.cols st.cols) t.rows)=(keysL (zf t.cols st.cols) t.rows).map λk=>⟨k,withKey (zf t.cols st.cols) k t.rows⟩:=by simp_all[vh]
  rw[e]at hg;have h1:=hg.few;rw[cc]at h1;refine⟨ej,λk hk=>?_⟩;have:=hg.key _ (bA.2 ⟨k,hk,rfl⟩)
  grind[zf]
 have R:(bif ((st.cols.length:Int)==0)then([[]]:am (am Val))else keysL (zf t.cols st.cols) t.rows)=U8 (zf t.cols st.cols) t.rows:=by simp_all[U8,zf]
 have ad:∀k,axW t.cols (zf t.cols st.cols) t.rows st.aggs k=k++st.aggs.map λa=>vS a.fn (vV t.cols (withKey (zf t.cols st.cols) k t.rows) a):=λk=>rfl
 obtain⟨T,av⟩:∃T,axW t.cols (zf t.cols st.cols) t.rows st.aggs=T:=⟨_,rfl⟩;rw[av]at ad⊢;obtain⟨cols,rows⟩:=t;obtain⟨op,⟨eo,nm,⟨vk,vn,vs⟩,ks⟩,I,o,g,J,sn,tb⟩:=st;simp only at*;unfold cR wE at*;simp only at*;generalize U8 (zf cols o) rows=K at*;refine zJ ?_;refine vU.s T8 ?_;refine aF hK ?_;rw[zA];have ah:∀s:S,xO s [2,3,5,6,7] (· =axV [.d (.sl (zj cols)),.d (.sl (zd rows))] [int op,int eo,str nm,int vk,int vn,str vs,.d (.sl (exsD ks)),.d (.sl (yI I)),.d (.sl (zo o)),.d (.sl (ql g)),.d (.sl (yU J)),int sn,str tb] K 0 [])->z6 (mwpR Pg T8.f (vU.l 1)) [2,3,5,6,7] (Qo 0 (aa3 (mwpR Pg T8.f (qD (qD (qD (qD (qD vU.A.code)))))) (Jq vU.A.res [] (DQ (rC (.d (.sl (zd (K.map T))))))))) s:=λs h0=>by
  refine zX (P:=Pg) (f:=T8.f) (body:=(vU.l 1)) K.length (λi=>axV [.d (.sl (zj cols)),.d (.sl (zd rows))] [int op,int eo,str nm,int vk,int vn,str vs,.d (.sl (exsD ks)),.d (.sl (yI I)),.d (.sl (zo o)),.d (.sl (ql g)),.d (.sl (yU J)),int sn,str tb] K i ((K.take i).map T)) (λ_=>True) ⟨trivial,h0⟩ ?_;intro i hi _;have aw:((K.take i).map T).length=i:=ew
  have ac:∀h:i<K.length,(K.take (i+1)).map T=(K.take i).map T++[T K[i]]:=λh=>by grind[zD]
  have af:i=K.length->K.map T=(K.take i).map T:=λh=>ek
  show mwpR Pg T8.f (vU.l 1) _ (axV _ _ K i ((K.take i).map T));generalize(K.take i).map T=U at*;have ak:(zd U).take U.length=zd U:=by grind[zq]
  unfold axV;(conv=>whnf);rw[zq];refine Zc (λaa=>?_) (λau=>?_)
  .have hg:=zZ aa;have wi:=zu aa ej;have ac:=ac aa;have a0:=ao.2 K[i] (aE aa);have a4:=ad K[i];have hA:=λa hm=>hA K[i] a hm
   generalize K[i]=k at*;have an:∀z∈rowD k,z.length=3:=λz hz=>by obtain⟨t,_,rfl⟩:=bA.1 hz;rfl
   refine zw hg ?_;refine⟨an,by grind[zW,zp],by grind[zp],?_⟩;(conv=>whnf);refine zX (P:=Pg) (f:=T8.f) (body:=(vU.l 0)) g.length (λj=>aC8 [.d (.sl (zj cols)),.d (.sl (zd rows))] [int op,int eo,str nm,int vk,int vn,str vs,.d (.sl (exsD ks)),.d (.sl (yI I)),.d (.sl (zo o)),.d (.sl (ql g)),.d (.sl (yU J)),int sn,str tb] K i U j (k++(g.take j).map λa=>vS a.fn (vV cols (withKey (zf cols o) k rows) a))) (λ_=>True) ⟨trivial,⟨_,wY 8 30 52 3 _ _ ej rfl rfl,?_⟩⟩ ?_
   ·(conv=>whnf);unfold aC8;simp only[List.take_zero,List.map_nil,bM,bF,bN,dd,bR,zp];rfl
   intro j hj _;have ab:∀h:j<g.length,(k++(g.take (j+1)).map λa=>vS a.fn (vV cols (withKey (zf cols o) k rows) a))=(k++(g.take j).map λa=>vS a.fn (vV cols (withKey (zf cols o) k rows) a))++[vS g[j].fn (vV cols (withKey (zf cols o) k rows) g[j])]:=λh=>by grind[zD]
   have ae:j=g.length->T k=(k++(g.take j).map λa=>vS a.fn (vV cols (withKey (zf cols o) k rows) a)):=λh=>ek
   have ax:(k++(g.take j).map λa=>vS a.fn (vV cols (withKey (zf cols o) k rows) a)).length<=200000:=ek
   generalize(k++(g.take j).map λa=>vS a.fn (vV cols (withKey (zf cols o) k rows) a))=V at*;have al:(rowD V).take V.length=rowD V:=by grind[zp]
   unfold aC8;(conv=>whnf);rw[wR];refine Zc (λp=>?_) (λag=>?_)
   .have ar:=Y7 p;have wj:=zu p ej;have ab:=ab p;have hA:=hA g[j] (aE p);generalize g[j]=a at*;generalize vS a.fn (vV cols (withKey (zf cols o) k rows) a)=v at*;obtain⟨v1,v2,v3⟩:=v;obtain⟨a1,a2,a3⟩:=a;refine zw hg ?_;refine zw ar ?_;refine aF hA ?_;refine yQ ?_;refine zI p trivial ?_;rw[wj,al,ab,uX,aB];rfl
   rw[ae ag]at ac;(conv=>whnf);rw[al];refine yQ ?_;refine zI aa trivial ?_;rw[wi,ak,ac,qR,aB];rfl
  rw[af au];(conv=>whnf);refine⟨rfl,?_⟩;show Res.mk (.w (.c (.d (.sl ((zd U).take U.length))))) []=_;rw[ak];rfl
 cases hz:((o.length:Int)==0)with
 |true=>
  rw[hz]at R;refine ah _ ⟨_,(ZD 5 (.own 18 1 1) (.sl [[.sl []]]) _ rfl rfl).trans (zx 6 56 1 ej ej rfl),?_⟩;rw[<-R];rfl
 |false=>
  rw[hz]at R;have R:keysL (zf cols o) rows=K:=R;rw[R];refine ah _ ⟨_,zx 6 56 1 ej ej rfl,?_⟩;exact rfl
def asT(g j:am C)(p i:Nat)(out:am (am Val)):S:=⟨[(2,cV (.ptr 2 0)),(3,cV (.ptr 3 0)),(5,cV (.own p 1 out.length)),(6,zh i)],[(2,.box g),(3,.box j),(p,.arr 1 (zd out) false)]⟩
theorem ajj(t:Tbl)(st:Stp)(g:st.op=3)(R)(o:ex abO [t.w,.agg st.cs] (rC (.d (.sl (zd R))))):ex Xp [t.w,.agg st.cs] (rC (.d (.sl (zd R)))):=by obtain⟨op,⟨I,P,⟨vk,vn,vs⟩,J⟩,i,p,j,l,T,U⟩:=st;subst g;refine wA.s T8 ?_;refine aF o ?_;rfl
theorem ajk(t:Tbl)(st:Stp)(g:st.op=5)(J:0<=st.n):ex Xp [t.w,.agg st.cs] (rC (.d (.sl (zd (t.rows.take (yL false st.n t.rows.length).toNat))))):=by
 obtain⟨cols,rows⟩:=t;obtain⟨op,⟨R,U,⟨vk,vn,vs⟩,T⟩,j,P,l,p,o,tb⟩:=st;simp only at g J;subst g;have I:0<=yL false o rows.length/\yL false o rows.length<=rows.length:=by grind[axz]
 generalize i:yL false o rows.length=m at*;refine wA.s T8 ?_;rw[zq,i];refine⟨I.1,by show m<=(rows.length:Int);exact I.2,?_⟩;show Res.mk (.w (.c (.d (.sl ((zd rows).take m.toNat))))) []=_;rw[show(zd rows).take m.toNat=zd (rows.take m.toNat)by grind[zd,cD]];rfl
theorem ajh(t:Tbl)(st:Stp)(aa:st.op=1)(hit:st.items=[])(ad:st.cond.small=true)(hr:t.rows.length<=20000):ex Xp [t.w,.agg st.cs] (rC (.d (.sl (zd (whereR t.cols t.rows st.cond))))):=by
 have hC:=λrow=>am7 t.cols row st.cond ad
 obtain⟨cols,rows⟩:=t;obtain⟨op,⟨R,nm,⟨vk,vn,vs⟩,ks⟩,ae,J,g,j,sn,tb⟩:=st;simp only at aa hit hC hr;subst aa;subst hit;unfold cR wE whereR;simp only;generalize ag:(λr=>condB cols r (.mk R nm ⟨vk,vn,vs⟩ ks))=p at*;have hC:∀row,ex afk [.c (.d (.sl (zj cols))),zE row,(Ex.mk R nm ⟨vk,vn,vs⟩ ks).w] (rB (p row)):=λrow=>ek
 refine zJ ?_;refine wA.s T8 ?_;refine zX (P:=Pg) (f:=T8.f) (body:=(wA.l 1)) rows.length (λi=>asT [.d (.sl (zj cols)),.d (.sl (zd rows))] [int 1,int R,str nm,int vk,int vn,str vs,.d (.sl (exsD ks)),.d (.sl (yI [])),.d (.sl (zo J)),.d (.sl (ql g)),.d (.sl (yU j)),int sn,str tb] 56 i ((rows.take i).filter p)) (λ_=>True) ⟨trivial,⟨_,zx 5 56 1 ej ej rfl,?_⟩⟩ ?_
 .exact rfl
 intro i hi _;have af:((rows.take i).filter p).length<=i:=ek
 have I:∀h:i<rows.length,(rows.take (i+1)).filter p=(rows.take i).filter p++(bif p rows[i]then [rows[i]]else []):=λh=>ud p h
 have U:i=rows.length->rows.filter p=(rows.take i).filter p:=λh=>ek
 show mwpR Pg T8.f (wA.l 1) _ (asT _ _ 56 i ((rows.take i).filter p));generalize(rows.take i).filter p=T at*;have ab:(zd T).take T.length=zd T:=by grind[zq]
 unfold asT;(conv=>whnf);rw[zq];refine Zc (λo=>?_) (λac=>?_)
 .have hg:=zZ o;have wi:=zu o ej;have I:=I o;generalize rows[i]=x at*;have hc:=hC x;generalize p x=b at*;refine zw hg ?_;refine Sat.cal (hc) ?_;cases b with
  |true=>
   refine zw hg ?_;refine yQ ?_;refine xm T8 (wA.l 0) 0 (λk=>⟨[(2,cV (.ptr 2 0)),(3,cV (.ptr 3 0)),(5,cV (.own 56 1 (T.length+1))),(6,zh i),(7,cV .nil),(8,zh k)],[(2,.box [.d (.sl (zj cols)),.d (.sl (zd rows))]),(3,.box [int 1,int R,str nm,int vk,int vn,str vs,.d (.sl (exsD ks)),.d (.sl (yI [])),.d (.sl (zo J)),.d (.sl (ql g)),.d (.sl (yU j)),int sn,str tb]),(56,.arr 1 ((zd T).take T.length++[[D.sl (rowD x)]]) false)]⟩) (λ_=>True) ?_
   intro k hk _;have hk:k=0:=ej
   subst hk;refine zI o trivial ?_;rw[wi,ab,I,aH,qR,aB];rfl
  |false=>
   refine xm T8 (wA.l 0) 0 (λk=>⟨[(2,cV (.ptr 2 0)),(3,cV (.ptr 3 0)),(5,cV (.own 56 1 T.length)),(6,zh i),(7,cV .nil),(8,zh k)],[(2,.box [.d (.sl (zj cols)),.d (.sl (zd rows))]),(3,.box [int 1,int R,str nm,int vk,int vn,str vs,.d (.sl (exsD ks)),.d (.sl (yI [])),.d (.sl (zo J)),.d (.sl (ql g)),.d (.sl (yU j)),int sn,str tb]),(56,.arr 1 (zd T) false)]⟩) (λ_=>True) ?_
   intro k hk _;have hk:k=0:=ej
   subst hk;refine zI o trivial ?_;rw[wi,I,aA,bM];rfl
 rw[U ac];refine⟨rfl,?_⟩;show Res.mk (.w (.c (.d (.sl ((zd T).take T.length))))) []=_;rw[ab];rfl
def aDl(g j:am C)(i:Nat)(out:am (am Val))(k:Nat)(row:am Val):S:=⟨[(2,cV (.ptr 2 0)),(3,cV (.ptr 3 0)),(5,cV (.own 87 1 out.length)),(6,zh i),(7,cV (.own 80 3 row.length)),(8,zh k)],[(2,.box g),(3,.box j),(80,.arr 3 (rowD row) false),(87,.arr 1 (zd out) false)]⟩
theorem aji(t:Tbl)(st:Stp)(ai:st.op=2)(aj:∀x∈st.items,x.e.small=true)(av:st.items.length<=100000)(hr:t.rows.length<=20000):ex Xp [t.w,.agg st.cs] (rC (.d (.sl (zd (selR t.cols t.rows st.items))))):=by
 have hE:=λrow (x:Itm) (hx:x∈st.items)=>acg t.cols row x.e (aj x hx)
 obtain⟨cols,rows⟩:=t;obtain⟨op,⟨eo,nm,⟨vk,vn,vs⟩,ks⟩,g,ae,p,I,sn,tb⟩:=st;simp only at*;subst ai;unfold cR wE selR;simp only;refine zJ ?_;refine wA.s T8 ?_;refine zX (P:=Pg) (f:=T8.f) (body:=(wA.l 1)) rows.length (λi=>asT [.d (.sl (zj cols)),.d (.sl (zd rows))] [int 2,int eo,str nm,int vk,int vn,str vs,.d (.sl (exsD ks)),.d (.sl (yI g)),.d (.sl (zo ae)),.d (.sl (ql p)),.d (.sl (yU I)),int sn,str tb] 87 i ((rows.take i).map λr=>itR cols r g)) (λ_=>True) ⟨trivial,⟨_,zx 5 87 1 ej ej rfl,?_⟩⟩ ?_
 .exact rfl
 intro i hi _;have ar:((rows.take i).map λr=>itR cols r g).length=i:=ew
 have R:∀h:i<rows.length,((rows.take (i+1)).map λr=>itR cols r g)=((rows.take i).map λr=>itR cols r g)++[itR cols rows[i] g]:=λh=>by grind[zD]
 have aa:i=rows.length->(rows.map λr=>itR cols r g)=(rows.take i).map λr=>itR cols r g:=λh=>ek
 generalize((rows.take i).map λr=>itR cols r g)=T at*;have ac:(zd T).take T.length=zd T:=by grind[zq]
 unfold asT;(conv=>whnf);rw[zq];refine Zc (λJ=>?_) (λah=>?_)
 .have hg:=zZ J;have wi:=zu J ej;have R:=R J;generalize rows[i]=x at*;(conv=>whnf);refine zX (P:=Pg) (f:=T8.f) (body:=(wA.l 0)) g.length (λk=>aDl [.d (.sl (zj cols)),.d (.sl (zd rows))] [int 2,int eo,str nm,int vk,int vn,str vs,.d (.sl (exsD ks)),.d (.sl (yI g)),.d (.sl (zo ae)),.d (.sl (ql p)),.d (.sl (yU I)),int sn,str tb] i T k (itR cols x (g.take k))) (λ_=>True) ⟨trivial,⟨_,zx 7 80 3 ej ej rfl,?_⟩⟩ ?_
  .exact rfl
  intro k hk _;have au:(itR cols x (g.take k)).length=k:=by grind[itR]
  have o:∀h:k<g.length,itR cols x (g.take (k+1))=itR cols x (g.take k)++[exprV cols x g[k].e]:=λh=>by grind[itR,zD]
  have U:k=g.length->itR cols x g=itR cols x (g.take k):=λh=>ek
  show mwpR Pg T8.f (wA.l 0) _ (aDl _ _ i T k (itR cols x (g.take k)));generalize itR cols x (g.take k)=V at*;have ad:(rowD V).take V.length=rowD V:=by grind[zp]
  unfold aDl;(conv=>whnf);rw[qP];refine Zc (λj=>?_) (λab=>?_)
  .have ag:=j8 j;have wk:=zu j ej;have o:=o j;have hE:=hE x g[k] (aE j);generalize g[k]=z at*;obtain⟨⟨af,al,⟨an,ao,aq⟩,ak⟩,s2⟩:=z;simp only at o hE;generalize exprV cols x (.mk af al ⟨an,ao,aq⟩ ak)=u at*;obtain⟨u1,u2,u3⟩:=u;refine zw hg ?_;refine zw ag ?_;refine aF hE ?_;refine yQ ?_;refine zI j trivial ?_;rw[wk,ad,o,uX,aB];rfl
  rw[U ab]at R;(conv=>whnf);rw[ad];refine yQ ?_;refine zI J trivial ?_;rw[wi,ac,R,qR,aB];rfl
 rw[aa ah];refine⟨rfl,?_⟩;show Res.mk (.w (.c (.d (.sl ((zd T).take T.length))))) []=_;rw[ac];rfl
def Zd(L R more:am Int)(ys:am (am Val))(x):=ys.flatMap λy=>bif Z5 (pickL x L) (pickL y R)then [x++pickL y more]else []
def Y2(L R more:am Int)(xs ys:am (am Val)):=xs.flatMap (Zd L R more ys)
theorem afK(L R more)(x):∀ys,(Zd L R more ys x).length<=ys.length
 |[]=>aN _
 |y::r=>by
  have:=afK L R more x r;unfold Zd at*;rw[aU,aB,bV];cases Z5 (pickL x L) (pickL y R)
  .show 0+_<=_;omega
  show 1+_<=_;omega
theorem aok(L R more)(ys):∀xs,(Y2 L R more xs ys).length<=xs.length*ys.length
 |[]=>by simp[Y2]
 |x::r=>by have i:=afK L R more x ys;have g:=aok L R more ys r;simp only[Y2,aU,aB,bV]at g⊢;rw[Nat.add_mul];omega
theorem aAu{L R more}{ys xs:am (am Val)}{i}(h:i<xs.length)(l:xs.length*ys.length<=20000):(Y2 L R more (xs.take i) ys).length+ys.length<=20000:=by have g:=aok L R more ys (xs.take i);rw[bU,cT ej]at g;have j:(i+1)*ys.length<=xs.length*ys.length:=Nat.mul_le_mul_right _ h;rw[Nat.add_mul,Nat.one_mul]at j;omega
def asI(g j:am C)(on:am ByteArray)(i k:Nat)(out:am (am Val))(c:Nat)(row:am Val):S:=⟨[(2,.w (.c (.d (.sl (zo on))))),(3,cV (.ptr 3 0)),(4,cV (.ptr 4 0)),(7,cV (.own 98 1 out.length)),(8,zh i),(9,zh k),(10,cV (.own 94 3 row.length)),(11,zh c)],[(3,.box g),(4,.box j),(94,.arr 3 (rowD row) false),(98,.arr 1 (zd out) false)]⟩
def aC9(g j:am C)(on:am ByteArray)(i k:Nat)(out:am (am Val))(c:Nat)(row:am Val)(b:Bool)(n:Nat):S:=⟨[(2,.w (.c (.d (.sl (zo on))))),(3,cV (.ptr 3 0)),(4,cV (.ptr 4 0)),(7,cV (.own 98 1 out.length)),(8,zh i),(9,zh k),(10,cV (.own 94 3 row.length)),(11,zh c),(12,yf b),(13,zh n)],[(3,.box g),(4,.box j),(94,.arr 3 (rowD row) false),(98,.arr 1 (zd out) false)]⟩
theorem aHL{Q:E->S->Prop}{s}(tc:am Col)(tr)(g)(r:am (am Val))(on:am ByteArray)(ai:on.length<=100000)(aj:g.length<=100000)(i k)(hk:k<r.length)(hy:r[k].length=g.length)(out:am (am Val))(x:am Val)(hx:x.length<=100000)
 (h0:xO s [2,3,4,7,8,9,10,11] (· =asI [.d (.sl (zj tc)),.d (.sl (zd tr))] [.d (.sl (zj g)),.d (.sl (zd r))] on i k out 0 x))
 (hQ:Q (.exit 4) (y5 (asI [.d (.sl (zj tc)),.d (.sl (zd tr))] [.d (.sl (zj g)),.d (.sl (zd r))] on i k out g.length (x++pickL r[k] (oth on 0 g))) 59 (yf (decide ((g.length:Int)<g.length))))):
 z6 (mwpR Pg T8.f (qL.l 1)) [2,3,4,7,8,9,10,11] Q s:=by
 have ad:=zZ hk;have ag:∀c:Nat,c<g.length->(rowD r[k])[((c:Int)).toNat]?=some (at0 r[k] c).ds:=λc h=>by grind[yq,Kt]
 generalize r[k]=y at*;refine zX (P:=Pg) (f:=T8.f) (body:=(qL.l 1)) g.length (λc=>asI [.d (.sl (zj tc)),.d (.sl (zd tr))] [.d (.sl (zj g)),.d (.sl (zd r))] on i k out c (x++pickL y (oth on 0 (g.take c)))) (λ_=>True) ⟨trivial,?_⟩ ?_
 .simp_all[pickL,oth]
 clear h0;intro c hc _;have j:∀h:c<g.length,x++pickL y (oth on 0 (g.take (c+1)))=(x++pickL y (oth on 0 (g.take c)))++(bif !hasB on g[c].name then [at0 y c]else []):=λh=>by rw[aiJ on h];unfold pickL;rw[List.map_append,dh];cases(!hasB on g[c].name)<;>rfl
 have U:c=g.length->x++pickL y (oth on 0 g)=x++pickL y (oth on 0 (g.take c)):=λh=>ek
 have ah:(x++pickL y (oth on 0 (g.take c))).length<=200000:=by grind[pickL,Ww]
 show mwpR Pg T8.f (qL.l 1) _ (asI [.d (.sl (zj tc)),.d (.sl (zd tr))] _ on i k out c (x++pickL y (oth on 0 (g.take c))));generalize x++pickL y (oth on 0 (g.take c))=T at*;have ae:(rowD T).take T.length=rowD T:=by grind[zp]
 unfold asI;(conv=>whnf);rw[zy];refine Zc (λp=>?_) (λaa=>?_)
 .have hg:=yN p;have wc:=zu p ej;have j:=j p;have af:=ag c p;generalize g[c]=z at*;obtain⟨J,z2⟩:=z;simp only at j;refine xm T8 (qL.l 0) on.length (λn=>aC9 [.d (.sl (zj tc)),.d (.sl (zd tr))] [.d (.sl (zj g)),.d (.sl (zd r))] on i k out c T (hasB (on.take n) J) n) (λ_=>True) ?_
  .intro n hn _;have I:∀h:n<on.length,hasB (on.take (n+1)) J=(hasB (on.take n) J||zl on[n] J):=λh=>by unfold hasB;rw[zD h,List.any_append,cL,List.any_nil,Bool.or_false,QV]
   have R:n=on.length->hasB on J=hasB (on.take n) J:=λh=>ek
   show mwpR Pg T8.f (qL.l 0) _ (aC9 [.d (.sl (zj tc)),.d (.sl (zd tr))] _ on i k out c T (hasB (on.take n) J) n);generalize hasB (on.take n) J=b at*;unfold aC9;(conv=>whnf);rw[zA];refine Zc (λo=>?_) (λab=>?_)
   .have ac:=xh o;have wn:=zu o ej;have I:=I o;generalize on[n]=s1 at*;cases b with
    |true=>
     refine zI o trivial ?_;rw[wn,I];rfl
    |false=>
     refine zw ac ?_;refine zw hg ?_;refine zI o trivial ?_;rw[wn,I];rfl
   rw[R ab]at j;cases b with
   |true=>
    have j:x++pickL y (oth on 0 (g.take (c+1)))=T:=j.trans (bM _);refine zI p trivial ?_;rw[wc,j];rfl
   |false=>
    have j:x++pickL y (oth on 0 (g.take (c+1)))=T++[at0 y c]:=j;refine zw ad ?_;refine zw af ?_;refine yQ ?_;refine zI p trivial ?_;rw[wc,ae,j,uX,aB];rfl
 rw[U aa]at hQ;subst aa;exact hQ
def aDa(g j:am C)(on:am ByteArray)(i k:Nat)(out:am (am Val)):S:=⟨[(2,.w (.c (.d (.sl (zo on))))),(3,cV (.ptr 3 0)),(4,cV (.ptr 4 0)),(7,cV (.own 98 1 out.length)),(8,zh i),(9,zh k)],[(3,.box g),(4,.box j),(98,.arr 1 (zd out) false)]⟩
def aDb(g j:am C)(on:am ByteArray)(i:Nat)(out:am (am Val)):S:=⟨[(2,.w (.c (.d (.sl (zo on))))),(3,cV (.ptr 3 0)),(4,cV (.ptr 4 0)),(7,cV (.own 98 1 out.length)),(8,zh i)],[(3,.box g),(4,.box j),(98,.arr 1 (zd out) false)]⟩
theorem ajg(t u)(on)(ag:on.length<=100000)(ht:tblErr t=0)(hu:tblErr u=0)(af:t.rows.length*u.rows.length<=20000)(hx:yB t.cols.length (zf t.cols on))(hy:yB u.cols.length (zf u.cols on)):
 ex abP [t.w,u.w,.c (.d (.sl (zo on)))] (rC (.d (.sl (zd (Y2 (zf t.cols on) (zf u.cols on) (oth on 0 u.cols) t.rows u.rows))))):=by
 have wt:=wJ ht;have wu:=wJ hu;have ft:=qa ht;have fu:=qa hu;have hM:=λx (hm:x∈t.rows) y (aq:y∈u.rows)=>ahn t u x y on ag ek ek
 obtain⟨tc,tr⟩:=t;obtain⟨uc,g⟩:=u;simp only at*;have aa:=λ(Q:E->S->Prop) (s:S) (i k:Nat) (hk:k<g.length) (out:am (am Val)) (x:am Val) (ah:x.length<=100000)=>aHL (Q:=Q) (s:=s) tc tr uc g on ag ej i k hk (wu _ (aE hk)) out x ah
 generalize zf tc on=L,zf uc on=R,ar:oth on 0 uc=more at*;refine zJ ?_;refine qL.s T8 ?_;refine zX (P:=Pg) (f:=T8.f) (body:=(qL.l 3)) tr.length (λi=>aDb [.d (.sl (zj tc)),.d (.sl (zd tr))] [.d (.sl (zj uc)),.d (.sl (zd g))] on i (Y2 L R more (tr.take i) g)) (λ_=>True) ⟨trivial,⟨_,zx 7 98 1 ej ej rfl,?_⟩⟩ ?_
 .exact rfl
 intro i hi _;have I:∀h:i<tr.length,Y2 L R more (tr.take (i+1)) g=Y2 L R more (tr.take i) g++Zd L R more g tr[i]:=λh=>by grind[Y2,zD]
 have ad:i=tr.length->Y2 L R more tr g=Y2 L R more (tr.take i) g:=λh=>ek
 have J:=λh:i<tr.length=>aAu (L:=L) (R:=R) (more:=more) h af
 show mwpR Pg T8.f (qL.l 3) _ (aDb _ _ on i (Y2 L R more (tr.take i) g));generalize Y2 L R more (tr.take i) g=T at*;have al:(zd T).take T.length=zd T:=by grind[zq]
 unfold aDb;by_cases p:i<tr.length
 .have d1:decide ((i:Int)<(tr.length:Int))=true:=bG ej;have J:=J p;have d2:decide ((T.length:Int)<=20000)=true:=bG ej;have hg:=zZ p;have wi:=zu p ej;have I:=I p;have ah:=wt tr[i] (aE p);have hM:=hM tr[i] (aE p);generalize tr[i]=x at*;have ai:∀z∈rowD x,z.length=3:=λz hz=>by obtain⟨t,_,rfl⟩:=bA.1 hz;rfl
  (conv=>whnf);rw[zq,d1];(conv=>whnf);rw[d2];(conv=>whnf);refine zX (P:=Pg) (f:=T8.f) (body:=(qL.l 2)) g.length (λk=>aDa [.d (.sl (zj tc)),.d (.sl (zd tr))] [.d (.sl (zj uc)),.d (.sl (zd g))] on i k (T++Zd L R more (g.take k) x)) (λ_=>True) ⟨trivial,zi ?_⟩ ?_
  ·(conv=>whnf);rw[show T++Zd L R more (g.take 0) x=T by simp[Zd]];rfl
  intro k hk _;have o:∀h:k<g.length,T++Zd L R more (g.take (k+1)) x=(T++Zd L R more (g.take k) x)++(bif Z5 (pickL x L) (pickL g[k] R)then [x++pickL g[k] more]else []):=λh=>by grind[Zd,zD]
  have ab:k=g.length->T++Zd L R more g x=T++Zd L R more (g.take k) x:=λh=>ek
  have ac:k<g.length->(T++Zd L R more (g.take k) x).length<20000:=λh=>by grind[afK]
  show mwpR Pg T8.f (qL.l 2) _ (aDa _ _ on i k (T++Zd L R more (g.take k) x));generalize T++Zd L R more (g.take k) x=U at*;have an:(zd U).take U.length=zd U:=by grind[zq]
  unfold aDa;(conv=>whnf);rw[zq];refine Zc (λj=>?_) (λae=>?_)
  .have aj:=zZ j;have wk:=zu j ej;have o:=o j;have ac:=ac j;have hM:=hM g[k] (aE j);have aa:=λQ s=>aa Q s i k j U x ej
   generalize g[k]=y at*;generalize Z5 (pickL x L) (pickL y R)=b at*;refine zw hg ?_;refine zw aj ?_;refine Sat.cal (hM) ?_;cases b with
   |false=>
    have o:T++Zd L R more (g.take (k+1)) x=U:=o.trans (bM _);refine zI j trivial ?_;rw[wk,o];rfl
   |true=>
    generalize x++pickL y more=z at*;have ao:(rowD z).take z.length=rowD z:=by rw[<-zp,bJ]
    refine zw hg ?_;refine⟨ai,by show zW (0+(rowD x).length) 32;unfold zW;rw[zp];omega,by show 0+(rowD x).length<=_;rw[zp];omega,?_⟩;refine aa _ _ ⟨_,wY 10 54 94 3 _ _ ej rfl rfl,?_⟩ ?_
    ·(conv=>whnf);simp only[bF,bN,dd,bR,zp];rfl
    (conv=>whnf);rw[ao];refine yQ ?_;refine zI j trivial ?_;rw[wk,an,o,qR,aB];rfl
  rw[ab ae]at I;refine zI p trivial ?_;rw[wi,I];rfl
 have ak:i=tr.length:=ej
 have d1:decide ((i:Int)<(tr.length:Int))=false:=aM ej;rw[ad ak];(conv=>whnf);rw[zq,d1];refine⟨rfl,?_⟩;show Res.mk (.w (.c (.d (.sl ((zd T).take T.length))))) []=_;rw[al];rfl
end
theorem aeW{cols}{r}(h:zV cols r){k:Int}(i:0<=k)(j:k<cols.length):yF (xW cols k).t (at0 r k.toNat):=by
 have g:k.toNat<cols.length:=ej
 have:=h.get g<;>grind[xW]
theorem arC{k}{v}(h:yF k v):(v.k==0)=yH zF v:=by
 rcases h with rfl|⟨_,b,rfl⟩|⟨_,n,_,rfl⟩|⟨_,s,_,rfl⟩
 .exact(V8 _).symm
 .cases b<;>rfl
 .rfl
 rfl
theorem azd(a b):(xM a b==0)=(a==b):=by
 rw[abs];by_cases h:a<b
 .rw[if_pos h,show(a==b)=false by grind];rfl
 rw[if_neg h];by_cases g:b<a
 .rw[if_pos g,show(a==b)=false by grind];rfl
 rw[if_neg g,show(a==b)=true by rw[beq_iff_eq];omega];rfl
theorem aGh(a b):(ZZ a b==0)=zl a b:=by grind[ZZ,AM.beqS_iff,AM.ltS_irrefl]
theorem avq{k}{v w}(l:yF k v)(i:yF k w):(zS v w==0)=yH v w:=by
 have j:zl (⟨#[]⟩:ByteArray) ⟨#[]⟩=true:=AM.beqS_self _;rcases l with rfl|⟨e1,a,rfl⟩|⟨e1,a,_,rfl⟩|⟨e1,a,_,rfl⟩
 .rcases i with rfl|⟨g,b,rfl⟩|⟨g,b,_,rfl⟩|⟨g,b,_,rfl⟩
  .rw[V8];rfl
  .cases b<;>rfl
  .rfl
  rfl
 .rcases i with rfl|⟨g,b,rfl⟩|⟨g,b,_,rfl⟩|⟨g,b,_,rfl⟩
  .cases a<;>rfl
  .show(xM (bif a then 1 else 0) (bif b then 1 else 0)==0)=((bif a then(1:Int)else 0)==(bif b then 1 else 0)&&(zl (⟨#[]⟩:ByteArray) ⟨#[]⟩&&true));simp_all[azd]
  .omega
  omega
 .rcases i with rfl|⟨g,b,rfl⟩|⟨g,b,_,rfl⟩|⟨g,b,_,rfl⟩
  .rfl
  .omega
  .show(xM a b==0)=(a==b&&(zl (⟨#[]⟩:ByteArray) ⟨#[]⟩&&true));simp_all[azd]
  omega
 rcases i with rfl|⟨g,b,rfl⟩|⟨g,b,_,rfl⟩|⟨g,b,_,rfl⟩
 .rfl
 .omega
 .omega
 show(ZZ a b==0)=(zl a b&&true);simp_all[aGh]
def aBi:am Val->am Val->Prop
 |[],[]=>True
 |v::r,w::s=>(∃k,yF k v/\yF k w)/\aBi r s
 |_,_=>False
theorem aiP{a b}(h:a.length=b.length):xS a b=xB yH a b:=by grind[xS]
theorem aod:∀{a b:am Val},aBi a b->Z5 a b=(!a.any (yH zF)&&xB yH a b)
 |[],[],_=>rfl
 |v::r,w::s,⟨⟨k,g,i⟩,h⟩=>by simp only[Z5,xB,cL];rw[aod h,arC g];cases yH zF v<;>cases yH v w<;>cases(r.any (yH zF))<;>rfl
theorem ahy{ac bc}{x y}(p:zV ac x)(I:zV bc y):∀{on:am ByteArray},jnErr ac bc on=0->aBi (pickL x (zf ac on)) (pickL y (zf bc on))
 |[],_=>trivial
 |s::r,h=>by obtain⟨g,h⟩:=zY ej h;obtain⟨o,h⟩:=zY ej h;simp only[aX,bZ,cW]at g o;have i:=xJ ac s g.1;have j:=xJ bc s g.2;have J:=aeW p i.1 i.2;have l:=aeW I j.1 j.2;rw[<-o]at l;exact⟨⟨_,J,l⟩,ahy p I h⟩
theorem ayZ{ac bc}{x y}(I:zV ac x)(J:zV bc y):∀{on:am ByteArray},jnErr ac bc on=0->Y6 ac bc x y on=(xB yH (pickL x (zf ac on)) (pickL y (zf bc on))&&!(pickL x (zf ac on)).any (yH zF))
 |[],_=>rfl
 |s::r,h=>by
  obtain⟨g,h⟩:=zY ej h;obtain⟨p,h⟩:=zY ej h;simp only[aX,bZ,cW]at g p;have i:=xJ ac s g.1;have j:=xJ bc s g.2;have l:=aeW I i.1 i.2;have o:=aeW J j.1 j.2;rw[<-p]at o;have e1:pickL x (zf ac (s::r))=at0 x (ze ac s).toNat::pickL x (zf ac r):=rfl;have P:pickL y (zf bc (s::r))=at0 y (ze bc s).toNat::pickL y (zf bc r):=rfl;rw[e1,P];simp only[Y6,xB,cL];rw[ayZ I J h,arC l];have R:(zS (at0 x (ze ac s).toNat) (at0 y (ze bc s).toNat) !=0)= !yH (at0 x (ze ac s).toNat) (at0 y (ze bc s).toNat):=by rw[<-avq l o];rfl
  rw[R];cases yH zF (at0 x (ze ac s).toNat)<;>cases yH (at0 x (ze ac s).toNat) (at0 y (ze bc s).toNat)<;>cases(xB yH (pickL x (zf ac r)) (pickL y (zf bc r)))<;>cases((pickL x (zf ac r)).any (yH zF))<;>rfl
theorem au0{ac bc}{x y}{on}(g:zV ac x)(i:zV bc y)(h:jnErr ac bc on=0):Y6 ac bc x y on=ZQ (pickL x (zf ac on)) (pickL y (zf bc on)):=by grind[ayZ,ZQ,aiP,pickL,zf]
theorem acO{a β:Type}{f g:a->am β}:∀{xs:am a},(∀x∈xs,f x=g x)->xs.flatMap f=xs.flatMap g
 |[],_=>rfl
 |x::r,h=>by rw[aU,aU,h x (aS ..),acO λy i=>h y (aO _ i)]
theorem aCr{ac bc}{on}{xs ys}(o:∀x∈xs,zV ac x)(i:∀y∈ys,zV bc y)(h:jnErr ac bc on=0)(more):Y2 (zf ac on) (zf bc on) more xs ys=vw (zf ac on) (zf bc on) more xs ys:=by
 refine acO λx g=>?_
 unfold Zd ait;have key:∀y∈ys,Z5 (pickL x (zf ac on)) (pickL y (zf bc on))=(!(pickL x (zf ac on)).any (yH zF)&&xS (pickL x (zf ac on)) (pickL y (zf bc on))):=λy j=>by grind[aod,ahy,aiP,pickL,zf]
 generalize pickL x (zf ac on)=a at*;cases l:a.any (yH zF)with
 |true=>
  simp_all
 |false=>
  unfold Zb;clear i h;induction ys<;>grind
theorem Kx{cols}{r}{s}(h:zV cols r)(g:colInt cols s=0):(0<=ze cols s/\ze cols s<cols.length)/\yF 2 (at0 r (ze cols s).toNat):=by have i:=vL g;refine⟨i,?_⟩;have l:=aeW h i.1 i.2;obtain⟨_,g⟩:=zY ej g;obtain⟨j,_⟩:=zY ej g<;>simp_all
theorem aw4{v}(h:yF 2 v):v=zF\/∃n,v=⟨2,n,⟨#[]⟩⟩:=by
 rcases h with rfl|⟨e,_⟩|⟨_,n,_,rfl⟩|⟨e,_⟩
 .grind
 .omega
 .exact .inr ⟨n,rfl⟩
 omega
theorem ajv{u v}(g:yF 2 u)(i:yF 2 v):Up u v= !qK u v:=by
 rcases aw4 g with rfl|⟨a,rfl⟩<;>rcases aw4 i with rfl|⟨b,rfl⟩
 .rfl
 .rfl
 .rfl
 show((false||false)||decide (a>=b))= !(true&&true&&decide (a<b))
 grind
theorem aG0{u v}(g:yF 2 u)(i:yF 2 v)(h:qK u v=true):(∃a,u=⟨2,a,⟨#[]⟩⟩)/\∃b,v=⟨2,b,⟨#[]⟩⟩:=by
 rcases aw4 g with rfl|g
 .cases h
 rcases aw4 i with rfl|i
 .obtain⟨a,rfl⟩:=g;cases h
 grind
theorem afz{a b}(h:∀s,hasB a s=hasB b s):∀(l) (i:Nat),oth a i l=oth b i l
 |[],_=>rfl
 |c::r,i=>by simp only[oth];rw[h,afz h r]
theorem an3(a b)(s):hasB (a++b) s=hasB (b++a) s:=by grind[arL]
theorem ato{r}{k}{n a}(h:at0 r k.toNat=⟨2,a,⟨#[]⟩⟩):setN r k n=r.set k.toNat ⟨2,n,⟨#[]⟩⟩:=by grind[setN]
theorem aEX{ac:am Col}{x w}{p q}(o:0<=p/\p<x.length)(r:0<=q/\q<x.length){a b g i}(j:at0 x p.toNat=⟨2,a,⟨#[]⟩⟩)(l:at0 x q.toNat=⟨2,b,⟨#[]⟩⟩):
 (x.set p.toNat ⟨2,g,⟨#[]⟩⟩).set q.toNat ⟨2,i,⟨#[]⟩⟩++w=setN (setN (x++w) p g) q i:=by
 have e1:setN (x++w) p g=x.set p.toNat ⟨2,g,⟨#[]⟩⟩++w:=by grind[ato,alR]
 grind[at0,ato]
section
attribute [local irreducible] Sat zH z6 zl
theorem aGR{ac bc}{on}{xs ys}(hx:∀x∈xs,zV ac x)(hy:∀y∈ys,zV bc y)(h:jnErr ac bc on=0)(P:colInt ac sFrom=0)(R:colInt ac sTo=0)(T:colInt bc sFrom=0)(U:colInt bc sTo=0):
 Zf ac bc on ([sFrom,sTo]++on) xs ys=vm (ze ac sFrom) (ze ac sTo) (ze bc sFrom) (ze bc sTo) (zf ac on) (zf bc on) (oth (on++[sFrom,sTo]) 0 bc) xs ys:=by
 unfold Zf vm;refine acO λx i=>?_
 have g:=hx x i;obtain⟨hp,fp⟩:=Kx g P;obtain⟨hq,l⟩:=Kx g R;have hl:=g.len;unfold ab9 kB un WB;rw[ajv fp l];cases hs:qK (at0 x (ze ac sFrom).toNat) (at0 x (ze ac sTo).toNat)with
 |false=>rfl
 |true=>
  obtain⟨⟨a,ha⟩,b,hb⟩:=aG0 fp l hs;show ZA .. =jM ..;unfold ZA jM;refine acO λy j=>?_
  have o:=hy y j;obtain⟨aa,I⟩:=Kx o T;obtain⟨ab,J⟩:=Kx o U;have p:agL ac bc on x (at0 x (ze ac sFrom).toNat).n (at0 x (ze ac sTo).toNat).n y=Kj (ze bc sFrom) (ze bc sTo) (zf ac on) (zf bc on) (at0 x (ze ac sFrom).toNat).n (at0 x (ze ac sTo).toNat).n x y:=by simp_all[agL,Kj,un,WB,ajv,au0]
  rw[p];have r:akZ ac bc ([sFrom,sTo]++on) x (at0 x (ze ac sFrom).toNat).n (at0 x (ze ac sTo).toNat).n y=adc (ze ac sFrom) (ze ac sTo) (oth (on++[sFrom,sTo]) 0 bc) x y (yL true (at0 x (ze ac sFrom).toNat).n (at0 y (ze bc sFrom).toNat).n) (yL false (at0 x (ze ac sTo).toNat).n (at0 y (ze bc sTo).toNat).n):=by unfold akZ adc aeS un WB;rw[afz (an3 [sFrom,sTo] on)];exact aEX (ac:=ac) ⟨hp.1,ej⟩ ⟨hq.1,ej⟩ ha hb
  rw[r]
theorem aCV(y:am Val)(l:am Int):(l.map λ_=>zF)=co l.length zF:=by induction l<;>grind
theorem avT{ac bc}{on}{x}(g:zV ac x)(h:jnErr ac bc on=0):∀{ys:am (am Val)},(∀y∈ys,zV bc y)->∀B,
 ys.foldl (λb y=>bif ZN (un ac x) (un bc y) (Y6 ac bc x y on)then Xy (ze bc sFrom) y b else b) B=ys.foldl (λb y=>bif ZN (at0 x (ze ac sFrom).toNat) (at0 y (ze bc sFrom).toNat) (ZQ (pickL x (zf ac on)) (pickL y (zf bc on)))then Xy (ze bc sFrom) y b else b) B
 |[],_,_=>rfl
 |y::r,i,B=>by rw[List.foldl_cons,List.foldl_cons,au0 g (i y (aS ..)) h];exact avT g h (λz j=>i z (aO _ j)) _
theorem aGN{ac bc}{on}{xs ys:am (am Val)}(i:∀x∈xs,zV ac x)(j:∀y∈ys,zV bc y)(h:jnErr ac bc on=0):
 xs.map (XU ac bc on ([sFrom]++on) ys)=xs.map (vA (ze ac sFrom) (ze bc sFrom) (zf ac on) (zf bc on) (oth (on++[sFrom]) 0 bc) ys):=by
 refine cZ λx g=>?_
 unfold XU vA;congr 1
 have e:Ze ac bc on x ys=kA (ze ac sFrom) (ze bc sFrom) (zf ac on) (zf bc on) x ys:=avT (i x g) h j none;unfold Um avI;rw[e,afz (an3 [sFrom] on)];cases kA (ze ac sFrom) (ze bc sFrom) (zf ac on) (zf bc on) x ys with
 |none=>exact aCV x _
 |some z=>rfl
theorem avS(T)(x)(k)(hk:k<=T.length):aD (0+((zd T).take k).length+1+(((zd T).take (zd T).length).drop k).length) (aD (0+((zd T).take k).length+1) (aD (0+((zd T).take k).length) ([]++(zd T).take k)++[[D.sl (rowD x)]])++((zd T).take (zd T).length).drop k)=zd (T.take k++x::T.drop k):=by grind[zq,air,aiq]
theorem aqb(l)(x)(hl:l.length<=100000)(hw:∀y∈l,y.length=x.length)(hs:Yc keyC l):ex aus [.c (.d (.sl (zd l))),zE x] (rC (.d (.sl (zd (vo keyC x l))))):=by
 have hC:=λy=>JX y x
 refine zJ ?_;refine ahv.s T8 ?_;refine yD (P:=Pg) (f:=T8.f) (body:=(ahv.l 0)) (λk:Nat=>⟨[(0,.w (.c (.d (.sl (zd l))))),(1,.w (zE x)),(5,zh k)],[]⟩) (λk=>k) (λk=>k<=l.length/\∀j,(h:j<l.length)->k<=j->keyC x l[j]<0) ⟨l.length,⟨aN _,λj h hj=>absurd h ej⟩,zi ?_⟩ ?_
 ·(conv=>whnf);rw[zq];rfl
 rintro k ⟨hk,p⟩;have g:(k=0\/∃h:k-1<l.length,¬keyC x l[k-1]<0)->vo keyC x l=l.take k++x::l.drop k:=λh=>au8 qy hs hk h p
 have e1:(zd l).take k=zd (l.take k):=by grind[zd,cD]
 have e2:(zd l).drop k=zd (l.drop k):=by grind[zd,List.map_drop]
 cases k with
 |zero=>
  have g:=g (.inl rfl);(conv=>whnf);refine⟨by show(0:Int)<=((0:Nat):Int);omega,by show((0:Nat):Int)<=((zd l).length:Int);grind,?_⟩;have l1:((zd l).take (0)).length=0:=ek
  have l2:(((zd l).take (zd l).length).drop (0)).length=l.length-(0):=by grind[zq]
  (conv=>whnf);refine⟨λy I=>vM l y (aQ I),by grind[zW],ek,?_⟩;refine yQ ?_ (hA:=ep) (hB:=by grind[zW]) (hC:=ek);refine⟨vM l,ek,by show((0:Nat):Int)<=((zd l).length:Int);grind,aW _,?_⟩;(conv=>whnf);refine⟨λy I=>vM l y (aQ (bC I)),by show zW (0+((zd l).take (0)).length+1+(((zd l).take (zd l).length).drop (0)).length) 24;grind[zW],by show 0+((zd l).take (0)).length+1+(((zd l).take (zd l).length).drop (0)).length<=_;grind,?_⟩;(conv=>whnf);refine⟨rfl,?_⟩;show rC (.d (.sl (aD (0+((zd l).take (0)).length+1+(((zd l).take (zd l).length).drop (0)).length) (aD (0+((zd l).take (0)).length+1) (aD (0+((zd l).take (0)).length) ([]++(zd l).take (0))++[[D.sl (rowD x)]])++((zd l).take (zd l).length).drop (0)))))=_
  grind[avS]
 |succ k=>
  have o:k<l.length:=ej
  have gT:=zZ o;have R:=hw l[k] (aE o);have U:=hC l[k];rw[amP R]at U;have wk:aG.wrap (((k+1:Nat):Int)-1)=(k:Int):=by grind[cP]
  have ha:=qy.anti x l[k];have i:keyC l[k] x>0->∀j,(h:j<l.length)->k<=j->keyC x l[j]<0:=λh0 j h hj=>ek
  have g:¬keyC l[k] x>0->vo keyC x l=l.take (k+1)++x::l.drop (k+1):=λh=>g (.inr ⟨o,ek⟩)
  clear ha hC;generalize keyC l[k] x=n at*;generalize l[k]=y at*;have T:decide (((k+1:Nat):Int)>0)=true:=bG ej;(conv=>whnf);rw[T];(conv=>whnf);rw[wk];refine⟨ej,?_⟩;(conv=>whnf);refine⟨_,gT,rfl,?_⟩;refine aF U ?_;refine zt (λJ=>?_) (λJ=>?_)
  .have J:decide (n>0)=true:=J;(conv=>whnf);refine⟨k,⟨⟨ej,i (aP J)⟩,ej⟩,zi ?_⟩;(conv=>whnf);rw[wk];rfl
  have g:=g (aT J);(conv=>whnf);refine⟨by show(0:Int)<=((k+1:Nat):Int);omega,by show((k+1:Nat):Int)<=((zd l).length:Int);grind,?_⟩;have l1:((zd l).take (k+1)).length=k+1:=ek
  have l2:(((zd l).take (zd l).length).drop (k+1)).length=l.length-(k+1):=by grind[zq]
  (conv=>whnf);refine⟨λy I=>vM l y (aQ I),by show zW (0+((zd l).take (k+1)).length) 24;grind[zW],by show 0+((zd l).take (k+1)).length<=_;grind,?_⟩;refine yQ ?_ (hA:=ep) (hB:=by show zW (0+((zd l).take (k+1)).length+1) 24;grind[zW]) (hC:=by show 0+((zd l).take (k+1)).length+1<=_;grind);refine⟨vM l,ek,by show((k+1:Nat):Int)<=((zd l).length:Int);grind,aW _,?_⟩;(conv=>whnf);refine⟨λy I=>vM l y (aQ (bC I)),by show zW (0+((zd l).take (k+1)).length+1+(((zd l).take (zd l).length).drop (k+1)).length) 24;grind[zW],by show 0+((zd l).take (k+1)).length+1+(((zd l).take (zd l).length).drop (k+1)).length<=_;grind,?_⟩;(conv=>whnf);refine⟨rfl,?_⟩;show rC (.d (.sl (aD (0+((zd l).take (k+1)).length+1+(((zd l).take (zd l).length).drop (k+1)).length) (aD (0+((zd l).take (k+1)).length+1) (aD (0+((zd l).take (k+1)).length) ([]++(zd l).take (k+1))++[[D.sl (rowD x)]])++((zd l).take (zd l).length).drop (k+1)))))=_
  grind[avS]
end
section
open Go Go.AM Go.Proofs Go.RowKit
def cellsR(x:am Val):am Value:=x.flatMap λv=> [.int .i64 v.k,.int .i64 v.n,.string v.s]
theorem acC:∀x,(cellsR x).length=x.length*3
 |[]=>rfl
 |v::r=>by have:=acC r;simp only[cellsR,aU,aB,bV,bF]at this⊢;omega
theorem ajX(a b):cellsR (a++b)=cellsR a++cellsR b:=by simp[cellsR]
theorem awF(x):∀u∈cellsR x,u.oneCell'=true:=by intro u g;simp only[cellsR,cQ]at g;obtain⟨v,_,g⟩:=g;simp only[aV,bW,cX]at g;rcases g with rfl|rfl|rfl<;>rfl
theorem ahK{w}{ok:Nat->Prop}{b}:∀(x) (o:Nat),(∀(j) (u:Value),(cellsR x)[j]?=some u->w.cell? ⟨b,o+j,none⟩=some u)->RDs w ok b 3 o (rowD x)
 |[],_,_=>by grind[rowD,RDs]
 |v::r,o,h=>by simp only[rowD,cM,RDs,Val.ds,RDc,RD];have e:cellsR (v::r)=.int .i64 v.k:: .int .i64 v.n:: .string v.s::cellsR r:=rfl;rw[e]at h;refine⟨rfl,⟨⟨_,h 0 _ rfl,rfl,rfl⟩,⟨_,h 1 _ rfl,rfl,rfl⟩,⟨_,h 2 _ rfl,rfl,rfl⟩,trivial⟩,ahK r (o+3) λj u g=>?_⟩;have:=h (j+3) u (by simpa using g)<;>grind
theorem ahw{w}{ok:Nat->Prop}{b sz}:∀(x) (o:Nat),RDs w ok b sz o (rowD x)->∀(j) (u:Value),(cellsR x)[j]?=some u->w.cell? ⟨b,o+j,none⟩=some u
 |[],_,_,j,u,g=>by grind[cellsR]
 |v::r,o,h,j,u,g=>by
  simp only[rowD,cM,RDs,Val.ds,RDc,RD]at h;obtain⟨l,⟨⟨_,p,rfl,_⟩,⟨_,I,rfl,_⟩,⟨_,J,rfl,_⟩,_⟩,i⟩:=h;have hs:sz=3:=ek
  subst hs;have e:cellsR (v::r)=.int .i64 v.k:: .int .i64 v.n:: .string v.s::cellsR r:=rfl;rw[e]at g
  match j,g with
  |0,g=>grind
  |1,g=>grind
  |2,g=>grind
  |j+3,g=>
   have:=ahw r (o+3) i j u ek
   grind
theorem aGU{w}{ok:Nat->Prop}{x}{b o c}(l:ok b)(g:x.length<=c)(i:c<=maxLen)(h:∀(j:Nat) (u:Value),(cellsR x)[j]?=some u->w.cell? ⟨b,o+j,none⟩=some u):RD w ok (.sl (rowD x)) (.slice (some ⟨b,o,none⟩) x.length c):=by simp only[RD];exact⟨_,_,_,rfl,by rw[zp],g,i,.inr ⟨b,o,3,rfl,l,ahK x o h⟩⟩
theorem asM{w}{ok:Nat->Prop}{x}{v}(h:RD w ok (.sl (rowD x)) v)(J:x≠ []):∃b o c,v=.slice (some ⟨b,o,none⟩) x.length c/\ok b/\x.length<=c/\c<=maxLen/\∀(j) (u:Value),(cellsR x)[j]?=some u->w.cell? ⟨b,o+j,none⟩=some u:=by
 simp only[RD]at h;obtain⟨a,n,c,rfl,i,l,p,g⟩:=h;rw[zp]at i;subst i;rcases g with g|⟨b,o,sz,rfl,r,I⟩
 .cases x with
  |nil=>grind
  |cons _ _=>cases g
 grind[ahw]
theorem at8(x)(n){j:Nat}{u}(h:(cellsR (x.take n))[j]?=some u):(cellsR x)[j]?=some u:=by grind[ajX,bT]
theorem anL{x}{i}(h:i<x.length):(cellsR x)[i*3]?=some (.int .i64 x[i].k)/\(cellsR x)[i*3+1]?=some (.int .i64 x[i].n)/\(cellsR x)[i*3+2]?=some (.string x[i].s):=by
 have e:cellsR x=cellsR (x.take i)++cellsR (x.drop i):=by grind[ajX,bT]
 have j:(cellsR (x.take i)).length=i*3:=by grind[acC]
 have g:cellsR (x.drop i)=.int .i64 x[i].k:: .int .i64 x[i].n:: .string x[i].s::cellsR (x.drop (i+1)):=by rw[List.drop_eq_getElem_cons h];rfl
 simp_all
end
section
open Go Go.AM Go.Proofs Go.RowKit
abbrev tT:TypeId:=32
variable {A:Nat->Prop}{w:World}{cv rv:Value}{W W':World}{E E':Nat->Prop}
theorem apt(g:Grows (λ_=>False) W W'):W.grownBy W' none:=⟨g.os,g.tape,g.output.1,g.size,λk hk _=>g.block k hk λh=>h⟩
end
section
open Go Go.AM Go.Proofs Go.RowKit
abbrev tV:TypeId:=41
structure CI(A:Nat->Prop)(w:World)(b4 b12:Nat)(te:TypeId)(x6 ov:Value)(rvs:am Value)(T:am (am Val))(W:World)(E:Nat->Prop):Prop where
 dlt:∀b,E b->b<W.heap.size
 dB:∀b,E b->A b\/w.heap.size<=b
 glb:Glb E W
 bel:Below w.heap.size w W
 drn:w.drawn<=W.drawn
 c4:W.heap[b4]?=some (.cells #[.slice none 0 0,.slice none 0 0] te (0,0))
 c12:W.heap[b12]?=some (.cells #[x6,ov] tT (0,0))
 n4:w.heap.size<=b4/\¬E b4
 n12:w.heap.size<=b12/\¬E b12/\b12≠b4
 own:W.ownsRow w.heap.size tR 1 ov T.length rvs
 nov:∀b,ov.ownBlock=some b->¬E b/\b≠b4/\b≠b12
 rows:∀(j:Nat) (r:am Val),T[j]?=some r->j+1<T.length->∃u,rvs[j]?=some u/\RD W E (.sl (rowD r)) u
 last:∀r,T.getLast?=some r->∃gb cap,rvs[T.length-1]?=some (.slice (some ⟨gb,0,none⟩) r.length cap)/\W.ownsRow w.heap.size tV 3 (.slice (some ⟨gb,0,none⟩) r.length cap) r.length (cellsR r)/\¬E gb/\gb≠b4/\gb≠b12/\ov.ownBlock≠some gb
variable {A:Nat->Prop}{w:World}{b4 b12:Nat}{te:TypeId}{x6 ov:Value}{rvs:am Value}{T:am (am Val)}{W W':World}{E E':Nat->Prop}
theorem Wz{g j n c i}(h:some (Value.slice (some ⟨g,0,none⟩) n c)=some (.slice (some ⟨j,0,none⟩) n i)):g=j/\c=i:=ek
theorem vI{W:World}{b}{o}(h:W.heap[b]?=some o):b<W.heap.size:=(bP.getElem?_eq_some_iff.1 h).1
theorem CI.grown(h:CI A w b4 b12 te x6 ov rvs T W E){row}(o:W.grownBy W' row)(hd:W.drawn<=W'.drawn)(hr:∀b,row=some b->w.heap.size<=b/\¬E b/\b≠b4/\b≠b12/\ov.ownBlock≠some b/\∀r,T.getLast?=some r->∀i cap,rvs[T.length-1]?=some (.slice (some ⟨i,0,none⟩) r.length cap)->i≠b):CI A w b4 b12 te x6 ov rvs T W' E/\zP W W' E E:=by
 have hk:∀b,b<W.heap.size->row≠some b->W'.heap[b]?=W.heap[b]? :=λb g P=>o.block b g λe=>P e.symm
 have hs:w.heap.size<=W.heap.size:=h.bel.size;have R:zP W W' E E:=λb g=>⟨g,hk b (h.dlt b g) λe=>(hr b e).2.1 g⟩
 refine⟨⟨λb g=>aZ (h.dlt b g) o.size,h.dB,λk J=>?_,h.bel.grown o hs λk e=>(hr k e).1,aL h.drn hd,?_,?_,h.n4,h.n12,h.own.kept o ?_,h.nov,λj r hj hl=>?_,λr p=>?_⟩,R⟩
 .obtain⟨l,m,I⟩:=h.glb k J;exact⟨l,m,(qH (R k l).2 0).trans I⟩
 .rw[hk _ (vI h.c4) λe=>(hr _ e).2.2.1 rfl];exact h.c4
 .rw[hk _ (vI h.c12) λe=>(hr _ e).2.2.2.1 rfl];exact h.c12
 .cases hv:ov.ownBlock<;>grind
 .obtain⟨u,l,I⟩:=h.rows j r hj hl<;>grind[bH]
 obtain⟨i,cap,l,I,U⟩:=h.last r p;refine⟨i,cap,l,I.kept o (.inr λe=>?_),U⟩;exact(hr i e.symm).2.2.2.2.2 r p i cap l rfl
theorem CI.call(h:CI A w b4 b12 te x6 ov rvs T W E)(g:Grows (λ_=>False) W W'):CI A w b4 b12 te x6 ov rvs T W' E/\zP W W' E E:=h.grown (apt g) g.output.2 λb e=>by cases e
theorem CI.alloc(h:CI A w b4 b12 te x6 ov rvs T W E)(o):CI A w b4 b12 te x6 ov rvs T (W.alloc o) E/\zP W (W.alloc o) E E:=h.grown (c8 W o none) (aN _) λb e=>by cases e
theorem CI.same(h:CI A w b4 b12 te x6 ov rvs T W E)(i:W.grownBy W' none)(g:W.drawn<=W'.drawn):CI A w b4 b12 te x6 ov rvs T W' E/\zP W W' E E:=h.grown i g λb e=>by cases e
theorem CI.lastD(h:CI A w b4 b12 te x6 ov rvs T W E){r}(hr:T.getLast?=some r){i cap}(R:rvs[T.length-1]?=some (.slice (some ⟨i,0,none⟩) r.length cap)){n}(hn:n<=r.length):RD W (λb=>E b\/b=i) (.sl (rowD (r.take n))) (.slice (some ⟨i,0,none⟩) n cap):=by
 obtain⟨g2,U,I,p,_⟩:=h.last r hr;obtain⟨rfl,rfl⟩:=Wz (R.symm.trans I);have J:=p.cells (g:=i) rfl;have l:r.length<=cap/\cap<=maxLen:=by
  rcases p.2 with⟨e,_⟩|⟨_,_,_,e,_,_,e1,e2,_⟩
  .cases e
  grind
 have:=aGU (w:=W) (ok:=λb=>E b\/b=i) (x:=r.take n) (b:=i) (o:=0) (c:=cap) (.inr rfl) ek l.2 λj u P=>by have:=J j u (at8 r n P)<;>grind[wZ]
 grind
def kH(r:am Val)(i:Nat)(m):=r.set i ⟨(at0 r i).k,m,(at0 r i).s⟩
theorem atn(r)(i)(m):(kH r i m).length=r.length:=by simp[kH]
theorem ajY:∀{r:am Val}{i:Nat}(m:Int),i<r.length->(cellsR r).set (i*3+1) (.int .i64 m)=cellsR (kH r i m)
 |v::r,0,m,_=>rfl
 |v::r,i+1,m,h=>by
  have j:=ajY (r:=r) (i:=i) m (by simpa using h);have e:cellsR (v::r)=.int .i64 v.k:: .int .i64 v.n:: .string v.s::cellsR r:=rfl;have g:kH (v::r) (i+1) m=v::kH r i m:=rfl
  grind[cellsR]
theorem asi{a:Type}{T:am a}{r}(h:T.getLast?=some r)(x):(T.set (T.length-1) x).getLast?=some x/\0<T.length:=ek
theorem CI.write(h:CI A w b4 b12 te x6 ov rvs T W E){r}(hr:T.getLast?=some r){g cap}(hl:rvs[T.length-1]?=some (.slice (some ⟨g,0,none⟩) r.length cap)){i}(hi:i<r.length)(m):
 W.cell? ⟨g,i*3+1,none⟩=some (.int .i64 (at0 r i).n)/\W.frozen? ⟨g,i*3+1,none⟩=false/\CI A w b4 b12 te x6 ov rvs (T.set (T.length-1) (kH r i m)) (W.setCell ⟨g,i*3+1,none⟩ (.int .i64 m)) E/\zP W (W.setCell ⟨g,i*3+1,none⟩ (.int .i64 m)) E E:=by
 obtain⟨g2,c2,h1,p,h3,h4,h5,h6⟩:=h.last r hr;obtain⟨rfl,rfl⟩:=Wz (hl.symm.trans h1);obtain⟨s1,I⟩:=p.stored (i*3+1) (.int .i64 m);rw[ajY m hi]at s1;have hc:=anL hi;have hk:∀b,b<W.heap.size->b≠g->(W.setCell ⟨g,i*3+1,none⟩ (.int .i64 m)).heap[b]?=W.heap[b]? :=λb l P=>I.block b l λe=>P (aC e)
 have aa:=(p.lt g rfl).1;have U:zP W (W.setCell ⟨g,i*3+1,none⟩ (.int .i64 m)) E E:=λb l=>⟨l,hk b (h.dlt b l) λe=>h3 (e▸l)⟩
 have ab:=asi hr (kH r i m);refine⟨?_,p.frozenAt _,⟨λb l=>aZ (h.dlt b l) I.size,h.dB,λk J=>?_,h.bel.grown I h.bel.size λk e=>ek,h.drn,?_,?_,h.n4,h.n12,?_,h.nov,λj x hj o=>?_,λx hx=>?_⟩,U⟩
 .have:=p.cellAt (i*3+1) ej
  grind[at0]
 .obtain⟨e1,n,R⟩:=h.glb k J;exact⟨e1,n,(qH (U k e1).2 0).trans R⟩
 .rw[hk _ (vI h.c4) (Ne.symm h4)];exact h.c4
 .rw[hk _ (vI h.c12) (Ne.symm h5)];exact h.c12
 .rw[cI];refine h.own.kept I ?_<;>grind
 .rw[cI]at o;rw[am.getElem?_set_ne ej]at hj;obtain⟨u,e1,R⟩:=h.rows j x hj o<;>grind[bH]
 grind[atn]
theorem kI{W:World}{b j}{g}{t}(h:W.heap[b]?=some (.cells g t (0,0)))(v):(W.setCell ⟨b,j,none⟩ v).heap[b]?=some (.cells (g.setIfInBounds j v) t (0,0)):=by grind[World.setCell]
theorem X4{W:World}{b j k}(h:k≠b)(v):(W.setCell ⟨b,j,none⟩ v).heap[k]?=W.heap[k]? :=by simp[World.setCell,bP.getElem?_modify,Ne.symm h]
theorem JF(W:World)(b j)(v):W.grownBy (W.setCell ⟨b,j,none⟩ v) (some b):=
 ⟨rfl,rfl,rfl,eu,λk _ g=>X4 (λe=>g (by rw[e])) v⟩
theorem CI.push(h:CI A w b4 b12 te x6 ov rvs T W E){y}{g2 J}{nv l}(ao:nv=.slice (some ⟨g2,0,none⟩) y.length J)(hy:W.ownsRow w.heap.size tV 3 nv y.length (cellsR y))
 (p:¬E g2/\g2≠b4/\g2≠b12/\ov.ownBlock≠some g2) (ai:∀r,T.getLast?=some r->∀i cap,rvs[T.length-1]?=some (.slice (some ⟨i,0,none⟩) r.length cap)->i≠g2)
 (af:W'.ownsRow w.heap.size tR 1 l (T.length+1) (rvs++[nv])) (I:W.grownBy W' ov.ownBlock) (hd:W.drawn<=W'.drawn) (hf:WJ W ov l):
 W'.cell? ⟨b12,1,none⟩=some ov/\W'.frozen? ⟨b12,1,none⟩=false/\CI A w b4 b12 te x6 l (rvs++[nv]) (T++[y]) (W'.setCell ⟨b12,1,none⟩ l) (λb=>E b\/∃r i cap,T.getLast?=some r/\rvs[T.length-1]?=some (.slice (some ⟨i,0,none⟩) r.length cap)/\b=i)/\
  zP W (W'.setCell ⟨b12,1,none⟩ l) E (λb=>E b\/∃r i cap,T.getLast?=some r/\rvs[T.length-1]?=some (.slice (some ⟨i,0,none⟩) r.length cap)/\b=i):=by
 subst ao;have hk:∀b,b<W.heap.size->ov.ownBlock≠some b->W'.heap[b]?=W.heap[b]? :=λb g an=>I.block b g λe=>an e.symm
 have ae:ov.ownBlock≠some b12:=λe=>(h.nov b12 e).2.2 rfl
 have al:ov.ownBlock≠some b4:=λe=>(h.nov b4 e).2.1 rfl
 have aa:W'.heap[b12]?=some (.cells #[x6,ov] tT (0,0)):=by rw[hk _ (vI h.c12) ae];exact h.c12
 have h4:W'.heap[b4]?=some (.cells #[.slice none 0 0,.slice none 0 0] te (0,0)):=by rw[hk _ (vI h.c4) al];exact h.c4
 have sg:=JF W' b12 1 l;have P:∀b,l.ownBlock=some b->ov.ownBlock=some b\/W.heap.size<=b:=hf;have ac:l.ownBlock≠some b12:=λe=>by
  rcases P b12 e with e|e
  .grind
  have:=vI h.c12;omega
 have ah:zP W W' E E:=λb g=>⟨g,hk b (h.dlt b g) λe=>(h.nov b e).1 g⟩
 have hK:zP W (W'.setCell ⟨b12,1,none⟩ l) E (λb=>E b\/∃r i cap,T.getLast?=some r/\rvs[T.length-1]?=some (.slice (some ⟨i,0,none⟩) r.length cap)/\b=i):=λb g=>⟨.inl g,by rw[X4 (λe=>h.n12.2.1 ek)];exact(ah b g).2⟩
 have ag:rvs.length=T.length:=by have:=h.own.1;omega
 refine⟨by rw[bB _ _ _ _ _ _ aa];rfl,by simp[de,aa],⟨?_,?_,?_,(h.bel.grown I h.bel.size λk e=>(h.own.lt k e).1).grown sg (aL h.bel.size I.size) λk e=>by cases e;exact h.n12.1,aL h.drn hd,?_,?_,⟨h.n4.1,?_⟩,⟨h.n12.1,?_,h.n12.2.2⟩,?_,?_,?_,?_⟩,hK⟩
 .rintro b (g|⟨r,i,cap,e1,o,rfl⟩)
  .exact aZ (h.dlt b g) (aL I.size sg.size)
  obtain⟨g3,c3,R,U,_⟩:=h.last r e1;obtain⟨rfl,rfl⟩:=Wz (o.symm.trans R);exact aZ (U.lt b rfl).2 (aL I.size sg.size)
 .rintro b (g|⟨r,i,cap,e1,o,rfl⟩)
  .exact h.dB b g
  obtain⟨g3,c3,R,U,_⟩:=h.last r e1;obtain⟨rfl,rfl⟩:=Wz (o.symm.trans R);exact .inr (U.lt b rfl).1
 .intro k aj;obtain⟨e1,n,o⟩:=h.glb k aj;exact⟨.inl e1,n,(qH (hK k e1).2 0).trans o⟩
 .rw[X4 (Ne.symm h.n12.2.2)];exact h4
 .rw[kI aa];rfl
 .rintro(g|⟨r,i,cap,e1,o,rfl⟩)
  .exact h.n4.2 g
  obtain⟨g3,c3,R,_,_,U,_⟩:=h.last r e1
  grind
 .rintro(g|⟨r,i,cap,e1,o,rfl⟩)
  .exact h.n12.2.1 g
  obtain⟨g3,c3,R,_,_,_,U,_⟩:=h.last r e1
  grind
 .rw[aB];refine af.kept sg ?_<;>grind
 .intro b g;refine⟨?_,λe=>?_,λe=>ac ek⟩
  .rintro(he|⟨r,i,cap,e1,o,rfl⟩)
   .rcases P b g with e|e
    .exact(h.nov b e).1 he
    have:=h.dlt b he;omega
   obtain⟨g3,c3,R,U,_,_,_,e5⟩:=h.last r e1;obtain⟨rfl,rfl⟩:=Wz (o.symm.trans R);rcases P b g with e|e
   .exact e5 e
   have:=(U.lt b rfl).2;omega
  subst e;rcases P b g with e|e
  .grind
  have:=vI h.c4;omega
 .intro j r hj ak;rw[aB,cC]at ak;rw[am.getElem?_append_left ej]at hj;by_cases hl:j+1<T.length
  .obtain⟨u,e1,o⟩:=h.rows j r hj hl<;>grind[bH]
  have ab:T.getLast?=some r:=by rw[List.getLast?_eq_getElem?,show T.length-1=j by omega];exact hj
  obtain⟨i,cap,e1,o,R,U,e5,e6⟩:=h.last r ab;have ad:=h.lastD ab e1 (aN _);rw[bJ]at ad;refine⟨.slice (some ⟨i,0,none⟩) r.length cap,?_,bH (λb g=>⟨?_,?_⟩) _ _ ad⟩
  .rw[am.getElem?_append_left (by rw[ag];omega),show j=T.length-1 by omega];exact e1
  .rcases g with g|rfl
   .exact .inl g
   exact .inr ⟨r,b,cap,ab,e1,rfl⟩
  rcases g with g|rfl
  .exact(hK b g).2
  rw[X4 e5,hk b (o.lt b rfl).2 e6]
 intro r hr;rw[List.getLast?_append,List.getLast?_singleton]at hr;simp only[Option.some_or,bO]at hr;subst hr;refine⟨g2,J,?_,?_,?_,p.2.1,p.2.2.1,λe=>?_⟩
 .rw[aB,cC,Nat.add_sub_cancel,am.getElem?_append_right ej,ag,Nat.sub_self];rfl
 .have e1:W'.ownsRow w.heap.size tV 3 (.slice (some ⟨g2,0,none⟩) y.length J) y.length (cellsR y):=hy.kept I (.inr λe=>p.2.2.2 e.symm);exact e1.kept sg (.inr λe=>p.2.2.1 (aC e))
 .rintro(he|⟨r,i,cap,e1,o,rfl⟩)
  .exact p.1 he
  exact ai r e1 g2 cap o rfl
 rcases P g2 e with e|e
 .exact p.2.2.2 e
 have:=(hy.lt g2 rfl).2;omega
theorem CI.data(h:CI A w b4 b12 te x6 ov rvs T W E):RD W (λb=>(A b\/w.heap.size<=b)/\b<W.heap.size/\b≠b4) (.sl (zd T)) ov:=by
 have hE:∀b,E b->(A b\/w.heap.size<=b)/\b<W.heap.size/\b≠b4:=λb i=>⟨h.dB b i,h.dlt b i,λe=>h.n4.2 (e▸i)⟩
 have ho:=h.own;rcases ho.2 with⟨rfl,hn⟩|⟨g,cap,aa,rfl,J,hg,R,P,ab,U⟩
 .have:T=[]:=cF hn;subst this;exact⟨none,0,0,rfl,rfl,aN _,bI _,.inl rfl⟩
 refine⟨_,_,_,rfl,by rw[zq],R,P,.inr ⟨g,0,1,rfl,⟨.inr J,vI hg,(h.nov g rfl).2.1⟩,afI _ _ λj e o=>?_⟩⟩;simp only[zd,am.getElem?_map,cS]at o;obtain⟨r,o,rfl⟩:=o;refine⟨rfl,?_⟩;have ac:j<T.length:=(am.getElem?_eq_some_iff.1 o).1;have hu:∃u,rvs[j]?=some u/\RD W (λb=>(A b\/w.heap.size<=b)/\b<W.heap.size/\b≠b4) (.sl (rowD r)) u:=by
  by_cases hl:j+1<T.length
  .obtain⟨u,e1,I⟩:=h.rows j r o hl;exact⟨u,e1,bH (λb i=>⟨hE b i,rfl⟩) _ _ I⟩
  have p:T.getLast?=some r:=ek
  obtain⟨gb,c2,e1,I,e3,e4,_⟩:=h.last r p;have l:=h.lastD p e1 (aN _);rw[bJ]at l;refine⟨_,ek,bH (λb i=>⟨?_,rfl⟩) _ _ l⟩;rcases i with i|rfl
  .grind
  exact⟨.inr (I.lt b rfl).1,(I.lt b rfl).2,e4⟩
 obtain⟨u,h1,h2⟩:=hu;refine⟨⟨u,?_,h2⟩,trivial⟩;rw[show 0+j*1=j by omega,ho.cellAt j ej];exact h1
theorem CI.fin(h:CI A w b4 b12 te x6 ov rvs T W E){R:am Col}(r:RD W E (.sl (zj R)) x6)(j:W.grownBy W' (some b4))(o:W.drawn<=W'.drawn):
 acp ⟨w,A,λ_=>False,λ_=>none⟩ W' (qQ ⟨R,T⟩ 0) (.tuple #[.agg #[x6,ov],.int .i64 0])/\Grows (λ_=>False) w W':=by
 have hB:Below w.heap.size w W':=h.bel.grown j h.bel.size λk e=>by cases e;exact h.n4.1
 refine⟨⟨aN _,λ_=>⟨none,0⟩,?_,?_,?_,?_,?_,?_⟩,ahA hB (aL h.drn o)⟩
 .have l:zP W W' (λb=>(A b\/w.heap.size<=b)/\b<W.heap.size/\b≠b4) (Fr.ok ⟨w,A,λ_=>False,λ_=>none⟩ (λ_=>⟨none,0⟩) [] W'):=λb g=>⟨⟨ek,aZ g.2.1 j.size,by rintro⟨p,x,i,_⟩;cases i⟩,j.block b g.2.1 λe=>g.2.2 (aC e)⟩
  refine⟨[.agg #[x6,ov],.int .i64 0],rfl,⟨[x6,ov],rfl,bH l _ _ (bH (λb g=>⟨⟨h.dB b g,h.dlt b g,λe=>h.n4.2 (e▸g)⟩,rfl⟩) _ _ r),bH l _ _ h.data,trivial⟩,?_,trivial⟩;simp only[WR,CR,int,RD];exact⟨trivial,rfl⟩
 .intro p y i;cases i
 .grind
 .grind
 .intro p y i;cases i
 grind
end
section
attribute [local irreducible] Sat zH z6 zl
def amO:Nat->ACode->ACode
 |0,.seq a _=>a
 |n+1,.seq a b=>.seq a (amO n b)
 |_,c=>c
def atE:Nat->Code->Code
 |0,.seq _ b=>b
 |n+1,.seq _ b=>atE n b
 |_,_=>.skip
def axo:Nat->ACode->Bool
 |0,.seq _ _=>true
 |n+1,.seq _ b=>axo n b
 |_,_=>false
theorem aAp{P}{F}{N}{ords}{QE:E->S->Prop}{Q:Exit->Act->World->Prop}:∀(n) (x:ACode) (c:Code),axo n x=true->qJ P N ords c=some x.erase->∀(z:Nat->Gh) (s:S) (a:Act) (w:World),Rel F N z s a w->X7 P (amO n x) QE s->
 (∀z s a w,Rel F N z s a w->QE .normal s->(atE n c).wp P Q a w)->(∀e a w,e≠ .normal->AM.up F N QE e a w->Q e a w)->c.wp P Q a w:=by
 intro n;induction n with
 |zero=>
  intro x c r g z s a w hr h J p;cases x with
  |seq x y=>
   cases c with
   |seq c d=>
    simp only[qJ,cG]at g;split at g
    .rename_i x' y' T U;simp only[bO,ACode.seq.injEq]at g;obtain⟨rfl,rfl⟩:=g;refine wp_seq (wp_mono (kZ x c T _ z s a w hr h) ?_);intro e I w' j;cases e with
     |normal=>obtain⟨ι1,o,l,R⟩:=j;exact J ι1 o I w' l R
     |exit i=>exact p _ _ _ ep j
     |ret=>exact p _ _ _ ep j
     |_=>exact j.elim
    cases g
   |region id ops d=>rcases Zt g with⟨xs,h⟩|⟨xs,h⟩<;>simp[cG]at h
   |_=>(simp only[qJ]at g;(repeat' split at g)<;>simp_all[cG])
  |_=>cases r
 |succ n ih=>
  intro x c r g z s a w hr h J p;cases x with
  |seq x y=>
   cases c with
   |seq c d=>
    simp only[qJ,cG]at g;split at g
    .rename_i x' y' T U;simp only[bO,ACode.seq.injEq]at g;obtain⟨rfl,rfl⟩:=g;have h:X7 P x (λe o=>match e with|.normal=>X7 P (amO n y) QE o|.exit i=>QE (.exit i) o|.ret=>QE .ret o) s:=h;refine wp_seq (wp_mono (kZ x c T _ z s a w hr h) ?_);intro e I w' j;cases e with
     |normal=>
      obtain⟨ι1,o,l,R⟩:=j;exact ih y d r U ι1 o I w' l R J p
     |exit i=>exact p _ _ _ ep j
     |ret=>exact p _ _ _ ep j
     |_=>exact j.elim
    cases g
   |region id ops d=>rcases Zt g with⟨xs,h⟩|⟨xs,h⟩<;>simp[cG]at h
   |_=>(simp only[qJ]at g;(repeat' split at g)<;>simp_all[cG])
  |_=>cases r
theorem ay8{P}{k}{ords:am (Nat×am Nat)}{A:AFun}(T:Tab P)(m){fn:Func}{c}(hf:P.funcs[k]?=some fn)(o:fn.body=some c)(hA:cFun P ords k=some A.erase)(hp:axo m A.code=true)
 {w:World}{ok:Nat->Prop}{args:am W}{j:am Value}(hn:j.length<=fn.ntmps) (U:(∀b,ok b->b<w.heap.size)/\Glb ok w) (I:qN (λ_=>⟨none,0⟩) w ok args j) {QE:E->S->Prop}{R:Ending->World->Prop}
 (h:mwpR P T.f (amO m A.code) QE ⟨j6 0 args,[]⟩)
 (h1:∀F:Fr,F.w0=w->F.A=ok->F.M=(λ_=>False)->∀z s a w',Rel F fn.ntmps z s a w'->a.tmps.size=fn.ntmps->QE .normal s->(atE m c).wp P (bodyPost P fn R) a w')
 (h2:∀e s,e≠ .normal->¬QE e s):Calls P k j.toArray w R:=by
 unfold cFun at hA;rw[hf]at hA;simp only[o]at hA;split at hA
 case h_2=>cases hA
 rename_i x r l hr;cases hN:cK fn.ntmps 5000 with
 |false=>grind
 |true=>
 rw[hN]at hA;have hN:=Nat.le_of_ble_eq_true hN;simp only[aH,AFun.erase,bO,AFun.mk.injEq]at hA;obtain⟨rfl,rfl⟩:=hA
 let F:Fr:=⟨w,ok,λ_=>False,λp=>if p=599999 then some ⟨none,fn.ntmps⟩else none⟩
 have ae:(j.toArray++Array.replicate (fn.ntmps-j.toArray.size) undef).size=fn.ntmps:=ew
 have hrel:Rel F fn.ntmps (λ_=>⟨none,0⟩) ⟨j6 0 args,[]⟩ {tmps:=j.toArray++Array.replicate (fn.ntmps-j.toArray.size) undef,defers:=[]} w:=by
  refine⟨⟨ek,λg hg=>?_⟩,λi v hv=>?_,λp x l=>(by cases l),λp q x y b l=>(by cases l),λb ⟨p,x,l,_⟩=>(by cases l),rfl,Grows.refl _ _,λb o=>⟨U.1 b o,λh=>h⟩,⟨λb o=>o.elim,U.2⟩,hN,λp g hg=>?_,λp x g l=>(by cases l)⟩
  .simp only[F,if_true,bO]at hg
   grind
  .obtain⟨x,rfl,_,h1⟩:=acV args 0 i v hv;have J:zP w w ok (F.ok (λ_=>⟨none,0⟩) [] w):=λb o=>⟨⟨.inl o,U.1 b o,λ⟨p,x,l,_⟩=>by cases l⟩,rfl⟩
   obtain⟨y,h2,h3⟩:=qN.get I h1;simp only[Nat.sub_zero]at h2;have ac:i<j.length:=(am.getElem?_eq_some_iff.1 h2).1;exact⟨y,ek,WR.keep J (yx.refl w) _ _ h3⟩
  grind
 rw[jQ]at h;have h:=Xw _ _ _ h;refine calls_of_wp hf o (aAp m A.code c hp l _ _ _ _ hrel h ?_ ?_)
 .intro z s a w' ab hq;exact h1 F rfl rfl rfl z s a w' ab (ab.room.2 ⟨none,fn.ntmps⟩ (by simp[F])) hq
 rintro e a w' ad aa;exfalso;cases e with
 |normal=>grind
 |exit i=>obtain⟨_,_,_,hq⟩:=aa;grind
 |ret=>obtain⟨_,_,_,hq⟩:=aa;grind
 |_=>exact aa.elim
end
def aj8(D:Nat->Bool)(ops:bP Oper):=ops.all λo=>match o.dst with|some d=>D d|none=>true
def XI(D:Nat->Bool)(a g:Act):=∀t,D t=false->g.tmps[t]?=a.tmps[t]?
theorem XI.put{D:Nat->Bool}{a b}(h:XI D a b){o:Oper}(i:(match o.dst with|some d=>D d|none=>true)=true)(v):XI D a (b.put o.dst v):=by
 intro t g;rw[<-h t g]
 grind[Act.put]
theorem ayK{P}{ops}{D:Nat->Bool}(U:aj8 D ops=true){Q:Exit->Act->World->Prop}(hp:∀c a w,¬Q (.panic c) a w)(ho:∀a w,¬Q .outgrown a w){T:Exit->Act->World->Prop}{i}{K I:Act->World->Prop}{a0 a}{w}(h0:XI D a0 a)(hk:∀l w',XI D a0 l->K l w'->I l w')(h:wpOp P ops Q i K a w):wpOp P ops T i I a w:=by
 unfold wpOp at h⊢;cases J:ops[i]? with
 |none=>grind
 |some o=>
  have g:(match o.dst with|some d=>D d|none=>true)=true:=by have:=Array.all_eq_true_iff_forall_mem.1 U o (Array.mem_of_getElem? J);exact this
  rw[J]at h;simp only at h⊢;by_cases R:cN o (yielded ops a.tmps)=true
  .rw[if_pos R]at h⊢;rcases h with h|⟨_,x,y,h⟩
   .refine .inl ?_;unfold Oper.wp at h⊢;generalize(execOp a.eval o).run P w=r at*;cases r with
    |ok n w'=>
     cases n with
     |value v=>exact hk _ _ (h0.put g v) h
     |skip=>exact hk _ _ (h0.put g _) h
     |defer d=>exact hk _ _ (XI.put (b:={a with defers:=d::a.defers}) h0 g _) h
     |enter f args=>
      refine Calls.mono h λe p j=>?_
      cases e with
      |returned v=>exact hk _ _ (h0.put g v) j
      |panicked c=>grind
      |outgrown=>obtain⟨x,y,j⟩:=j;grind
     |row s args=>exact Rows.mono h λv p j=>hk _ _ (h0.put g v) j
     |_=>exact h
    |halt x w'=>
     cases x with
     |panic v=>exact absurd h (hp _ _ _)
     |_=>exact h
   grind
  rw[if_neg R]at h⊢;exact hk _ _ (h0.put g _) h
theorem ahW{P}{ops}{D:Nat->Bool}(o:aj8 D ops=true){Q:Exit->Act->World->Prop}(r:∀c a w,¬Q (.panic c) a w)(p:∀a w,¬Q .outgrown a w){a0}:∀(g) (j:bP Bool) (a:Act) (w:World),XI D a0 a->wpAny P .any ops Q g j a w->wpAny P .any ops (λe l w'=>Q e l w'/\XI D a0 l) g j a w
 |0,_,_,_,h0,h=>⟨h.1,h.2,h0⟩
 |g+1,_,_,_,h0,h=>⟨λe=>⟨h.1 e,h0⟩,λi R=>ayK o r p h0 (λl w' I J=>ahW o r p g _ l w' I J) (h.2 i R)⟩
theorem awX{P}{N}{F}{ords}{id}{ops}{xs}(g:Xa P N ords id ops true=some (.reg (xs.map AI.erase))){D:Nat->Bool}(hD:aj8 D ops=true){QE:E->S->Prop}{z:Nat->Gh}{s}{a}{w}
 (hr:Rel F N z s a w) (h:X7 P (.reg xs) QE s):(cU id ops true).wp P (λe U w'=>AM.up F N QE e U w'/\XI D a U) a w:=by
 simp only[Xa]at g;split at g
 .split at g
  .rcases jT g with h|h<;>simp_all
  cases g
 split at g
 case h_2=>cases g
 rename_i i _;cases r:afw P (wV ords id) ops i with
 |false=>grind
 |true=>
  rw[r]at g;simp only[aH,cS,ACode.reg.injEq]at g;obtain⟨ys,l,rfl⟩:=g;obtain⟨h1,h2,h3,h4,h5⟩:=adP r;refine wp_region_any h1 (ahW hD (λc a w h=>h) (λa w h=>h) _ _ _ _ (λ_ _=>rfl) (Kr (hs:=wV ords id) _ _ _ _ ?_));have I:∀(j:Nat) (o:Oper) cs b,ops[j]?=some o->o.op≠ .select cs b:=by intro j o cs b ho he;have J:j<ops.size:=(bP.getElem?_eq_some_iff.1 ho).1;obtain⟨o',x,p,T⟩:=ah8 l j (h2 j J);rw[ho]at p;cases p;rw[he]at T;cases hb:isin j (wV ords id)<;>rw[hb]at T<;>cases T
  have R:Rel F N z s a {w with drawn:=w.drawn+1}:=hr.grown ⟨rfl,rfl,⟨rfl,Nat.le_succ _⟩,aN _,λ_ _ _=>rfl,λ_ _ _ h=>h⟩;refine(anR (F:=F) (hs:=wV ords id) (K:=QE .normal) (Q:=AM.up F N QE) (gs:=u4 ops.toList) hr.foreign hr.handed (λz s a w hr hk=>⟨z,s,hr,hk⟩) (λc a w h=>h) I i (aik h4) i (λ_ h=>h) h5 xs l).2 ops.size _ z s a _ ?_ h3 R h;refine⟨ep,λj hj=>?_⟩
  grind[yw]
section
attribute [local irreducible] Sat zH z6 zl
theorem ael(on)(a)(g:tblErr a=0)(i:(qb 9 on ⟨#[]⟩).R):
 ex Vi [a.w,Tbl.w ⟨[],[]⟩,.c (int 9),.c (.d (.sl (zo on)))] (x8 (yu [] a.cols (qb 9 on ⟨#[]⟩))):=by have hk:=wS a;rw[g]at hk;have fa:=qa g;have j:=XY [] a.cols (qb 9 on ⟨#[]⟩) i ej (λt l=>by cases l);unfold uR at j;generalize yu [] a.cols (qb 9 on ⟨#[]⟩)=x at*;obtain⟨p,I⟩:=x;obtain⟨ac,o⟩:=a;clear i g fa;refine zJ ?_;refine W4.s T9 ?_;refine aF hk ?_;refine aF j ?_;exact⟨rfl,rfl⟩
def aac(cols)(on)(x):=pickL x (zf cols on)++[⟨2,(un cols x).n,⟨#[]⟩⟩,⟨2,(WB cols x).n,⟨#[]⟩⟩]
def afL(cols)(on)(x):=bif !Up (un cols x) (WB cols x)&&decide ((un cols x).n>=0)then [aac cols on x]else []
def jE(cols:am Col)(on:am ByteArray)(rows:am (am Val)):=yE keyC (rows.flatMap (afL cols on))
theorem aDe(cols)(on)(x):(afL cols on x).length<=1:=by grind[afL]
theorem aom(cols)(on):∀rows:am (am Val),(rows.flatMap (afL cols on)).length<=rows.length
 |[]=>aN _
 |x::r=>by have g:=aDe cols on x;have i:=aom cols on r;rw[aU,aB,bV];omega
theorem aoo(cols)(on)(rows):(jE cols on rows).length<=rows.length:=by unfold jE;rw[(uV qy _).length_eq];exact aom ..
theorem aoq{cols}{on}{rows}:∀y∈jE cols on rows,∃x∈rows,y=aac cols on x:=by
 intro y g;have g:=(uV qy _).mem_iff.1 g;obtain⟨x,i,h⟩:=cQ.1 g;refine⟨x,i,?_⟩;unfold afL at h;cases j:(!Up (un cols x) (WB cols x)&&decide ((un cols x).n>=0))
 .grind
 simp_all
theorem aon(cols)(on)(x):(aac cols on x).length=on.length+2:=by grind[aac,pickL,zf]
theorem axY(cols)(on){rows:am (am Val)}{i}(h:i<rows.length):jE cols on (rows.take (i+1))=bif !Up (un cols rows[i]) (WB cols rows[i])&&decide ((un cols rows[i]).n>=0)then vo keyC (aac cols on rows[i]) (jE cols on (rows.take i))else jE cols on (rows.take i):=by
 unfold jE;rw[zD h,List.flatMap_append,aU,List.flatMap_nil,bM];unfold afL;cases(!Up (un cols rows[i]) (WB cols rows[i])&&decide ((un cols rows[i]).n>=0))
 .simp_all
 simp_all[yE]
def agm(on:am ByteArray)(R:am Col)(l:am (am Val)):S:=⟨[(1,.w (.c (.d (.sl (zo on))))),(4,cV (.ptr 4 0)),(6,.w (.c (.d (.sl (zj R))))),(8,.w (.c (.d (.sl (zd l)))))],[(4,.box [.nil,.nil])]⟩
def arj(on:am ByteArray)(R:am Col)(l:am (am Val)):E->S->Prop
 |.normal,s=>xO s [1,4,6,8] (· =agm on R l)
 |_,_=>False
noncomputable def coP0:=ev (amO 4 vT.A.code)
noncomputable def coP:ACode:=coP0.1
theorem aGi:amO 4 vT.A.code=coP:=coP0.2
def aBT(cols:am Col)(rows:am (am Val))(on:am ByteArray)(R:am Col)(i:Nat)(l:am (am Val)):S:=
 ⟨[(1,.w (.c (.d (.sl (zo on))))),(2,cV (.ptr 2 0)),(4,cV (.ptr 4 0)),(6,.w (.c (.d (.sl (zj R))))),(8,.w (.c (.d (.sl (zd l))))),(9,zh i)],[(2,.box [.d (.sl (zj cols)),.d (.sl (zd rows))]),(4,.box [.nil,.nil])]⟩
theorem aDg(a:Tbl)(on)(R)(hC:ex Vi [a.w,Tbl.w ⟨[],[]⟩,.c (int 9),.c (.d (.sl (zo on)))] (x8 (0,R)))
 (ah:a.rows.length<=20000) (ag:on.length<=1000) (hw:∀x∈a.rows,x.length=a.cols.length) (ae:yB a.cols.length (zf a.cols on)) (hp:0<=ze a.cols sFrom/\ze a.cols sFrom<a.cols.length) (hq:0<=ze a.cols sTo/\ze a.cols sTo<a.cols.length):
 qo ⟨j6 0 [a.w,.c (.d (.sl (zo on)))],[]⟩ λs=>mwpR Pg T9.f coP (arj on R (jE a.cols on a.rows)) s:=by
 have o:=λx (hm:x∈a.rows)=>Uu a x ek ek
 have I:=λx (hm:x∈a.rows)=>aqa a x on ej ek
 obtain⟨cols,rows⟩:=a;simp only at*;refine aF hC ?_;refine zX (P:=Pg) (f:=T9.f) (body:=(vT.l 0)) rows.length (λi=>aBT cols rows on R i (jE cols on (rows.take i))) (λ_=>True) ⟨trivial,⟨_,ZD 8 .nil (.sl []) _ rfl rfl,?_⟩⟩ ?_
 .exact rfl
 intro i hi _;have g:=λh:i<rows.length=>axY cols on h
 have p:i=rows.length->jE cols on rows=jE cols on (rows.take i):=λh=>ek
 have ac:=aoo cols on (rows.take i);have ad:=@aoq cols on (rows.take i);have U:Yc keyC (jE cols on (rows.take i)):=Vv qy _;rw[bU,cT hi]at ac;show mwpR Pg T9.f (vT.l 0) _ (aBT cols rows on R i (jE cols on (rows.take i)));generalize jE cols on (rows.take i)=T at*;unfold aBT;(conv=>whnf);rw[zq];refine Zc (λj=>?_) (λab=>?_)
 .have hg:=zZ j;have wi:=zu j ej;have g:=g j;have J:=o rows[i] (aE j);have hK:=I rows[i] (aE j);have hP:=aqb T (aac cols on rows[i]) ej (λy hy=>by grind[aon]) U;have n1:=Wi (un cols rows[i]).n;have n2:=Wi (WB cols rows[i]).n;have af:(pickL rows[i] (zf cols on)).length=on.length:=by grind[pickL,zf]
  clear p ad U o I;unfold asP at J;unfold aac at hP g;rw[show at0 rows[i] (ze cols sFrom).toNat=un cols rows[i]from rfl,show at0 rows[i] (ze cols sTo).toNat=WB cols rows[i]from rfl]at J;generalize pickL rows[i] (zf cols on)=ky,un cols rows[i]=u,WB cols rows[i]=v at*;generalize rows[i]=x at*;refine zw hg ?_;cases hb:Up u v with
  |true=>
   rw[hb]at J g;refine aF J ?_;refine zI j trivial ?_;rw[wi,g];rfl
  |false=>
   rw[hb]at J g;cases hz:decide (u.n>=0)with
   |false=>
    rw[hz]at g;refine aF J ?_;rw[hz];refine zI j trivial ?_;rw[wi,g];rfl
   |true=>
    rw[hz]at g;refine aF J ?_;rw[hz];refine zw hg ?_;refine aF hK ?_;have aa:aD (on.length+2) (aD on.length (rowD ky)++[[D.lit (.int .i64 2),D.lit (.int .i64 u.n),D.lit (.string ⟨#[]⟩)],[D.lit (.int .i64 2),D.lit (.int .i64 v.n),D.lit (.string ⟨#[]⟩)]])=rowD (ky++[⟨2,u.n,⟨#[]⟩⟩,⟨2,v.n,⟨#[]⟩⟩]):=by grind[rowD,Val.ds]
    refine yQ ?_ (hA:=ep) (hB:=by grind[zW]) (hC:=ek);unfold zE at hP;rw[<-aa]at hP;refine aF hP ?_;refine zI j trivial ?_;rw[wi,g];rfl
 rw[p ab];(conv=>whnf);refine zi ?_;exact rfl
abbrev iA(d:Nat)(op:AOp)(g:am Nat):AI:=⟨some d,none,false,op,g⟩
abbrev iM(d x:Nat)(g:am Nat):AI:=iA d (.mov (.t x)) g
abbrev iB(d q:Nat)(op:AOp)(g:am Nat):AI:=⟨some d,some (q,true),false,op,g⟩
abbrev iN(d q x:Nat)(g:am Nat):AI:=iB d q (.mov (.t x)) g
abbrev iG(d x:Nat)(g:am Nat):AI:=⟨some d,none,true,.mov (.t x),g⟩
def coC:am AI:=[iM 82 15 [],
 iA 83 (.bin .geq (.t 82) (.k (zh 0))) [82],
 iG 84 83 [83],
 iB 85 84 (.fa 1 (.t 12)) [],
 iB 86 84 (.ld false 1 (.t 85)) [85],
 iN 87 84 15 [],
 iB 88 84 (.ia 1 (.t 86) (.t 87)) [86,87],
 iB 89 84 (.ld false 1 (.t 88)) [88],
 iN 90 84 13 [],
 iB 91 84 (.sli 3 (.t 89) none (some (.t 90))) [89,90],
 iN 92 84 8 [],
 iN 93 84 14 [],
 iB 94 84 (.ia 1 (.t 92) (.t 93)) [92,93],
 iB 95 84 (.ld false 1 (.t 94)) [94],
 iN 96 84 13 [],
 iB 97 84 (.sli 3 (.t 95) none (some (.t 96))) [95,96],
 iB 98 84 (.call 181 [(.t 91),(.t 97)]) [91,97],
 iB 99 84 (.bin .eql (.t 98) (.k (zh 0))) [98],
 iA 100 (.pick (.t 84) (.t 99) (.k (yf false))) [84,99,98,91,97,95,96,94,92,93,89,90,88,86,87,85],
 iG 101 100 [100],
 iN 102 101 8 [],
 iN 103 101 14 [],
 iB 104 101 (.ia 1 (.t 102) (.t 103)) [102,103],
 iB 105 101 (.ld false 1 (.t 104)) [104],
 iN 106 101 13 [],
 iB 107 101 (.ia 3 (.t 105) (.t 106)) [105,106],
 iB 108 101 (.fa 1 (.t 107)) [107],
 iB 109 101 (.ld false 1 (.t 108)) [108],
 iB 110 101 (.fa 1 (.t 12)) [],
 iB 111 101 (.ld false 1 (.t 110)) [110],
 iN 112 101 15 [],
 iB 113 101 (.ia 1 (.t 111) (.t 112)) [111,112],
 iB 114 101 (.ld false 1 (.t 113)) [113],
 iN 115 101 13 [],
 iB 116 101 (.bin .add (.t 115) (.k (zh 1))) [115],
 iB 117 101 (.ia 3 (.t 114) (.t 116)) [114,116],
 iB 118 101 (.fa 1 (.t 117)) [117],
 iB 119 101 (.ld false 1 (.t 118)) [118],
 iB 120 101 (.bin .leq (.t 109) (.t 119)) [109,119],
 iA 121 (.pick (.t 101) (.t 120) (.k (yf false))) [101,120,109,119,118,117,114,116,115,113,111,112,110,108,107,105,106,104,102,103]]
def agl(n)(r y):=Vp (r.take n) (y.take n)==0&&decide ((at0 y n).n<=(at0 r (n+1)).n)
def amc(R:am Col)(T l:am (am Val))(n k:Nat)(j:Int):S:=⟨[(8,.w (.c (.d (.sl (zd l))))),(12,.w (.c (.fp [.sl (zj R),.sl (zd T)]))),(13,zh n),(14,zh k),(15,zh j)],[]⟩
def aBS(b:Bool):E->S->Prop:=λe s=>e=.normal/\aget s.sl 121=some (yf b)
theorem aBQ(R)(l)(n k):mwpR Pg T9.f (.reg coC) (aBS false) (amc R [] l n k (-1)):=by unfold coC amc;exact⟨rfl,rfl⟩
theorem aBR(R)(T l)(n k j:Nat)(p:j<T.length)(hk:k<l.length)(U:n<=1000)(J:T[j].length=n+2)(P:l[k].length=n+2):mwpR Pg T9.f (.reg coC) (aBS (agl n T[j] l[k])) (amc R T l n k j):=by
 have hC:=JX (T[j].take n) (l[k].take n);rw[show zE (T[j].take n)=.c (.d (.sl ((rowD T[j]).take n)))by grind[zE,rowD,cD],show zE (l[k].take n)=.c (.d (.sl ((rowD l[k]).take n)))by grind[zE,rowD,cD]]at hC;have g1:=zZ p;have g2:=zZ hk;unfold agl coC amc;generalize T[j]=r,l[k]=y at*;have o:(rowD y)[(n:Int).toNat]?=some (at0 y n).ds:=by grind[rowD,at0]
 have i:(rowD r)[((n:Int)+1).toNat]?=some (at0 r (n+1)).ds:=by grind[rowD,at0]
 have I:aG.wrap ((n:Int)+1)=(n:Int)+1:=zT ej ej;refine zw g1 ?_;refine⟨by show(0:Int)<=n;omega,by show(n:Int)<=_;grind,?_⟩
 conv=>whnf
 refine zw g2 ?_;refine⟨by show(0:Int)<=n;omega,by show(n:Int)<=_;grind,?_⟩;refine aF hC ?_;refine zt (b:=Vp (r.take n) (y.take n)==0) (λg=>?_) (λg=>?_)
 .rw[g];refine zw g2 ?_;refine zw o ?_ (hA:=ek);refine zw g1 ?_;rw[I];refine zw i ?_;exact⟨rfl,rfl⟩
 rw[g];exact⟨rfl,rfl⟩
end
section
attribute [local irreducible] zl
def Qi(n:Nat)(T:am (am Val))(y:am Val):am (am Val):=match T.getLast? with
 |none=>T++[y]
 |some r=>bif agl n r y then T.set (T.length-1) (kH r (n+1) (yL true (at0 r (n+1)).n (at0 y (n+1)).n))else T++[y]
def QO(n:Nat)(l:am (am Val)):=l.foldl (Qi n) []
theorem ash{K}:∀{a b:am Val},zV K a->zV K b->(keyC a b==0)=xB yH a b:=by
 induction K with
 |nil=>
  intro a b g i;cases a with
  |nil=>
   cases b with
   |nil=>rfl
   |cons _ _=>exact i.elim
  |cons _ _=>exact g.elim
 |cons c K j=>
  intro a b g i;cases a with
  |nil=>exact g.elim
  |cons u a=>cases b with
   |nil=>exact i.elim
   |cons v b=>
    have j:=j g.2 i.2;have l:=avq g.1 i.1;show((bif zS u v !=0 then zS u v else keyC a b)==0)=bif !yH u v then false else xB yH a b
    rw[<-l];cases h:(zS u v==0)<;>simp_all[zS,bne]
theorem aGo{u v}(h:yH u v=true):u=v:=by obtain⟨a,b,c⟩:=u<;>simp_all[yH,AM.beqS_iff]
theorem aqN:∀{a b:am Val},xB yH a b=true->a=b
 |[],[],_=>rfl
 |u::a,v::b,h=>by
  simp only[xB]at h;cases g:yH u v
  .rw[g]at h;cases h
  rw[g]at h;rw[aGo g,aqN h]
theorem adf{x}{n}(h:x.key.length=n):(xC x).take n=x.key/\at0 (xC x) n=⟨2,x.a,⟨#[]⟩⟩/\at0 (xC x) (n+1)=⟨2,x.b,⟨#[]⟩⟩:=by grind[xC,at0]
theorem aFB{x}{n}(h:x.key.length=n)(m):kH (xC x) (n+1) m=xC ⟨x.key,x.a,m⟩:=by unfold kH;rw[(adf h).2.2];simp_all[xC]
def KF(K:am Col)(n:Nat)(x:Pc):=zV K x.key/\x.key.length=n
theorem aBU{K}{n}{x y}(g:KF K n x)(i:KF K n y):agl n (xC x) (xC y)=(xS x.key y.key&&decide (y.a<=x.b)):=by unfold agl;rw[(adf g.2).1,(adf g.2).2.2,(adf i.2).1,(adf i.2).2.1,amP (g.2.trans i.2.symm),ash (K:=K) g.1 i.1,aiP (g.2.trans i.2.symm)]
theorem aFr{K}{n}{T}{y}(i:∀x∈T,KF K n x)(g:KF K n y):Qi n (T.map xC) (xC y)=(vz T y).map xC:=by
 unfold Qi vz;rw[List.getLast?_map];cases j:T.getLast? with
 |none=>simp
 |some r=>
  have hr:=i r (cH j);simp only[Option.map_some];rw[aBU hr g,aFB hr.2,(adf hr.2).2.2,(adf g.2).2.2];cases(xS r.key y.key&&decide (y.a<=r.b))<;>simp
theorem aFi{K}{n}{T}{y}(l:∀x∈T,KF K n x)(o:KF K n y):∀x∈vz T y,KF K n x:=by
 intro x g;unfold vz at g;cases j:T.getLast? with
 |none=>
  grind
 |some r=>
  rw[j]at g;have hr:=l r (cH j);simp only at g;cases i:(xS r.key y.key&&decide (y.a<=r.b))
  .rw[i,aA]at g
   grind
  rw[i,aH]at g;rcases List.mem_or_eq_of_mem_set g with g|rfl
  .grind
  exact hr
theorem asK{K}{n}:∀{l T:am Pc},(∀x∈l,KF K n x)->(∀x∈T,KF K n x)->(l.map xC).foldl (Qi n) (T.map xC)=(l.foldl vz T).map xC
 |[],_,_,_=>rfl
 |y::r,T,i,g=>by have j:=i y (aS ..);show(r.map xC).foldl (Qi n) (Qi n (T.map xC) (xC y))=_;rw[aFr g j];exact asK (λx o=>i x (aO _ o)) (aFi g j)
theorem arN{α β}(c:β->β->Int)(f:α->β)(x):∀l,vo c (f x) (l.map f)=(vo (λa b=>c (f a) (f b)) x l).map f
 |[]=>rfl
 |y::r=>by
  have g:=arN c f x r;simp only[cM,vo];split
  .simp
  rw[g];simp
theorem aAP{α β}(c:β->β->Int)(f:α->β)(l):yE c (l.map f)=(yE (λa b=>c (f a) (f b)) l).map f:=by
 have gen:∀(l g:am α),(l.map f).foldl (λg x=>vo c x g) (g.map f)=(l.foldl (λg x=>vo (λa b=>c (f a) (f b)) x g) g).map f:=by intro l;induction l<;>grind[arN]
 exact gen l []
theorem asg:∀{a b r s:am Val},a.length=b.length->keyC (a++r) (b++s)=bif keyC a b !=0 then keyC a b else keyC r s
 |[],[],_,_,_=>rfl
 |u::a,v::b,r,s,h=>by
  have g:=asg (a:=a) (b:=b) (r:=r) (s:=s) (by simpa using h);show(bif zS u v !=0 then zS u v else keyC (a++r) (b++s))=bif (bif zS u v !=0 then zS u v else keyC a b) !=0 then(bif zS u v !=0 then zS u v else keyC a b)else keyC r s
  rw[g];cases i:(zS u v !=0)
  .rfl
  simp only[aH]
  grind
theorem aGD{n}{x y}(i:x.key.length=n)(j:y.key.length=n)(h:keyC (xC x) (xC y)<=0):QY x y<=0:=by
 unfold xC at h;rw[asg (i.trans j.symm)]at h;unfold QY;cases g:(keyC x.key y.key !=0)
 .rw[g,aA]at h;rw[aA];have l:(bif xM x.a y.a !=0 then xM x.a y.a else(bif xM x.b y.b !=0 then xM x.b y.b else 0))<=0:=h
  grind
 grind
theorem aFn{cols}{on}{rows}(j:∀r∈rows,zV cols r)(o:colInt cols sFrom=0)(p:colInt cols sTo=0):
 rows.flatMap (afL cols on)=(vQ (zf cols on) (ze cols sFrom) (ze cols sTo) rows).map xC:=by
 induction rows with
 |nil=>rfl
 |cons x r g=>
  have g:=g λy l=>j y (aO _ l)
  have i:=j x (aS ..);unfold vQ at g⊢;rw[aU,aU,List.map_append,g];unfold afL ade aac un WB;rw[ajv (Kx i o).2 (Kx i p).2,Bool.not_not];cases(qK (at0 x (ze cols sFrom).toNat) (at0 x (ze cols sTo).toNat)&&decide ((at0 x (ze cols sFrom).toNat).n>=0))<;>rfl
theorem aAm{at_}{p q}{rows}{x}(h:x∈vQ at_ p q rows):(∃r∈rows,x.key=pickL r at_)/\x.a<x.b:=by
 obtain⟨r,hr,h⟩:=cQ.1 h;unfold ade at h;cases g:(qK (at0 r p.toNat) (at0 r q.toNat)&&decide ((at0 r p.toNat).n>=0))
 .grind
 rw[g,aH,aR]at h;subst h;refine⟨⟨r,hr,rfl⟩,?_⟩<;>simp_all[qK]
theorem aGj{cols}{on}{rows}(J:∀r∈rows,zV cols r)(ht:takeErr cols on=false)(i1:colInt cols sFrom=0)(i2:colInt cols sTo=0):
 QO on.length (jE cols on rows)=jY (zf cols on) (ze cols sFrom) (ze cols sTo) rows:=by
 unfold jE jY Yk;rw[aFn J i1 i2,aAP];obtain⟨L,I⟩:∃L,vQ (zf cols on) (ze cols sFrom) (ze cols sTo) rows=L:=⟨_,rfl⟩;have U:∀x∈L,KF (takeC cols on) on.length x/\x.a<x.b:=λx g=>by
  obtain⟨⟨r,hr,e⟩,T⟩:=aAm (I▸g);refine⟨⟨?_,?_⟩,T⟩
  .rw[e];exact(J r hr).pick ht
  grind[pickL,zf]
 rw[I];have i:CmpOK (λa b=>keyC (xC a) (xC b)):=CmpOK.onF qy xC;have P:=uV i L;have p2:=uV V6 L;have s1:=Vv i L;have s2:=Vv V6 L;generalize yE (λa b=>keyC (xC a) (xC b)) L=R at*;have m1:∀x∈R,KF (takeC cols on) on.length x/\x.a<x.b:=λx g=>U x (P.mem_iff.1 g)
 unfold QO;rw[show([]:am (am Val))=([]:am Pc).map xC from rfl,asK (λx g=>(m1 x g).1) (λx g=>by cases g)];congr 1
 refine aeY V6 (P.trans p2.symm) ?_ s2 (λx g y l h j=>?_) []
 .exact List.Pairwise.imp_of_mem (fun{x y} g l h=>aGD (m1 x g).1.2 (m1 y l).1.2 h) s1
 have o:=m1 x g;have p:=m1 y l;unfold QY at h;have hk:keyC x.key y.key=0:=ek
 rw[hk]at h;have h:xM x.a y.a=0:=h;refine az5 (aqN ?_) ?_ o.2 p.2 j
 .rw[<-ash (K:=takeC cols on) o.1.1 p.1.1,hk];rfl
 grind[abs]
end
section
open Go Go.AM Go.Proofs Go.RowKit
def coB(n:Nat)(T:am (am Val))(y:am Val):Bool:=match T.getLast? with|none=>false|some r=>agl n r y
def coD(d:Nat):=cK 82 d&&cK d 121
theorem asJ(n)(T)(y):coB n T y=false->Qi n T y=T++[y]:=by grind[coB,Qi]
theorem aii{n}{T}{y}(h:coB n T y=true):∃r,T.getLast?=some r/\Qi n T y=T.set (T.length-1) (kH r (n+1) (yL true (at0 r (n+1)).n (at0 y (n+1)).n)):=by unfold coB at h;cases g:T.getLast?<;>simp_all[Qi]
theorem aDf{n m}{T}{y}(g:∀r∈T,r.length=m)(j:y.length=m):∀r∈Qi n T y,r.length=m:=by intro r hr;cases i:coB n T y<;>grind[asJ,aii,atn]
theorem aAw{n m}{l}(j:∀r∈l,r.length=m):∀r∈QO n l,r.length=m:=by
 have gen:∀(l T:am (am Val)),(∀r∈l,r.length=m)->(∀r∈T,r.length=m)->∀r∈l.foldl (Qi n) T,r.length=m:=by
  intro l;induction l with
  |nil=>grind
  |cons y l o=>intro T g i;exact o _ (λr hr=>g r (aO _ hr)) (aDf i (g y (aS ..)))
 exact gen l [] j λr hr=>by cases hr
theorem axZ(n)(T)(y):(Qi n T y).length<=T.length+1:=by cases g:coB n T y<;>grind[asJ,aii]
theorem auz(n)(l):(QO n l).length<=l.length:=by
 have gen:∀(l T:am (am Val)),(l.foldl (Qi n) T).length<=T.length+l.length:=by
  intro l;induction l with
  |nil=>simp_all
  |cons y l g=>
   grind[axZ]
 grind[QO]
theorem ax0(n){l:am (am Val)}{k}(h:k<l.length):QO n (l.take (k+1))=Qi n (QO n (l.take k)) l[k]:=by grind[QO,zD]
theorem aEU(R)(T l)(n k)(hk:k<l.length)(o:n<=1000)(i:∀r∈T,r.length=n+2)(j:l[k].length=n+2):mwpR Pg T9.f (.reg coC) (aBS (coB n T l[k])) (amc R T l n k ((T.length:Int)-1)):=by
 unfold coB;cases g:T.getLast? with
 |none=>
  simp_all[aBQ]
 |some r=>
  grind[aBR]
theorem azh{A:Nat->Prop}{w}{b4 b12}{te}{x6 ov}{rvs}{T}{W}{E:Nat->Prop}(hC:CI A w b4 b12 te x6 ov rvs T W E){R}{l}{v8}(I:RD W E (.sl (zj R)) x6)(h8:RD W E (.sl (zd l)) v8)
 {n k}(hk:k<l.length) (hn:n<=1000) (hT:∀r∈T,r.length=n+2) (hl:l[k].length=n+2) {a}(an:a.tmps.size=163) (hd:a.defers=[]) (t8:a.tmps[8]?=some v8) (ai:a.tmps[12]?=some (.pointer (some ⟨b12,0,none⟩))) (aj:a.tmps[13]?=some (.int .i64 n)) (ak:a.tmps[14]?=some (.int .i64 k)) (al:a.tmps[15]?=some (.int .i64 ((T.length:Int)-1)))
 {id}{ops}(hc:Xa Pg 163 vT.o id ops true=some (.reg (coC.map AI.erase))) (hD:aj8 coD ops=true) {Q:Exit->Act->World->Prop}
 (h:∀U W',U.tmps.size=163->U.defers=[]->XI coD a U->U.tmps[121]?=some (.bool (coB n T l[k]))->CI A w b4 b12 te x6 ov rvs T W' E->zP W W' E E->Q .normal U W'):(cU id ops true).wp Pg Q a W:=by
 have hm:=aEU R T l n k hk hn hT hl;rw[jQ]at hm;have hm:=Xw _ _ _ hm
 let F:Fr:=⟨W,λb=>b<W.heap.size,λ_=>False,λp=>if p=599999 then some ⟨none,163⟩else none⟩
 have aa:∀b,b<W.heap.size->F.ok (λ_=>⟨none,0⟩) [] W b:=λb J=>⟨.inl J,J,λ⟨p,x,I,_⟩=>by cases I⟩
 have ab:zP W W E (F.ok (λ_=>⟨none,0⟩) [] W):=λb J=>⟨aa b (hC.dlt b J),rfl⟩
 have af:=bH ab _ _ h8;have ae:=bH ab _ _ I;have ag:RD W (F.ok (λ_=>⟨none,0⟩) [] W) (.sl (zd T)) ov:=bH (λb J=>⟨aa b J.2.1,rfl⟩) _ _ hC.data;have k0:W.cell? ⟨b12,0,none⟩=some x6:=by rw[bB _ _ _ _ _ _ hC.c12];rfl
 have k1:W.cell? ⟨b12,1,none⟩=some ov:=by rw[bB _ _ _ _ _ _ hC.c12];rfl
 have hrel:Rel F 163 (λ_=>⟨none,0⟩) (amc R T l n k ((T.length:Int)-1)) a W:=by
  refine⟨⟨ej,λg hg=>?_⟩,λi v j=>?_,λp x I=>(by cases I),λp q x y b I=>(by cases I),λb ⟨p,x,I,_⟩=>(by cases I),hd,Grows.refl _ _,λb J=>⟨J,λh=>h⟩,⟨λb J=>J.elim,λk hk=>?_⟩,ej,λp g hg=>?_,λp x g I=>(by cases I)⟩
  .simp only[F,if_true,bO]at hg
   grind
  .trace_state
   have ac:∀{k:Nat}{u:V}{r:am (Nat×V)},aget ((k,u)::r) i=some v->(k=i/\u=v)\/aget r i=some v:=fun{k u r} h=>by grind[aget,Nat.eq_of_beq_eq_true]
   rcases ac j with⟨rfl,rfl⟩|j
   .exact⟨_,t8,af⟩
   rcases ac j with⟨rfl,rfl⟩|j
   .exact⟨_,ai,b12,0,rfl,aa _ (vI hC.c12),⟨x6,k0,ae⟩,⟨ov,k1,ag⟩,trivial⟩
   rcases ac j with⟨rfl,rfl⟩|j
   .exact⟨_,aj,rfl,rfl⟩
   rcases ac j with⟨rfl,rfl⟩|j
   .exact⟨_,ak,rfl,rfl⟩
   rcases ac j with⟨rfl,rfl⟩|j
   .exact⟨_,al,rfl,rfl⟩
   cases j
  .obtain⟨h1,m,h2⟩:=hC.glb k hk;exact⟨hC.dlt _ h1,m,h2⟩
  grind
 refine wp_mono (awX hc hD hrel hm) ?_;rintro e U W' ⟨hu,hS⟩;cases e with
 |normal=>
  obtain⟨ι1,s1,P,_,hq⟩:=hu;obtain⟨x,ah,ad⟩:=P.slots 121 _ hq;have ad:x=.bool (coB n T l[k]):=by grind[yf,cV,VR,WR,CR,RD]
  subst ad;obtain⟨c1,c2⟩:=hC.call P.grows;exact h U W' (P.room.2 ⟨none,163⟩ (by simp[F])) P.defers hS ah c1 c2
 |exit i=>obtain⟨_,_,_,hq,_⟩:=hu;cases hq
 |ret=>obtain⟨_,_,_,hq,_⟩:=hu;cases hq
 |_=>exact hu.elim
end
theorem aGG(f:Nat->Value):(List.range 163).map f=[f 0,f 1,f 2,f 3,f 4,f 5,f 6,f 7,f 8,f 9,f 10,f 11,f 12,f 13,f 14,f 15,f 16,f 17,f 18,f 19,f 20,f 21,f 22,f 23,f 24,f 25,f 26,f 27,f 28,f 29,f 30,f 31,f 32,f 33,f 34,f 35,f 36,f 37,f 38,f 39,f 40,f 41,f 42,f 43,f 44,f 45,f 46,f 47,f 48,f 49,f 50,f 51,f 52,f 53,f 54,f 55,f 56,f 57,f 58,f 59,f 60,f 61,f 62,f 63,f 64,f 65,f 66,f 67,f 68,f 69,f 70,f 71,f 72,f 73,f 74,f 75,f 76,f 77,f 78,f 79,f 80,f 81,f 82,f 83,f 84,f 85,f 86,f 87,f 88,f 89,f 90,f 91,f 92,f 93,f 94,f 95,f 96,f 97,f 98,f 99,f 100,f 101,f 102,f 103,f 104,f 105,f 106,f 107,f 108,f 109,f 110,f 111,f 112,f 113,f 114,f 115,f 116,f 117,f 118,f 119,f 120,f 121,f 122,f 123,f 124,f 125,f 126,f 127,f 128,f 129,f 130,f 131,f 132,f 133,f 134,f 135,f 136,f 137,f 138,f 139,f 140,f 141,f 142,f 143,f 144,f 145,f 146,f 147,f 148,f 149,f 150,f 151,f 152,f 153,f 154,f 155,f 156,f 157,f 158,f 159,f 160,f 161,f 162]:=rfl
theorem Ks(t:bP Value)(h:t.size=163):∃f:Nat->Value,t= #[f 0,f 1,f 2,f 3,f 4,f 5,f 6,f 7,f 8,f 9,f 10,f 11,f 12,f 13,f 14,f 15,f 16,f 17,f 18,f 19,f 20,f 21,f 22,f 23,f 24,f 25,f 26,f 27,f 28,f 29,f 30,f 31,f 32,f 33,f 34,f 35,f 36,f 37,f 38,f 39,f 40,f 41,f 42,f 43,f 44,f 45,f 46,f 47,f 48,f 49,f 50,f 51,f 52,f 53,f 54,f 55,f 56,f 57,f 58,f 59,f 60,f 61,f 62,f 63,f 64,f 65,f 66,f 67,f 68,f 69,f 70,f 71,f 72,f 73,f 74,f 75,f 76,f 77,f 78,f 79,f 80,f 81,f 82,f 83,f 84,f 85,f 86,f 87,f 88,f 89,f 90,f 91,f 92,f 93,f 94,f 95,f 96,f 97,f 98,f 99,f 100,f 101,f 102,f 103,f 104,f 105,f 106,f 107,f 108,f 109,f 110,f 111,f 112,f 113,f 114,f 115,f 116,f 117,f 118,f 119,f 120,f 121,f 122,f 123,f 124,f 125,f 126,f 127,f 128,f 129,f 130,f 131,f 132,f 133,f 134,f 135,f 136,f 137,f 138,f 139,f 140,f 141,f 142,f 143,f 144,f 145,f 146,f 147,f 148,f 149,f 150,f 151,f 152,f 153,f 154,f 155,f 156,f 157,f 158,f 159,f 160,f 161,f 162]:=by
 refine⟨λi=>t.getD i undef,?_⟩;have e:t=((List.range 163).map (λi=>t.getD i undef)).toArray:=by
  apply Array.ext
  .simp[h]
  simp_all
 have g:=aGG (λi=>t.getD i undef);rw[g]at e;exact e
section
open Go Go.AM Go.Proofs Go.RowKit
theorem kK{P}(w){ops}{o}{a}{K:Act->World->Prop}{Q:Exit->Act->World->Prop}{E}(ac:o.guard=none)(s x)(t)
 (ho:o.op=.call {callee:=.builtin .append,args:= #[s,x],argTypes:= #[t,t]})
 (yS) (e) (i) (z) (size bytes) (ht:P.underlying t=some (.slice e)) (hi:P.info? e=some i) (hz:i.zero=some z)
 (r:i.size=size) (U:i.bytes=bytes) (ab:z.cells.size=size) (aa:0<size)
 (v) (n) (xs) (hs:a.eval s=v) (I:w.ownsRow yS e size v n xs)
 (ad) (m c) (g) (hx:a.eval x=.slice (some ad) m c) (hl:g.length=m*size) (p:∀(j:Nat) u,g[j]?=some u->w.cell? (ad.add j)=some u) (h1:∀u∈g,u.oneCell'=true)
 (T:n+m<=maxLen) (l:(n+m)*bytes<=140737488355328) (R:yS<=w.heap.size)
 (h:∀v' w',w'.ownsRow yS e size v' (n+m) (xs++g)->w.grownBy w' v.ownBlock->(w.drawn<=w'.drawn/\WJ w v v')->(v'=.slice none 0 0↔v=.slice none 0 0/\m=0)->K (a.put o.dst v') w'):
 if cN o (yielded ops a.tmps)=true then Oper.wp P o a w K Q else E:=by
 have hw:cN o (yielded ops a.tmps)=true:=by grind[cN]
 rw[if_pos hw];obtain⟨v',w',J,r1,r2,r3⟩:=run_append_own (P:=P) w yS t o.type e i z size bytes ht hi hz r U ab aa v n xs I ad m c g hl p h1 T l R;have r4:=aet w yS t o.type e i z size bytes ht hi hz r U v n xs I ad m c g hl p h1 T l J;unfold Oper.wp execOp;simp only[ho,resolve,invoke,builtin,Sem.run_bind,Sem.run_pure,Result.andThen_ok,List.map_toArray,cM,List.map_nil,hs,hx,J];exact h v' w' r1 r2 r4 r3
theorem aov{w}{ok:Nat->Prop}{l}{j}{n J}(h:RD w ok (.sl (zd l)) (.slice j n J)){k}(hk:k<l.length):∃i p u,j=some ⟨i,p,none⟩/\ok i/\w.cell? ⟨i,p+k,none⟩=some u/\RD w ok (.sl (rowD l[k])) u:=by
 simp only[RD]at h;obtain⟨a,R,c,e,_,_,_,h⟩:=h;cases e;rcases h with h|⟨b,o,sz,rfl,P,r⟩
 .grind[zd]
 have I:(zd l)[k]?=some [D.sl (rowD l[k])]:=by grind[zd]
 have g:sz=1:=by cases l<;>grind[zd,RDs]
 subst g;have:=RDs.get r I;simp only[RDc,Nat.mul_one]at this
 grind
theorem aj7(W:World):W.grownBy W.drew none:=⟨rfl,rfl,rfl,aN _,λ_ _ _=>rfl⟩
theorem aj6(W:World):W.drawn<=W.drew.drawn:=Nat.le_succ _
def Km(id:Nat):Code->aK (bP Oper)
 |.region i ops _=>if i=id then some ops else none
 |.seq a b=>(Km id a).orElse λ_=>Km id b
 |.cond _ a b=>(Km id a).orElse λ_=>Km id b
 |.block _ a=>Km id a
 |.loop a=>Km id a
 |.scope a=>Km id a
 |_=>none
abbrev axG(K:Act->World->Prop):Exit->Act->World->Prop:=λe a w=>match e with|.normal=>K a w|_=>False
theorem avY{L g:am Value}(m n)(p:g.take m=L.take m)(r:g.drop (n+1)=L.drop (n+1)):XI (λd=>cK m d&&cK d n) ⟨L.toArray,[]⟩ ⟨g.toArray,[]⟩:=by
 intro t J;show g.toArray[t]?=L.toArray[t]?;rw[am.getElem?_toArray,am.getElem?_toArray];by_cases i:t<m
 .have j:(g.take m)[t]?=g[t]? :=am.getElem?_take_of_lt i
  grind
 have I:n<t:=by grind[Nat.ble_eq_true_of_le]
 have l:(g.drop (n+1))[t-(n+1)]?=g[t]? :=by rw[am.getElem?_drop];congr 1;omega
 have o:(L.drop (n+1))[t-(n+1)]?=L[t]? :=by rw[am.getElem?_drop];congr 1;omega
 grind
noncomputable def ops18:aK (bP Oper):=(Tryz.f96.body).bind (Km 18)
set_option maxHeartbeats 4000000 in
theorem awP{w:World}{b12 ob P lb lo yb yo j k n ol oc rl rc ln lc yl yc:Nat}{rn yn:Int}(hk:k<ln)(hj:j<ol)(hr:n+1<rl)(hy:n+1<yl)(hn:n<=1000)
 (c0:w.cell? ⟨b12,1,none⟩=some (.slice (some ⟨ob,0,none⟩) ol oc)) (c1:w.cell? ⟨ob,j,none⟩=some (.slice (some ⟨P,0,none⟩) rl rc)) (c2:w.cell? ⟨P,(n+1)*3+1,none⟩=some (.int .i64 rn)) (f2:w.frozen? ⟨P,(n+1)*3+1,none⟩=false)
 (c3:w.cell? ⟨lb,lo+k,none⟩=some (.slice (some ⟨yb,yo,none⟩) yl yc)) (c4:w.cell? ⟨yb,yo+(n+1)*3+1,none⟩=some (.int .i64 yn))
 {a:Act}(l:a.tmps.size=163) (hd:a.defers=[]) (t8:a.tmps[8]?=some (.slice (some ⟨lb,lo,none⟩) ln lc)) (o:a.tmps[12]?=some (.pointer (some ⟨b12,0,none⟩))) (p:a.tmps[13]?=some (.int .i64 n)) (r:a.tmps[14]?=some (.int .i64 k)) (I:a.tmps[15]?=some (.int .i64 j))
 {ops:bP Oper}(i:ops18=some ops) {K:Act->World->Prop}
 (h:∀J,J.tmps.size=163->J.defers=[]->XI (λd=>cK 122 d&&cK d 150) a J->K J (w.setCell ⟨P,(n+1)*3+1,none⟩ (.int .i64 (max rn yn))).drew):(cU 18 ops true).wp Tryz.prog (axG K) a w:=by
 obtain rfl:=aC i;obtain⟨tm,df⟩:=a;simp only at l hd;subst hd;obtain⟨g,rfl⟩:=Ks tm l;have e8:g 8=.slice (some ⟨lb,lo,none⟩) ln lc:=aC t8;have R:g 12=.pointer (some ⟨b12,0,none⟩):=aC o;have T:g 13=.int .i64 n:=aC p;have U:g 14=.int .i64 k:=aC r;have aa:g 15=.int .i64 j:=aC I;clear t8 o p r I l i;generalize g 8=v8,g 12=ab,g 13=ac,g 14=ad,g 15=ae at*;subst e8 R T U aa;have wn:wrap64 ((n:Int)+1)=((n+1:Nat):Int):=by simp only[wrap64];omega
 have mixed:Tryz.prog.follows .mixedOrders=true:=er
 dsimp only
 go_big_region_o
 exact h _ rfl rfl (avY 122 150 rfl rfl)
theorem YM{w l o}{E i j:Nat->Prop}(h:zP w l E i)(k:zP l o i j):zP w o E j:=λb g=>⟨(k b (h b g).1).1,(k b (h b g).1).2.trans (h b g).2⟩
theorem aGx:(Tryz.prog.info? tV).map (λi=>(i.zero,i.size,i.bytes))=some (some (.agg #[.int .i64 0,.int .i64 0,.string ⟨#[]⟩]),3,32):=er
abbrev aeR(W:World):World:=(W.alloc (.cells #[] tV)).drew
theorem aIt(W){B}(hB:B<=W.heap.size):(aeR W).ownsRow B tV 3 (.slice (some ⟨W.heap.size,0,none⟩) 0 0) 0 []:=by refine⟨rfl,.inr ⟨W.heap.size,0, #[],rfl,hB,?_,aN _,bI _,rfl,rfl⟩⟩;exact heap_alloc_new W _
section
variable {A:Nat->Prop}{w:World}{b4 b12:Nat}{te:TypeId}{x6 ov:Value}{rvs:am Value}{T:am (am Val)}{W:World}{E:Nat->Prop}
theorem aEg(hC:CI A w b4 b12 te x6 ov rvs T W E):CI A w b4 b12 te x6 ov rvs T (aeR W) E/\zP W (aeR W) E E:=by
 obtain⟨g,j⟩:=hC.alloc (.cells #[] tV);obtain⟨i,l⟩:=g.same (aj7 _) (aj6 _)
 grind[YM]
theorem CI.cell(hC:CI A w b4 b12 te x6 ov rvs T W E):W.cell? ⟨b12,1,none⟩=some ov:=by rw[bB _ _ _ _ _ _ hC.c12];rfl
theorem aBV(hC:CI A w b4 b12 te x6 ov rvs T W E){y}(hy:y≠ []){o}{v1}(l:o.ownsRow w.heap.size tV 3 v1 y.length (cellsR y))(J:(aeR W).grownBy o (some W.heap.size))(p:(aeR W).drawn<=o.drawn/\WJ (aeR W) (.slice (some ⟨W.heap.size,0,none⟩) 0 0) v1):
 ∃g2 g,v1=.slice (some ⟨g2,0,none⟩) y.length g/\(CI A w b4 b12 te x6 ov rvs T o E/\CI A w b4 b12 te x6 ov rvs T (o.alloc (.cells #[v1] tR)) E)/\zP W (o.alloc (.cells #[v1] tR)) E E/\(o.alloc (.cells #[v1] tR)).ownsRow w.heap.size tV 3 v1 y.length (cellsR y)/\(¬E g2/\g2≠b4/\g2≠b12/\ov.ownBlock≠some g2)/\∀r,T.getLast?=some r->∀i cap,rvs[T.length-1]?=some (.slice (some ⟨i,0,none⟩) r.length cap)->i≠g2:=by
 obtain⟨g2,g,rfl⟩:=Wg l ek;obtain⟨h0,k0⟩:=aEg hC;have old:∀b,b<W.heap.size->b≠g2:=by
  rintro b U rfl;rcases p.2 b rfl with e|e
  .have e:W.heap.size=b:=aC e;omega
  have:(aeR W).heap.size=W.heap.size+1:=eu
  omega
 have j:∀r,T.getLast?=some r->∀i cap,rvs[T.length-1]?=some (.slice (some ⟨i,0,none⟩) r.length cap)->i<W.heap.size:=by intro r hr i cap I;obtain⟨g3,c3,e3,e4,_⟩:=hC.last r hr;obtain⟨rfl,rfl⟩:=Wz (I.symm.trans e3);exact(e4.lt _ rfl).2
 have P:∀b,ov.ownBlock=some b->b<W.heap.size:=λb U=>(hC.own.lt b U).2
 obtain⟨R,k1⟩:=h0.grown J p.1 λb e=>by
  cases e;refine⟨hC.bel.size,λh=>?_,λh=>?_,λh=>?_,λh=>?_,λr hr i cap I h=>?_⟩
  .have:=hC.dlt _ h;omega
  .have:=vI hC.c4;omega
  .have:=vI hC.c12;omega
  .grind
  grind
 obtain⟨h2,k2⟩:=R.alloc (.cells #[.slice (some ⟨g2,0,none⟩) y.length g] tR);refine⟨g2,g,rfl,⟨R,h2⟩,YM (YM k0 k1) k2,l.alloc _,⟨λh=>old _ (hC.dlt _ h) rfl,λh=>old _ (vI hC.c4) h.symm,λh=>old _ (vI hC.c12) h.symm,λh=>old _ (P _ h) rfl⟩,λr hr i cap I=>old _ (j r hr i cap I)⟩
end
theorem aEW{k n:Nat}(h:k<n):n-(intOf (.int .i64 ((k:Int)+1))).toNat<n-(intOf (.int .i64 (k:Int))).toNat:=by grind[intOf]
theorem aEV(k:Nat):((k:Int)+1)=((k+1:Nat):Int):=rfl
noncomputable def ops19:aK (bP Oper):=(Tryz.f96.body).bind (Km 19)
set_option maxHeartbeats 4000000 in
theorem awR{A:Nat->Prop}{w:World}{b4 b12:Nat}{te:TypeId}{x6 ov:Value}{rvs:am Value}{T:am (am Val)}{W:World}{E:Nat->Prop}(hC:CI A w b4 b12 te x6 ov rvs T W E){R:am Col}{l:am (am Val)}{la:aK Addr}{lc:Nat}(hx:RD W E (.sl (zj R)) x6)(h8:RD W E (.sl (zd l)) (.slice la l.length lc))
 {k:Nat}(hk:k<l.length) (a8:l[k].length<=2000) (ae:l[k]≠ []) (hT:T.length<=20000)
 {a:Act}(U:a.tmps.size=163) (hd:a.defers=[]) (t8:a.tmps[8]?=some (.slice la l.length lc)) (ag:a.tmps[12]?=some (.pointer (some ⟨b12,0,none⟩))) (ah:a.tmps[14]?=some (.int .i64 k))
 {ops:bP Oper}(J:ops19=some ops) {K:Act->World->Prop}
 (h:∀a' W' a7 nv E',a'.tmps.size=163->a'.defers=[]->XI (λd=>cK 151 d&&cK d 161) a a'->CI A w b4 b12 te x6 a7 (rvs++[nv]) (T++[l[k]]) W' E'->zP W W' E E'->K a' W'):(cU 19 ops true).wp Tryz.prog (axG K) a W:=by
 obtain rfl:=aC J;obtain⟨tm,df⟩:=a;simp only at U hd;subst hd;obtain⟨g,rfl⟩:=Ks tm U;have e8:g 8=.slice la l.length lc:=aC t8;have ai:g 12=.pointer (some ⟨b12,0,none⟩):=aC ag;have aj:g 14=.int .i64 k:=aC ah;clear t8 ag ah U J;generalize g 8=v8,g 12=bi,g 14=bj at*;subst e8 ai aj;obtain⟨lb,lo,u,ax,al,c3,hu⟩:=aov h8 hk;subst ax;generalize l[k]=y at*;obtain⟨yb,yo,yc,rfl,an,bf,bg,a5⟩:=asM hu ae;have c0:=hC.cell;have r:=aEg hC;have bc:(W.alloc (.cells #[] tV)).cell? ⟨lb,lo+k,none⟩=some (.slice (some ⟨yb,yo,none⟩) y.length yc):=(qH (r.2 lb al).2 _).trans c3;have a9:(W.alloc (.cells #[] tV)).cell? ⟨b12,1,none⟩=some ov:=r.1.cell;have mixed:Tryz.prog.follows .mixedOrders=true:=er
 obtain⟨iv,aw,a1,a2,a3⟩:=info_parts aGx;obtain⟨ir,av,ay,az,a0⟩:=info_parts aEm;have af:∀(j:Nat) (u:Value),(cellsR y)[j]?=some u->(aeR W).cell? ((⟨yb,yo,none⟩:Addr).add j)=some u:=λj u h=>by rw[wZ];exact(qH (r.2 yb an).2 _).trans (a5 j u h)
 have P:=aIt W hC.bel.size
 dsimp only
 go_region_law_o (first
  |(refine kK _ rfl (.tmp 153) (.tmp 157) 66 rfl w.heap.size tV iv (.agg #[.int .i64 0,.int .i64 0,.string ⟨#[]⟩]) 3 32 Tryz.underlying66 aw a1 a2 a3 rfl et _ _ _ rfl P ⟨yb,yo,none⟩ y.length yc (cellsR y) rfl (acC y) af (awF y) (by simp only[maxLen];omega) ej r.1.bel.size ?_;intro v1 w1 o ac ab _;rw[bN,bR]at o;obtain⟨g2,aa,rfl,i,aq,a4,ar,au⟩:=aBV hC ae o ac ab;have ba:=i.1.cell;have bb:=i.2.cell)
  |(refine kK _ rfl (.tmp 152) (.tmp 159) 30 rfl w.heap.size tR ir (.slice none 0 0) 1 24 Tryz.underlying30 av ay az a0 rfl et ov T.length rvs rfl i.2.own ⟨w1.heap.size,0,none⟩ 1 1 [.slice (some ⟨g2,0,none⟩) y.length aa] rfl rfl aiF (by intro u hu;rw[aR.1 hu];rfl) (by simp only[maxLen];omega) ej i.2.bel.size ?_;intro v2 w2 p ad I _;obtain⟨bh,a6,rfl⟩:=Wg p ej;obtain⟨bd,be,ak,ao⟩:=i.2.push rfl a4 ar au p ad I.1 I.2))
 all_goals exact h _ _ _ _ _ rfl rfl (avY 151 161 rfl rfl) ak (YM aq ao)
theorem aiM{w}{ok:Nat->Prop}{l}{v}(h:RD w ok (.sl (zd l)) v):∃a c,v=.slice a l.length c:=by grind[RD,zq]
set_option maxRecDepth 100000 in
set_option maxHeartbeats 4000000 in
theorem aDh(w:World)(A:Nat->Prop)(on:am ByteArray)(R:am Col)(l:am (am Val))(hl:∀y∈l,y.length=on.length+2)(cy:l.length<=20000)(b3:on.length<=1000)
 {F:Fr}(a0:F.w0=w) (bp:F.A=A) (a3:F.M= λ_=>False) {z:Nat->Gh}{s:S}{a:Act}{W:World}(hr:Rel F 163 z s a W) (aq:a.tmps.size=163) (hq:arj on R l .normal s) {c:Code}(hc:Tryz.f96.body=some c):
 (atE 4 c).wp Tryz.prog (bodyPost Tryz.prog Tryz.f96 λe w'=>∃v r,e=.returned v/\r=qQ ⟨R,QO on.length l⟩ 0/\acp ⟨w,A,λ_=>False,λ_=>none⟩ w' r v/\Grows (λ_=>False) w w') a W:=by
 obtain rfl:=aC hc;simp only[atE];obtain⟨tm,df⟩:=a;have cj:df=[]:=hr.defers;subst cj;simp only at aq;obtain⟨f,rfl⟩:=Ks tm aq;clear aq;obtain⟨t,ht,h2⟩:=hq;rw[We]at h2;obtain⟨ι2,b5⟩:=ht F 163 z _ W hr;have p:=b5.norm [1,4,6,8];rw[h2]at p;clear hr b5 ht h2;obtain⟨y1,e1,d1⟩:=p.slots 1 _ rfl;obtain⟨y4,e4,d4⟩:=p.slots 4 _ rfl;obtain⟨y6,e6,d6⟩:=p.slots 6 _ rfl;obtain⟨y8,e8,d8⟩:=p.slots 8 _ rfl;have p4:=p.places 4 _ rfl;have m4:=p.mine;have hg:=p.grows;have ao:=p.glb;cases e1;cases e4;cases e6;cases e8;simp only[VR,WR,CR,PR]at d1 d4 d6 d8 p4;obtain⟨b4,q4,bg⟩:=d4;obtain⟨cv,bj,b8,⟨te,ad⟩,an⟩:=p4;rw[q4]at b8;cases b8;have bg:f 4=.pointer (some ⟨b4,0,none⟩):=bg;have g1:RD W (F.ok ι2 (agm on R l).pl W) (.sl (zo on)) (f 1):=d1;have g6:RD W (F.ok ι2 (agm on R l).pl W) (.sl (zj R)) (f 6):=d6;have g8:RD W (F.ok ι2 (agm on R l).pl W) (.sl (zd l)) (f 8):=d8;clear d1 d6 d8;have bu:bj= #[.slice none 0 0,.slice none 0 0]:=by
  obtain⟨cl⟩:=bj
  match cl,an with
  |[a,b],an=>
    have h1:a=.slice none 0 0:=an.1;have h2:b=.slice none 0 0:=an.2.1;rw[h1,h2]
 subst bu;clear an;have ab:Owns ι2 (agm on R l).pl b4:=⟨4,_,rfl,rfl,q4⟩;obtain⟨E,hE⟩:∃E,F.ok ι2 (agm on R l).pl W=E:=⟨_,rfl⟩;have ac:∀b,E b->b<W.heap.size:=λb I=>by rw[<-hE]at I;exact I.2.1
 have bo:∀b,E b->A b\/w.heap.size<=b:=λb I=>by
  rw[<-hE]at I;rcases I.1 with h|h|h
  .rw[bp]at h;exact .inl h
  .rw[a3]at h;exact h.elim
  rw[a0]at h;exact .inr h
 have bn:¬E b4:=λI=>by rw[<-hE]at I;exact I.2.2 ab
 have bs:w.heap.size<=b4:=by
  rcases(m4 b4 ab).1 with h|h
  .rw[a3]at h;exact h.elim
  rw[a0]at h;exact h
 rw[hE]at g1 g6 g8 ao;rw[a0,a3]at hg;clear m4 p hE ab q4 a0 bp a3;generalize f 4=v4 at*;subst bg;generalize f 1=v1,f 6=v6,f 8=v8 at*;have bl:=g1;simp only[RD]at bl;obtain⟨oa,n1,oc,rfl,b0,_⟩:=bl;rw[zA]at b0;subst b0;obtain⟨la,lc,rfl⟩:=aiM g8;obtain⟨P,cn,U,rfl⟩:=ab5 g6;clear hc;have aj:Below w.heap.size w W/\w.drawn<=W.drawn:=⟨⟨hg.os,hg.tape,hg.output.1,hg.size,λk hk=>hg.block k hk λh=>h⟩,hg.output.2⟩;obtain⟨W0,af⟩:∃W0,W.alloc (.cells #[.slice P cn U,.slice none 0 0] tT)=W0:=⟨_,rfl⟩;obtain⟨b12,al⟩:∃b12,W.heap.size=b12:=⟨_,rfl⟩;have a4:zP W W0 E E:=λb I=>⟨I,by rw[<-af];exact heap_alloc_old W _ (ac b I)⟩
 have a8:CI A w b4 b12 te (.slice P cn U) (.slice none 0 0) [] [] W0 E:=by
  have bz:W.grownBy W0 none:=by rw[<-af];exact c8 W _ none
  refine⟨λb I=>aZ (ac b I) bz.size,bo,λk hk=>?_,aj.1.grown bz aj.1.size (λk e=>by cases e),(by rw[<-af];exact aj.2),?_,?_,⟨bs,bn⟩,⟨(by rw[<-al];exact aj.1.size),(λh=>by have:=ac _ h;omega),(λe=>by have:=vI ad;omega)⟩,World.ownsRow_nil _ _ _ _,(λb I=>by cases I),(λj r hj=>by simp at hj),(λr hr=>by cases hr)⟩
  .obtain⟨h1,m,h2⟩:=ao k hk;exact⟨h1,m,(qH (a4 k h1).2 0).trans h2⟩
  .rw[<-af,heap_alloc_old W _ (vI ad)];exact ad
  rw[<-af,<-al];exact heap_alloc_new W _
 subst al;subst af
 go_wp2
 refine wp_loop (λa wr=>∃(k:Nat) (E':Nat->Prop) (ov:Value) (rvs:am Value) (v8:Value),(k<=l.length/\a.tmps.size=163/\a.defers=[])/\(a.tmps[4]?=some (.pointer (some ⟨b4,0,none⟩))/\a.tmps[8]?=some v8/\a.tmps[12]?=some (.pointer (some ⟨W.heap.size,0,none⟩))/\a.tmps[13]?=some (.int .i64 on.length)/\a.tmps[14]?=some (.int .i64 k))/\CI A w b4 W.heap.size te (.slice P cn U) ov rvs (QO on.length (l.take k)) wr E'/\RD wr E' (.sl (zd l)) v8/\RD wr E' (.sl (zj R)) (.slice P cn U)) (λa _=>l.length-(intOf (a.tmps.getD 14 undef)).toNat) ?_ ?_
 .exact⟨0,E,_,_,_,⟨bI _,rfl,rfl⟩,⟨rfl,rfl,rfl,rfl,rfl⟩,a8,bH a4 _ _ g8,bH a4 _ _ g6⟩
 clear g1 g6 g8 a8 a4 hg ad ac bo bn bs ao;rintro⟨tm,df⟩ wr ⟨k,E',ov,rvs,v8,⟨hk,aq,rfl⟩,⟨s4,s8,aw,ax,ay⟩,hC,hL,ae⟩;obtain⟨f,rfl⟩:=Ks tm aq;have e4:f 4=.pointer (some ⟨b4,0,none⟩):=aC s4;have e8:f 8=v8:=aC s8;have ag:f 12=.pointer (some ⟨W.heap.size,0,none⟩):=aC aw;have ah:f 13=.int .i64 on.length:=aC ax;have ai:f 14=.int .i64 k:=aC ay;clear s4 s8 aw ax ay;obtain⟨la,lc,rfl⟩:=aiM hL;generalize f 4=v4,f 12=b9,f 13=cb,f 14=cd at*;subst e4 ag ah ai;rw[e8];clear e8;by_cases J:k<l.length
 .have k1:wr.cell? ⟨W.heap.size,1,none⟩=some ov:=by rw[bB _ _ _ _ _ _ hC.c12];rfl
  obtain⟨va,vc,rfl⟩:=aiM hC.data;have au:=hl l[k] (aE J);have bq:∀r∈QO on.length (l.take k),r.length=on.length+2:=aAw λr hr=>hl r (aQ hr)
  have b2:=ax0 on.length J;have bt:=auz on.length (l.take k);rw[bU,cT hk]at bt;generalize QO on.length (l.take k)=T at*;have hw:wrap64 ((T.length:Int)-1)=(T.length:Int)-1:=by simp only[wrap64];omega
  go_wp2
  refine azh hC ae hL J b3 bq au rfl rfl rfl rfl rfl rfl (by simp[hw]) er er ?_;rintro⟨cr,cw⟩ w2 ba bv hS a7 aa a5;simp only at ba bv;subst bv;obtain⟨g,rfl⟩:=Ks cr ba;have e4:g 4=.pointer (some ⟨b4,0,none⟩):=aC (hS 4 rfl);have e8:g 8=.slice la l.length lc:=aC (hS 8 rfl);have ag:g 12=.pointer (some ⟨W.heap.size,0,none⟩):=aC (hS 12 rfl);have ah:g 13=.int .i64 on.length:=aC (hS 13 rfl);have ai:g 14=.int .i64 k:=aC (hS 14 rfl);have cf:g 15=.int .i64 ((T.length:Int)-1):=aC (hS 15 rfl);have bk:g 121=.bool (coB on.length T l[k]):=aC a7;clear hS a7;generalize g 4=v4,g 8=v8,g 12=b9,g 13=cb at*;generalize g 14=cd,g 15=c7,g 121=cu at*;subst e4 e8 ag ah ai cf bk;simp only[Exit.then]
  go_step
  refine wp_mono (Q:=axG λa' w'=>(a'.tmps.size=163/\a'.defers=[])/\(a'.tmps[4]?=some (.pointer (some ⟨b4,0,none⟩))/\a'.tmps[8]?=some (.slice la l.length lc)/\a'.tmps[12]?=some (.pointer (some ⟨W.heap.size,0,none⟩))/\a'.tmps[13]?=some (.int .i64 on.length)/\a'.tmps[14]?=some (.int .i64 k))/\
   ∃E3 bi av,CI A w b4 W.heap.size te (.slice P cn U) bi av (Qi on.length T l[k]) w' E3/\RD w' E3 (.sl (zd l)) (.slice la l.length lc)/\RD w' E3 (.sl (zj R)) (.slice P cn U)) ?_ ?_
  .have a6:=bH a5 _ _ hL;have be:=bH a5 _ _ ae;clear hL ae a5 hC;cases I:coB on.length T l[k]with
   |true=>
    obtain⟨r,hr,bh⟩:=aii I;obtain⟨j,hj⟩:∃j,T.length=j+1:=⟨T.length-1,by have:=(asi hr r).2;omega⟩;have cz:r.length=on.length+2:=bq r (cH hr);obtain⟨gb,bm,q1,q2,_⟩:=aa.last r hr;have b7:=aa.write hr q1 (i:=on.length+1) ej (yL true (at0 r (on.length+1)).n (at0 l[k] (on.length+1)).n);rw[<-bh]at b7;obtain⟨c2,f2,az,bd⟩:=b7;obtain⟨ob,ct,cp⟩:=Wg aa.own ej;cases cp;have c0:=aa.cell;have c1:w2.cell? ⟨ob,j,none⟩=some (.slice (some ⟨gb,0,none⟩) r.length bm):=by have:=aa.own.cellAt j ej;rw[this,show j=T.length-1 by omega];exact q1
    obtain⟨lb,lo,u,cm,_,c3,hu⟩:=aov a6 J;cases cm;obtain⟨yb,yo,yc,rfl,_,_,_,cq⟩:=asM hu (by intro h;rw[h]at au;simp at au);have c4:=cq _ _ (anL (x:=l[k]) (i:=on.length+1) ej).2.1;rw[show l[k][on.length+1]=at0 l[k] (on.length+1)by simp[at0,List.getD,am.getElem?_eq_getElem (show on.length+1<l[k].length by omega)],<-Nat.add_assoc]at c4;rw[ab1]at az bd
    go_wp2
    refine awP J (show j<T.length by omega) ej ej b3 c0 c1 c2 f2 c3 c4 rfl rfl rfl rfl rfl rfl rfl rfl λa' ar bf o=>?_
    obtain⟨bc,ak⟩:=az.same (aj7 _) (aj6 _);exact⟨⟨ar,bf⟩,⟨o 4 rfl,o 8 rfl,o 12 rfl,o 13 rfl,o 14 rfl⟩,_,_,_,bc,bH (YM bd ak) _ _ a6,bH (YM bd ak) _ _ be⟩
   |false=>
    have bh:=asJ on.length T l[k] I;rw[bh]
    go_wp2
    refine awR aa be a6 J ej (by intro h;rw[h]at au;simp at au) ej rfl rfl rfl rfl rfl rfl λa' w' c6 nv E' ar bf o bc ak=>?_
    exact⟨⟨ar,bf⟩,⟨o 4 rfl,o 8 rfl,o 12 rfl,o 13 rfl,o 14 rfl⟩,_,_,_,bc,bH ak _ _ a6,bH ak _ _ be⟩
  clear hL ae a5 hC aa;intro e a' w' hq;cases e with
  |normal=>
   obtain⟨cs,cx⟩:=a';obtain⟨⟨bb,bw⟩,⟨s4,s8,aw,ax,ay⟩,E3,bi,av,az,cg,ch⟩:=hq;simp only at bb bw;subst bw;obtain⟨g3,rfl⟩:=Ks cs bb;have e4:g3 4=.pointer (some ⟨b4,0,none⟩):=aC s4;have e8:g3 8=.slice la l.length lc:=aC s8;have ag:g3 12=.pointer (some ⟨W.heap.size,0,none⟩):=aC aw;have ah:g3 13=.int .i64 on.length:=aC ax;have ai:g3 14=.int .i64 k:=aC ay;clear s4 s8 aw ax ay;generalize g3 4=v4,g3 8=v8,g3 12=b9,g3 13=cb,g3 14=cd at*;subst e4 e8 ag ah ai;simp only[Exit.then,Exit.inBlock]
   go_step
   have c5:wrap64 ((k:Int)+1)=((k+1:Nat):Int):=by simp only[wrap64];omega
   go_wp2
   refine⟨⟨k+1,J,E3,bi,av,_,⟨rfl,aEV k⟩,?_,cg,ch⟩,aEW J⟩;rw[b2];exact az
  |_=>exact hq.elim
 have ck:k=l.length:=ej
 subst ck;rw[bJ]at hC;have k0:wr.cell? ⟨W.heap.size,0,none⟩=some (.slice P cn U):=by rw[bB _ _ _ _ _ _ hC.c12];rfl
 have k1:wr.cell? ⟨W.heap.size,1,none⟩=some ov:=by rw[bB _ _ _ _ _ _ hC.c12];rfl
 have k2:wr.cell? ⟨b4,0,none⟩=some (.slice none 0 0):=by rw[bB _ _ _ _ _ _ hC.c4];rfl
 have k3:wr.cell? ⟨b4,1,none⟩=some (.slice none 0 0):=by rw[bB _ _ _ _ _ _ hC.c4];rfl
 have k4:wr.frozen? ⟨b4,0,none⟩=false:=by simp[de,hC.c4]
 have k5:wr.frozen? ⟨b4,1,none⟩=false:=by simp[de,hC.c4]
 obtain⟨va,vn,vc,rfl⟩:=ab5 hC.data
 go_wp2
 have s2:=kI (j:=1) (kI (j:=0) hC.c4 (.slice P cn U)) (.slice va vn vc);have sg:wr.grownBy ((wr.setCell ⟨b4,0,none⟩ (.slice P cn U)).setCell ⟨b4,1,none⟩ (.slice va vn vc)) (some b4):=by have a1:=JF wr b4 0 (.slice P cn U);have a2:=JF (wr.setCell ⟨b4,0,none⟩ (.slice P cn U)) b4 1 (.slice va vn vc);exact⟨a2.os.trans a1.os,a2.tape.trans a1.tape,a2.output.trans a1.output,aL a1.size a2.size,λk hk b1=>(a2.block k (aZ hk a1.size) b1).trans (a1.block k hk b1)⟩
 have k6:((wr.setCell ⟨b4,0,none⟩ (.slice P cn U)).setCell ⟨b4,1,none⟩ (.slice va vn vc)).cell? ⟨b4,0,none⟩=some (.slice P cn U):=by rw[bB _ _ _ _ _ _ s2];rfl
 have k7:((wr.setCell ⟨b4,0,none⟩ (.slice P cn U)).setCell ⟨b4,1,none⟩ (.slice va vn vc)).cell? ⟨b4,1,none⟩=some (.slice va vn vc):=by rw[bB _ _ _ _ _ _ s2];rfl
 have a9:=hC.fin ae sg (aN _);refine bodyPost_ret (v:=.tuple #[.agg #[.slice P cn U,.slice va vn vc],.int .i64 0]) ?_ rfl ⟨_,rfl,a9⟩;have b6:Tryz.f96.results= #[.cell 4 32,.tmp 5]:=rfl;clear a9 sg hC hL ae aj;simp[results,b6,go_sem,k6,k7]
end
section
attribute [local irreducible] Sat zH z6 zl
theorem XV(d)(t:Tbl)(st:Stp)(g)(R)(p:(st.op==4)=false)(J:(st.op==7)=false)(P:(st.op==8)=false)(T:(st.op==9)=false)(I:(st.op==6)=false)(hl:R.length<=20000)(U:ex Xp [t.w,.agg st.cs] (rC (.d (.sl (zd R))))):
 ex uO [.c (.d (.sl (zL d))),t.w,.agg st.cs,.c (.d (.sl (zj g)))] (qQ ⟨g,R⟩ 0):=by
 have hf:=qM d st.table;obtain⟨tc,tr⟩:=t;obtain⟨op,⟨eo,nm,⟨vk,vn,vs⟩,ks⟩,j,aa,l,o,sn,tb⟩:=st;simp only at*;unfold cR wE at*;have i:decide (((zd R).length:Int)>20000)=false:=aM (by grind[zq]);generalize zC tb d=f at*;cases f with
 |none=>
  refine wX.s T9 ?_;refine aF hf ?_;rw[p];(conv=>whnf);rw[J];(conv=>whnf);rw[P];(conv=>whnf);rw[T];(conv=>whnf);rw[I];refine aF U ?_;rw[i];exact rfl
 |some ft=>
  obtain⟨fc,fr⟩:=ft;refine wX.s T9 ?_;refine aF hf ?_;rw[p];(conv=>whnf);rw[J];(conv=>whnf);rw[P];(conv=>whnf);rw[T];(conv=>whnf);rw[I];refine aF U ?_;rw[i];exact rfl
theorem ai0(d)(t:Tbl)(st:Stp)(g)(i:st.op=4)(R)(e)(p:ex abJ [t.w,.c (.d (.sl (yU st.sorts)))] (qQ R e)):
 ex uO [.c (.d (.sl (zL d))),t.w,.agg st.cs,.c (.d (.sl (zj g)))] (qQ R e):=by
 have I:=qM d st.table;obtain⟨tc,tr⟩:=t;obtain⟨rc,rr⟩:=R;obtain⟨op,⟨U,nm,⟨vk,vn,vs⟩,ks⟩,j,P,l,o,sn,T⟩:=st;simp only at*;subst i;unfold cR wE at*;generalize zC T d=f at*;cases f with
 |none=>
  refine wX.s T9 ?_;refine aF I ?_;refine aF p ?_;rfl
 |some J=>
  obtain⟨fc,fr⟩:=J;refine wX.s T9 ?_;refine aF I ?_;refine aF p ?_;rfl
theorem afS(d)(t:Tbl)(st:Stp)(g)(i:st.op=9)(R)(e)(p:ex kk [t.w,.c (.d (.sl (zo st.cols)))] (qQ R e)):
 ex uO [.c (.d (.sl (zL d))),t.w,.agg st.cs,.c (.d (.sl (zj g)))] (qQ R e):=by
 have I:=qM d st.table;obtain⟨tc,tr⟩:=t;obtain⟨rc,rr⟩:=R;obtain⟨op,⟨U,nm,⟨vk,vn,vs⟩,ks⟩,j,P,l,o,sn,T⟩:=st;simp only at*;subst i;unfold cR wE at*;generalize zC T d=f at*;cases f with
 |none=>
  refine wX.s T9 ?_;refine aF I ?_;refine aF p ?_;rfl
 |some J=>
  obtain⟨fc,fr⟩:=J;refine wX.s T9 ?_;refine aF I ?_;refine aF p ?_;rfl
theorem ahe(d)(t:Tbl)(st:Stp)(g)(i:st.op=7)(b)(J:zC st.table d=some b)(R)(e)(I:ex gS [t.w,b.w,.c (.d (.sl (zo st.cols)))] (qQ R e)):
 ex uO [.c (.d (.sl (zL d))),t.w,.agg st.cs,.c (.d (.sl (zj g)))] (qQ R e):=by have p:=qM d st.table;rw[J]at p;obtain⟨tc,tr⟩:=t;obtain⟨bc,br⟩:=b;obtain⟨rc,rr⟩:=R;obtain⟨op,⟨T,nm,⟨vk,vn,vs⟩,U⟩,j,P,l,o,sn,tb⟩:=st;simp only at*;subst i;unfold cR wE at*;refine wX.s T9 ?_;refine aF p ?_;refine aF I ?_;rfl
theorem ahd(d)(t:Tbl)(st:Stp)(g)(i:st.op=8)(b)(J:zC st.table d=some b)(R)(e)(I:ex gR [t.w,b.w,.c (.d (.sl (zo st.cols)))] (qQ R e)):
 ex uO [.c (.d (.sl (zL d))),t.w,.agg st.cs,.c (.d (.sl (zj g)))] (qQ R e):=by have p:=qM d st.table;rw[J]at p;obtain⟨tc,tr⟩:=t;obtain⟨bc,br⟩:=b;obtain⟨rc,rr⟩:=R;obtain⟨op,⟨T,nm,⟨vk,vn,vs⟩,U⟩,j,P,l,o,sn,tb⟩:=st;simp only at*;subst i;unfold cR wE at*;refine wX.s T9 ?_;refine aF p ?_;refine aF I ?_;rfl
theorem am0(d)(t:Tbl)(st:Stp)(g)(j:st.op=6)(b)(P:zC st.table d=some b)(R)(hl:R.length<=20000)(J:ex abP [t.w,b.w,.c (.d (.sl (zo st.cols)))] (rC (.d (.sl (zd R))))):
 ex uO [.c (.d (.sl (zL d))),t.w,.agg st.cs,.c (.d (.sl (zj g)))] (qQ ⟨g,R⟩ 0):=by have I:=qM d st.table;rw[P]at I;obtain⟨tc,tr⟩:=t;obtain⟨bc,br⟩:=b;have i:decide (((zd R).length:Int)>20000)=false:=aM (by grind[zq]);obtain⟨op,⟨U,nm,⟨vk,vn,vs⟩,ks⟩,l,T,o,p,sn,tb⟩:=st;simp only at*;subst j;unfold cR wE at*;refine wX.s T9 ?_;refine aF I ?_;refine aF J ?_;rw[i];exact rfl
theorem ajM{x y:Int}(h:(bif x !=0 then x else y)=0):x=0/\y=0:=ek
theorem aqK:∀{l:am Agg}{g:am ByteArray},qd g l=0->∀a∈l,Qk a=false
 |x::r,g,h,a,j=>by
  simp only[qd]at h;obtain⟨i,h⟩:=ajM h;obtain⟨_,h⟩:=ajM h;rcases aV.1 j with rfl|j
  .unfold Ql at i;cases o:Qk a
   .rfl
   rw[o]at i;cases i
  exact aqK h a j
theorem aqL{cols}:∀{l:am Agg},(yk cols l).1=0->∀a∈l,(jJ cols a).1=0
 |x::r,h,a,i=>by
  simp only[yk]at h;cases g:((jJ cols x).1 !=0)
  .rw[g]at h;rcases aV.1 i with rfl|i
   .simpa using g
   exact aqL h a i
  rw[g]at h;have h:(jJ cols x).1=0:=h;rw[h]at g;cases g
theorem aEB{d:am Nmd}{cols}{st:Stp}(J:st.op=3)(o:st.err=0)(h:(yk cols st.aggs).1=0):aBh cols st.aggs:=by
 have i:Xi st.cols st.aggs=0:=by unfold Stp.err at o;have o:=(zY ej o).2<;>simp_all
 have l:∃g,qd g st.aggs=0:=by
  unfold Xi at i;obtain⟨_,i⟩:=zY ej i;obtain⟨_,i⟩:=zY ej i
  grind
 obtain⟨g,l⟩:=l;intro a r;have p:=aqK l a r;have j:=aqL h a r;unfold Qk at p;unfold jJ at j;have hs:vj=Ve:=rfl;rw[hs]at j⊢;cases I:zl a.fn Ve with
 |true=>
  grind
 |false=>
  rw[I]at p j
  right
  have hk:=xJ cols a.col<;>grind
theorem aCp{st:Stp}(i:st.op=1)(l:st.err=0):st.items=[]:=by
 have j:=arw l;unfold Stp.uses X6 at j;rw[i]at j;have h0:(decide ((1:Int)<1)||decide ((1:Int)>9))=false:=et
 rw[h0,aA]at j;cases g:((!jL [1] 1&&!st.cond.zero)||((!jL [2] 1&&decide ((st.items.length:Int)>0))||((!jL [3] 1&&decide ((st.aggs.length:Int)>0))||((!jL [4] 1&&decide ((st.sorts.length:Int)>0))||(!jL [5] 1&&st.n !=0)))))
 .rw[aX]at g;have g:=g.2;rw[aX]at g;have g:=g.1;have e:(!jL [2] 1)=true:=et
  simp_all
 grind
theorem tmR{st:Stp}(h:st.R)(op){g}(j:g.size<=300):(qb op st.cols g).R:=by
 refine⟨?_,λs hs=>by cases hs⟩;have l:=h.all.2.2.1;have h0:=h.few;unfold Stp.few at h0⊢;have hs:xE Vx st.cols=true:=eu
 have i:(Ex.mk 0 ⟨#[]⟩ ⟨0,0,⟨#[]⟩⟩ []).small=true:=by decide+kernel
 have e1:(qb op st.cols g).cond.small=true:=i;rw[e1];show(bif ((((!true||decide (((([]:am Itm).length:Nat):Int)>30))||decide ((st.cols.length:Int)>30))||decide (((([]:am Agg).length:Nat):Int)>30))||decide (((([]:am Srt).length:Nat):Int)>30))||decide ((g.size:Int)>300)then false else bif !xE Vf []then false else bif !xE Vx st.cols then false else xE UN [])=true;rw[hs,aM (show¬((st.cols.length:Int)>30)by omega),aM (show¬((g.size:Int)>300)by omega)];rfl
def aEb:=∀(t:Tbl) (on:am ByteArray) (R:am Col),tblErr t=0->(qb 9 on ⟨#[]⟩).R->yu [] t.cols (qb 9 on ⟨#[]⟩)=(0,R)->
 ex kk [t.w,.c (.d (.sl (zo on)))] (qQ ⟨R,jY (zf t.cols on) (ze t.cols sFrom) (ze t.cols sTo) t.rows⟩ 0)
theorem akr{cols}(h:intErr cols [sFrom,sTo]=0):colInt cols sFrom=0/\colInt cols sTo=0:=by unfold intErr at h;obtain⟨g,h⟩:=ajM h;unfold intErr at h;exact⟨g,(ajM h).1⟩
theorem akq{cols}(h:intErr cols [sFrom]=0):colInt cols sFrom=0:=by unfold intErr at h;exact(ajM h).1
theorem ap1(ab:aEb)(d)(t)(st)(hk:st.R)(h1:yt d=0)(o:tblErr t=0)(J:(yu d t.cols st).1=0)(hr:t.rows.length<20000)(T:st.op=6\/st.op=7->t.rows.length*(qW d st).rows.length<=20000):
 ex uO [.c (.d (.sl (zL d))),t.w,.agg st.cs,.c (.d (.sl (zj (yu d t.cols st).2)))] (qQ ⟨(yu d t.cols st).2,stR d t st⟩ 0):=by
 have U:=WC J;have g:=abu U;have g:st.op=1\/st.op=2\/st.op=3\/st.op=4\/st.op=5\/st.op=6\/st.op=7\/st.op=8\/st.op=9:=ej
 have hw:=wJ o;have hf:=qa o;have hz:=((Vy t).1 o).2.2;obtain⟨q1,q2,q3,q4,q5,q6,q7,q8,q9⟩:=hk.all;rcases g with g|g|g|g|g|g|g|g|g
 .have e:stR d t st=whereR t.cols t.rows st.cond:=by grind[stR]
  rw[e];exact XV d t st _ _ ek ek ek ek ek (aL (adz _ _ _) ej) (ajh t st g (aCp g U) q1 ej)
 .have e:stR d t st=selR t.cols t.rows st.items:=by grind[stR]
  rw[e];exact XV d t st _ _ ek ek ek ek ek (by grind[selR]) (aji t st g (λx hx=>(q7 x hx).1) ej ej)
 .have e:stR d t st=(vh (zf t.cols st.cols) t.rows).map (qI t.cols st.aggs):=by grind[stR]
  rw[e];have aa:=aqs g J;have hG:=gG (zf t.cols st.cols) t.rows
  exact XV d t st _ _ ek ek ek ek ek (by rw[cc];have:=hG.few;omega)
   (ajj t st g _ (ajf t st ej ej ej o (agT aa.1) (aEB (d:=d) g U aa.2.1)))
 .have e:stR d t st=yE (xN (yX t.cols st.sorts) st.sorts) t.rows:=by grind[stR]
  obtain⟨P,ac⟩:=aqt g J;rw[e,ac];have hS:=ai8 t st.sorts o ej;simp_all[asO,ai0]
 .have e:stR d t st=t.rows.take (yL false st.n t.rows.length).toNat:=by grind[stR]
  rw[e];exact XV d t st _ _ ek ek ek ek ek ek (ajk t st g (aEj U g))
 .have hj:=jz (.inl g) J;have l:=J;rw[hj]at l;obtain⟨b,P,p⟩:=Z0 l;have e:stR d t st=vw (zf t.cols st.cols) (zf b.cols st.cols) (oth st.cols 0 b.cols) t.rows b.rows:=by grind[stR,qW]
  have hm:=T (.inl g);rw[show qW d st=b by grind[qW]]at hm;rw[e];have I:=Yy h1 P;have fb:=qa I;have i:=Q4 p.jn;have hJ:=ajg t b st.cols ej o I hm i.1 i.2;rw[aCr hz ((Vy b).1 I).2.2 p.jn]at hJ
  grind[am0,UY]
 .have hj:=jz (.inr (.inl g)) J;have l:=J;rw[hj]at l;obtain⟨b,P,p⟩:=Z0 l;have I:=Yy h1 P;have hm:=T (.inr g);have e:stR d t st=vm (ze t.cols sFrom) (ze t.cols sTo) (ze b.cols sFrom) (ze b.cols sTo) (zf t.cols st.cols) (zf b.cols st.cols) (oth (st.cols++[sFrom,sTo]) 0 b.cols) t.rows b.rows:=by grind[stR,qW]
  rw[show qW d st=b by grind[qW]]at hm;have j:=agU (.inl g) o I U P;rw[g]at j p;unfold XF at j;rw[o,I]at j;have j:yu [⟨uB,b⟩] t.cols (qb 7 st.cols uB)=yu d t.cols st:=j;have i1:=akr p.i1;have i2:=akr p.i2;have i:=Q4 p.jn;have hO:=ahk t b st.cols _ o I (tmR hk 7 et) (j.trans (Prod.ext J rfl)) hm i.1 i.2 (vL i1.1) (vL i1.2) (vL i2.1) (vL i2.2);rw[aGR hz ((Vy b).1 I).2.2 p.jn i1.1 i1.2 i2.1 i2.2,<-e]at hO;simp_all[ahe]
 .have hj:=jz (.inr (.inr g)) J;have l:=J;rw[hj]at l;obtain⟨b,P,p⟩:=Z0 l;have I:=Yy h1 P;have e:stR d t st=t.rows.map (vA (ze t.cols sFrom) (ze b.cols sFrom) (zf t.cols st.cols) (zf b.cols st.cols) (oth (st.cols++[sFrom]) 0 b.cols) b.rows):=by grind[stR,qW]
  have j:=agU (.inr g) o I U P;rw[g]at j p;unfold XF at j;rw[o,I]at j;have j:yu [⟨uB,b⟩] t.cols (qb 8 st.cols uB)=yu d t.cols st:=j;have i1:=akq p.i1;have i2:=akq p.i2;have i:=Q4 p.jn;have hO:=ahj t b st.cols _ o I (tmR hk 8 et) (j.trans (Prod.ext J rfl)) i.1 i.2 (vL i1) (vL i2);rw[aGN hz ((Vy b).1 I).2.2 p.jn,<-e]at hO;simp_all[ahd]
 have e:stR d t st=jY (zf t.cols st.cols) (ze t.cols sFrom) (ze t.cols sTo) t.rows:=by grind[stR]
 have j:=av7 (d:=d) g o U;unfold JG at j;rw[o]at j;have j:yu [] t.cols (qb 9 st.cols ⟨#[]⟩)=yu d t.cols st:=j;have hO:=ab t st.cols _ o (tmR hk 9 et) (j.trans (Prod.ext J rfl));simp_all[afS]
end
section
open Go Go.AM Go.Proofs Go.RowKit
theorem awg{z:Nat->Gh}{w}{ok:Nat->Prop}:∀{ws:am W}{vs:am Value},qN z w ok ws vs->vs.length=ws.length
 |[],[],_=>rfl
 |_::ws,_::vs,h=>by simp[awg (ws:=ws) (vs:=vs) h.2]
theorem aHq:aEb:=by
 intro t on R j J r;have T:=ael on t j J;rw[r]at T;have i:yu [] t.cols (qb 9 on ⟨#[]⟩)=coT t.cols on:=alF (d:=[]) (st:=qb 9 on ⟨#[]⟩) rfl (by rw[r]);rw[r]at i;have g:=aj2 (cols:=t.cols) (on:=on) ek;rw[<-i]at g;have i2:=vL g.i1;have i3:=vL g.i2;have wa:=wJ j;have fa:=qa j;have ad:on.length<=30:=J.all.2.2.1;have hz:=((Vy t).1 j).2.2;rw[<-aGj hz g.tk g.i1 g.i2];have hl:∀y∈jE t.cols on t.rows,y.length=on.length+2:=λy hy=>by grind[aoq,aon]
 have ab:=aoo t.cols on t.rows;have U:=aDg t on R T ej ej wa (agT g.tk) i2 i3;refine⟨er,λw A aa hA P=>?_⟩;have ae:=awg P;refine ay8 (fn:=Tryz.f96) T9 4 rfl rfl vT.ok rfl eu hA P (QE:=arj on R (jE t.cols on t.rows)) ?_ ?_ ?_
 .grind[aGi,xY]
 .intro F l o p z s a w' hr I hq;exact aDh w A on R _ hl ej ej l o p hr I hq rfl
 intro e s ac h;cases e with
 |normal=>grind
 |_=>exact h
end
section
attribute [local irreducible] Sat zH z6
theorem awb{d}{cols}{st}(J:cols.length<=1000):(yu d cols st).2.length<=1000:=by
 by_cases h:(yu d cols st).1=0
 .have i:=WC h;have g:=abu i;have g:st.op=1\/st.op=2\/st.op=3\/st.op=4\/st.op=5\/(st.op=6\/st.op=7\/st.op=8)\/st.op=9:=ej
  rcases g with g|g|g|g|g|g|g
  .grind[aEw]
  .obtain⟨P,I⟩:=azC i g;rw[aEs g h];have:∀l:am Itm,(qw cols l).2.length<=l.length:=by
    intro l;induction l with
    |nil=>exact aN _
    |cons x r R=>
     simp only[qw];cases((x.e.ty cols).2 !=0)
     .cases((x.e.ty cols).1==0)
      .cases((qw cols r).1 !=0)<;>simp_all
      simp_all
     simp_all
   grind
  .obtain⟨g1,g2,g3⟩:=aqs g h;obtain⟨m1,T,_,_⟩:=azD i g<;>grind[takeC,ah1]
  .simp_all[aqt]
  .grind[aEt]
  .have p:=jz g h;rw[p]at h⊢;obtain⟨b,_,j⟩:=Z0 h;rw[j.eq];have:=j.few;omega
  have o:=alF g h;rw[o]at h⊢;have j:=aj2 h;obtain⟨m1,_⟩:=azE i g;rw[j.eq,aB]
  grind[takeC]
 rw[awc h];simp_all
theorem ab4{q:Qry}(h:q.err=0):q.steps.length<=16:=by
 unfold cE at h;rw[XJ ej,XJ ej]at h
 grind
theorem ank(d)(j)(l)(hs:∀s∈l,s.Sm)(R:yt d=0)(T:cE ⟨j,l⟩=0)(tc)(tr)(hf:zC j d=some ⟨tc,tr⟩)(y)(hy:uQ d tc l=y):ex XQ [.c (.d (.sl (zL d))),bY ⟨j,l⟩] (x8 y):=by
 have hc:=ju d;have hq:=afR ⟨j,l⟩ (λs h=>aL (hs s h).sorts ej);have J:=w8 d j;have hT:=λcols (hl:cols.length<=1000) i (hi:i<l.length)=>Ko d cols l[i] (hs _ (aE hi)).ok ej (λb hb=>by grind[Kv])
 have ae:l.length<=16:=ab4 T;have hX:tc.length<=32:=Kv R hf;have o:=w7 tc ej;rw[R]at hc;rw[T]at hq;rw[hf]at J;clear hf R T;refine zJ ?_;refine ZX.s T8 ?_;refine aF hc ?_;refine aF hq ?_;refine aF J ?_;refine aF o ?_;refine yD (P:=Pg) (f:=T8.f) (body:=(ZX.l 0)) (λz:Nat×am Col=>⟨[(0,.w (.c (.d (.sl (zL d))))),(10,.w (.c (.d (.sl (zj z.2))))),(38,.w (.c (.d (.sl (vp l))))),(39,zh (vp l).length),(40,zh z.1)],[]⟩) (λz=>l.length-z.1) (λz=>z.1<=l.length/\z.2.length<=1000/\y=uQ d z.2 (l.drop z.1)) ⟨(0,tc),⟨bI _,ek,hy.symm⟩,zi ?_⟩ ?_
 .exact rfl
 rintro⟨i,cols⟩ hz;obtain⟨hi,o,p⟩:i<=l.length/\cols.length<=1000/\y=uQ d cols (l.drop i):=hz;clear hy;refine zg (λh3=>?_) (λh3=>?_)
 .have g:i<l.length:=by simp_all[xI]
  have hT:=hT cols o i g;have hg:=jx g;have wi:aG.wrap ((i:Int)+1)=((i+1:Nat):Int):=zu g ej;rw[zm g]at p;simp only[uQ]at p;have I:=awb (d:=d) (st:=l[i]) o;generalize l[i]=s at*;generalize yu d cols s=x at*;obtain⟨x1,x2⟩:=x;obtain⟨op,⟨eo,nm,⟨vk,vn,vs⟩,ks⟩,ab,af,ac,ad,sn,tb⟩:=s;refine zw hg ?_;refine aF hT ?_;refine zt (b:=x1 !=0) (λU=>?_) (λU=>?_)
  .simp only[U,aH]at p;subst p;exact⟨rfl,rfl⟩
  simp only[U,aA]at p;(conv=>whnf);refine⟨(i+1,x2),⟨⟨g,I,p⟩,ek⟩,zi ?_⟩;(conv=>whnf);rw[wi];rfl
 have aa:l.length<=i:=by grind[xI]
 rw[aI aa]at p;subst p;exact⟨rfl,rfl⟩
theorem auN(d)(q)(hs:∀s∈q.steps,s.Sm):ex XQ [.c (.d (.sl (zL d))),q.w] (x8 (Zn d q)):=by
 obtain⟨g,l⟩:=q;have hs:∀s∈l,s.Sm:=hs;have p:=ju d;have R:=afR ⟨g,l⟩ (λs h=>aL (hs s h).sorts ej);have I:=w8 d g;unfold Zn;by_cases i:yt d=0
 .by_cases J:cE ⟨g,l⟩=0
  .cases P:zC g d with
   |some t=>
    obtain⟨tc,tr⟩:=t;have:=ank d g l hs i J tc tr P _ rfl
    grind
   |none=>
    rw[i]at p;rw[J]at R;rw[P]at I;rw[i,J];simp only[P];refine zJ ?_;refine ZX.s T8 ?_;refine aF p ?_;refine aF R ?_;refine aF I ?_;exact⟨rfl,rfl⟩
  have o:(cE ⟨g,l⟩ !=0)=true:=ek
  rw[i]at p;rw[i,o];simp only[bL,aH,aA];generalize cE ⟨g,l⟩=T at*;refine zJ ?_;refine ZX.s T8 ?_;refine aF p ?_;refine aF R ?_;rw[o];exact⟨rfl,rfl⟩
 have j:(yt d !=0)=true:=ek
 rw[j];simp only[aH];generalize yt d=e1 at*;refine zJ ?_;refine ZX.s T8 ?_;refine aF p ?_;rw[j];exact⟨rfl,rfl⟩
theorem ax6(d)(j)(l)(y2)(ae:l.length<=16)(hQ:ex XQ [.c (.d (.sl (zL d))),bY ⟨j,l⟩] (x8 (0,y2)))(tc)(tr)(hf:zC j d=some ⟨tc,tr⟩)(J:WM d ⟨tc,tr⟩ l)(y)(hy:runT d ⟨tc,tr⟩ l=y):
 ex uW [.c (.d (.sl (zL d))),bY ⟨j,l⟩] (VL y):=by
 have I:=w8 d j;rw[hf]at I;clear hf;have p:=λt s h1 h2 R=>as2 d t s h1 h2 R
 refine zJ ?_;refine aaz.s T8 ?_;refine aF hQ ?_;refine aF I ?_;refine yD (P:=Pg) (f:=T8.f) (body:=(aaz.l 0)) (λz:Nat×Tbl=>⟨[(0,.w (.c (.d (.sl (zL d))))),(4,cV (.ptr 4 0)),(8,cV (.ptr 8 0)),(32,.w (.c (.d (.sl (vp l))))),(33,zh (vp l).length),(34,zh z.1)],[(4,.box [.nil,.nil]),(8,.box [.d (.sl (zj z.2.cols)),.d (.sl (zd z.2.rows))])]⟩) (λz=>l.length-z.1) (λz=>z.1<=l.length/\WM d z.2 (l.drop z.1)/\y=runT d z.2 (l.drop z.1)) ⟨(0,⟨tc,tr⟩),⟨bI _,J,hy.symm⟩,zi ?_⟩ ?_
 .exact rfl
 rintro⟨i,⟨c,T⟩⟩ hz;obtain⟨hi,hK,o⟩:i<=l.length/\WM d ⟨c,T⟩ (l.drop i)/\y=runT d ⟨c,T⟩ (l.drop i):=hz;clear hy;refine zg (λR=>?_) (λR=>?_)
 .have g:i<l.length:=by have:=aP R;grind[xI]
  have hg:=jx g;have wi:aG.wrap ((i:Int)+1)=((i+1:Nat):Int):=zu g ej;rw[zm g]at o hK;simp only[runT]at o;obtain⟨k1,k2,k3,k4⟩:=hK;have p:=p ⟨c,T⟩ l[i] k3 k1 k2;generalize l[i]=s at*;generalize nStepT d ⟨c,T⟩ s=x at*;obtain⟨x1,⟨x2,x3⟩⟩:=x;obtain⟨op,⟨eo,nm,⟨vk,vn,vs⟩,ks⟩,ab,af,ac,ad,sn,tb⟩:=s;refine zw hg ?_;refine aF p ?_;refine zt (b:=x1 !=0) (λU=>?_) (λU=>?_)
  .simp only[U,aH]at o;subst o;exact⟨rfl,rfl⟩
  simp only[U,aA]at o;(conv=>whnf);refine⟨(i+1,⟨x2,x3⟩),⟨⟨g,k4 ek,o⟩,ek⟩,zi ?_⟩;(conv=>whnf);rw[wi];rfl
 have aa:l.length<=i:=by grind[xI]
 rw[aI aa]at o;subst o;exact⟨rfl,rfl⟩
theorem auG(d)(g)(l)(i)(p)(j:(i !=0)=true)(o:ex XQ [.c (.d (.sl (zL d))),bY ⟨g,l⟩] (x8 (i,p))):ex uW [.c (.d (.sl (zL d))),bY ⟨g,l⟩] (VL (i,⟨[],[]⟩)):=by refine zJ ?_;refine aaz.s T8 ?_;refine aF o ?_;rw[j];exact⟨rfl,rfl⟩
theorem aFy(d)(q)(hs:∀s∈q.steps,s.Sm)(g:(Zn d q).1=0->WM d (Wj d q) q.steps):ex uW [.c (.d (.sl (zL d))),q.w] (VL (runQ d q)):=by
 have I:=auN d q hs;unfold runQ;by_cases p:(Zn d q).1=0
 .obtain⟨_,J,t,P,_⟩:=agX p;have o:Wj d q=t:=by grind[Wj]
  have g:=g p;rw[p];rw[show Zn d q=(0,(Zn d q).2)by grind]at I;rw[o]at g⊢;obtain⟨tc,tr⟩:=t;obtain⟨i,l⟩:=q;exact ax6 d i l _ (ab4 J) I tc tr P g _ rfl
 have j:((Zn d q).1 !=0)=true:=ek
 rw[j];obtain⟨i,l⟩:=q;exact auG d i l _ _ j I
def akb(x:Nmd):=!(decide ((x.nm.size:Int)>300)||!aeV x.t)
def Ua(d):=bif decide ((d.length:Int)>10)then false else xE akb d
theorem auC(d):ex akC [.c (.d (.sl (zL d)))] (rB (Ua d)):=by
 unfold Ua;refine yZ 0 er rfl λo=>?_
 rw[xZ]at o;refine gg.s T8 ?_;rw[xZ];refine zt (λh0=>?_) (λh0=>?_)
 .rw[h0];exact rfl
 rw[h0];refine xm T8 (gg.l 0) d.length (λi=>⟨[(0,.w (.c (.d (.sl (zL d))))),(3,zh i)],[]⟩) (λi=>xE akb d=xE akb (d.drop i)) ?_
 intro i hi g;(conv=>whnf);rw[xZ];refine xL (λj=>?_) (λp=>?_)
 .rw[zm j]at g;have J:=jq j;have R:=zu j o;simp only[xE]at g;have P:=afQ d[i].t;unfold akb at g;generalize d[i]=x at*;obtain⟨xn,⟨T,U⟩⟩:=x;simp only at g;generalize aeV ⟨T,U⟩=b at*;refine zw J ?_;cases I:decide ((xn.size:Int)>300)with
  |true=>
   rw[I]at g;(conv=>whnf);exact bX rB g.symm
  |false=>
   rw[I]at g;refine zw J ?_;refine Sat.cal (P) ?_;cases b with
   |false=>
    (conv=>whnf);exact bX rB g.symm
   |true=>
    refine zI j g ?_;rw[R];rfl
 rw[aI p]at g;(conv=>whnf);exact bX rB g.symm
theorem axs{l:am Stp}{i}(h:i<l.length):joins (l.take (i+1))=joins (l.take i)+(bif zl l[i].table ⟨#[]⟩then 0 else 1):=by grind[List.take_append_getElem,an8,joins]
theorem aCs(l):joins l<=l.length:=by
 induction l with
 |nil=>exact aN _
 |cons x r g=>
  simp only[joins,bV];cases zl x.table ⟨#[]⟩
  .simp only[aA];omega
  simp only[aH];omega
def acL(d:am Nmd)(q:Qry):=bif !Ua d||!q.few||decide ((q.steps.length:Int)>10)then false else decide ((joins q.steps:Int)<=2)
theorem aAH(d)(q):ex aut [.c (.d (.sl (zL d))),q.w] (rB (acL d q)):=by
 have I:=auC d;have h2:=aFt q;unfold acL;generalize Ua d=b1,q.few=b2 at*;obtain⟨p,l⟩:=q;simp only;cases b1 with
 |false=>
  refine Qr.s T8 ?_;refine aF I ?_;rfl
 |true=>
  cases b2 with
  |false=>
   refine Qr.s T8 ?_;refine aF I ?_;refine aF h2 ?_;rfl
  |true=>
   refine Qr.s T8 ?_;refine aF I ?_;refine aF h2 ?_;rw[xI];cases h3:decide ((l.length:Int)>10)with
   |true=>
    exact rfl
   |false=>
    have hl:l.length<=10:=ek
    refine xm T8 (Qr.l 0) l.length (λi=>⟨[(3,cV (.ptr 3 0)),(5,zh (joins (l.take i))),(6,zh i)],[(3,.box [str p,.d (.sl (vp l))])]⟩) (λ_=>True) ?_
    intro i hi _;have j:=λh=>axs (l:=l) (i:=i) h
    have o:i=l.length->joins (l.take i)=joins l:=λh=>ek
    have P:=aCs (l.take i);rw[bU]at P;show mwpR Pg T8.f (Qr.l 0) _ ⟨[(3,cV (.ptr 3 0)),(5,zh (joins (l.take i))),(6,zh i)],[(3,.box [str p,.d (.sl (vp l))])]⟩;generalize joins (l.take i)=n at*;(conv=>whnf);rw[xI];refine Zc (λg=>?_) (λJ=>?_)
    .have j:=j g;have hg:=jx g;have wi:=zu g ej;generalize l[i]=s at*;obtain⟨op,⟨eo,nm,⟨vk,vn,vs⟩,ks⟩,R,aa,T,U,sn,tb⟩:=s;simp only at j;refine zw hg ?_;refine zg (b:=!zl tb ⟨#[]⟩) (λk2=>?_) (λk2=>?_)
     .rw[show zl tb ⟨#[]⟩=false by grind,aA]at j;have wn:aG.wrap ((n:Int)+1)=((n+1:Nat):Int):=zu (show n<n+1 by omega) ej;refine zI g trivial ?_;rw[wi,wn,j];rfl
     rw[show zl tb ⟨#[]⟩=true by grind,aH]at j;refine zI g trivial ?_;rw[wi,j];rfl
    have e:=o J;(conv=>whnf);rw[e];rfl
end
section
attribute [local irreducible] Sat zH z6 zl
theorem am9(d)(t)(st)(hk:st.R)(hr:t.rows.length<20000)(g:st.op=6\/st.op=7->st.err=0->t.rows.length*(qW d st).rows.length<=20000):
 ex Xo [.c (.d (.sl (zL d))),t.w,.agg st.cs] (VL (nStepT d t st)):=by
 have T:=Zi d;have ht:=wS t;unfold nStepT;by_cases o:yt d=0
 .by_cases I:tblErr t=0
  .have fa:=qa I;have hT:=XY d t.cols st hk ej (λb hb=>by grind[Kv]);unfold uR at hT;rw[o]at T;rw[I]at ht;rw[o,I];by_cases P:(yu d t.cols st).1=0
   .have hA:=ap1 aHq d t st hk o I P hr (λac=>g ac (WC P));rw[P];rw[show yu d t.cols st=(0,(yu d t.cols st).2)from Prod.ext P rfl]at hT;show Sat Pg Xo _ (λr=>r=qQ ⟨(yu d t.cols st).2,stR d t st⟩ 0);generalize(yu d t.cols st).2=R at*;generalize stR d t st=rows at*;clear hk hr g o I P fa;refine zJ ?_;obtain⟨tc,tr⟩:=t;obtain⟨op,⟨eo,nm,⟨vk,vn,vs⟩,ks⟩,i,J,j,l,sn,tb⟩:=st;refine W6.s T9 ?_;refine aF T ?_;refine aF ht ?_;refine aF hT ?_;refine aF hA ?_;exact⟨rfl,rfl⟩
   have p:((yu d t.cols st).1 !=0)=true:=ek
   rw[p];show Sat Pg Xo _ (λr=>r=qQ ⟨[],[]⟩ (yu d t.cols st).1);generalize yu d t.cols st=x at*;obtain⟨x1,x2⟩:=x;have p:(x1 !=0)=true:=p;clear hk hr g o I P fa;refine zJ ?_;obtain⟨tc,tr⟩:=t;obtain⟨op,⟨eo,nm,⟨vk,vn,vs⟩,ks⟩,i,J,j,l,sn,tb⟩:=st;refine W6.s T9 ?_;refine aF T ?_;refine aF ht ?_;refine aF hT ?_;rw[p];exact⟨rfl,rfl⟩
  have aa:(tblErr t !=0)=true:=ek
  rw[o]at T;rw[o,aa];show Sat Pg Xo _ (λr=>r=qQ ⟨[],[]⟩ (tblErr t));generalize tblErr t=e at*;clear hk hr g o I;refine zJ ?_;obtain⟨tc,tr⟩:=t;obtain⟨op,⟨eo,nm,⟨vk,vn,vs⟩,ks⟩,i,J,j,l,sn,tb⟩:=st;refine W6.s T9 ?_;refine aF T ?_;refine aF ht ?_;rw[aa];exact⟨rfl,rfl⟩
 have U:(yt d !=0)=true:=ek
 have ab:(yt d==0)=false:=ek
 rw[U];show Sat Pg Xo _ (λr=>r=qQ ⟨[],[]⟩ (yt d));generalize yt d=e at*;clear hk hr g o ht;refine zJ ?_;obtain⟨tc,tr⟩:=t;obtain⟨op,⟨eo,nm,⟨vk,vn,vs⟩,ks⟩,i,J,j,l,sn,tb⟩:=st;refine W6.s T9 ?_;refine aF T ?_;rw[ab];(conv=>whnf);rw[U];exact⟨rfl,rfl⟩
theorem afW(d)(g)(l)(hs:∀s∈l,s.R)(T:g.size<=9223372036854775807)(h1:yt d=0)(h2:cE ⟨g,l⟩=0)(tc)(tr)(hf:zC g d=some ⟨tc,tr⟩)(y)(hy:uQ d tc l=y):ex YB [.c (.d (.sl (zL d))),bY ⟨g,l⟩] (x8 y):=by
 have hc:=Zi d;have hq:=Vu ⟨g,l⟩ hs T;have J:=qM d g;have U:=λcols (hl:cols.length<=1000) i (hi:i<l.length)=>XY d cols l[i] (hs _ (aE hi)) ej (λb hb=>by grind[Kv])
 have ae:l.length<=16:=ab4 h2;have hX:tc.length<=32:=Kv h1 hf;unfold uR at U;rw[h1]at hc;rw[h2]at hq;rw[hf]at J;clear hf h1 h2 T;refine zJ ?_;refine Yv.s T9 ?_;refine aF hc ?_;refine aF hq ?_;refine aF J ?_;refine yD (P:=Pg) (f:=T9.f) (body:=(Yv.l 0)) (λz:Nat×am Col=>⟨[(0,.w (.c (.d (.sl (zL d))))),(3,cV (.ptr 3 0)),(9,.w (.c (.d (.sl (zj z.2))))),(10,zh z.1)],[(3,.box [.d (.lit (.string g)),.d (.sl (vp l))])]⟩) (λz=>l.length-z.1) (λz=>z.1<=l.length/\z.2.length<=1000/\y=uQ d z.2 (l.drop z.1)) ⟨(0,tc),⟨bI _,ek,hy.symm⟩,zi ?_⟩ ?_
 .exact rfl
 rintro⟨i,cols⟩ hz;obtain⟨hi,p,o⟩:i<=l.length/\cols.length<=1000/\y=uQ d cols (l.drop i):=hz;clear hy;refine zg (λh3=>?_) (λh3=>?_)
 .have j:i<l.length:=by simp_all[xI]
  have U:=U cols p i j;have hg:=jx j;have wi:aG.wrap ((i:Int)+1)=((i+1:Nat):Int):=zu j ej;rw[zm j]at o;simp only[uQ]at o;have I:=awb (d:=d) (st:=l[i]) p;generalize yu d cols l[i]=x at*;generalize l[i]=s at*;obtain⟨x1,x2⟩:=x;obtain⟨op,⟨eo,nm,⟨vk,vn,vs⟩,ks⟩,ab,af,ac,ad,sn,tb⟩:=s;refine zw hg ?_;refine aF U ?_;refine zt (b:=x1 !=0) (λh4=>?_) (λh4=>?_)
  .simp only[h4,aH]at o;subst o;exact⟨rfl,rfl⟩
  simp only[h4,aA]at o;(conv=>whnf);refine⟨(i+1,x2),⟨⟨j,I,o⟩,ek⟩,zi ?_⟩;(conv=>whnf);rw[wi];rfl
 have aa:l.length<=i:=by grind[xI]
 rw[aI aa]at o;subst o;exact⟨rfl,rfl⟩
theorem ali(d)(q)(hs:∀s∈q.steps,s.R)(i:q.src.size<=9223372036854775807):ex YB [.c (.d (.sl (zL d))),q.w] (x8 (Zn d q)):=by
 obtain⟨g,l⟩:=q;have hs:∀s∈l,s.R:=hs;have i:g.size<=9223372036854775807:=i;have I:=Zi d;have hq:=Vu ⟨g,l⟩ hs i;have J:=qM d g;unfold Zn;by_cases j:yt d=0
 .by_cases T:cE ⟨g,l⟩=0
  .cases U:zC g d with
   |some t=>
    obtain⟨tc,tr⟩:=t;have:=afW d g l hs i j T tc tr U _ rfl
    grind
   |none=>
    rw[j]at I;rw[T]at hq;rw[U]at J;rw[j,T];simp only[U];refine zJ ?_;refine Yv.s T9 ?_;refine aF I ?_;refine aF hq ?_;refine aF J ?_;exact⟨rfl,rfl⟩
  have p:(cE ⟨g,l⟩ !=0)=true:=ek
  rw[j]at I;rw[j,p];simp only[bL,aH,aA];generalize cE ⟨g,l⟩=e2 at*;refine zJ ?_;refine Yv.s T9 ?_;refine aF I ?_;refine aF hq ?_;rw[p];exact⟨rfl,rfl⟩
 have o:(yt d !=0)=true:=ek
 have P:(yt d==0)=false:=ek
 rw[o];simp only[aH];generalize yt d=e1 at*;refine zJ ?_;refine Yv.s T9 ?_;refine aF I ?_;rw[P];(conv=>whnf);rw[o];exact⟨rfl,rfl⟩
theorem aje(d)(j)(l)(y2)(ae:l.length<=16)(hQ:ex YB [.c (.d (.sl (zL d))),bY ⟨j,l⟩] (x8 (0,y2)))(tc)(tr)(hf:zC j d=some ⟨tc,tr⟩)(J:WM d ⟨tc,tr⟩ l)(hs:∀s∈l,s.R)(y)(hy:runT d ⟨tc,tr⟩ l=y):
 ex Zx [.c (.d (.sl (zL d))),bY ⟨j,l⟩] (VL y):=by
 have I:=qM d j;rw[hf]at I;clear hf;have p:=λt i (hi:i<l.length) h1 h2=>am9 d t (l[i]'hi) (hs _ (aE hi)) h1 h2
 refine zJ ?_;refine aaC.s T9 ?_;refine aF hQ ?_;refine aF I ?_;refine yD (P:=Pg) (f:=T9.f) (body:=(aaC.l 0)) (λz:Nat×Tbl=>⟨[(0,.w (.c (.d (.sl (zL d))))),(3,cV (.ptr 3 0)),(4,cV (.ptr 4 0)),(8,cV (.ptr 8 0)),(10,zh z.1)],[(3,.box [.d (.lit (.string j)),.d (.sl (vp l))]),(4,.box [.nil,.nil]),(8,.box [.d (.sl (zj z.2.cols)),.d (.sl (zd z.2.rows))])]⟩) (λz=>l.length-z.1) (λz=>z.1<=l.length/\WM d z.2 (l.drop z.1)/\y=runT d z.2 (l.drop z.1)) ⟨(0,⟨tc,tr⟩),⟨bI _,J,hy.symm⟩,zi ?_⟩ ?_
 .exact rfl
 rintro⟨i,⟨c,T⟩⟩ hz;obtain⟨hi,hK,o⟩:i<=l.length/\WM d ⟨c,T⟩ (l.drop i)/\y=runT d ⟨c,T⟩ (l.drop i):=hz;clear hy;refine zg (λh3=>?_) (λh3=>?_)
 .have g:i<l.length:=by have:=aP h3;grind[xI]
  have hg:=jx g;have wi:aG.wrap ((i:Int)+1)=((i+1:Nat):Int):=zu g ej;rw[zm g]at o hK;simp only[runT]at o;obtain⟨k1,k2,k3,k4⟩:=hK;have p:=p ⟨c,T⟩ i g k1 k2;generalize nStepT d ⟨c,T⟩ l[i]=x at*;generalize l[i]=s at*;obtain⟨x1,⟨x2,x3⟩⟩:=x;obtain⟨op,⟨eo,nm,⟨vk,vn,vs⟩,ks⟩,ab,af,ac,ad,sn,tb⟩:=s;refine zw hg ?_;refine aF p ?_;refine zt (b:=x1 !=0) (λU=>?_) (λU=>?_)
  .simp only[U,aH]at o;subst o;exact⟨rfl,rfl⟩
  simp only[U,aA]at o;(conv=>whnf);refine⟨(i+1,⟨x2,x3⟩),⟨⟨g,k4 ek,o⟩,ek⟩,zi ?_⟩;(conv=>whnf);rw[wi];rfl
 have aa:l.length<=i:=by grind[xI]
 rw[aI aa]at o;subst o;exact⟨rfl,rfl⟩
theorem ahm(d)(g)(l)(i)(p)(j:(i !=0)=true)(o:ex YB [.c (.d (.sl (zL d))),bY ⟨g,l⟩] (x8 (i,p))):ex Zx [.c (.d (.sl (zL d))),bY ⟨g,l⟩] (VL (i,⟨[],[]⟩)):=by refine zJ ?_;refine aaC.s T9 ?_;refine aF o ?_;rw[j];exact⟨rfl,rfl⟩
theorem aqc(d)(q)(hs:∀s∈q.steps,s.R)(o:q.src.size<=9223372036854775807)(g:(Zn d q).1=0->WM d (Wj d q) q.steps):ex Zx [.c (.d (.sl (zL d))),q.w] (VL (runQ d q)):=by
 have j:=ali d q hs o;unfold runQ;by_cases l:(Zn d q).1=0
 .obtain⟨J,I,⟨tc,tr⟩,z3,z4⟩:=agX l;have g:=g l;rw[l];have p:Wj d q=⟨tc,tr⟩:=by grind[Wj]
  rw[p]at g⊢;have j:ex YB [.c (.d (.sl (zL d))),bY ⟨q.src,q.steps⟩] (x8 (0,(Zn d q).2)):=by rw[show Zn d q=(0,(Zn d q).2)from Prod.ext l rfl]at j;exact j
  exact aje d q.src q.steps _ (ab4 I) j tc tr z3 g hs _ rfl
 have i:((Zn d q).1 !=0)=true:=ek
 rw[i];exact ahm d q.src q.steps _ (Zn d q).2 i j
theorem aob(op:Int)(b):(op !=1&&op !=2&&!((op==6||op==7)&&!b))=(bif op==1||op==2 then false else bif op==6||op==7 then b else true):=ek
def rlS(c:am C)(l:am Stp)(name:ByteArray)(i:Nat):S:=⟨[(1,.w (.c (str name))),(2,cV (.ptr 2 0)),(5,zh i)],[(2,.box c)]⟩
theorem ajl(q)(name)(g:∀s∈q.steps,s.R)(hl:q.steps.length<=100000)(hs:q.src.size<=9223372036854775807):ex amv [q.w,.c (str name)] (rB (Wc q name)):=by
 have hq:=Vu q g hs;unfold Wc;generalize q.err=e at*;obtain⟨J,l⟩:=q;simp only at hl;obtain⟨B,hB⟩:∃B,(l.any λs=>jo s name)=B:=⟨_,rfl⟩;show Sat _ _ _ (λr=>r=rB (bif e !=0||!zl J name then false else !l.any λs=>jo s name));rw[hB];refine abk.s T9 ?_;refine aF hq ?_;refine zg (b:=e !=0||!zl J name) (λh=>?_) (λh=>?_)
 .rw[h];exact rfl
 rw[h,aA];refine xm T9 (abk.l 0) l.length (λi=>rlS [str J,.d (.sl (vp l))] l name i) (λi=>B=(l.drop i).any λs=>jo s name) ?_ (h0:=hB.symm);intro i hi g;unfold rlS;(conv=>whnf);rw[xI];refine xL (λp=>?_) (λT=>?_)
 .rw[zm p,cL]at g;have hg:=jx p;have wi:=zu p ej;generalize l[i]=s at*;obtain⟨op,⟨eo,nm,⟨vk,vn,vs⟩,ks⟩,j,cols,I,o,n,U⟩:=s;refine zw hg ?_;refine zg (b:=op !=1&&op !=2&&!((op==6||op==7)&&!zl U name)) (λP=>?_) (λP=>?_)
  .rw[aob]at P;have g:B=(jo ⟨op,⟨eo,nm,⟨vk,vn,vs⟩,ks⟩,j,cols,I,o,n,U⟩ name||_):=g;unfold jo at g;simp only at g;rw[P,Bool.true_or]at g;rw[g];exact rfl
  rw[aob]at P;have g:B=(jo ⟨op,⟨eo,nm,⟨vk,vn,vs⟩,ks⟩,j,cols,I,o,n,U⟩ name||_):=g;unfold jo at g;simp only at g;rw[P,Bool.false_or]at g;refine zI p g ?_;rw[wi];rfl
 rw[aI T]at g;have g:B=false:=g;rw[g];exact rfl
def longB(d:am Nmd):Int->am Stp->Bool
 |_,[]=>false
 |n,s::r=>bif s.op==6||s.op==7 then(bif decide (aG.wrap (n*((qW d s).rows.length:Int))>20000)then true else longB d (aG.wrap (n*((qW d s).rows.length:Int))) r)else longB d n r
def loS(d:am Nmd)(l:am Stp)(i:Nat)(n:Int):S:=⟨[(0,.w (.c (.d (.sl (zL d))))),(11,.w (.c (int n))),(29,.w (.c (.d (.sl (vp l))))),(30,zh l.length),(31,zh i)],[]⟩
theorem aDp(d)(q:Qry)(name)(rows)(t0)(aa:zC name d=some t0)(R:∀s∈q.steps,s.op=6\/s.op=7->zC s.table d=some (qW d s))(hl:q.steps.length<=100000):Sat Pg afa [.c (.d (.sl (zL d))),q.w,.c (str name),.c (.d (.sl (zd rows)))]
 (λr=>r=rB (longB d (aG.wrap ((t0.rows.length:Int)+(rows.length:Int))) q.steps)):=by
 obtain⟨af,l⟩:=q;simp only at*;have hf:=w8 d name;rw[aa]at hf;obtain⟨J,o⟩:∃J,aG.wrap ((t0.rows.length:Int)+(rows.length:Int))=J:=⟨_,rfl⟩;rw[o];obtain⟨B,hB⟩:∃B,longB d J l=B:=⟨_,rfl⟩;rw[hB];obtain⟨tc,tr⟩:=t0;simp only at o;refine aeD.s T9 ?_;refine aF hf ?_;rw[zq,zq,o];refine yD (P:=Pg) (f:=T9.f) (body:=(aeD.l 0)) (λz:Nat×Int=>loS d l z.1 z.2) (λz=>l.length-z.1) (λz=>z.1<=l.length/\longB d z.2 (l.drop z.1)=B) ⟨(0,J),⟨bI _,hB⟩,zi ?_⟩ ?_
 ·(conv=>whnf);rw[xI];rfl
 rintro⟨i,n⟩ ⟨hi,g⟩;simp only at hi g;unfold loS;(conv=>whnf);refine xL (λj=>?_) (λI=>?_)
 .have j:i<l.length:=j;rw[zm j]at g;have hg:=jx j;have wi:=zu j ej;have R:=R l[i] (aE j);generalize l[i]=s at*;have p:=w8 d s.table;unfold longB at g;obtain⟨op,⟨eo,nm,⟨vk,vn,vs⟩,ks⟩,ac,cols,ae,ad,sn,tb⟩:=s;simp only at g p R;refine zw hg ?_;refine zg (b:=op==6||op==7) (λT=>?_) (λT=>?_)
  .have ab:op=6\/op=7:=ek
   rw[R ab]at p;rw[T,aH]at g;generalize qW d _=b at*;obtain⟨bc,br⟩:=b;refine aF p ?_;rw[zq];have g:(bif decide (aG.wrap (n*(br.length:Int))>20000)then true else longB d (aG.wrap (n*(br.length:Int))) (bS (i+1) l))=B:=g;refine zg (b:=decide (aG.wrap (n*(br.length:Int))>20000)) (λU=>?_) (λU=>?_)
   .rw[U,aH]at g;rw[<-g];exact rfl
   rw[U,aA]at g;refine⟨(i+1,aG.wrap (n*(br.length:Int))),⟨⟨j,g⟩,ek⟩,zi ?_⟩;(conv=>whnf);rw[wi];rfl
  rw[T,aA]at g;refine⟨(i+1,n),⟨⟨j,g⟩,ek⟩,zi ?_⟩;(conv=>whnf);rw[wi];rfl
 have I:l.length<=i:=I;rw[aI I]at g;have g:false=B:=g;rw[<-g];exact rfl
end
section
attribute [local irreducible] Sat zH z6
def aqB(g:am (am Val))(x:am Val)(A B):=A++B=g/\∀b∈B,ordR x b<0
theorem aA2{g}{x y}{A B}(h:aqB g x (A++[y]) B)(j:ordR x y<0):aqB g x A (y::B):=by
 refine⟨by rw[<-h.1];simp,λb i=>?_⟩;rcases aV.1 i with rfl|i
 .exact j
 exact h.2 b i
def Y5(l:am (am Val)):=l.Pairwise λa b=>¬ordR b a<0
theorem aDX{g}{x}{A B}(h:aqB g x A B)(hs:Y5 g)(hA:∀y,A.getLast?=some y->¬ordR x y<0):Y5 (A++x::B)/\(A++x::B).Perm (g++[x]):=by
 obtain⟨r,I⟩:=h;subst r;unfold Y5 at hs⊢;rw[aY]at hs;obtain⟨l,T,U⟩:=hs;have J:∀a∈A,¬ordR x a<0:=by
  intro a i j;cases p:A.getLast? with
  |none=>grind
  |some y=>
   have R:=hA y p;obtain⟨ys,e⟩:=List.getLast?_eq_some_iff.1 p;rw[e]at i l;rcases bE.1 i with i|i
   .rw[aY]at l;have P:=l.2.2 a i y (aR.2 rfl);have:ordR a y<=0:=yP.ge.1 ej;exact R (yP.lt_of j this)
   grind
 refine⟨?_,?_⟩
 .rw[aY];refine⟨l,bK.2 ⟨λb o j=>?_,T⟩,λa i b o=>?_⟩
  .have:=(yP.anti _ _).1 (I b o);omega
  grind
 grind[List.perm_append_comm]
theorem ak1(a b):zd (a++b)=zd a++zd b:=by simp[zd]
theorem Uo{l}{i:Nat}{x}(h:l[i]?=some x):(zd l)[((i:Int)).toNat]?=some [D.sl (rowD x)]:=by grind[zd]
theorem aot(l)(i)(x):(zd l).set i [D.sl (rowD x)]=zd (l.set i x):=by grind[zd,List.map_set]
def aIv(rows:am (am Val))(i:Nat)(L:am (am Val)):S:=⟨[(0,.w (.c (.d (.sl (zd rows))))),(3,cV (.own 21 1 L.length)),(4,zh i)],[(21,.arr 1 (zd L) false)]⟩
def aGV(rows:am (am Val))(i:Nat)(L:am (am Val))(g:Nat):S:=⟨[(0,.w (.c (.d (.sl (zd rows))))),(3,cV (.own 21 1 L.length)),(4,zh i),(5,zh g)],[(21,.arr 1 (zd L) false)]⟩
theorem ane(rows)(hl:rows.length<=1000000):Sat Pg afp [.c (.d (.sl (zd rows)))] (λr=>∃ys,aqp rows ys/\r=rC (.d (.sl (zd ys)))):=by
 refine Sat.data (Q:=λr=>∃ys,aqp rows ys/\DQ (rC (.d (.sl (zd ys)))) r) ?_ (λr ⟨ys,T,h2,h3⟩=>⟨h2,ys,T,h3⟩);refine W7.s T6 ?_;refine yD (P:=Pg) (f:=T6.f) (body:=(W7.l 1)) (λx:Nat×am (am Val)=>aIv rows x.1 x.2) (λx=>rows.length-x.1) (λx=>x.1<=rows.length/\x.2.length=x.1/\Y5 x.2/\x.2.Perm (rows.take x.1)) ⟨(0,[]),⟨bI _,rfl,bD,List.Perm.refl _⟩,⟨_,zx 3 21 1 ej ej rfl,?_⟩⟩ ?_
 .exact rfl
 rintro⟨i,g⟩ hx;obtain⟨hi,ha,hs,hp⟩:i<=rows.length/\g.length=i/\Y5 g/\g.Perm (rows.take i):=hx;have wi:i<rows.length->aG.wrap ((i:Int)+1)=((i+1:Nat):Int):=λh=>zu h ej
 have ad:(zd g).take g.length=zd g:=by grind[zq]
 refine zg (λT=>?_) (λT=>?_)
 .have p:i<rows.length:=by have T:decide ((i:Int)<((zd rows).length:Int))=true:=T;simp_all[zq]
  have hg:=zZ p;have ab:∀L:am (am Val),L.Perm (g++[rows[i]])->L.Perm (rows.take (i+1)):=λL hL=>by rw[zD p];exact hL.trans (hp.append_right _)
  generalize rows[i]=x at*;refine zw hg ?_;refine yQ ?_;refine yD (P:=Pg) (f:=T6.f) (body:=(W7.l 0)) (λy:am (am Val)×am (am Val)=>aGV rows i (y.1++x::y.2) y.1.length) (λy=>y.1.length) (λy=>aqB g x y.1 y.2) ⟨(g,[]),⟨ep,λb hb=>by cases hb⟩,zi ?_⟩ ?_
  ·(conv=>whnf);rw[ad];show _=S.mk [_,(3,cV (.own 21 1 (g++[x]).length)),_,_] [(21,.arr 1 (zd (g++[x])) false)];rw[ak1,show(g++[x]).length=g.length+1 by simp];rfl
  rintro⟨A,B⟩ hx;have hS:aqB g x A B:=hx;have ai:A.length+B.length=i:=by rw[<-ha,<-hS.1,aB]
  have o:(A++x::B)[A.length]?=some x:=ep
  have R:(A++x::B).length=i+1:=ek
  obtain⟨L,hL⟩:∃L,L=A++x::B:=⟨_,rfl⟩;have I:=aDX hS hs;show mwpR Pg T6.f (W7.l 0) _ (aGV rows i (A++x::B) A.length);rw[<-hL]at o R I⊢;generalize hn:A.length=n at*;refine zg (b:=decide ((n:Int)>0)) (λk1=>?_) (λk1=>?_)
  .have ac:0<A.length:=eu
   obtain⟨j,y,rfl⟩:=snoc A ac;have aj:n=j.length+1:=ek
   have wl:aG.wrap ((n:Int)-1)=(j.length:Int):=by grind[zT]
   have J:L[j.length]?=some y:=ek
   have s1:(zd L).set ((n:Int)).toNat [D.sl (rowD y)]=zd (L.set n y):=aot L _ y;have s2:(zd (L.set n y)).set ((j.length:Int)).toNat [D.sl (rowD x)]=zd ((L.set n y).set j.length x):=aot _ _ x;have s3:(L.set n y).set j.length x=j++x::y::B:=eu
   have ah:(L.set n y)[j.length]?=some y:=ek
   have aa:=vJ x y;have ae:=@aA2 g x y j B hS;have ag:(j++[y]).getLast?=some y:=ep
   refine aw2 ?_;refine⟨_,Uo o,?_⟩;(conv=>whnf);rw[wl];refine aw2 ?_;refine⟨_,Uo J,?_⟩;refine aF aa ?_;refine zt (b:=decide (ordR x y<0)) (λk2=>?_) (λk2=>?_)
   .refine aw2 ?_;refine⟨_,Uo o,?_⟩;(conv=>whnf);rw[wl];refine aw2 ?_;refine⟨_,Uo J,?_⟩;(conv=>whnf);refine aw2 ?_;refine⟨_,Uo o,ek,?_⟩;(conv=>whnf);rw[wl];refine aw2 ?_;refine⟨_,(bX (λl:am (am D)=>l[((j.length:Int)).toNat]?) s1).trans (Uo ah),ek,?_⟩;(conv=>whnf);refine⟨(j,y::B),⟨ae (aP k2),ek⟩,zi ?_⟩;(conv=>whnf);rw[wl];have e:((zd L).set ((n:Int)).toNat [D.sl (rowD y)]).set ((j.length:Int)).toNat [D.sl (rowD x)]=zd (j++x::y::B):=ek
    have el:(j++x::y::B).length=L.length:=ek
    show _=S.mk [_,(3,cV (.own 21 1 (j++x::y::B).length)),_,_] [(21,.arr 1 (zd (j++x::y::B)) false)];rw[<-e,el];rfl
   have U:=I (λz hz=>ek);(conv=>whnf);refine⟨(i+1,L),⟨⟨p,R,U.1,ab _ U.2⟩,ek⟩,zi ?_⟩;(conv=>whnf);rw[wi p];rfl
  have hA:A=[]:=by have:=aT k1;exact cF ej
  have U:=I (λz hz=>ek);(conv=>whnf);refine⟨(i+1,L),⟨⟨p,R,U.1,ab _ U.2⟩,ek⟩,zi ?_⟩;(conv=>whnf);rw[wi p];rfl
 have af:i=rows.length:=by grind[zq]
 rw[af,bJ]at hp;(conv=>whnf);refine⟨g,⟨hp,hs⟩,rfl,?_⟩;exact bX (λl=>rC (.d (.sl l))) ad
end
theorem akR{z}{r}(h:r∈y0 z):∃c∈z,r=c.row:=by grind[y0]
theorem QZ{rows}{k}{z}(hk: -1<=k/\k<=1)(I:rows.length<=50000)(h:acG rows k z):z.length<=50000/\∀c∈z,c.row∈rows/\ -50000<=c.n/\c.n<=50000:=by
 obtain⟨ys,j,rfl⟩:=h;have o:(((ys.map (qU k)).length:Int))<=50000:=by rw[cc,j.1.length_eq];omega
 refine⟨aL (Yh _) ej,λc g=>?_⟩;have r:=agv (K:=1) ej (ys.map (qU k)) [] 0 (aW _) ej (λc g=>by cases g) (λc g=>by obtain⟨y,_,rfl⟩:=bA.1 g;exact hk) c g
 have hs:(ys.map (qU k)).Pairwise λa b=>ordR a.row b.row<=0:=by
  rw[List.pairwise_map];refine j.2.imp fun{a b} p=>?_
  show ordR a b<=0;exact yP.ge.1 ej
 obtain⟨w,i,e⟩:=(aeu _ [] bD hs (λy l=>by cases l)).2 c g;rcases i with i|i
 .cases i
 obtain⟨y,l,rfl⟩:=bA.1 i;refine⟨?_,ej,ej⟩;rw[e];exact j.1.mem_iff.1 l
theorem UA{α}{e:α->α->Bool}(h:∀x,e x x=true):∀l,xB e l l=true
 |[]=>rfl
 |x::r=>by simp only[xB,h,UA h r];rfl
theorem azy(v):yH v v=true:=by grind[yH,AM.beqS_self]
theorem azt(v):eqC v v=true:=by grind[eqC,AM.beqS_self]
theorem apV(r):xS r r=true:=by simp_all[xS,UA,azy]
theorem JD(r):qV r r=true:=by simp_all[qV,UA,azt]
theorem aB4(c):eqG c c=true:=by grind[eqG,apV]
theorem asU(r):agM r r=true:=by simp_all[agM,UA,aB4]
theorem aGn{a b}(h:eqC a b=true):a=b:=by unfold eqC at h;simp only[Bool.and_true,Bool.and_eq_true,beq_iff_eq]at h;obtain⟨g,i⟩:=a<;>simp_all[AM.beqS_iff]
theorem aqM{α}{e:α->α->Bool}(i:∀x y,e x y=true->x=y):∀{a b:am α},xB e a b=true->a=b
 |[],[],_=>rfl
 |[],_::_,h=>by cases h
 |_::_,[],h=>by cases h
 |x::a,y::b,h=>by
  simp only[xB]at h;cases g:e x y
  .rw[g]at h;cases h
  rw[g]at h;rw[i x y g,aqM i h]
theorem aaZ{a b}(h:qV a b=true):a=b:=by grind[qV,aqM,aGn]
theorem acm:∀{z:am Chg},Asc z->∀c∈z,wt z c.row=c.n
 |[],_,c,g=>by cases g
 |x::l,h,c,g=>by
  rcases aV.1 g with rfl|g
  .exact Uy h
  have i:=h;unfold Asc at i;rw[bK]at i;have j:=i.1 c g;have e:(ordR x.row c.row==0)=false:=ek
  simp only[wt,e,aA];rw[acm i.2 c g];omega
theorem Q0(a)(l)(r):cnt (a::l) r=(bif ordR a r==0 then 1 else 0)+cnt l r:=rfl
theorem jO:∀(l) (r:am Val),0<=cnt l r/\cnt l r<=l.length
 |[],r=>by grind[cnt,wt]
 |a::l,r=>by have g:=jO l r<;>grind[Q0]
theorem anN(cols):∀(cs) (p:aK Chg),Asc cs->(∀q,p=some q->∀c∈cs,ordR q.row c.row<0)->(∀c∈cs,c.n≠0/\ -20000<=c.n/\c.n<=20000/\valuesErr cols c.row=0)->qt cols p cs=0
 |[],_,_,_,_=>rfl
 |a::r,p,h,R,i=>by
  unfold Asc at h;rw[bK]at h;obtain⟨o,I,J,j⟩:=i a (aS ..);have P:(a.row.length:Int)=cols.length:=by grind[jR]
  have l:jW cols.length p a=false:=by unfold jW<;>grind
  simp only[qt,l,aA,j];show qt cols (some a) r=0;exact anN cols r (some a) h.2 (λq T c g=>ek) (λc g=>i c (aO _ g))
theorem atN:∀(z) (t:Int),0<=t->(∀c∈z,0<=c.n)->t+(y0 z).length<=20000->uH t z=some (t+(y0 z).length)
 |[],t,_,_,_=>by grind[uH,y0]
 |a::r,t,h0,i,hs=>by
  have o:=i a (aS ..);have g:(y0 (a::r)).length=a.n.toNat+(y0 r).length:=by simp[y0]
  rw[g]at hs⊢;simp only[uH];rw[aM ej,aA,zT ej ej];have l:yL false (t+a.n) 40000=t+a.n:=by show(if 40000<t+a.n then 40000 else t+a.n)=_;omega
  rw[l,atN r (t+a.n) ej (λc j=>i c (aO _ j)) ej];congr 1
  omega
theorem ahJ:∀{a b:am (am Val)},(∀r∈a,canR r)->(∀r∈b,canR r)->(∀r,cnt a r=cnt b r)->a.Perm b
 |[],[],_,_,_=>List.Perm.refl _
 |[],y::b,_,_,h=>by have:=h y;rw[Q0,yP.refl]at this;have R:=(jO b y).1<;>grind[cnt,wt]
 |x::a,b,p,I,h=>by
  have P:=p x (aS ..);have i:0<cnt b x:=by rw[<-h x,Q0,yP.refl];have:=(jO a x).1<;>grind
  have g:∀{l:am (am Val)},0<cnt l x->∃y∈l,ordR y x=0:=by intro l;induction l<;>grind[cnt,wt,Q0]
  obtain⟨y,J,e⟩:=g i;have o:y=x:=afy (I y J) P e;subst o;obtain⟨s,t,rfl⟩:=List.append_of_mem J;have j:(s++y::t).Perm (y::(s++t)):=List.perm_middle;refine List.Perm.trans (List.Perm.cons y ?_) j.symm;refine ahJ (λr hr=>p r (aO _ hr)) (λr hr=>I r (j.mem_iff.2 (aO _ hr))) λr=>?_
  have:=h r;rw[Q0,Ku,Q0]at this
  grind[Ku]
theorem ad9:∀{z:am Chg},Asc z->Y5 (y0 z)
 |[],_=>bD
 |c::l,h=>by
  have g:=h;unfold Asc at g;rw[bK]at g;have e:y0 (c::l)=co c.n.toNat c.row++y0 l:=by simp[y0]
  rw[e];unfold Y5;rw[aY];refine⟨?_,ad9 g.2,λa i b j=>?_⟩
  .rw[List.pairwise_replicate]
   right
   rw[yP.refl];omega
  rw[List.eq_of_mem_replicate i];obtain⟨d,o,rfl⟩:=akR j;have:=g.1 d o;have:=yP.anti c.row d.row;omega
section
attribute [local irreducible] Sat zH z6
def aaS(l:am Int):=l.map λn=> [D.lit (.int .i64 n)]
theorem ac8(l):(aaS l).length=l.length:=by simp[aaS]
theorem asv{r}{i:Nat}(h:i<r.length):(aaS r)[((i:Int)).toNat]?=some [D.lit (.int .i64 r[i])]:=by grind[aaS]
def Z7(l:am Int):Tbl:=⟨[⟨⟨#[110]⟩,2⟩],l.map λn=> [⟨2,n,⟨#[]⟩⟩]⟩
def Vn(l:am Int):=zd (l.map λn=> [⟨2,n,⟨#[]⟩⟩])
theorem aCQ(l):(Vn l).length=l.length:=by grind[Vn,zd]
theorem aCP(a b):Vn (a++b)=Vn a++Vn b:=by grind[Vn,zd]
def aIs(l:am Int):Nat->S
 |0=>⟨[(0,.w (.c (.d (.sl (aaS l))))),(2,cV (.ptr 2 0)),(3,cV (.ptr 3 0)),(4,zh 0)],[(2,.box [.nil,.nil]),(3,.box [.own 6 2 1,.nil]),(6,.arr 2 [[.lit (.string ⟨#[110]⟩),.lit (.int .i64 2)]] false)]⟩
 |i+1=>⟨[(0,.w (.c (.d (.sl (aaS l))))),(2,cV (.ptr 2 0)),(3,cV (.ptr 3 0)),(4,zh ((i+1:Nat):Int))],[(2,.box [.nil,.nil]),(3,.box [.own 6 2 1,.own 23 1 (i+1)]),(6,.arr 2 [[.lit (.string ⟨#[110]⟩),.lit (.int .i64 2)]] false),(23,.arr 1 (Vn (l.take (i+1))) false)]⟩
theorem aa2(l)(P:l.length<=1000):ex akv [.c (.d (.sl (aaS l)))] ⟨.w (Z7 l).w,[]⟩:=by
 refine zJ ?_;refine k9.s T3 ?_;refine xm T3 (k9.l 0) l.length (λi=>aIs l i) (λ_=>True) ?_
 intro i J _;cases i with
 |zero=>
  refine zg (λj=>?_) (λj=>?_)
  .have g:0<l.length:=by have j:decide ((0:Int)<((aaS l).length:Int))=true:=j;simp_all[ac8]
   refine zw (asv g) ?_ (hA:=et);refine yQ ?_ (hA:=ep) (hB:=by grind[zW]) (hC:=ep);refine zI g trivial ?_;have v1:aG.wrap ((0:Int)+1)=1:=zT ej ej;rw[v1];have e:l.take (0+1)=[l[0]]:=by grind[cA]
   show _=S.mk _ [_,_,_,(23,Pl.arr 1 (Vn (l.take (0+1))) false)];rw[e];rfl
  have j:decide ((0:Int)<((aaS l).length:Int))=false:=j;have:l=[]:=by simp_all[ac8]
  subst this;exact⟨rfl,rfl⟩
 |succ i=>
  have I:((l.take (i+1)).length)=i+1:=ek
  have o:(Vn (l.take (i+1))).take (i+1)=Vn (l.take (i+1)):=by grind[aCQ]
  refine zg (λj=>?_) (λj=>?_)
  .have g:i+1<l.length:=by have j:decide (((i+1:Nat):Int)<((aaS l).length:Int))=true:=j;have:=aP j;grind[ac8]
   refine zw (asv g) ?_;refine yQ ?_;refine zI g trivial ?_;rw[zu g ej];have e:Vn (l.take (i+1+1))=(Vn (l.take (i+1))).take (i+1)++[[D.sl (rowD [⟨2,l[i+1],⟨#[]⟩⟩])]]:=by rw[o,cA g,aCP];rfl
   show _=S.mk _ [_,_,_,(23,Pl.arr 1 (Vn (l.take (i+1+1))) false)];rw[e];rfl
  have p:l.length=i+1:=by grind[ac8]
  refine UP ?_;show(⟨.w (.agg [.d (.sl [[.lit (.string ⟨#[110]⟩),.lit (.int .i64 2)]]),.d (.sl ((Vn (l.take (i+1))).take (i+1)))]),[]⟩:Res)=_;rw[o,<-p,bJ];rfl
def nv(n:Int):am Val:=[⟨2,n,⟨#[]⟩⟩]
def KI:am Chg:=[⟨nv 1, -1⟩,⟨nv 2, -1⟩,⟨nv 3,1⟩]
def awZ:am Chg:=[⟨nv 1,1⟩,⟨nv 3,1⟩]
theorem UQ(a b):zl a b=decide (a.data=b.data):=by
 by_cases h:a=b
 .grind[AM.beqS_self]
 have g:zl a b=false:=by grind[AM.beqS_iff]
 rw[g];have:a.data≠b.data:=λe=>h (by cases a;simp_all)
 grind
theorem arf(n):canR (nv n):=by intro v g;rw[aR.1 g];exact .inr (.inl ⟨.inr rfl,rfl⟩)
theorem amK(a b):ordR (nv a) (nv b)=xM a b:=by
 show(bif xM a b !=0 then xM a b else 0)=xM a b
 grind
theorem aHW:tblErr (Z7 [1,1,2])=0:=by
 simp only[tblErr,Z7,List.map,aD,ux,qj,ze,zO,xi,xG,yy,UQ]
 decide+kernel
theorem aHX:tblErr (Z7 [1,3])=0:=by
 simp only[tblErr,Z7,List.map,aD,ux,qj,ze,zO,xi,xG,yy,UQ]
 decide+kernel
theorem aHY:tblErr (Z7 [2,1,1])=0:=by
 simp only[tblErr,Z7,List.map,aD,ux,qj,ze,zO,xi,xG,yy,UQ]
 decide+kernel
theorem awC:qt (Z7 []).cols none KI=0:=by
 have e:∀a b:Int,ordR [⟨2,a,⟨#[]⟩⟩] [⟨2,b,⟨#[]⟩⟩]=xM a b:=amK;simp only[qt,KI,nv,Z7,jW,valuesErr,xG,yy,UQ,e]
 decide+kernel
def awQ(l:am Stp):Qry:=⟨⟨#[116]⟩,l⟩
def aH1:Ex:=⟨0,⟨#[]⟩,⟨0,0,⟨#[]⟩⟩,[]⟩
def awE:Ex:=⟨12,⟨#[]⟩,⟨0,0,⟨#[]⟩⟩,[⟨2,⟨#[110]⟩,⟨0,0,⟨#[]⟩⟩,[]⟩,⟨1,⟨#[]⟩,⟨2,3,⟨#[]⟩⟩,[]⟩]⟩
def awW:Stp:=⟨1,awE,[],[],[],[],0,⟨#[]⟩⟩
def awx:Stp:=⟨5,aH1,[],[],[],[],1,⟨#[]⟩⟩
theorem aGd:Wc (awQ [awW]) ⟨#[116]⟩=true:=by
 simp only[Wc,awQ,cE,vY,Stp.err,Stp.uses,X6,awW,awE,Ex.zero,QQ,yH,Ex.chk,Ex.meas,measL,Ex.err,errL,yK,wD,jZ,yy,z8,kws,hasB,jL,List.any,jo,UQ]
 decide+kernel
theorem aGe:Wc (awQ [awW,awx]) ⟨#[116]⟩=false:=by simp_all[Wc,awQ,awx,jo]
theorem aEJ:Asc KI:=by unfold Asc KI;simp only[bK,aV,bW,cX,forall_eq_or_imp,forall_eq,amK];exact⟨et,et,λ_ h=>h.elim,bD⟩
theorem aEK:Asc awZ:=by unfold Asc awZ;simp only[bK,aV,bW,cX,forall_eq_or_imp,forall_eq,amK];exact⟨et,λ_ h=>h.elim,bD⟩
theorem aAe:∀c∈KI,c.n≠0/\canR c.row:=by simp_all[KI,arf]
theorem aGQ:∀c∈awZ,c.n≠0/\canR c.row:=by simp_all[awZ,arf]
theorem avJ{l}{r}(h:r∈(Z7 l).rows):canR r:=by obtain⟨n,_,rfl⟩:=bA.1 h;exact arf n
theorem num_rows(l):(Z7 l).rows=l.map nv:=rfl
theorem aEM{r}(h:QJ (Z7 [1,1,2]) (Z7 [1,3]) r):r=⟨.tup [.c (.d (.sl (yz KI))),.c (int 0)],[]⟩:=by
 unfold QJ at h;rw[aHW,aHX,show qV (Z7 [1,1,2]).cols (Z7 [1,3]).cols=true from JD _]at h;simp only[bL,aA,c9]at h;obtain⟨u,v,z,i,j,o,rfl⟩:=h;obtain⟨u1,u2⟩:=QZ ej et i;obtain⟨v1,I⟩:=QZ ej et j;have g:∀c∈u++v,(-50000<=c.n/\c.n<=50000)/\canR c.row:=λc h=>by grind[avJ]
 obtain⟨p,l,z3⟩:=kM (K:=50000) ej ek (λc h=>(g c h).1) (λc h=>(g c h).2) o;rw[J2 p aEJ (λc h=>⟨(l c h).1,(l c h).2.1⟩) aAe λr=>by
  rw[z3,V7 ej et i,V7 ej et j]
  grind[cnt,num_rows,qU,wt,KI]]
theorem aBD{r}(h:jS (Z7 [2,1,1]) KI r):r=aOk (Z7 [1,3]):=by
 unfold jS at h;rw[aHY,show qt (Z7 [2,1,1]).cols none KI=0 from awC]at h;simp only[bL,aA]at h;obtain⟨u,z,j,p,h⟩:=h;obtain⟨u1,u2⟩:=QZ ej et j;have i:∀c∈u++KI,(-50000<=c.n/\c.n<=50000)/\canR c.row:=λc h=>by
  rcases bE.1 h with h|h
  .grind[avJ]
  refine⟨?_,(aAe c h).2⟩;unfold KI at h;simp only[aV,bW,cX]at h
  grind
 obtain⟨I,l,z3⟩:=kM (K:=50000) ej (by rw[aB,show KI.length=3 from rfl];omega) (λc h=>(i c h).1) (λc h=>(i c h).2) p;have g:z=awZ:=J2 I aEK (λc h=>⟨(l c h).1,(l c h).2.1⟩) aGQ λr=>by
  rw[z3,V7 ej et j]
  grind[cnt,num_rows,qU,wt,KI,awZ]
 rw[g]at h;have o:uH 0 awZ=some 2:=et
 rw[o]at h;simp only at h;rcases h with h|⟨h,_⟩
 .exact h
 cases h
theorem ax9:ex apv [] (rB true):=by
 have o:=aa2 [1,1,2] et;have p:=aa2 [1,3] et;have I:=aa2 [2,1,1] et;have l:=(asY (Z7 [1,1,2]) (Z7 [1,3]) et et).mono λr h=>aEM h
 have j:=(afO (Z7 [2,1,1]) KI et et et).mono λr h=>aBD h
 have g:=Kn (awQ [awW]) ⟨#[116]⟩ (by intro s hs;rw[aR.1 hs];decide);have i:=Kn (awQ [awW,awx]) ⟨#[116]⟩ (by intro s hs;simp only[awQ,aV,bW,cX]at hs;rcases hs with rfl|rfl<;>decide);rw[aGd]at g;rw[aGe]at i;refine ao7.s T5 ?_;refine aF o ?_;refine aF p ?_;refine aF l ?_;refine aF I ?_;refine aF j ?_;refine⟨et,_,rfl,rfl,?_⟩;repeat' ((conv=>whnf);first|((with_reducible show Sat _ _ _ _);first|(refine cJ g ?_;rintro _ rfl)|(refine cJ i ?_;rintro _ rfl))|(with_reducible show _/\_;refine⟨et,_,rfl,rfl,?_⟩))
 all_goals (conv=>whnf)
 all_goals rfl
end
theorem aqV{t}{cs}{r}(h:jS t cs r):
 (∃e,e≠0/\r=ah0 e)\/(∃u z n,tblErr t=0/\qt t.cols none cs=0/\acG t.rows 1 u/\anq u cs z/\uH 0 z=some n/\n<=20000/\r=aOk ⟨t.cols,y0 z⟩):=by
 unfold jS at h;cases i:(tblErr t !=0)
 .rw[i,aA]at h;cases j:(qt t.cols none cs !=0)
  .rw[j,aA]at h;obtain⟨u,z,o,p,h⟩:=h;cases l:uH 0 z with
   |none=>grind
   |some n=>
    rw[l]at h;simp only at h;cases g:decide (n>20000)
    .rw[g,aA]at h;have g:=aT g;refine .inr ⟨u,z,n,ek,ek,o,p,l,ej,?_⟩;rcases h with h|⟨rfl,h⟩
     .exact h
     rw[h];rfl
    rw[g,aH]at h
    grind
  rw[j,aH]at h
  grind
 rw[i,aH]at h
 grind
structure DiffOk(a b:Tbl)(z:am Chg):Prop where
 asc:Asc z
 ok:∀c∈z,c.n≠0/\canR c.row
 val:∀c∈z,valuesErr a.cols c.row=0/\ -20000<=c.n/\c.n<=20000
 wts:∀r,wt z r=cnt b.rows r-cnt a.rows r
 len:z.length<=a.rows.length+b.rows.length
def dOk(z:am Chg):Res:=⟨.tup [.c (.d (.sl (yz z))),.c (int 0)],[]⟩
theorem aih{rows}{k}{z}(h:acG rows k z):z.length<=rows.length:=by obtain⟨ys,g,rfl⟩:=h;refine aL (Yh _) ?_;rw[cc,g.1.length_eq];simp_all
theorem aBZ{a b}{r}(J:tblErr a=0)(P:tblErr b=0)(ec:a.cols=b.cols)(h:QJ a b r):∃z,DiffOk a b z/\r=dOk z:=by
 unfold QJ at h;rw[J,P,ec,JD]at h;simp only[bL,aA,c9]at h;obtain⟨u,v,z,j,o,T,rfl⟩:=h;obtain⟨a1,a2,a3,a4⟩:=(qY a).1 J;obtain⟨b1,b2,b3,b4⟩:=(qY b).1 P;obtain⟨u1,u2⟩:=QZ ej ej j;obtain⟨v1,v2⟩:=QZ ej ej o;have g:∀c∈u++v,valuesErr a.cols c.row=0:=λc h=>ek
 have i:∀c∈u++v, -50000<=c.n/\c.n<=50000:=λc h=>ek
 obtain⟨U,I,z3⟩:=kM (K:=50000) ej ek i (λc h=>(jR (g c h)).2) T;have R:∀r,wt z r=cnt b.rows r-cnt a.rows r:=λr=>by rw[z3,V7 ej ej j,V7 ej ej o];omega
 have p:z.length<=a.rows.length+b.rows.length:=by have:=aih j;have:=aih o;obtain⟨l,l1,_,rfl⟩:=T;refine aL (cB _ _) (aL (Yh _) ?_);rw[l1.length_eq,aB];omega
 refine⟨z,⟨U,λc h=>⟨(I c h).1,(I c h).2.1⟩,λc h=>?_,R,p⟩,rfl⟩;obtain⟨_,_,x,hx,e⟩:=I c h;refine⟨ek,?_⟩;have e1:=acm U c h;rw[R]at e1;have:=jO b.rows c.row;have:=jO a.rows c.row;omega
theorem DiffOk.unique{a b}{x y}(g:DiffOk a b x)(i:DiffOk a b y):x=y:=J2 g.asc i.asc g.ok i.ok λr=>by rw[g.wts,i.wts]
theorem aBx{a b}{z}(R:tblErr a=0)(hb:tblErr b=0)(J:a.cols=b.cols)(i:DiffOk a b z){r}(h:jS a z r):∃ws,Y5 ws/\ws.Perm b.rows/\(∀r∈b.rows,canR r)/\r=aOk ⟨a.cols,ws⟩:=by
 obtain⟨a1,a2,a3,a4⟩:=(qY a).1 R;obtain⟨b1,b2,b3,b4⟩:=(qY b).1 hb;have I:qt a.cols none z=0:=anN a.cols z none i.asc (λq hq=>by cases hq) λc l=>⟨(i.ok c l).1,(i.val c l).2.1,(i.val c l).2.2,(i.val c l).1⟩
 unfold jS at h;rw[R,I]at h;simp only[bL,aA]at h;obtain⟨u,w,U,hw,h⟩:=h;obtain⟨u1,u2⟩:=QZ ej ej U;have o:∀c∈u++z,(-50000<=c.n/\c.n<=50000)/\canR c.row:=λc h=>by
  rcases bE.1 h with h|h
  .exact⟨(u2 c h).2,(jR (a4 _ (u2 c h).1)).2⟩
  have:=(i.val c h).2;exact⟨ej,(i.ok c h).2⟩
 have aa:=i.len;obtain⟨w1,w2,w3⟩:=kM (K:=50000) ej ek (λc h=>(o c h).1) (λc h=>(o c h).2) hw;have P:∀r,wt w r=cnt b.rows r:=λr=>by rw[w3,V7 ej ej U,i.wts];omega
 have p:∀c∈w,0<=c.n:=λc l=>by rw[<-acm w1 c l,P];exact(jO _ _).1
 have j:∀r∈b.rows,canR r:=λr hr=>(jR (b4 r hr)).2
 have g:(y0 w).Perm b.rows:=ahJ (λr hr=>by grind[akR]) j λr=>by grind[awI]
 have T:=g.length_eq;have ht:=atN w 0 (aW _) p ej;rw[ht]at h;simp only at h;rw[aM ej,aA]at h;refine⟨y0 w,ad9 w1,g,j,?_⟩;rcases h with h|⟨rfl,h⟩
 .exact h
 rw[h];rfl
section
attribute [local irreducible] Sat zH z6 zl
structure SmallK(d:am Nmd)(q:Qry):Prop where
 rows:∀x∈d,x.t.rows.length<=24
 two:joins q.steps<=2
 sm:∀s∈q.steps,s.Sm
theorem SmallK.pw{d}{q}(hs:SmallK d q):24*24^joins q.steps<=13824:=by have:24^joins q.steps<=24^2:=Nat.pow_le_pow_right ej hs.two;omega
theorem SmallK.run{d}{q}(hs:SmallK d q)(h:(Zn d q).1=0):WM d (Wj d q) q.steps/\(runQ d q).1=0/\(runQ d q).2.cols=(Zn d q).2/\tblErr (runQ d q).2=0/\(runQ d q).2.rows.length<=13824/\runQ d q=runT d (Wj d q) q.steps:=by
 obtain⟨i,I,t,j,e⟩:=agX h;have l:=Yy i j;have r:Wj d q=t:=by grind[Wj]
 have p:runQ d q=runT d t q.steps:=by grind[runQ]
 have g:t.rows.length<=24:=by obtain⟨x,o,rfl⟩:=gw j;exact hs.rows x o
 obtain⟨J,P,_⟩:=avX (K:=24) (M:=13824) ej ej i hs.rows q.steps t 24 hs.sm l ej g hs.pw
 grind
theorem kF{d}{q}(h:(runQ d q).1=0):(Zn d q).1=0:=by grind[runQ]
theorem aA0{l}(h:vY l=0):∀s∈l,s.err=0:=by
 induction l with
 |nil=>grind
 |cons x r i=>
  simp only[vY]at h;cases g:(x.err !=0)<;>simp_all
theorem aAq{q:Qry}(h:q.err=0):∀s∈q.steps,s.err=0:=by
 unfold cE at h;cases g: !z8 q.src
 .rw[g,aA]at h;cases i:decide ((q.steps.length:Int)>16)
  .rw[i,aA]at h;exact aA0 h
  grind
 grind
theorem amD{d}(i:∀x∈d,x.t.rows.length<=24):∀(l) (n B:Nat),(∀s∈l,s.err=0)->n<=B->B*24^joins l<=13824->longB d (n:Int) l=false
 |[],_,_,_,_,_=>rfl
 |s::r,n,B,j,J,hk=>by
  have T:=anI i s;have I:joins (s::r)=(bif zl s.table ⟨#[]⟩then 0 else 1)+joins r:=rfl;have P:1<=24^joins r:=Nat.pow_pos ej;simp only[longB];by_cases o:s.op=6\/s.op=7
  .have e:=azF (j s ep) o;rw[e]at I;rw[I,aA,Nat.pow_add,Nat.pow_one,<-Nat.mul_assoc]at hk;have U:n*(qW d s).rows.length<=B*24:=Nat.mul_le_mul J T;have hB:B*24<=13824:=aL (Nat.le_mul_of_pos_right _ ej) hk;have g:(s.op==6||s.op==7)=true:=ek
   have R:aG.wrap ((n:Int)*((qW d s).rows.length:Int))=((n*(qW d s).rows.length:Nat):Int):=by grind[zT]
   rw[g,aH,R,aM ej,aA];exact amD i r _ _ (λx p=>j x (by simp[p])) U hk
  have g:(s.op==6||s.op==7)=false:=ek
  rw[g,aA];refine amD i r n B (λx p=>j x (by simp[p])) J (aL (Nat.mul_le_mul_left _ ?_) hk)
  grind
structure LinOk(d:am Nmd)(q:Qry)(name:ByteArray)(t:Tbl)(rows:am (am Val)):Prop where
 a1:(runQ (nxD d name rows) q).1=0
 a2:(runQ (nxD d name (t.rows++rows)) q).1=0
 e:(runQ (nxD d name (t.rows++rows)) q).2.rows=(runQ d q).2.rows++(runQ (nxD d name rows) q).2.rows
 v:tblErr (runQ (nxD d name rows) q).2=0
 w:tblErr (runQ (nxD d name (t.rows++rows)) q).2=0
 c1:(runQ (nxD d name rows) q).2.cols=(runQ d q).2.cols
 c2:(runQ (nxD d name (t.rows++rows)) q).2.cols=(runQ d q).2.cols
 len:(runQ (nxD d name (t.rows++rows)) q).2.rows.length<=13824
 lo:longB d (aG.wrap ((t.rows.length:Int)+(rows.length:Int))) q.steps=false
theorem avE{cols}{a b}(i:tblErr ⟨cols,a⟩=0)(g:b.length<=20000)(j:∀r∈b,valuesErr cols r=0):tblErr ⟨cols,b⟩=0:=by grind[qY]
theorem az0{d}{q}{name}{t}{rows}(hs:∀x∈d,x.t.rows.length<=14)(U:joins q.steps<=2)(hm:∀s∈q.steps,s.Sm)(hr:rows.length<=10)(hl:Wc q name=true)(h0:(runQ d q).1=0)(J:zC name d=some t)(hv:xi t.cols rows=0):LinOk d q name t rows:=by
 have R:=kF h0;obtain⟨T,q1,t',j,ey⟩:=agX R;obtain⟨_,e1,l⟩:=aCw hl;rw[e1,J]at j;cases j;have ht:=Yy T J;have aa:t.rows.length<=14:=by grind[gw]
 have P:=aae.1 hv;have g:SmallK d q:=⟨λx o=>aL (hs x o) ej,U,hm⟩;have key:∀b:am (am Val),tblErr ⟨t.cols,b⟩=0->b.length<=24->(runQ (nxD d name b) q).1=0/\tblErr (runQ (nxD d name b) q).2=0/\(runQ (nxD d name b) q).2.cols=(runQ d q).2.cols/\(runQ (nxD d name b) q).2.rows.length<=13824/\runQ (nxD d name b) q=runT d ⟨t.cols,b⟩ q.steps:=λb hb i=>by
  obtain⟨n1,n2,n3⟩:=aGP T J b hb;have hd:∀s∈q.steps,Kf s.op/\(s.op=6\/s.op=7->zC s.table (nxD d name b)=zC s.table d):=λs o=>⟨(l s o).1,λh=>n3 _ ((l s o).2 h)⟩
  have ty:Zn (nxD d name b) q=Zn d q:=by grind[Zn,awa]
  have K1:SmallK (nxD d name b) q:=⟨avK g.rows i,U,hm⟩;obtain⟨_,r2,r3,r4,r5,r6⟩:=K1.run ek;obtain⟨_,_,s3,_,_,_⟩:=g.run R<;>grind[Wj,avV]
 have p:tblErr ⟨t.cols,rows⟩=0:=avE ht ej P;have I:tblErr ⟨t.cols,t.rows++rows⟩=0:=avE ht ek λr h=>by grind[qY]
 obtain⟨k1,k2,k3,k4,k5⟩:=key rows p ej;obtain⟨l1,l2,l3,l4,l5⟩:=key (t.rows++rows) I ek;obtain⟨_,_,_,_,_,s6⟩:=g.run R;have es:Wj d q=t:=by grind[Wj]
 refine⟨k1,l1,?_,k2,l2,k3,l3,l4,?_⟩
 .simp_all[asQ]
 rw[show aG.wrap ((t.rows.length:Int)+(rows.length:Int))=((t.rows.length+rows.length:Nat):Int)by grind[zT]];exact amD g.rows q.steps _ 24 (aAq q1) ej g.pw
theorem aCx{b m a}(P:tblErr m=0)(hr:a.rows=b.rows++m.rows)(hc:m.cols=b.cols){v z}(i:acG m.rows 1 v)(I:anq [] v z):DiffOk b a z:=by
 obtain⟨U,b2,b3,b4⟩:=(qY m).1 P;obtain⟨v1,T⟩:=QZ ej ej i;have g:∀c∈ []++v,valuesErr b.cols c.row=0:=λc h=>ek
 obtain⟨J,o,z3⟩:=kM (K:=50000) ej ek (λc h=>(T c h).2) (λc h=>(jR (g c h)).2) I;have p:∀r,wt z r=cnt a.rows r-cnt b.rows r:=λr=>by
  rw[z3,V7 ej ej i,hr,Ku]
  grind[wt]
 have j:z.length<=b.rows.length+a.rows.length:=by have:=aih i;obtain⟨l,R,_,rfl⟩:=I;refine aL (cB _ _) (aL (Yh _) ?_);rw[R.length_eq,hr,bR,aB];omega
 refine⟨J,λc h=>⟨(o c h).1,(o c h).2.1⟩,λc h=>?_,p,j⟩;obtain⟨_,_,x,hx,e⟩:=o c h;refine⟨ek,?_⟩;have e1:=acm J c h;rw[p,hr,Ku]at e1;have:=jO m.rows c.row;omega
theorem aB0{b a}{z}(h:DiffOk b a z){m}(hr:a.rows=b.rows++m):∀c∈z,0<=c.n:=λc g=>by have e1:=acm h.asc c g;rw[h.wts,hr,Ku]at e1;have:=jO m c.row;omega
def Q3(a b):=bif tblErr a !=0 then tblErr a else bif tblErr b !=0 then tblErr b else bif !qV a.cols b.cols then 10 else 0
theorem aEY{a b}{r}(h:QJ a b r):bif Q3 a b !=0 then r=Qh (Q3 a b)else∃z,DiffOk a b z/\r=dOk z:=by
 have h0:=h;unfold QJ at h;unfold Q3;cases g:(tblErr a !=0)
 .rw[g,aA]at h;cases i:(tblErr b !=0)
  .rw[i,aA]at h
   grind[aBZ,aaZ]
  simp_all
 simp_all
noncomputable def gE(d:am Nmd)(q:Qry)(name:ByteArray)(rows:am (am Val)):Int:=
 bif yt d !=0 then yt d else bif (runQ d q).1 !=0 then(runQ d q).1 else match zC name d with
 |none=>17
 |some t=>bif xi t.cols rows !=0 then xi t.cols rows else bif (runQ (nxD d name (t.rows++rows)) q).1 !=0 then(runQ (nxD d name (t.rows++rows)) q).1 else Q3 (runQ d q).2 (runQ (nxD d name (t.rows++rows)) q).2
noncomputable def gAf(d:am Nmd)(q:Qry)(name:ByteArray)(rows:am (am Val)):Tbl:=(runQ (nxD d name ((tAt name d).rows++rows)) q).2
def Nmd.w(x:Nmd):W:=.agg [str x.nm,.d (.sl (zj x.t.cols)),.d (.sl (zd x.t.rows))]
theorem ax4(x:Nmd)(name):ex abC [x.w,.c (.fp [.lit (.string name)])] (rB (zl x.nm name)):=by obtain⟨g,⟨tc,tr⟩⟩:=x;refine z7 T9 alY.ok er ?_;exact rfl
theorem aeh(g:FuncId)(cap)(p:Nmd->Bool)(l)(U:∀x:Nmd,ex g [x.w,.c (.fp cap)] (rB (p x))):
 ex kq [.c (.d (.sl (zL l))),.c (.d (.fn g [cap]))] (rI (zO p 0 l)):=by
 refine yZ 0 er rfl λI=>?_
 rw[xZ]at I;refine Xd.s T9 ?_;refine xm T9 (Xd.l 0) l.length (λi=>⟨[(0,.w (.c (.d (.sl (zL l))))),(1,.w (.c (.d (.fn g [cap])))),(7,zh (zL l).length),(8,zh i)],[]⟩) (λi=>zO p 0 l=zO p i (l.drop i)) ?_;intro i hi o
 conv=>whnf
 rw[xZ];refine xL (λj=>?_) (λP=>?_)
 .rw[zm j]at o;have T:=jq j;have wi:=zu j I;have R:=U l[i];simp only[zO]at o;generalize l[i]=s at*;generalize p s=b at*;obtain⟨nm,⟨tc,tr⟩⟩:=s;refine zw T ?_;refine aF R ?_;refine zg (b:=b) (λJ=>?_) (λJ=>?_)
  .rw[J,aH]at o;exact bX rI o.symm
  rw[J,aA]at o;refine zI j o ?_;rw[wi];rfl
 rw[aI P]at o;exact bX rI o.symm
end
section
attribute [local irreducible] Sat zH z6
theorem aad(xs):∀x∈zd xs,x.length=1:=by grind[zd]
theorem ak0(a b):zd a++zd b=zd (a++b):=by simp[zd]
def aEy:am D:=[.sl []]
theorem ala(n:Nat)(j:n<=1000000):zH Pg ac2 [.c .nil,.c (int n)] [] (λr=>(n=0/\r=⟨.w (.c .nil),[]⟩)\/(0<n/\r=⟨.w (.c (.own 0 1 0)),[.arr 1 (co n aEy) false]⟩)):=by
 refine vF T8 acA.ok er ep ?_;have h0:aG.wrap ((0:Int)-0)=0:=zT ej ej;have i:aG.wrap ((n:Int)-aG.wrap (0-0))=n:=by grind[zT]
 conv=>whnf
 rw[i];refine zt (λg=>?_) (λg=>?_)
 .have g:=aP g;(conv=>whnf);refine⟨by simp[ye],by simp[ye],by simp[ye],?_⟩;(conv=>whnf);refine⟨ej,by grind[zW],ej,?_⟩;(conv=>whnf);refine⟨by simp[ye],by simp[ye],?_⟩;(conv=>whnf);exact .inr ⟨ej,rfl⟩
 have g:=aT g;(conv=>whnf);exact .inl ⟨ej,rfl⟩
def cwC(xs ys:am (am Val)):W:=.c (.d (.sl [[.sl (zd xs)],[.sl (zd ys)]]))
def cwS(xs ys:am (am Val))(a b:Int):S:=⟨[(0,.w (cwC xs ys)),(3,zh a),(9,.w (cwC xs ys)),(10,zh 2),(11,zh b)],[]⟩
def cwT(xs ys:am (am Val))(p n:Nat)(g:am (am D))(b:Int):S:=⟨[(6,cV (.own p 1 n)),(25,.w (cwC xs ys)),(26,zh 2),(27,zh b)],[(p,.arr 1 g false)]⟩
def cwF(xs ys:am (am Val))(x:Nat×am (am D)):S:=match x.1 with|0=>cwT xs ys 33 0 x.2 0|1=>cwT xs ys 33 xs.length x.2 1|_=>cwT xs ys 33 (xs++ys).length x.2 2
theorem avi{xs ys:am (am Val)}(I:xs.length<=100000)(J:ys.length<=100000){Q:E->S->Prop}{s}(g:am (am D))(h0:xO s [6,25,26,27] (· =cwT xs ys 33 0 g 0))
 (p:Q (.exit 2) ⟨[(6,cV (.own 33 1 (xs++ys).length)),(25,.w (cwC xs ys)),(26,zh 2),(27,zh 2),(28,yf (decide ((2:Int)<2)))],[(33,.arr 1 (zd (xs++ys)) false)]⟩):
 z6 (mwpR Pg T8.f (ub.l 1)) [6,25,26,27] Q s:=by
 have v1:aG.wrap ((0:Int)+1)=1:=zT ej ej;have r:aG.wrap ((1:Int)+1)=2:=zT ej ej;refine yD (P:=Pg) (f:=T8.f) (body:=(ub.l 1)) (cwF xs ys) (λx=>2-x.1) (λx=>x.1=0\/(x.1=1/\x.2=zd xs)\/(x.1=2/\x.2=zd (xs++ys))) ⟨(0,g),.inl rfl,h0⟩ ?_;rintro⟨i,g⟩ o;have j:i=0\/(i=1/\g=zd xs)\/(i=2/\g=zd (xs++ys)):=o;clear o;rcases j with rfl|⟨rfl,j⟩|⟨rfl,j⟩
 .refine xK ?_;refine⟨aad xs,by grind[zW,zq],by grind[zq],?_⟩;(conv=>whnf);refine⟨(1,g.take 0++zd xs),⟨.inr (.inl ⟨rfl,ep⟩),ek⟩,zi ?_⟩;(conv=>whnf);rw[v1,bN,zq];rfl
 .refine xK ?_;refine⟨aad ys,by grind[zW,zq],by grind[zq],?_⟩;(conv=>whnf);refine⟨(2,g.take xs.length++zd ys),⟨.inr (.inr ⟨rfl,by grind[zq,ak0]⟩),ek⟩,zi ?_⟩;(conv=>whnf);rw[r,zq,<-aB];rfl
 (conv=>whnf);subst j;exact p
theorem ahb(xs ys)(g:xs.length<=100000)(j:ys.length<=100000):
 ex aaJ [cwC xs ys] ⟨.w (.c (.own 0 1 (xs++ys).length)),[.arr 1 (zd (xs++ys)) false]⟩:=by
 refine z7 T8 ub.ok er ?_;have I:aG.wrap ((0:Int)+((zd xs).length:Nat))=((xs.length:Nat):Int):=by grind[zq,zT]
 have J:aG.wrap (((xs.length:Nat):Int)+((zd ys).length:Nat))=((xs.length+ys.length:Nat):Int):=by grind[zq,zT]
 have v1:aG.wrap ((0:Int)+1)=1:=zT ej ej;have p:aG.wrap ((1:Int)+1)=2:=zT ej ej;refine xm T8 (ub.l 0) 2 (λi=>match i with|0=>cwS xs ys 0 0|1=>cwS xs ys xs.length 1|_=>cwS xs ys ((xs.length+ys.length:Nat):Int) 2) (λ_=>True) ?_
 intro i P _;obtain rfl|rfl|rfl:i=0\/i=1\/i=2:=ej
 .refine xK ?_;rw[I];(conv=>whnf);refine⟨ej,trivial,zi ?_⟩;(conv=>whnf);rw[v1];rfl
 .refine xK ?_;rw[J];(conv=>whnf);refine⟨ej,trivial,zi ?_⟩;(conv=>whnf);rw[p];rfl
 (conv=>whnf);refine zH.mono (ala (xs.length+ys.length) ej) ?_;rintro r (⟨o,rfl⟩|⟨o,rfl⟩)
 ·(conv=>whnf);refine avi g j [] ⟨_,zx 6 33 1 ej ej rfl,?_⟩ ?_
  .exact rfl
  exact rfl
 (conv=>whnf);refine avi g j (co (xs.length+ys.length) aEy) ⟨_,wY 6 600384 33 1 0 _ ej rfl rfl,?_⟩ ?_
 .exact rfl
 exact rfl
theorem avG(xs):∀x∈zL xs,x.length=3:=by intro x g;simp only[zL,bA]at g;obtain⟨a,_,rfl⟩:=g;rfl
theorem aiR(l)(g:l.length<=1000000):Sat Pg acY [.c (.d (.sl (zL l)))] (λr=>(l=[]/\r=rC .nil)\/r=aaU 3 (zL l)):=by
 refine acx.s T8 ?_;refine⟨λh=>?_,?_⟩
 .conv=>whnf
  left
  refine⟨?_,rfl⟩;cases l with
  |nil=>rfl
  |cons a r=>cases h
 (conv=>whnf);refine⟨avG l,by grind[zW,xZ],by grind[xZ],?_⟩;(conv=>whnf)
 right
 show Res.mk (.w (.c (.own 0 3 (([]:am (am D)).length+(zL l).length)))) [.arr 3 (([]:am (am D)).take ([]:am (am D)).length++zL l) false]=_;simp_all[aaU]
end
section
attribute [local irreducible] Sat zH z6 zl
theorem ak2(cols)(r)(l):xi cols (r::l)=bif valuesErr cols r !=0 then valuesErr cols r else xi cols l:=by grind[xi,valuesErr]
def gwS(d:am Nmd)(g name:ByteArray)(l:am Stp)(j t:Tbl)(rows:am (am Val))(k i:Nat):S:=
 ⟨[(0,.w (.c (.d (.sl (zL d))))),(3,.w (.c (.d (.sl (zd rows))))),(5,cV (.ptr 5 0)),(6,cV (.ptr 6 0)),(11,cV (.ptr 11 0)),(13,zh k),(14,cV (.ptr 14 0)),(46,.w (.c (.d (.sl (zd rows))))),(47,zh rows.length),(48,zh i)],
  [(5,.box [str g,.d (.sl (vp l))]),(6,.fbox [.lit (.string name)]),(11,.box [.d (.sl (zj j.cols)),.d (.sl (zd j.rows))]),(14,.box [.d (.sl (zj t.cols)),.d (.sl (zd t.rows))])]⟩
theorem aFj{d}{name}{k}(hk:k<d.length)(g:d[k].nm=name)(t):(zL d).set k (zM d[k].ds 1 [.sl (zj t.cols),.sl (zd t.rows)])=zL (d.set k ⟨name,t⟩):=by
 unfold zL;rw[List.map_set];congr 1
 rw[<-g];rfl
theorem azL(d)(j name)(l)(rows)(R)(T)(b)(Q:Res->Prop)(hd:d.length<=1000000)(ah:rows.length<=10)
 (hC:ex ku [.c (.d (.sl (zL d)))] (rI R)) (q0:R≠0->Q (Qh R))
 (hR:ex uW [.c (.d (.sl (zL d))),bY ⟨j,l⟩] (VL (T,b))) (q1:R=0->T≠0->Q (Qh T))
 (q2:R=0->T=0->¬qv name d<d.length->Q (Qh 17))
 (hk:R=0->T=0->(hk:qv name d<d.length)->∃(tc:am Col) (tr:am (am Val)) (LB:Bool),d[qv name d]=⟨name,⟨tc,tr⟩⟩/\tr.length<=14/\(xi tc rows≠0->Q (Qh (xi tc rows)))/\
  ex abD [bY ⟨j,l⟩,.c (str name)] (rB LB)/\(xi tc rows=0->LB=true->∃mc P,ex uW [.c (.d (.sl (zL (d.set (qv name d) ⟨name,⟨tc,rows⟩⟩)))),bY ⟨j,l⟩] (VL (0,⟨mc,P⟩))/\b.rows.length+P.length<=13824/\
   ex afa [.c (.d (.sl (zL d))),bY ⟨j,l⟩,.c (str name),.c (.d (.sl (zd rows)))] (rB false)/\(∀v z,acG P 1 v->anq [] v z->Q (dOk z)))/\
  (xi tc rows=0->LB=false->∃y1 ac ar,ex uW [.c (.d (.sl (zL (d.set (qv name d) ⟨name,⟨tc,tr++rows⟩⟩)))),bY ⟨j,l⟩] (VL (y1,⟨ac,ar⟩))/\(y1≠0->Q (Qh y1))/\(y1=0->Sat Pg ae8 [b.w,Tbl.w ⟨ac,ar⟩] (λr=>∃x,Q x/\r=x/\((∃e,x=Qh e)\/∃z,x=dOk z))))):
 Sat Pg ae9 [.c (.d (.sl (zL d))),bY ⟨j,l⟩,.c (str name),.c (.d (.sl (zd rows)))] Q:=by
 have o:=aeh abC [.lit (.string name)] (λx=>zl x.nm name) d (λx=>ax4 x name);rw[ary]at o;have aa:=aiR d hd;obtain⟨bc,br⟩:=b;refine aeC.s T9 ?_;refine aF hC ?_;refine zg (b:=R !=0) (λh=>?_) (λh=>?_)
 .exact q0 (by simpa using h)
 have h:R=0:=by simpa using h
 refine aF hR ?_;refine zg (b:=T !=0) (λh1=>?_) (λh1=>?_)
 .exact q1 h ek
 have h1:T=0:=ek
 refine aF o ?_;by_cases g:qv name d<d.length
 .obtain⟨tc,tr,LB,I,ai,q3,hL,hT,hF⟩:=hk h h1 g;have e:(d.findIdx λx=>zl x.nm name)=qv name d:=rfl;rw[e,bG g,aH];have U:=jq g;rw[I]at U;have p:=λt=>aFj (name:=name) g (by rw[I]) t
  rw[I]at p;have p:∀rs,aD (zL d).length ((zL d).set ((qv name d:Nat):Int).toNat (zM (Nmd.mk name ⟨tc,tr⟩).ds (0+1) [.sl (zj (Tbl.mk tc tr).cols),.sl (zd rs)]))=zL (d.set (qv name d) ⟨name,⟨tc,rs⟩⟩):=λrs=>by
   rw[bQ (by rw[cI];omega)]
   grind
  clear hk o hC hR q0 q1 q2 I;generalize qv name d=K at*;rw[Int.zero_add,aM (show¬(K:Int)<0 by omega)];refine zw U ?_;rw[zq];refine xm T9 (aeC.l 0) rows.length (λi=>gwS d j name l ⟨bc,br⟩ ⟨tc,tr⟩ rows K i) (λi=>xi tc rows=xi tc (rows.drop i)) ?_;intro i hi o;unfold gwS;(conv=>whnf);refine xL (λJ=>?_) (λaf=>?_)
  .rw[zm J,ak2]at o;have ae:=zZ J;have wi:=zu J ej;have hV:=Wh tc rows[i];generalize rows[i]=rw at*;generalize valuesErr tc rw=ve at*;refine zw ae ?_;refine aF hV ?_;refine zg (b:=ve !=0) (λh2=>?_) (λh2=>?_)
   .rw[h2,aH]at o;rw[o]at q3;exact q3 ek
   rw[h2,aA]at o;refine zI J o ?_;rw[wi];rfl
  rw[aI af]at o;have o:xi tc rows=0:=o;have hw:aG.wrap ((tr.length:Int)+(rows.length:Int))=((tr.length+rows.length:Nat):Int):=by grind[zT]
  (conv=>whnf);rw[zq,zq,hw,aM (show¬((tr.length+rows.length:Nat):Int)>20000 by omega)];refine cJ aa ?_;rintro r (⟨h9,rfl⟩|rfl)
  .rw[h9]at g;cases g
  refine aF hL ?_;refine zg (b:=LB) (λh3=>?_) (λh3=>?_)
  .obtain⟨mc,P,ab,hb,ag,hq⟩:=hT o h3;refine Go.AM.aw2 ?_ (hB:=ek);refine⟨_,U,aN 3,?_⟩;(conv=>whnf);rw[p rows];refine aF ab ?_;have hw:aG.wrap ((br.length:Int)+(P.length:Int))=((br.length+P.length:Nat):Int):=by grind[zT]
   rw[zq,zq,hw,bG (show((br.length+P.length:Nat):Int)<=20000 by grind)];refine aF ag ?_;have hm:P.length<=50000:=ek
   refine cJ (UI P 1 ej) ?_;rintro _ ⟨ys,p1,p2,rfl⟩;have U:=Yh (ys.map (qU 1));rw[cc,p1.length_eq]at U;(conv=>whnf);refine cJ (adr [] (jh (ys.map (qU 1))) ep ej) ?_;rintro _ ⟨l',s1,s2,rfl⟩;(conv=>whnf);exact hq _ _ ⟨ys,⟨p1,p2⟩,rfl⟩ ⟨l',s1,s2,rfl⟩
  obtain⟨y1,ac,ar,ad,q5,hD⟩:=hF o h3;refine aF (ahb tr rows ej ej) ?_;refine Go.AM.aw2 ?_ (hB:=ek);refine⟨_,U,aN 3,?_⟩;(conv=>whnf);rw[show aD (tr++rows).length (zd (tr++rows))=zd (tr++rows)by grind[zq],p (tr++rows)];refine aF ad ?_;refine zg (b:=y1 !=0) (λh4=>?_) (λh4=>?_)
  .exact q5 ek
  refine cJ (hD ek) ?_;rintro _ ⟨x,hx,rfl,⟨e,rfl⟩|⟨z,rfl⟩⟩
  .exact hx
  exact hx
 have e:(d.findIdx λx=>zl x.nm name)=qv name d:=rfl;rw[e,aM g,aA];exact q2 h h1 g
end
section
attribute [local irreducible] Sat zH z6
theorem ajm(cols)(row):ex amw [.c (.d (.sl (zj cols))),zE row] (rI (valuesErr cols row)):=by
 refine yZ 1 er rfl λo=>?_
 rw[zp]at o;unfold valuesErr;rw[<-zp,<-zy];refine abl.s T6 ?_;refine zg (b:=((rowD row).length:Int) !=((zj cols).length:Int)) (λh=>?_) (λh=>?_)
 .rw[h,aH];exact rfl
 rw[h,aA];have hl:row.length=cols.length:=by grind[zp,zy]
 refine xm T6 (abl.l 0) row.length (λj=>⟨[(0,.w (.c (.d (.sl (zj cols))))),(1,.w (zE row)),(5,zh j)],[]⟩) (λj=>xG cols row=xG (cols.drop j) (row.drop j)) ?_
 intro j hj i;refine zg (λT=>?_) (λT=>?_)
 .have g:j<row.length:=by have:=aP T;grind[zp]
  have p:j<cols.length:=ej
  rw[zm g,zm p]at i;have J:=yN p;have R:=yq g;simp only[xG]at i;have U:=Y4 cols[j].t row[j];generalize yy cols[j].t row[j]=e at*;generalize cols[j]=c at*;generalize row[j]=v at*;obtain⟨cn,ct⟩:=c;obtain⟨v1,v2,v3⟩:=v;refine zw J ?_;refine zw R ?_;refine aF U ?_;refine zt (b:=e !=0) (λI=>?_) (λI=>?_)
  .rw[I,aH]at i;(conv=>whnf);rw[i];rfl
  rw[I,aA]at i;refine zI g i ?_;rw[zu g o];rfl
 have P:row.length<=j:=by grind[zp]
 rw[aI P,UK]at i;(conv=>whnf);rw[i];rfl
theorem aap(l)(row)(hl:l.length<=100000000):ex apK [.c (.d (.sl (zd l))),zE row] (rI (cnt l row)):=by
 refine adL.s T6 ?_;refine yD (P:=Pg) (f:=T6.f) (body:=(adL.l 0)) (λx:Nat×Int=>⟨[(0,.w (.c (.d (.sl (zd l))))),(1,.w (zE row)),(5,zh x.2),(6,zh x.1)],[]⟩) (λx=>l.length-x.1) (λx=>x.1<=l.length/\0<=x.2/\x.2<=x.1/\cnt l row=x.2+cnt (l.drop x.1) row) ⟨(0,0),⟨bI _,aW _,aW _,ek⟩,zi ?_⟩ ?_
 .exact rfl
 rintro⟨i,n⟩ hx;obtain⟨hi,R,aa,j⟩:i<=l.length/\0<=n/\n<=i/\cnt l row=n+cnt (l.drop i) row:=hx;have T:i<l.length->aG.wrap ((i:Int)+1)=((i+1:Nat):Int):=λh=>zu h ej
 have wn:aG.wrap (n+1)=n+1:=zT ej ej;refine zg (λp=>?_) (λp=>?_)
 .have g:i<l.length:=by have p:decide ((i:Int)<((zd l).length:Int))=true:=p;simp_all[zq]
  have hg:=zZ g;rw[zm g,Q0]at j;have U:=vJ l[i] row;generalize ordR l[i] row=o at*;generalize l[i]=x at*;refine zw hg ?_;refine aF U ?_;refine zt (b:=o==0) (λI=>?_) (λI=>?_)
  .rw[I,aH]at j;(conv=>whnf);refine⟨(i+1,n+1),⟨⟨g,ek,ek,ek⟩,ek⟩,zi ?_⟩;(conv=>whnf);rw[T g,wn];rfl
  rw[I,aA]at j;(conv=>whnf);refine⟨(i+1,n),⟨⟨g,R,ek,ek⟩,ek⟩,zi ?_⟩;(conv=>whnf);rw[T g];rfl
 have J:l.length<=i:=by grind[zq]
 rw[aI J]at j;have j:cnt l row=n:=by grind[cnt,wt]
 (conv=>whnf);rw[j];rfl
def tbx(t:Tbl):Pl:=.box [.d (.sl (zj t.cols)),.d (.sl (zd t.rows))]
end
theorem atT(l){x y}(h:ordR x y=0):wt l x=wt l y:=by
 have key:∀a:am Val,(ordR a x==0)=(ordR a y==0):=λa=>by
  have g:∀p q:am Val,ordR p q=0->ordR q p=0:=λp q e=>by have:=yP.anti p q;have:=yP.anti q p;omega
  grind[aeU]
 induction l<;>grind[wt]
theorem gt(l){x y}(h:ordR x y=0):cnt l x=cnt l y:=atT _ h
theorem anw:∀{l:am Chg}{r:am Val},(∀c∈l,ordR c.row r≠0)->wt l r=0
 |[],_,_=>rfl
 |c::l,r,h=>by simp only[wt];rw[beq_eq_false_iff_ne.2 (h c (aS ..)),anw λx g=>h x (aO _ g)];rfl
structure DInv(A B ys:am (am Val))(i:Nat)(z:am Chg):Prop where
 asc:Asc z
 mem:∀c∈z,c.row∈ys.take i/\c.n≠0/\c.n=cnt B c.row-cnt A c.row
 all:∀r∈ys.take i,(∃c∈z,ordR c.row r=0)\/cnt B r=cnt A r
 len:z.length<=i
theorem aHu(A B ys):DInv A B ys 0 []:=⟨bD,λc g=>(by cases g),λr hr=>(by cases hr),aN _⟩
theorem aiC{ys:am (am Val)}{i}(h:i<ys.length){r}(hr:r∈ys.take (i+1)):r∈ys.take i\/r=ys[i]:=by grind[zD]
theorem aso{ys:am (am Val)}{i}(h:i<ys.length):ys[i]∈ys.take (i+1):=by grind[zD]
theorem asp{ys:am (am Val)}{i}{r}(h:r∈ys.take i):r∈ys.take (i+1):=(List.take_subset_take_left _ (Nat.le_succ i)) h
theorem azn{A B ys}{i}{z}(h:DInv A B ys i z)(j:i<ys.length){x}(l:x∈ys.take i)(o:ordR ys[i] x=0):DInv A B ys (i+1) z:=by
 refine⟨h.asc,λc g=>⟨asp (h.mem c g).1,(h.mem c g).2⟩,λr hr=>?_,Nat.le_succ_of_le h.len⟩;rcases aiC j hr with hr|rfl
 .exact h.all r hr
 have hs:ordR x ys[i]=0:=by have:=yP.anti x ys[i];have:=yP.anti ys[i] x;omega
 rcases h.all x l with⟨c,g,e⟩|e<;>grind[aeU,gt]
theorem azo{A B ys}{i}{z}(h:DInv A B ys i z)(j:i<ys.length)(l:cnt B ys[i]-cnt A ys[i]=0):DInv A B ys (i+1) z:=by
 refine⟨h.asc,λc g=>⟨asp (h.mem c g).1,(h.mem c g).2⟩,λr hr=>?_,Nat.le_succ_of_le h.len⟩;rcases aiC j hr with hr|rfl
 .exact h.all r hr
 grind
theorem aAb{ys}(hs:Y5 ys){i}(hi:i<ys.length)(g:∀x,(ys.take i).getLast?=some x->ordR ys[i] x≠0):∀r∈ys.take i,ordR r ys[i]<0:=by
 have j:=hs;unfold Y5 at j;have R:ys=ys.take i++ys[i]::ys.drop (i+1):=by grind[zm,bT]
 rw[R,aY]at j;intro r hr;cases o:(ys.take i).getLast? with
 |none=>grind
 |some y=>
  obtain⟨zs,e⟩:=List.getLast?_eq_some_iff.1 o;have g:=g y o;have hy:ordR y ys[i]<0:=by have T:=j.2.2 y ek ys[i] (aS ..);have:=yP.anti y ys[i]<;>grind
  rw[e]at hr;rcases bE.1 hr with hr|hr
  .have l:=j.1;rw[e,aY]at l;have U:=l.2.2 r hr y (aR.2 rfl);have p:ordR r y<=0:=yP.ge.1 ej;by_cases I:ordR r y=0
   .have:=yP.zero.1 I;have h6:ordR r ys[i]<=0:=yP.trans r y ys[i] p ej
    grind[aeU]
   have J:ordR r y<0:=ej
   have P:ordR y ys[i]<=0:=ej
   exact yP.lt_of J P
  grind
theorem aB2{A B ys}{i}{z}(h:DInv A B ys i z)(hs:Y5 ys)(l:i<ys.length)(j:∀x,(ys.take i).getLast?=some x->ordR ys[i] x≠0)(p:cnt B ys[i]-cnt A ys[i]≠0):DInv A B ys (i+1) (z++[⟨ys[i],cnt B ys[i]-cnt A ys[i]⟩]):=by
 refine⟨?_,λc g=>?_,λr hr=>?_,by rw[aB,cC];exact Nat.succ_le_succ h.len⟩
 .unfold Asc;rw[aY];refine⟨h.asc,List.pairwise_singleton ..,λc g d o=>?_⟩;rw[aR.1 o];exact aAb hs l j _ (h.mem c g).1
 .rcases bE.1 g with g|g
  .exact⟨asp (h.mem c g).1,(h.mem c g).2⟩
  grind[aso]
 rcases aiC l hr with hr|rfl
 .rcases h.all r hr with⟨c,g,e⟩|e<;>grind
 exact .inl ⟨_,List.mem_append_right _ (aR.2 rfl),yP.refl _⟩
theorem aB1{a b}{ys}{z}(I:tblErr a=0)(J:tblErr b=0)(ec:a.cols=b.cols)(R:ys.Perm (a.rows++b.rows))(h:DInv a.rows b.rows ys ys.length z):DiffOk a b z:=by
 obtain⟨U,a2,a3,a4⟩:=(qY a).1 I;obtain⟨b1,b2,b3,b4⟩:=(qY b).1 J;have i:∀r∈ys,valuesErr a.cols r=0:=λr hr=>ek
 have j:∀c∈z,c.row∈ys:=λc j=>by have:=(h.mem c j).1<;>grind
 refine⟨h.asc,λc g=>⟨(h.mem c g).2.1,(jR (i _ (j c g))).2⟩,λc g=>⟨i _ (j c g),?_⟩,λr=>?_,?_⟩
 .have:=(h.mem c g).2.2;have:=jO b.rows c.row;have:=jO a.rows c.row;omega
 .by_cases o:∃c∈z,ordR c.row r=0
  .obtain⟨c,g,e⟩:=o;rw[<-atT z e,acm h.asc c g,(h.mem c g).2.2,gt _ e,gt _ e]
  have o:∀c∈z,ordR c.row r≠0:=λc g e=>o ⟨c,g,e⟩
  rw[anw o];by_cases p:∃y∈ys,ordR y r=0
  .obtain⟨y,p,e⟩:=p;have:=h.all y ek
   grind[aeU,gt]
  have hn:∀l:am (am Val),(∀x∈l,x∈ys)->cnt l r=0:=λl P=>by
   unfold cnt;refine anw λc g=>?_
   obtain⟨x,T,rfl⟩:=bA.1 g;exact λe=>p ⟨x,P x T,e⟩
  grind
 have:=R.length_eq;rw[aB]at this;have:=h.len;omega
section
attribute [local irreducible] Sat zH z6
theorem alj(a b):ex ar7 [.c (.d (.sl (zj a))),.c (.d (.sl (zj b)))] (rB (qV a b)):=by
 refine yZ 0 er rfl λj=>?_
 rw[zy]at j;unfold qV;refine aeL.s T6 ?_;rw[zy,zy];refine zt (λh=>?_) (λh=>?_)
 .rw[h];exact rfl
 rw[h];have R:=amA h;simp only[aA];refine xm T6 (aeL.l 0) a.length (λi=>⟨[(0,.w (.c (.d (.sl (zj a))))),(1,.w (.c (.d (.sl (zj b))))),(5,zh i)],[]⟩) (λi=>xB eqC a b=xB eqC (a.drop i) (b.drop i)) ?_
 intro i T o;refine zg (λP=>?_) (λP=>?_)
 .have g:i<a.length:=by simp_all[zy]
  have p:i<b.length:=ej
  rw[zm g,zm p]at o;refine zw (yN g) ?_;refine zw (yN p) ?_;refine zg (b:=!eqC a[i] b[i]) (λI=>?_) (λI=>?_)
  .simp only[xB,I,aH]at o;(conv=>whnf);exact bX rB o.symm
  simp only[xB,I,aA]at o;refine zI g o ?_;rw[zu g j];rfl
 have J:a.length<=i:=by grind[zy]
 rw[UO _ J R]at o;(conv=>whnf);exact bX rB o.symm
def UH(e:Int):Res:=⟨.tup [.c (.d (.sl [])),.c (int e)],[]⟩
def ab6(a b)(r):=
 bif tblErr a !=0 then r=UH (tblErr a)else bif tblErr b !=0 then r=UH (tblErr b)else bif !qV a.cols b.cols then r=UH 10 else∃z,DiffOk a b z/\r=dOk z
def kE(a b:Tbl)(r:Res):=r.v.plain=true/\ab6 a b r.asData
def dfS(a b:Tbl)(ys:am (am Val))(i:Nat)(z:am Chg):S:=⟨[(2,cV (.ptr 2 0)),(3,cV (.ptr 3 0)),(7,cV (.own 84 2 z.length)),(8,.w (.c (.d (.sl (zd ys))))),(9,zh i)],[(2,tbx a),(3,tbx b),(84,.arr 2 (yz z) false)]⟩
attribute [local irreducible] kE in
theorem anb(a b:Tbl)(la:a.rows.length<=50000)(lb:b.rows.length<=50000):Sat Pg afm [a.w,b.w] (ab6 a b):=by
 refine Sat.data (Q:=kE a b) ?_ (λr h=>by grind[kE]);have a1:=wS a;have a2:=wS b;have aw:=alj a.cols b.cols;have ab:=λrow=>aap a.rows row ej
 have ad:=λrow=>aap b.rows row ej
 have a6:=ane (a.rows++b.rows) ek;have av:=@aaZ a.cols b.cols;have T:=@aB1 a b;have hq:∀r:Res,r.v.plain=true->(bif tblErr a !=0 then r.asData=UH (tblErr a)else bif tblErr b !=0 then r.asData=UH (tblErr b)else bif !qV a.cols b.cols then r.asData=UH 10 else∃z,DiffOk a b z/\r.asData=dOk z)->kE a b r:=λr h1 h2=>by grind[kE,ab6]
 obtain⟨ac,j⟩:=a;obtain⟨bc,br⟩:=b;simp only at hq aw ab ad a6 av T;have la:j.length<=50000:=la;have lb:br.length<=50000:=lb;generalize tblErr ⟨ac,j⟩=e1,tblErr ⟨bc,br⟩=e2,qV ac bc=sc at*;refine aeM.s T6 ?_;refine aF a1 ?_;refine zt (b:=e1==0) (λh1=>?_) (λh1=>?_)
 .have az:e1=0:=ek
  have af:(e1 !=0)=false:=ek
  simp only[af,aA]at hq;refine aF a2 ?_;refine zt (b:=e2==0) (λh2=>?_) (λh2=>?_)
  .have a0:e2=0:=ek
   have U:(e2 !=0)=false:=ek
   simp only[U,aA]at hq;(conv=>whnf);refine Sat.cal (aw) ?_;cases sc with
   |false=>
    (conv=>whnf);exact hq _ rfl rfl
   |true=>
    have T:=λys z=>@T ys z az a0 (av rfl)
    refine zg (λp=>?_) (λp=>?_)
    .have p:(e2 !=0)=true:=p;rw[U]at p;cases p
    clear p;(conv=>whnf);have ax:∀l:am (am Val),∀y∈zd l,y.length=1:=λl y hy=>by grind[zd]
    have ag:∀n:Nat,n<=200000->zW n 24/\n<=9223372036854775807:=λn h=>⟨by grind[zW],ej⟩
    have ah:=zq j;have aq:=zq br;have au:∀l,l=zd (j++br)->Sat Pg afp [.c (.d (.sl l))] (λr=>∃ys,aqp (j++br) ys/\r=rC (.d (.sl (zd ys)))):=λl h=>ek
    have a8:([].take 0++zd j).take (0+(zd j).length)++zd br=zd (j++br):=by grind[ak1]
    have a7:∀n,n=0+(zd j).length+(zd br).length->(([].take 0++zd j).take (0+(zd j).length)++zd br).take n=zd (j++br):=λn h=>ek
    refine⟨?_,?_⟩;(conv=>whnf);refine⟨?_,?_⟩
    all_goals
     (conv=>whnf);refine⟨ax j,(ag _ (by simp only[bF,bN,ah];omega)).1,(ag _ (by simp only[bF,bN,ah];omega)).2,?_⟩;(conv=>whnf);refine⟨ax br,(ag _ (by simp only[bF,bN,ah,aq];omega)).1,(ag _ (by simp only[bF,bN,ah,aq];omega)).2,?_⟩;(conv=>whnf);refine cJ (au _ (a7 _ rfl)) ?_;rintro _ ⟨ys,ao,rfl⟩;have bb:ys.length<=100000:=by have:=ao.1.length_eq;rw[aB]at this;omega
     (conv=>whnf);refine yD (P:=Pg) (f:=T6.f) (body:=(aeM.l 0)) (λx:Nat×am Chg=>dfS ⟨ac,j⟩ ⟨bc,br⟩ ys x.1 x.2) (λx=>ys.length-x.1) (λx=>x.1<=ys.length/\DInv j br ys x.1 x.2) ⟨(0,[]),⟨bI _,aHu _ _ _⟩,⟨_,zx 7 84 2 ej ej rfl,?_⟩⟩ ?_
     .exact rfl
     rintro⟨i,z⟩ hx;obtain⟨hi,hI⟩:i<=ys.length/\DInv j br ys i z:=hx;have wi:i<ys.length->aG.wrap ((i:Int)+1)=((i+1:Nat):Int):=λh=>zu h ej
     have bd:z.length<=i:=hI.len;have an:(yz z).take z.length=yz z:=by rw[<-xA,bJ]
     refine zg (λk1=>?_) (λk1=>?_)
     .have g:i<ys.length:=by have k1:decide ((i:Int)<((zd ys).length:Int))=true:=k1;have:=aP k1;rw[zq]at this;omega
      have hg:=zZ g;have ab:=ab ys[i];have ad:=ad ys[i];have I:∀k (hk:k<ys.length),i=k+1->(ys.take i).getLast?=some ys[k]:=λk hk e=>by rw[e,zD hk,List.getLast?_append,List.getLast?_singleton];rfl
      have J:∀k (hk:k<ys.length),i=k+1->ordR ys[i] ys[k]=0->DInv j br ys (i+1) z:=λk hk e h=>azn hI g (by rw[e];exact aso hk) h
      have ae:=azo hI g;have ai:=aB2 hI ao.2 g;have aa:=λy=>vJ ys[i] y
      have a9:=jO br ys[i];have ba:=jO j ys[i];clear hI;generalize ys[i]=x at*;generalize cnt br x=m at*;generalize cnt j x=n at*;have ay:aG.wrap (m-n)=m-n:=zT ej ej;refine zg (b:=decide ((i:Int)>0)) (λk2=>?_) (λk2=>?_)
      .have k2:=aP k2;obtain⟨k,hk⟩:∃k,i=k+1:=⟨i-1,ej⟩;have aj:k<ys.length:=ej
       have wl:aG.wrap ((i:Int)-1)=(k:Int):=by rw[zT ej ej];omega
       have a3:=zZ aj;have I:=I k aj hk;have J:=J k aj hk;generalize ys[k]=y at*;have aa:=aa y;generalize a5:ordR x y=o at*;refine zw hg ?_;rw[wl];refine zw a3 ?_;refine aF aa ?_;refine zt (b:=o==0) (λk3=>?_) (λk3=>?_)
       ·(conv=>whnf);refine⟨(i+1,z),⟨⟨g,J (by simpa using k3)⟩,by show ys.length-(i+1)<ys.length-i;omega⟩,zi ?_⟩;(conv=>whnf);rw[wi g];rfl
       have ak:∀w,(ys.take i).getLast?=some w->ordR x w≠0:=λw hw=>by rw[I]at hw;cases hw;rw[a5];simpa using k3
       refine zw hg ?_;refine zw hg ?_;refine aF ad ?_;refine aF ab ?_;rw[ay];refine zt (b:=m-n !=0) (λR=>?_) (λR=>?_)
       .have R:m-n≠0:=by simpa using R
        have al:=ai ak R;refine zw hg ?_;refine yQ ?_;refine⟨(i+1,z++[⟨x,m-n⟩]),⟨⟨g,al⟩,by show ys.length-(i+1)<ys.length-i;omega⟩,zi ?_⟩;(conv=>whnf);rw[wi g,an];show _=S.mk [_,_,(7,cV (.own 84 2 (z++[Chg.mk x (m-n)]).length)),_,_] [_,_,(84,.arr 2 (yz (z++[Chg.mk x (m-n)])) false)];rw[<-acD,aB];rfl
       have R:m-n=0:=by simpa using R
       (conv=>whnf);refine⟨(i+1,z),⟨⟨g,ae R⟩,by show ys.length-(i+1)<ys.length-i;omega⟩,zi ?_⟩;(conv=>whnf);rw[wi g];rfl
      have k2:=aT k2;have ak:∀w,(ys.take i).getLast?=some w->ordR x w≠0:=λw hw=>by rw[show i=0 by omega]at hw;cases hw
      refine zw hg ?_;refine zw hg ?_;refine aF ad ?_;refine aF ab ?_;rw[ay];refine zt (b:=m-n !=0) (λR=>?_) (λR=>?_)
      .have R:m-n≠0:=by simpa using R
       have al:=ai ak R;refine zw hg ?_;refine yQ ?_;refine⟨(i+1,z++[⟨x,m-n⟩]),⟨⟨g,al⟩,by show ys.length-(i+1)<ys.length-i;omega⟩,zi ?_⟩;(conv=>whnf);rw[wi g,an];show _=S.mk [_,_,(7,cV (.own 84 2 (z++[Chg.mk x (m-n)]).length)),_,_] [_,_,(84,.arr 2 (yz (z++[Chg.mk x (m-n)])) false)];rw[<-acD,aB];rfl
      have R:m-n=0:=by simpa using R
      (conv=>whnf);refine⟨(i+1,z),⟨⟨g,ae R⟩,by show ys.length-(i+1)<ys.length-i;omega⟩,zi ?_⟩;(conv=>whnf);rw[wi g];rfl
     have a4:i=ys.length:=by have k1:decide ((i:Int)<((zd ys).length:Int))=false:=k1;have:=aT k1;rw[zq]at this;omega
     rw[a4]at hI;have hz:=T ys z ao.1 hI;(conv=>whnf);refine hq _ rfl ⟨z,hz,?_⟩;show Res.mk (.tup [.c (.d (.sl ((yz z).take z.length))),.c (int 0)]) []=_;rw[an];rfl
  have U:(e2 !=0)=true:=ek
  simp only[U,aH]at hq;refine zg (λp=>?_) (λp=>?_)
  ·(conv=>whnf);exact hq _ rfl rfl
  have p:(e2 !=0)=false:=p;exact absurd (U.symm.trans p) ep
 have af:(e1 !=0)=true:=ek
 simp only[af,aH]at hq;refine zg (λh2=>?_) (λh2=>?_)
 .have h2:(e1==0)=true:=h2;exact absurd (h1.symm.trans h2) ep
 refine zg (λp=>?_) (λp=>?_)
 ·(conv=>whnf);exact hq _ rfl rfl
 have p:(e1 !=0)=false:=p;exact absurd (af.symm.trans p) ep
end
section
attribute [local irreducible] Sat zH z6 zl
theorem aEL{d}{name}(h:yt d=0){i}(j:i<d.length)(o:d[i].nm=name):qv name d=i:=by
 have l:=(arh (aBW h).2).2;have hk:qv name d<=i:=by
  refine Nat.le_of_not_lt λg=>?_
  have:=List.not_of_lt_findIdx (p:=λx:Nmd=>zl x.nm name) g
  grind[beqS_self]
 by_cases g:qv name d<i
 .have:=List.pairwise_iff_getElem.1 l (qv name d) i ej j g
  grind[agi]
 omega
def atI(name)(d)(i):=bif decide (qv name d<i)then((qv name d:Nat):Int)else-1
def rg0(d:am Nmd)(g name:ByteArray)(l:am Stp)(j:Tbl)(rows:am (am Val))(i:Nat):S:=
 ⟨[(0,.w (.c (.d (.sl (zL d))))),(2,.w (.c (str name))),(3,.w (.c (.d (.sl (zd rows))))),(5,cV (.ptr 5 0)),(11,cV (.ptr 11 0)),(13,.w (.c (int (atI name d i)))),(14,zh i)],
  [(5,.box [str g,.d (.sl (vp l))]),(11,.box [.d (.sl (zj j.cols)),.d (.sl (zd j.rows))])]⟩
def rg1(d:am Nmd)(g name:ByteArray)(l:am Stp)(j t:Tbl)(rows:am (am Val))(k i:Nat):S:=
 ⟨[(0,.w (.c (.d (.sl (zL d))))),(2,.w (.c (str name))),(3,.w (.c (.d (.sl (zd rows))))),(5,cV (.ptr 5 0)),(11,cV (.ptr 11 0)),(13,zh k),(15,cV (.ptr 15 0)),(16,zh i)],
  [(5,.box [str g,.d (.sl (vp l))]),(11,.box [.d (.sl (zj j.cols)),.d (.sl (zd j.rows))]),(15,.box [.d (.sl (zj t.cols)),.d (.sl (zd t.rows))])]⟩
theorem aGT(d)(name)(x:Nmd)(tc)(tr rows)(K):aD (([]:am (am D)).length+(zL d).length) ((aD ([]:am (am D)).length []++zL d).set (K:Int).toNat (zM x.ds 0 [.lit (.string name),.sl (zj tc),.sl (aD (([]:am (am D)).length+(zd tr).length+(zd rows).length) (aD (([]:am (am D)).length+(zd tr).length) (aD ([]:am (am D)).length []++zd tr)++zd rows))]))=zL (d.set K ⟨name,⟨tc,tr++rows⟩⟩):=by simp only[bF,dd,bR,bN];rw[bQ eu,bQ (l:=zd tr) (aN _),bQ eu,ak0];unfold zL;rw[List.map_set];rfl
attribute [local simp] zq xZ
theorem axX(d)(j name)(l)(rows)(I)(b)(Q:Res->Prop)(hd:d.length<=1000000)(ad:rows.length<=10)(q0:yt d≠0->Q (Qh (yt d)))
 (hR:ex Zx [.c (.d (.sl (zL d))),bY ⟨j,l⟩] (VL (I,b))) (q1:yt d=0->I≠0->Q (Qh I))
 (q2:yt d=0->I=0->¬qv name d<d.length->Q (Qh 17))
 (hk:yt d=0->I=0->(hk:qv name d<d.length)->∃(tc:am Col) (tr:am (am Val)),d[qv name d]=⟨name,⟨tc,tr⟩⟩/\tr.length<=14/\(xi tc rows≠0->Q (Qh (xi tc rows)))/\
  (xi tc rows=0->∃P ac ar,ex Zx [.c (.d (.sl (zL (d.set (qv name d) ⟨name,⟨tc,tr++rows⟩⟩)))),bY ⟨j,l⟩] (VL (P,⟨ac,ar⟩))/\(P≠0->Q (Qh P))/\(P=0->Sat Pg afm [b.w,Tbl.w ⟨ac,ar⟩] (λr=>∃x,Q x/\r=x/\((∃e,x=UH e)\/∃z,x=dOk z))))):
 Sat Pg afo [.c (.d (.sl (zL d))),bY ⟨j,l⟩,.c (str name),.c (.d (.sl (zd rows)))] Q:=by
 have hC:=Zi d;have J:=λh i (hi:i<d.length) (hn:d[i].nm=name)=>aEL (name:=name) h hi hn
 obtain⟨bc,br⟩:=b;generalize hE:yt d=e0 at*;refine KU.s T9 ?_;refine aF hC ?_;refine zg (b:=e0 !=0) (λh=>?_) (λh=>?_)
 .exact q0 (by simpa using h)
 have h:e0=0:=by simpa using h
 have J:=J h;refine aF hR ?_;refine zg (b:=I !=0) (λh1=>?_) (λh1=>?_)
 .exact q1 h ek
 have h1:I=0:=ek
 refine xm T9 (KU.l 0) d.length (λi=>rg0 d j name l ⟨bc,br⟩ rows i) (λ_=>True) ?_;intro i hi _;unfold rg0;(conv=>whnf);rw[xZ];refine xL (λg=>?_) (λU=>?_)
 .have T:=jq g;have wi:=zu g ej;have J:=J i g;have hv:=@agi name d;have h2:∀h:qv name d=i,d[i].nm=name:=λh=>ek
  generalize d[i]=x at*;obtain⟨xn,⟨xc,xr⟩⟩:=x;refine zw T ?_;refine zg (b:=zl xn name) (λh3=>?_) (λh3=>?_)
  .have e:=J ((beqS_iff _ _).1 h3);refine zI g trivial ?_;rw[wi];show S.mk _ _=S.mk _ _;have e2:atI name d (i+1)=(i:Int):=by grind[atI]
   rw[e2];rfl
  have e:qv name d≠i:=λh=>by grind[WP]
  refine zI g trivial ?_;rw[wi];have e2:atI name d (i+1)=atI name d i:=by grind[atI]
  rw[e2];rfl
 have hi:i=d.length:=ej
 subst hi;by_cases p:qv name d<d.length
 .obtain⟨tc,tr,R,ae,q3,hF⟩:=hk h h1 p;have e:atI name d d.length=((qv name d:Nat):Int):=by grind[atI]
  have T:=jq p;rw[R]at T;rw[e];clear hk hR q0 q1 q2 R J hC e;generalize qv name d=K at*;refine zw T ?_;refine xm T9 (KU.l 1) rows.length (λi=>rg1 d j name l ⟨bc,br⟩ ⟨tc,tr⟩ rows K i) (λi=>xi tc rows=xi tc (rows.drop i)) ?_;intro i hi o;unfold rg1;(conv=>whnf);rw[zq];refine xL (λg=>?_) (λU=>?_)
  .rw[zm g,ak2]at o;have ab:=zZ g;have wi:=zu g ej;have hV:=ajm tc rows[i];generalize rows[i]=rw at*;generalize valuesErr tc rw=ve at*;refine zw ab ?_;refine aF hV ?_;refine zg (b:=ve !=0) (λh2=>?_) (λh2=>?_)
   .rw[h2,aH]at o;rw[o]at q3;exact q3 ek
   rw[h2,aA]at o;refine zI g o ?_;rw[wi];rfl
  rw[aI U]at o;obtain⟨P,ac,ar,aa,q5,hD⟩:=hF o;have hw:aG.wrap ((tr.length:Int)+(rows.length:Int))=((tr.length+rows.length:Nat):Int):=by grind[zT]
  (conv=>whnf);rw[zq,zq,hw,aM (show¬((tr.length+rows.length:Nat):Int)>20000 by omega)];(conv=>whnf);refine yQ ?_ (hA:=avG d);repeat' (first|refine yQ ?_ (hA:=aad tr)|refine yQ ?_ (hA:=aad rows)|refine Go.AM.aw2 ?_ (hB:=ew)|(refine And.intro ?_ ?_<;>conv=>whnf))
  all_goals
   refine⟨_,T,aN 3,?_⟩;(conv=>whnf);rw[aGT];refine aF aa ?_;refine zg (b:=P !=0) (λh4=>?_) (λh4=>?_)
   .exact q5 (by simpa using h4)
   refine cJ (hD (by simpa using h4)) ?_;rintro _ ⟨x,hx,rfl,⟨e,rfl⟩|⟨z,rfl⟩⟩
   .exact hx
   exact hx
 have e:atI name d d.length= -1:=by grind[atI]
 rw[e];(conv=>whnf);exact q2 h h1 p
end
section
attribute [local irreducible] Sat zH z6 zl
theorem aBa{d}{cols}{s}(h:(yu d cols s).1=0)(g:s.op=6\/s.op=7):zC s.table d=some (qW d s):=by grind[qW,yu,Xm]
theorem alE{d}:∀{l:am Stp}{cols:am Col},(uQ d cols l).1=0->∀s∈l,s.op=6\/s.op=7->zC s.table d=some (qW d s)
 |x::r,cols,h,s,hs,i=>by
  simp only[uQ]at h;cases g:((yu d cols x).1 !=0)
  .rw[g,aA]at h;rcases aV.1 hs with rfl|hs
   .exact aBa (by simpa using g) i
   exact alE h s hs i
  rw[g,aH]at h
  grind
section
variable {d:am Nmd}{q:Qry}{name:ByteArray}{rows:am (am Val)}{t:Tbl}
theorem aiE{x:Int}(h:x≠0):(x !=0)=true:=by simpa using h
theorem aw9(h:yt d≠0):gE d q name rows=yt d:=by simp_all[gE,aiE]
theorem arG(h0:yt d=0)(h:(runQ d q).1≠0):gE d q name rows=(runQ d q).1:=by simp_all[gE,aiE]
theorem amf(h0:yt d=0)(g:(runQ d q).1=0)(h:zC name d=none):gE d q name rows=17:=by grind[gE]
theorem avs(h0:yt d=0)(g:(runQ d q).1=0)(i:zC name d=some t)(h:xi t.cols rows≠0):gE d q name rows=xi t.cols rows:=by simp_all[gE,aiE]
theorem avr(h0:yt d=0)(g:(runQ d q).1=0)(j:zC name d=some t)(i:xi t.cols rows=0)(h:(runQ (nxD d name (t.rows++rows)) q).1≠0):gE d q name rows=(runQ (nxD d name (t.rows++rows)) q).1:=by simp_all[gE,aiE]
theorem arF(h0:yt d=0)(g:(runQ d q).1=0)(j:zC name d=some t)(i:xi t.cols rows=0)(h:(runQ (nxD d name (t.rows++rows)) q).1=0):gE d q name rows=Q3 (runQ d q).2 (runQ (nxD d name (t.rows++rows)) q).2:=by grind[gE]
end
def aql(d)(q)(name)(rows)(r):=
 (gE d q name rows≠0/\r=UH (gE d q name rows))\/(gE d q name rows=0/\∃z,DiffOk (runQ d q).2 (gAf d q name rows) z/\r=dOk z)
def K7(d:am Nmd)(q:Qry)(name:ByteArray)(rows:am (am Val))(r:Res):=r.v.plain=true/\aql d q name rows r.asData
theorem Yz{d}{q}{name}{rows}{e}(g:e≠0)(h:gE d q name rows=e):K7 d q name rows (Qh e)/\K7 d q name rows (UH e):=
 ⟨⟨rfl,.inl ⟨ek,by rw[h];rfl⟩⟩,rfl,.inl ⟨ek,by rw[h];rfl⟩⟩
theorem axa{d}{q}{name}{rows}(h:gE d q name rows=0){z}(g:DiffOk (runQ d q).2 (gAf d q name rows) z):K7 d q name rows (dOk z):=⟨rfl,.inr ⟨h,z,g,rfl⟩⟩
structure FewG(d:am Nmd)(q:Qry)(rows:am (am Val)):Prop where
 len:d.length<=1000000
 r14:∀x∈d,x.t.rows.length<=14
 two:joins q.steps<=2
 sm:∀s∈q.steps,s.Sm
 rl:rows.length<=10
section
variable {d:am Nmd}{q:Qry}{name:ByteArray}{rows:am (am Val)}
theorem FewG.k(h:FewG d q rows):SmallK d q:=⟨λx g=>aL (h.r14 x g) ej,h.two,h.sm⟩
theorem FewG.k2(h:FewG d q rows){b}(g:b.length<=24):SmallK (nxD d name b) q:=⟨avK h.k.rows g,h.two,h.sm⟩
theorem SmallK.sat(h:SmallK d q):ex uW [.c (.d (.sl (zL d))),q.w] (VL (runQ d q)):=aFy d q h.sm λg=>(h.run g).1
theorem SmallK.len(h:SmallK d q)(h0:(runQ d q).1=0):(runQ d q).2.rows.length<=13824:=(h.run (kF h0)).2.2.2.2.1
theorem au7(hk:qv name d<d.length):d[qv name d]=⟨name,(d[qv name d]).t⟩:=by have:=agi hk;generalize d[qv name d]=x at*;obtain⟨n,t⟩:=x<;>grind
theorem axE{tc}{tr}(g:zC name d=some ⟨tc,tr⟩)(b):nxD d name b=d.set (qv name d) ⟨name,⟨tc,b⟩⟩:=by grind[nxD,tAt]
theorem ae0{t}(g:zC name d=some t):gAf d q name rows=(runQ (nxD d name (t.rows++rows)) q).2:=by grind[gAf,tAt]
end
theorem aDn(d)(q)(name)(rows)(H:FewG d q rows):Sat Pg ae9 [.c (.d (.sl (zL d))),q.w,.c (str name),.c (.d (.sl (zd rows)))] (aql d q name rows):=by
 refine Sat.data (Q:=K7 d q name rows) ?_ (λr h=>h);have hR:=H.k.sat;obtain⟨g,l⟩:=q
 refine azL d g name l rows (yt d) (runQ d ⟨g,l⟩).1 (runQ d ⟨g,l⟩).2 (K7 d ⟨g,l⟩ name rows) H.len H.rl (ju d) (λh=>(Yz h (aw9 h)).1) hR (λh0 h=>(Yz h (arG h0 h)).1)
  (λh0 i h=>(Yz ej (amf h0 i (gA h))).1) λh0 i hk=>?_
 have j:=arz hk;have ha:=au7 hk;have p:=H.r14 _ (aE hk);generalize d[qv name d]=x at*;obtain⟨xn,⟨tc,tr⟩⟩:=x;have j:zC name d=some ⟨tc,tr⟩:=j;have p:tr.length<=14:=p;refine⟨tc,tr,Wc ⟨g,l⟩ name,ha,p,λo=>(Yz o (avs h0 i j o)).1,Kn ⟨g,l⟩ name (λs hs=>aL (H.sm s hs).sorts ej),λo hl=>?_,λo hl=>?_⟩
 .have L:=az0 H.r14 H.two H.sm H.rl hl i j o;obtain⟨_,hq,t',ad,aa⟩:=agX (kF i);have T:=(H.k2 (name:=name) (b:=rows) (by have:=H.rl;omega)).sat;have ab:=(H.k.run (kF i)).2.2.2.1;refine⟨(runQ (nxD d name rows) ⟨g,l⟩).2.cols,(runQ (nxD d name rows) ⟨g,l⟩).2.rows,?_,?_,?_,?_⟩
  .rw[<-axE j];refine T.mono λr hr=>?_
   rw[hr];exact bX (λx=>VL (x,(runQ (nxD d name rows) ⟨g,l⟩).2)) L.a1
  .rw[<-aB,<-L.e];exact L.len
  .have U:=alE (by rw[<-aa];exact kF i);have hl:l.length<=16:=ab4 hq;have:=aDp d ⟨g,l⟩ name rows _ j U (show l.length<=100000 by omega);rw[L.lo]at this;exact this
  intro v z hv hz;refine axa ?_ ?_
  .rw[arF h0 i j o L.a2];unfold Q3;rw[ab,L.w,<-L.c2,JD];rfl
  rw[ae0 j];exact aCx L.v L.e L.c1 hv hz
 have R:=H.k2 (name:=name) (b:=tr++rows) (by have:=H.rl;grind);have P:=R.sat;have e1:(runQ (nxD d name (tr++rows)) ⟨g,l⟩).1≠0->gE d ⟨g,l⟩ name rows=(runQ (nxD d name (tr++rows)) ⟨g,l⟩).1:=avr (t:=⟨tc,tr⟩) h0 i j o;have e2:(runQ (nxD d name (tr++rows)) ⟨g,l⟩).1=0->gE d ⟨g,l⟩ name rows=Q3 (runQ d ⟨g,l⟩).2 (runQ (nxD d name (tr++rows)) ⟨g,l⟩).2:=arF (t:=⟨tc,tr⟩) h0 i j o;have e3:=ae0 (d:=d) (q:=⟨g,l⟩) (rows:=rows) j;have l2:=R.len;have l1:=H.k.len i;have P:ex uW [.c (.d (.sl (zL (d.set (qv name d) ⟨name,⟨tc,tr++rows⟩⟩)))),bY ⟨g,l⟩] (VL (runQ (nxD d name (tr++rows)) ⟨g,l⟩)):=by grind[axE]
 have e4:gAf d ⟨g,l⟩ name rows=(runQ (nxD d name (tr++rows)) ⟨g,l⟩).2:=e3;clear e3 R;generalize runQ (nxD d name (tr++rows)) ⟨g,l⟩=Y at*;obtain⟨y1,⟨ac,I⟩⟩:=Y;refine⟨y1,ac,I,P,λJ=>(Yz J (e1 J)).1,λJ=>?_⟩
 have e:=e2 J;have l2:I.length<=13824:=l2 J;refine(asY _ ⟨ac,I⟩ ej (show I.length<=50000 by omega)).mono λr hr=>?_
 have hr:=aEY hr;cases hb:(Q3 (runQ d ⟨g,l⟩).2 ⟨ac,I⟩ !=0)
 .rw[hb,aA]at hr
  grind[axa]
 rw[hb,aH]at hr
 grind[Yz]
theorem anF{α}{p:α->Bool}:∀{l:am α},xE p l=true->∀x∈l,p x=true
 |[],_,x,g=>by cases g
 |a::r,h,x,g=>by
  simp only[xE]at h;cases i:p a
  .grind
  rw[i,aH]at h;rcases aV.1 g with rfl|g
  .exact i
  exact anF h x g
theorem aGp{s:Stp}(h:s.few=true):s.Sm:=by
 unfold Stp.few at h;cases g:(((((!s.cond.small||decide ((s.items.length:Int)>30))||decide ((s.cols.length:Int)>30))||decide ((s.aggs.length:Int)>30))||decide ((s.sorts.length:Int)>30))||decide ((s.table.size:Int)>300))
 .simp only[aX,bZ]at g;obtain⟨⟨⟨⟨⟨_,i⟩,j⟩,l⟩,o⟩,_⟩:=g;exact⟨ej,ej,ej,ej⟩
 grind
theorem aFo{q:Qry}(h:q.few=true):∀s∈q.steps,s.Sm:=by
 unfold Qry.few at h;cases g:(decide ((q.steps.length:Int)>30)||decide ((q.src.size:Int)>300))
 .rw[g,aA]at h
  grind[aGp,anF]
 grind
theorem azH{d}{q}(h:acL d q=true):∀s∈q.steps,s.few=true:=by
 unfold acL at h;cases i:(!Ua d||!q.few||decide ((q.steps.length:Int)>10))
 .simp only[aX,dg]at i;have g:=i.1.2;unfold Qry.few at g;cases j:(decide ((q.steps.length:Int)>30)||decide ((q.src.size:Int)>300))
  .rw[j,aA]at g
   grind[ah2]
  grind
 grind
theorem aAs{a b}{r}(h:ab6 a b r):bif Q3 a b !=0 then r=UH (Q3 a b)else∃z,DiffOk a b z/\r=dOk z:=by
 unfold ab6 at h;unfold Q3;cases g:(tblErr a !=0)
 .rw[g,aA]at h;cases i:(tblErr b !=0)
  .rw[i,aA]at h
   grind
  simp_all
 simp_all
theorem anc(d)(q)(name)(rows)(H:FewG d q rows)(hS:∀s∈q.steps,s.R)(U:q.src.size<=9223372036854775807):Sat Pg afo [.c (.d (.sl (zL d))),q.w,.c (str name),.c (.d (.sl (zd rows)))] (aql d q name rows):=by
 refine Sat.data (Q:=K7 d q name rows) ?_ (λr h=>h);have hR:∀{d},SmallK d q->ex Zx [.c (.d (.sl (zL d))),q.w] (VL (runQ d q)):=λh=>aqc _ q hS U λhy=>(h.run hy).1
 obtain⟨g,l⟩:=q
 refine axX d g name l rows (runQ d ⟨g,l⟩).1 (runQ d ⟨g,l⟩).2 (K7 d ⟨g,l⟩ name rows) H.len H.rl (λh=>(Yz h (aw9 h)).1) (hR H.k) (λh0 h=>(Yz h (arG h0 h)).1)
  (λh0 j h=>(Yz ej (amf h0 j (gA h))).1) λh0 j hk=>?_
 have o:=arz hk;have ha:=au7 hk;have i:=H.r14 _ (aE hk);generalize d[qv name d]=x at*;obtain⟨xn,⟨tc,tr⟩⟩:=x;have o:zC name d=some ⟨tc,tr⟩:=o;have i:tr.length<=14:=i;refine⟨tc,tr,ha,i,λI=>(Yz I (avs h0 j o I)).1,λI=>?_⟩;have T:=H.k2 (name:=name) (b:=tr++rows) (by have:=H.rl;grind);have P:=hR T;have e1:(runQ (nxD d name (tr++rows)) ⟨g,l⟩).1≠0->gE d ⟨g,l⟩ name rows=(runQ (nxD d name (tr++rows)) ⟨g,l⟩).1:=avr (t:=⟨tc,tr⟩) h0 j o I;have e2:(runQ (nxD d name (tr++rows)) ⟨g,l⟩).1=0->gE d ⟨g,l⟩ name rows=Q3 (runQ d ⟨g,l⟩).2 (runQ (nxD d name (tr++rows)) ⟨g,l⟩).2:=arF (t:=⟨tc,tr⟩) h0 j o I;have e3:=ae0 (d:=d) (q:=⟨g,l⟩) (rows:=rows) o;have l2:=T.len;have l1:=H.k.len j;have P:ex Zx [.c (.d (.sl (zL (d.set (qv name d) ⟨name,⟨tc,tr++rows⟩⟩)))),bY ⟨g,l⟩] (VL (runQ (nxD d name (tr++rows)) ⟨g,l⟩)):=by grind[axE]
 have e4:gAf d ⟨g,l⟩ name rows=(runQ (nxD d name (tr++rows)) ⟨g,l⟩).2:=e3;clear e3 T;generalize runQ (nxD d name (tr++rows)) ⟨g,l⟩=Y at*;obtain⟨y1,⟨ac,p⟩⟩:=Y;refine⟨y1,ac,p,P,λJ=>(Yz J (e1 J)).1,λJ=>?_⟩;have e:=e2 J;have l2:p.length<=13824:=l2 J;refine(anb _ ⟨ac,p⟩ ej (show p.length<=50000 by omega)).mono λr hr=>?_
 have hr:=aAs hr;cases hb:(Q3 (runQ d ⟨g,l⟩).2 ⟨ac,p⟩ !=0)
 .rw[hb,aA]at hr
  grind[axa]
 rw[hb,aH]at hr;exact⟨_,(Yz ek e).2,hr,.inl ⟨_,rfl⟩⟩
def aH2(z:am Chg)(e:Int):Res:=⟨.tup [.c (.d (.sl (yz z))),.c (int e)],[]⟩
theorem an2{d}{q}{name}{rows}{r}(h:aql d q name rows r):∃z,r=aH2 z (gE d q name rows)/\(gE d q name rows≠0->z=[])/\(gE d q name rows=0->DiffOk (runQ d q).2 (gAf d q name rows) z):=by
 rcases h with⟨h,rfl⟩|⟨h,z,i,rfl⟩
 .exact⟨[],rfl,λ_=>rfl,λg=>absurd g h⟩
 exact⟨z,by rw[h];rfl,λg=>absurd h g,λ_=>i⟩
theorem azm{a b}(h:Q3 a b=0):tblErr a=0/\tblErr b=0/\a.cols=b.cols:=by obtain⟨x,h⟩:=ZJ.1 h<;>grind[aaZ]
theorem aCa{d}{q}{name}{rows}(h:gE d q name rows=0):(runQ d q).1=0/\∃t,zC name d=some t/\xi t.cols rows=0/\Q3 (runQ d q).2 (gAf d q name rows)=0:=by grind[gE,ae0]
theorem aGt{d}{q}{name}{rows}(h:(runQ d q).1≠0):gE d q name rows=(runQ d q).1:=by by_cases h0:yt d=0<;>simp_all[arG,runQ,Zn,aiE,aw9]
def sNo:ByteArray:=⟨#[110,111,32,116,97,98,108,101]⟩
theorem aHD:qj sNo≠0:=by
 unfold qj;cases h:zl sNo ⟨#[]⟩||decide ((sNo.size:Int)>40)
 .rw[aA];decide+kernel
 simp_all
theorem aza:∀{d pre:am Nmd},wL pre d=0->∀x∈d,qj x.nm=0
 |_::r,pre,h,z,g=>by
  obtain⟨a,_,_,e⟩:=acE h;rcases aV.1 g with rfl|g
  .exact a
  exact aza e z g
theorem aHw{d}{q}{rows}(h:(runQ d q).1=0):gE d q sNo rows=17:=by
 obtain⟨h0,_⟩:=agX (kF h);refine amf h0 h ?_;cases g:zC sNo d with
 |none=>rfl
 |some t=>
  have hk:qv sNo d<d.length:=by grind[gA]
  have:=aza (aBW h0).2 _ (aE hk)
  grind[agi,aHD]
theorem aCc{d}{q}{rows}{z}(H:FewG d q rows)(h:gE d q q.src rows=0)(o:DiffOk (runQ d q).2 (gAf d q q.src rows) z)(l:Wc q q.src=true):∀c∈z,0<=c.n:=by obtain⟨i,t,g,j,_⟩:=aCa h;have L:=az0 H.r14 H.two H.sm H.rl l i g j;exact aB0 o (m:=(runQ (nxD d q.src rows) q).2.rows) (by rw[ae0 g];exact L.e)
theorem aE0{d}{q}{rows}(h:acL d q=true)(i:∀x∈d,x.t.rows.length<=14)(hr:rows.length<=10):FewG d q rows/\q.steps.length<=10:=by
 unfold acL at h;cases g:(!Ua d||!q.few||decide ((q.steps.length:Int)>10))
 .rw[g,aA]at h;simp only[aX,dg]at g;have j:=aT g.2;refine⟨⟨?_,i,by have:=aP h;omega,aFo g.1.2,hr⟩,ej⟩
  grind[Ua]
 grind
end
end Go.Proofs.YtnlbmefhdiabcaaGreat
