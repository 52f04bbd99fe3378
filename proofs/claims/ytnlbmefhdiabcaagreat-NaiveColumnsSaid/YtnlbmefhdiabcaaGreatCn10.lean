import Derived.Sort.Statements
import Derived.Test.YtnlbmefhdiabcaaGreatCn9
set_option linter.unusedSimpArgs false
set_option linter.unusedVariables false
set_option maxRecDepth 100000
set_option maxHeartbeats 4000000
namespace Go.Proofs.YtnlbmefhdiabcaaGreat
open Go Go.AM
attribute [local irreducible] Sat zu zS zl
theorem atv {cols:List Col}{row:List Val}(hf:WX cols row=true){i:Nat}(h:i<cols.length):yy cols[i].t (at0 row i):=by
 obtain⟨hl,hff⟩:=awi hf;have:=aoO h (by omega) hff;have h8:at0 row i=row[i]'(by omega):=by simp[at0,List.getD,List.getElem?_eq_getElem (show i<row.length by omega)]
 rw[h8];exact acg this
theorem apr {cols:List Col}{row:List Val}(hf:WX cols row=true): ∀(e:Ex),e.err=0 ->(e.ty cols).2=0 ->yy (e.ty cols).1 (e.val cols row)
 | .mk op nm v ks,he,hty=>by
   have he0:xq op nm v ks.length=0 /\errL ks=0:=by
    simp only[Ex.err]at he;cases hb:(xq op nm v ks.length !=0)
    ·rw[hb,cond_false]at he;exact⟨by simpa using hb,he⟩
    ·rw[hb,cond_true]at he;rw[he]at hb;cases hb
   have hks:=k9 he0.2;obtain⟨ht1,ht2⟩:=aiA hty;have htk:=aiz cols ht1;have ih: ∀k∈ks,yy (k.ty cols).1 (k.val cols row):=λk hk=>apr hf k (hks k hk) (htk k hk)
   have hT:(Ex.ty cols (.mk op nm v ks))=vO cols op nm v (ks.map λk=>(k.ty cols).1):=by
    simp only[Ex.ty];rw[ht1,aiy ht1];rfl
   rw[aiy ht1]at ht2;rw[hT];obtain⟨hnk,ho1,ho2⟩:=X8 he0.1;have hnn:qU (valL cols row ks)=false -> ∀x∈valL cols row ks,x.k≠0:=λh x hx e=>by
    unfold qU at h;rw[List.any_eq_false]at h;exact h x hx (by simp[e])
   have hval:Ex.val cols row (.mk op nm v ks)=bif op==1 then v else bif op==2 then at0 row (zh cols nm).toNat else
    bif op==14 then jd (at0 (valL cols row ks) 0) (at0 (valL cols row ks) 1)else
    bif op==15 then v8 (jd (v8 (at0 (valL cols row ks) 0)) (v8 (at0 (valL cols row ks) 1)))else
    bif qU (valL cols row ks)then yp else Zb op nm (valL cols row ks):=by simp only[Ex.val]
   rw[hval];have hn:=he0.1;clear hval hT he hty;rw[UO]at hnn⊢;have hp: ∀k,X7 op nm=k ->(ks.length:Int)=k:=λk h=>by rw[hnk,h]
   have ho:op=1\/op=2\/(op=3\/op=4)\/(5<=op /\op<=9)\/(10<=op /\op<=13)\/op=14\/op=15\/op=16:=by omega
   have hn': ∀k:Int,op≠k ->(op==k)=false:=λk h=>by simpa using h
   rcases ho with rfl|rfl|h|h|h|rfl|rfl|rfl
   ·show yy v.k v;have hc:=Ka (by rfl) hn;refine acg ?_;unfold XU at hc;cases hb:(yx v.k v !=0)
    ·simpa using hb
    ·rw[hb,cond_true]at hc;exact hc
   ·have h2:(bif decide (zh cols nm<0)then((0:Int),(16:Int))else(uw cols (zh cols nm),0)).2=0:=ht2;have h3:=QU (λx=>zl x.name nm) cols 0 (Int.le_refl _);have h4: ¬zh cols nm<0:=λh=>by
     rw[decide_eq_true h]at h2;cases h2
    show yy (bif decide (zh cols nm<0)then((0:Int),(16:Int))else(uw cols (zh cols nm),0)).1 (at0 row (zh cols nm).toNat);have h5:(zh cols nm).toNat<cols.length:=by unfold zh at h4⊢;omega
    rw[decide_eq_false h4];have h7:uw cols (zh cols nm)=cols[(zh cols nm).toNat].t:=by simp[uw,List.getElem?_eq_getElem h5]
    simp only[cond_false];rw[h7];exact atv hf h5
   ·have hl:ks.length=1:=by
     have:=hp 1 (by rcases h with rfl|rfl<;>rfl);omega
    match ks,hl with
    | [a],_=>
      have e:vO cols op nm v ([a].map λk=>(k.ty cols).1)=uy (qa [(a.ty cols).1] (bif op==3 then 1 else 2)) (bif op==3 then 1 else 2):=by
       rcases h with rfl|rfl<;>rfl
      rw[e]at ht2⊢;obtain⟨h3,h4⟩:=yn ht2;rw[h4,hn' 1 (by omega),hn' 2 (by omega),hn' 14 (by omega),hn' 15 (by omega)];simp only[cond_false];cases hA:qU ([a].map (Ex.val cols row))
      ·exact awj (ih a (by simp)) (hnn hA _ (by simp)) h (adL h3)
      ·exact .inl rfl
   ·have hl:ks.length=2:=by
     have h':op=5\/op=6\/op=7\/op=8\/op=9:=by omega
     have:=hp 2 (by rcases h' with rfl|rfl|rfl|rfl|rfl<;>rfl);omega
    match ks,hl with
    | [a,b],_=>
      have e:vO cols op nm v ([a,b].map λk=>(k.ty cols).1)=uy (qa [(a.ty cols).1,(b.ty cols).1] 2) 2:=by
       have h':op=5\/op=6\/op=7\/op=8\/op=9:=by omega
       rcases h' with rfl|rfl|rfl|rfl|rfl<;>rfl
      rw[e]at ht2⊢;obtain⟨h3,h4⟩:=yn ht2;obtain⟨h5,h6⟩:=adM h3;rw[h4,hn' 1 (by omega),hn' 2 (by omega),hn' 14 (by omega),hn' 15 (by omega)];simp only[cond_false];cases hA:qU ([a,b].map (Ex.val cols row))
      ·exact avk (ih a (by simp)) (ih b (by simp)) (hnn hA _ (by simp)) (hnn hA _ (by simp)) h h5 h6
      ·exact .inl rfl
   ·have e:(vO cols op nm v (ks.map λk=>(k.ty cols).1)).1=1:=by
     have h':op=10\/op=11\/op=12\/op=13:=by omega
     rcases h' with rfl|rfl|rfl|rfl
     ·exact(yn ht2).2
     ·exact(yn ht2).2
     ·exact(yn ht2).2
     ·exact(yn ht2).2
    rw[e];rw[hn' 1 (by omega),hn' 2 (by omega),hn' 14 (by omega),hn' 15 (by omega)];simp only[cond_false];cases hA:qU (ks.map (Ex.val cols row))
    ·have h':op=10\/op=11\/op=12\/op=13:=by omega
     rcases h' with rfl|rfl|rfl|rfl<;>exact VB _
    ·exact .inl rfl
   ·have h2:=yn (show(uy (qa (ks.map λk=>(k.ty cols).1) 1) 1).2=0 from ht2);show yy (uy (qa (ks.map λk=>(k.ty cols).1) 1) 1).1 (jd _ _);rw[h2.2];exact ahG (aoD _ _)
   ·have h2:=yn (show(uy (qa (ks.map λk=>(k.ty cols).1) 1) 1).2=0 from ht2);show yy (uy (qa (ks.map λk=>(k.ty cols).1) 1) 1).1 (v8 (jd _ _));rw[h2.2];exact ahG (arp _ (aoD _ _))
   ·have har:=af8 rfl hn;have hlen:(ks.length:Int)=xC nm:=hnk;have ht2:(ZO nm (ks.map λk=>(k.ty cols).1)).2=0:=ht2;show yy (ZO nm (ks.map λk=>(k.ty cols).1)).1 (bif qU (ks.map (Ex.val cols row))then yp else j7 nm (ks.map (Ex.val cols row)));cases hA:qU (ks.map (Ex.val cols row))with
    |true=>exact .inl rfl
    |false=>
     exact atx (by simpa using hlen) har (by simp) (λi h1 h2=>by simpa using ih (ks[i]'(by simpa using h1)) (List.getElem_mem _)) (hnn hA) ht2
theorem arI {cols:List Col}{row:List Val}{e:Ex}{k:Int}(hf:WX cols row=true)(h:e.tyE cols=(k,0)):yy k (exprV cols row e):=by
 unfold Ex.tyE at h;obtain⟨h1,h2⟩:e.chk=0 /\e.ty cols=(k,0):=by
  cases hb:(e.chk !=0)
  ·rw[hb,cond_false]at h;exact⟨by simpa using hb,h⟩
  ·rw[hb,cond_true]at h;have:e.chk=0:=by have:=congrArg Prod.snd h;exact this
   rw[this]at hb;cases hb
 have:=apr hf e (VO h1) (by rw[h2]);rw[h2]at this;have h3:e.tyE cols=(k,0):=by unfold Ex.tyE;rw[h1];exact h2
 unfold exprV;rw[h3,hf];exact this
end Go.Proofs.YtnlbmefhdiabcaaGreat
namespace Go.Proofs.YtnlbmefhdiabcaaGreat
open Go Go.AM
attribute [local irreducible] Sat zu zS
def y5 (cols:List Col)(i:Int):Col:=cols.getD i.toNat ⟨⟨#[]⟩,0⟩
def takeErr (cols:List Col)(nms:List ByteArray):Bool:=nms.any λs=>decide (zh cols s<0)
def takeC (cols:List Col)(nms:List ByteArray):List Col:=nms.map λs=>y5 cols (zh cols s)
def QF (e:Int):Res:=⟨.tup [.c (.d (.sl [])),.c (int e)],[]⟩
def rCs (l:List Col):Res:=⟨.tup [.c (.d (.sl (zi l))),.c (int 0)],[]⟩
theorem Xb {cols:List Col}{k:Int}(h:0<=k)(h2:k<cols.length):(zi cols)[k.toNat]? =some (y5 cols k).ds:=by
 have h3:k.toNat<cols.length:=by omega
 rw[show y5 cols k=cols[k.toNat]by simp[y5,List.getD,List.getElem?_eq_getElem h3]];simp[zi,List.getElem?_eq_getElem h3]
theorem wA (cols:List Col)(s:ByteArray): ¬zh cols s<0 ->0<=zh cols s /\zh cols s<cols.length:=λh=>by
 have:=QU (λx=>zl x.name s) cols 0 (Int.le_refl _);unfold zh at h⊢;omega
def tkS (cols:List Col)(nms:List ByteArray)(i:Nat)(acc:List Col):S:=⟨[(0,.w (.c (.d (.sl (zi cols))))),(6,cV (.own 27 2 acc.length)),(10,.w (.c (.d (.sl (zp nms))))),(11,zf nms.length),(12,zf i)],[(27,.arr 2 (zi acc) false)]⟩
def rNE (e:Int):Res:=⟨.tup [.c .nil,.c (int e)],[]⟩
def rCo (l:List Col):Res:=⟨.tup [.c (.own 0 2 l.length),.c (int 0)],[.arr 2 (zi l) false]⟩
theorem abZ (cols:List Col)(nms:List ByteArray)(hn:nms.length<=1000000):Sat Pg aj8 [.c (.d (.sl (zi cols))),.c (.d (.sl (zp nms)))] (λr=>r=bif takeErr cols nms then rNE 16 else rCo (takeC cols nms)):=by
 refine zg T8 aej (by kernel_rfl) ?_
 conv=>whnf
 rw[zK];refine zF (P:=Pg) (f:=T8.f) (body:=YP) nms.length (λi=>tkS cols nms i (takeC cols (nms.take i))) (λi=>takeErr cols (nms.take i)=false) ⟨rfl,⟨_,yh 6 27 2 (by omega) (by omega) rfl,?_⟩⟩ ?_
 ·(conv=>whnf);rfl
 ·intro i hi hR;have hTl:(takeC cols (nms.take i)).length=i:=by simp[takeC];omega
  have hnx: ∀h:i<nms.length,takeC cols (nms.take (i+1))=takeC cols (nms.take i)++[y5 cols (zh cols nms[i])]:=λh=>by
   unfold takeC;rw[zP h,List.map_append];rfl
  have hRx: ∀h:i<nms.length,takeErr cols (nms.take (i+1))=decide (zh cols nms[i]<0):=λh=>by
   unfold takeErr at hR⊢;rw[zP h,List.any_append,hR];simp
  have hend:nms.length<=i ->(bif takeErr cols nms then rNE 16 else rCo (takeC cols nms))=rCo (takeC cols (nms.take i)):=λh=>by
   rw[List.take_of_length_le h]at hR⊢;rw[hR];rfl
  have hbad: ∀h:i<nms.length,decide (zh cols nms[i]<0)=true ->(bif takeErr cols nms then rNE 16 else rCo (takeC cols nms))=rNE 16:=λh h2=>by
   have:takeErr cols nms=true:=by
    unfold takeErr;rw[List.any_eq_true];exact⟨nms[i],List.getElem_mem h,h2⟩
   rw[this];rfl
  show mwpR Pg T8.f YP _ (tkS cols nms i (takeC cols (nms.take i)));generalize takeC cols (nms.take i)=T at*;have hta:(zi T).take T.length=zi T:=by rw[<- zC,List.take_length]
  unfold tkS;(conv=>whnf);refine zd (λh1=>?_) (λh1=>?_)
  ·have hlt:i<nms.length:=by have:=of_decide_eq_true h1;omega
   have hg:=qN hlt;have hnx:=hnx hlt;have hRx:=hRx hlt;have hbad:=hbad hlt;have hcol:=y0 cols nms[i];have hbnd:=wA cols nms[i];have wi:=zx hlt (by omega);have hgc:=λh=>Xb (hbnd h).1 (hbnd h).2
   generalize nms[i]=x at*;generalize zh cols x=k at*;(conv=>whnf);refine⟨by omega,_,hg,rfl,?_⟩;(conv=>whnf);(conv=>whnf);refine Sat.cal (hcol) ?_;(conv=>whnf);refine zd (λh2=>?_) (λh2=>?_)
   ·have h2:decide (k<0)=true:=h2;rw[hbad h2];(conv=>whnf);rfl
   ·have h2:decide (k<0)=false:=h2;have h3:=of_decide_eq_false h2;have hgc:=hgc h3;have hb:=hbnd h3;generalize y5 cols k=c at*;obtain⟨c1,c2⟩:=c;(conv=>whnf);refine⟨hb.1,_,hgc,rfl,?_⟩;(conv=>whnf);refine⟨by simp,by unfold ye;simp;omega,by simp;omega,?_⟩;(conv=>whnf);refine⟨hlt,hRx.trans h2,ze ?_⟩;(conv=>whnf);rw[wi,hta,hnx,List.length_append];simp only[zi,List.map_append];rfl
  ·have hge:nms.length<=i:=by have:=of_decide_eq_false h1;omega
   rw[hend hge];(conv=>whnf);rfl
def ja (cols:List Col)(a:Agg):Int×Col:=
 bif !zl a.fn qj then
  bif decide (zh cols a.col<0)then(16,⟨a.nm,0⟩)else
  bif zl a.fn Y4&&(y5 cols (zh cols a.col)).t !=2 then(14,⟨a.nm,0⟩)else(0,⟨a.nm,(y5 cols (zh cols a.col)).t⟩)
 else(0,⟨a.nm,2⟩)
def yl (cols:List Col):List Agg ->Int×List Col
 | []=>(0,[])
 |a::r=>bif (ja cols a).1 !=0 then((ja cols a).1,[])else((yl cols r).1,(ja cols a).2::(yl cols r).2)
def Ur (cols:List Col)(nms:List ByteArray)(aggs:List Agg):Res:=
 bif takeErr cols nms then QF 16 else bif (yl cols aggs).1 !=0 then QF (yl cols aggs).1 else rCs (takeC cols nms++(yl cols aggs).2)
def tgS (cols:List Col)(aggs:List Agg)(j:Nat)(acc:List Col):S:=⟨[(0,.w (.c (.d (.sl (zi cols))))),(6,cV (.own 65 2 acc.length)),(24,.w (.c (.d (.sl (qy aggs))))),(25,zf aggs.length),(26,zf j)],[(65,.arr 2 (zi acc) false)]⟩
theorem ab0 (cols:List Col)(st:Stp)(hcs:st.cols.length<=1000000)(hag:st.aggs.length<=100000):Sat Pg Uz [.c (.d (.sl (zi cols))),.agg st.cs] (λr=>r=Ur cols st.cols st.aggs):=by
 have htk:=abZ cols st.cols hcs;have hlen:(takeC cols st.cols).length=st.cols.length:=by simp[takeC]
 unfold Ur;obtain⟨op,⟨eo,nm,⟨v1,v2,v3⟩,ks⟩,items,scs,saggs,sorts,sn,tb⟩:=st;simp only at htk hlen hcs hag;refine z0 ?_;unfold Stp.cs qB;simp only;cases hte:takeErr cols scs with
 |true=>
  rw[hte,cond_true]at htk;refine zg T8 QA (by kernel_rfl) ?_;(conv=>whnf);refine Sat.cal (htk) ?_;(conv=>whnf);exact⟨rfl,rfl⟩
 |false=>
  rw[hte,cond_false]at htk;simp only[cond_false];generalize takeC cols scs=T0 at*;refine zg T8 QA (by kernel_rfl) ?_;(conv=>whnf);refine Sat.cal (htk) ?_;(conv=>whnf);rw[wW];refine yv (P:=Pg) (f:=T8.f) (body:=jV) (λx:Nat×List Col=>tgS cols saggs x.1 x.2) (λx=>saggs.length - x.1) (λx=>x.1<=saggs.length /\x.2.length<=1000000+x.1 /\(yl cols saggs).1=(yl cols (saggs.drop x.1)).1 /\((yl cols (saggs.drop x.1)).1=0 ->T0++(yl cols saggs).2=x.2++(yl cols (saggs.drop x.1)).2)) ⟨(0,T0),⟨Nat.zero_le _,by show T0.length<=1000000+0;omega,rfl,λ_=>rfl⟩,⟨_,Ql 6 600272 65 2 _ _ (by omega) rfl rfl,?_⟩⟩ ?_
  ·(conv=>whnf);rfl
  ·rintro⟨j,T⟩ hx;obtain⟨hj,hTl,hR1,hR2⟩:j<=saggs.length /\T.length<=1000000+j /\(yl cols saggs).1=(yl cols (saggs.drop j)).1 /\((yl cols (saggs.drop j)).1=0 ->T0++(yl cols saggs).2=T++(yl cols (saggs.drop j)).2):=hx;show mwpR Pg T8.f jV _ (tgS cols saggs j T);have hta:(zi T).take T.length=zi T:=by rw[<- zC,List.take_length]
   unfold tgS;(conv=>whnf);refine zd (λh1=>?_) (λh1=>?_)
   ·have hlt:j<saggs.length:=by have:=of_decide_eq_true h1;omega
    have hg:=V0 hlt;rw[zq hlt]at hR1 hR2;simp only[yl]at hR1 hR2;have wi:=zx hlt (by omega);generalize saggs[j]=a at*;obtain⟨a1,a2,a3⟩:=a;unfold ja at hR1 hR2;simp only at hR1 hR2;have ht1:=abZ cols [a2] (by simp);have hte1:takeErr cols [a2]=decide (zh cols a2<0):=by simp[takeErr]
    have htc1:takeC cols [a2]=[y5 cols (zh cols a2)]:=rfl;rw[hte1,htc1]at ht1;generalize y5 cols (zh cols a2)=c at*;obtain⟨c1,c2⟩:=c;simp only at hR1 hR2;(conv=>whnf);refine⟨by omega,_,hg,rfl,?_⟩;(conv=>whnf);(conv=>whnf);refine zd (λh2=>?_) (λh2=>?_)
    ·have h2:(!zl a1 qj)=true:=h2;rw[h2]at hR1 hR2;simp only[cond_true]at hR1 hR2;(conv=>whnf);cases hb:decide (zh cols a2<0)with
     |true=>
      rw[hb]at hR1 ht1;have hR1:(yl cols saggs).1=16:=hR1;rw[hR1];simp only[cond_true]at ht1;refine Sat.cal (ht1) ?_;(conv=>whnf);exact⟨rfl,rfl⟩
     |false=>
      rw[hb]at hR1 hR2 ht1;simp only[cond_false]at hR1 hR2 ht1;refine Sat.cal (ht1) ?_;(conv=>whnf);refine zd (λh3=>?_) (λh3=>?_)
      ·have h3:zl a1 Y4=true:=h3;rw[h3,Bool.true_and]at hR1 hR2;(conv=>whnf);refine⟨by omega,by show(0:Int)<((1:Nat):Int);omega,?_⟩;(conv=>whnf);refine⟨_,rfl,?_⟩;(conv=>whnf);refine zd (λh4=>?_) (λh4=>?_)
       ·have h4:(c2 !=2)=true:=h4;rw[h4]at hR1;have hR1:(yl cols saggs).1=14:=hR1;rw[hR1];(conv=>whnf);exact⟨rfl,rfl⟩
       ·have h4:(c2 !=2)=false:=h4;rw[h4]at hR1 hR2;have hR1:(yl cols saggs).1=(yl cols (saggs.drop (j+1))).1:=hR1;have hR2:(yl cols (saggs.drop (j+1))).1=0 ->T0++(yl cols saggs).2=T++(⟨a3,c2⟩::(yl cols (saggs.drop (j+1))).2):=hR2;(conv=>whnf);refine⟨by omega,by show(0:Int)<((1:Nat):Int);omega,?_⟩;(conv=>whnf);refine⟨_,rfl,?_⟩;(conv=>whnf);refine⟨by simp,by unfold ye;simp;omega,by simp;omega,?_⟩;(conv=>whnf);refine⟨(j+1,T++[⟨a3,c2⟩]),⟨⟨hlt,by show(T++[(⟨a3,c2⟩:Col)]).length<=1000000+(j+1);simp;omega,hR1,λh=>by rw[hR2 h];simp⟩,by show saggs.length -(j+1)<saggs.length - j;omega⟩,ze ?_⟩;(conv=>whnf);rw[wi,hta,List.length_append];simp only[zi,List.map_append];rfl
      ·have h3:zl a1 Y4=false:=h3;rw[h3,Bool.false_and]at hR1 hR2;have hR1:(yl cols saggs).1=(yl cols (saggs.drop (j+1))).1:=hR1;have hR2:(yl cols (saggs.drop (j+1))).1=0 ->T0++(yl cols saggs).2=T++(⟨a3,c2⟩::(yl cols (saggs.drop (j+1))).2):=hR2;(conv=>whnf);refine⟨by omega,by show(0:Int)<((1:Nat):Int);omega,?_⟩;(conv=>whnf);refine⟨_,rfl,?_⟩;(conv=>whnf);refine⟨by simp,by unfold ye;simp;omega,by simp;omega,?_⟩;(conv=>whnf);refine⟨(j+1,T++[⟨a3,c2⟩]),⟨⟨hlt,by show(T++[(⟨a3,c2⟩:Col)]).length<=1000000+(j+1);simp;omega,hR1,λh=>by rw[hR2 h];simp⟩,by show saggs.length -(j+1)<saggs.length - j;omega⟩,ze ?_⟩;(conv=>whnf);rw[wi,hta,List.length_append];simp only[zi,List.map_append];rfl
    ·have h2:(!zl a1 qj)=false:=h2;rw[h2]at hR1 hR2;simp only[cond_false]at hR1 hR2;have hR1:(yl cols saggs).1=(yl cols (saggs.drop (j+1))).1:=hR1;have hR2:(yl cols (saggs.drop (j+1))).1=0 ->T0++(yl cols saggs).2=T++(⟨a3,2⟩::(yl cols (saggs.drop (j+1))).2):=hR2;(conv=>whnf);refine⟨by simp,by unfold ye;simp;omega,by simp;omega,?_⟩;(conv=>whnf);refine⟨(j+1,T++[⟨a3,2⟩]),⟨⟨hlt,by show(T++[(⟨a3,2⟩:Col)]).length<=1000000+(j+1);simp;omega,hR1,λh=>by rw[hR2 h];simp⟩,by show saggs.length -(j+1)<saggs.length - j;omega⟩,ze ?_⟩;(conv=>whnf);rw[wi,hta,List.length_append];simp only[zi,List.map_append];rfl
   ·have hge:saggs.length<=j:=by have:=of_decide_eq_false h1;omega
    rw[List.drop_eq_nil_of_le hge]at hR1 hR2;simp only[yl,List.append_nil]at hR1 hR2;simp only[forall_const]at hR2;rw[hR1,hR2];(conv=>whnf);refine⟨rfl,?_⟩;show Res.mk (.tup [.c (.d (.sl ((zi T).take T.length))),.c (int 0)]) []=_;rw[hta];rfl
theorem Vn (l:List Col)(hl:l.length<=1000000):Sat Pg Xh [.c (.d (.sl (zi l)))] (λr=>(l=[]/\r=rC .nil)\/r=abO 2 (zi l)):=by
 refine zg T3 Zh (by kernel_rfl) ?_
 conv=>whnf
 refine⟨λh=>?_,?_⟩
 ·conv=>whnf
  left
  refine⟨?_,rfl⟩;cases l with
  |nil=>rfl
  |cons a r=>cases h
 ·(conv=>whnf);refine⟨aoI l,by unfold ye;rw[zC];simp;omega,by rw[zC];simp;omega,?_⟩;(conv=>whnf)
  right
  show Res.mk (.w (.c (.own 0 2 (([]:List (List D)).length+(zi l).length)))) [.arr 2 (([]:List (List D)).take ([]:List (List D)).length++zi l) false]=_;unfold abO;rw[List.length_nil,Nat.zero_add,List.take_nil,List.nil_append]
theorem adg (g:FuncId)(cap:List (List D)):Sat Pg Za [.c (.d (.sl [])),.c (.d (.fn g cap))] (λr=>r=rI (-1)):=by
 refine zg T8 uU (by kernel_rfl) ?_
 conv=>whnf
 refine qY (P:=Pg) (f:=T8.f) (body:=qV) 1 ?_
 conv=>whnf
 rfl
theorem gO (g:FuncId)(cap:List (List D)):Sat Pg uZ [.c (.d (.sl [])),.c (.d (.fn g cap))] (λr=>r=rB false):=by
 refine zg T8 vV (by kernel_rfl) ?_
 conv=>whnf
 refine Sat.cal (adg g cap) ?_
 conv=>whnf
 rfl
def jnErr (cols tcols:List Col):List ByteArray ->Int
 | []=>0
 |s::r=>bif decide (zh cols s<0)||decide (zh tcols s<0)then 16 else bif (y5 cols (zh cols s)).t !=(y5 tcols (zh tcols s)).t then 14 else jnErr cols tcols r
def xJ (cs:List ByteArray)(l:List Col):List Col:=l.filter λc=>!hasB cs c.name
def dupL (pre:List Col):List Col ->Bool
 | []=>false
 |c::r=>bif decide (zh pre c.name>=0)then true else dupL (pre++[c]) r
def jnQ (cols tcols:List Col)(cs:List ByteArray):Res:=
 bif jnErr cols tcols cs !=0 then QF (jnErr cols tcols cs)else bif dupL [] (cols++xJ cs tcols)then QF 4 else bif decide (((cols++xJ cs tcols).length:Int)>32)then QF 7 else rCs (cols++xJ cs tcols)
def jnT (d:List Nmd)(cols:List Col)(cs:List ByteArray)(tb:ByteArray):Res:=match zY tb d with
 |none=>QF 17
 |some t=>jnQ cols t.cols cs
def jfb (eo:Int)(nm:ByteArray)(v1 v2:Int)(v3:ByteArray)(ks:List Ex)(items:List Itm)(scs:List ByteArray)(saggs:List Agg)(sorts:List Srt)(sn:Int)(tb:ByteArray):Pl:=
 .fbox [.lit (.int .i64 6),.lit (.int .i64 eo),.lit (.string nm),.lit (.int .i64 v1),.lit (.int .i64 v2),.lit (.string v3),.sl (exsD ks),.sl (yR items),.sl (zp scs),.sl (qy saggs),.sl (xg sorts),.lit (.int .i64 sn),.lit (.string tb)]
def tjS (eo:Int)(nm:ByteArray)(v1 v2:Int)(v3:ByteArray)(ks:List Ex)(items:List Itm)(scs:List ByteArray)(saggs:List Agg)(sorts:List Srt)(sn:Int)(tb:ByteArray)(tc:List Col)(i:Nat)(acc:List Col):S:=
 ⟨[(5,cV (.ptr 5 0)),(10,cV .nil),(20,cV (.own 128 2 acc.length)),(106,.w (.c (.d (.sl (zi tc))))),(107,zf tc.length),(108,zf i)],[(5,jfb eo nm v1 v2 v3 ks items scs saggs sorts sn tb),(128,.arr 2 (zi acc) false)]⟩
theorem auX {Q:E ->S ->Prop}{s:S}(eo:Int)(nm:ByteArray)(v1 v2:Int)(v3:ByteArray)(ks:List Ex)(items:List Itm)(scs:List ByteArray)(saggs:List Agg)(sorts:List Srt)(sn:Int)(tb:ByteArray)(cols tc:List Col)(hcl:cols.length<=1000000)(htl:tc.length<=1000000)
 (h0:xD s [5,10,20,106,107,108] (· =tjS eo nm v1 v2 v3 ks items scs saggs sorts sn tb tc 0 cols))
 (hQ:Q (.exit 8) (vi (tjS eo nm v1 v2 v3 ks items scs saggs sorts sn tb tc tc.length (cols++xJ scs tc)) 109 (zD (decide ((tc.length:Int)<tc.length))))):
 zS (mwpR Pg T8.f xM) [5,10,20,106,107,108] Q s:=by
 refine zF (P:=Pg) (f:=T8.f) (body:=xM) tc.length (λi=>tjS eo nm v1 v2 v3 ks items scs saggs sorts sn tb tc i (cols++xJ scs (tc.take i))) (λ_=>True) ⟨trivial,?_⟩ ?_
 ·have e:cols++xJ scs (tc.take 0)=cols:=by simp[xJ]
  rw[e];exact h0
 ·intro i hi _;clear h0;have hTl:(cols++xJ scs (tc.take i)).length<=1000000+i:=by
   have:=List.length_filter_le (λc:Col=>!hasB scs c.name) (tc.take i);rw[List.length_take]at this;rw[List.length_append];unfold xJ;omega
  have hnx: ∀h:i<tc.length,cols++xJ scs (tc.take (i+1))=(cols++xJ scs (tc.take i))++(bif !hasB scs tc[i].name then [tc[i]]else []):=λh=>by
   unfold xJ;rw[Ys (λc:Col=>!hasB scs c.name) h,List.append_assoc]
  have hend:i=tc.length ->cols++xJ scs tc=cols++xJ scs (tc.take i):=λh=>by rw[h,List.take_length]
  show mwpR Pg T8.f xM _ (tjS eo nm v1 v2 v3 ks items scs saggs sorts sn tb tc i (cols++xJ scs (tc.take i)));generalize cols++xJ scs (tc.take i)=T at*;have hta:(zi T).take T.length=zi T:=by rw[<- zC,List.take_length]
  unfold tjS jfb;(conv=>whnf);refine zd (λh1=>?_) (λh1=>?_)
  ·have hlt:i<tc.length:=by have:=of_decide_eq_true h1;omega
   have hg:=yW hlt;have hnx:=hnx hlt;have hhb:=yc scs tc[i].name;have hh0:=yc [] tc[i].name;have wi:=zx hlt (by omega);clear hQ hend;generalize tc[i]=c at*;obtain⟨c1,c2⟩:=c;simp only at hnx hhb hh0;generalize hasB scs c1=b at*;(conv=>whnf);refine⟨by omega,_,hg,rfl,?_⟩;(conv=>whnf);refine Sat.cal (hhb) ?_;(conv=>whnf);refine zd (λh2=>?_) (λh2=>?_)
   ·have h2:(!b)=true:=h2;rw[h2,cond_true]at hnx;(conv=>whnf);refine Sat.cal (hh0) ?_;(conv=>whnf);refine⟨by simp,by unfold ye;simp;omega,by simp;omega,?_⟩;(conv=>whnf);refine⟨hlt,trivial,ze ?_⟩;(conv=>whnf);rw[wi,hta,hnx,List.length_append];simp only[zi,List.map_append];rfl
   ·have h2:(!b)=false:=h2;rw[h2,cond_false,List.append_nil]at hnx;(conv=>whnf);refine⟨hlt,trivial,ze ?_⟩;(conv=>whnf);rw[wi,hnx];rfl
  ·have hge:i=tc.length:=by have:=of_decide_eq_false h1;omega
   rw[hend hge]at hQ;subst hge;(conv=>whnf);exact hQ
theorem adA (d:List Nmd)(cols:List Col)(st:Stp)(hop:st.op=6)(hcs:st.cols.length<=1000000)(hcl:cols.length<=1000000)(htl: ∀t,zY st.table d=some t ->t.cols.length<=1000000):
 Sat Pg wR [.c (.d (.sl (zL d))),.c (.d (.sl (zi cols))),.agg st.cs] (λr=>r=jnT d cols st.cols st.table):=by
 have hfd:=xR d st.table;unfold jnT;obtain⟨op,⟨eo,nm,⟨v1,v2,v3⟩,ks⟩,items,scs,saggs,sorts,sn,tb⟩:=st;simp only at hop hcs htl hfd;subst hop;refine z0 ?_;unfold Stp.cs qB;simp only;cases hf:zY tb d with
 |none=>
  rw[hf]at hfd;refine zg T8 qq (by kernel_rfl) ?_;(conv=>whnf);refine Sat.cal (hfd) ?_;(conv=>whnf);exact⟨rfl,rfl⟩
 |some t=>
  rw[hf]at hfd;have htl:=htl t hf;obtain⟨tc,tr⟩:=t;simp only at htl;unfold jnQ;refine zg T8 qq (by kernel_rfl) ?_;(conv=>whnf);refine Sat.cal (hfd) ?_;(conv=>whnf);refine Sat.cal (gO Vk _) ?_;(conv=>whnf);rw[zK];refine zF (P:=Pg) (f:=T8.f) (body:=uj) scs.length (λi=>⟨[(1,.w (.c (.d (.sl (zi cols))))),(5,cV (.ptr 5 0)),(8,cV (.ptr 8 0)),(10,cV .nil),(46,.w (.c (.d (.sl (zp scs))))),(47,zf scs.length),(48,zf i)],[(5,jfb eo nm v1 v2 v3 ks items scs saggs sorts sn tb),(8,.box [.d (.sl (zi tc)),.d (.sl (zj tr))])]⟩) (λi=>jnErr cols tc scs=jnErr cols tc (scs.drop i)) ⟨rfl,ze ?_⟩ ?_
  ·(conv=>whnf);rfl
  ·intro i hi hR;unfold jfb;(conv=>whnf);refine zd (λh1=>?_) (λh1=>?_)
   ·have hlt:i<scs.length:=by have:=of_decide_eq_true h1;omega
    rw[zq hlt]at hR;simp only[jnErr]at hR;have hg:=qN hlt;have wi:=zx hlt (by omega);have hc1:=y0 cols scs[i];have hc2:=y0 tc scs[i];have hb1:=wA cols scs[i];have hb2:=wA tc scs[i];have hg1:=λh=>Xb (hb1 h).1 (hb1 h).2
    have hg2:=λh=>Xb (hb2 h).1 (hb2 h).2
    generalize scs[i]=x at*;generalize zh cols x=k1 at*;generalize zh tc x=k2 at*;(conv=>whnf);refine⟨by omega,_,hg,rfl,?_⟩;(conv=>whnf);(conv=>whnf);refine Sat.cal (hc1) ?_;(conv=>whnf);refine Sat.cal (hc2) ?_;(conv=>whnf);refine zd (λh2=>?_) (λh2=>?_)
    ·have h2:(decide (k1<0)||decide (k2<0))=true:=h2;rw[h2]at hR;have hR:jnErr cols tc scs=16:=hR;simp only[hR];(conv=>whnf);exact⟨rfl,rfl⟩
    ·have h2:(decide (k1<0)||decide (k2<0))=false:=h2;rw[h2,cond_false]at hR;rw[Bool.or_eq_false_iff]at h2;have n1:=of_decide_eq_false h2.1;have n2:=of_decide_eq_false h2.2;have hb1:=hb1 n1;have hb2:=hb2 n2;have hg1:=hg1 n1;have hg2:=hg2 n2;generalize y5 cols k1=c1 at*;generalize y5 tc k2=c2 at*;obtain⟨c11,c12⟩:=c1;obtain⟨c21,c22⟩:=c2;simp only at hR;(conv=>whnf);refine⟨hb1.1,_,hg1,rfl,?_⟩;(conv=>whnf);refine⟨hb2.1,_,hg2,rfl,?_⟩;(conv=>whnf);refine zd (λh3=>?_) (λh3=>?_)
     ·have h3:(c12 !=c22)=true:=h3;rw[h3]at hR;have hR:jnErr cols tc scs=14:=hR;simp only[hR];(conv=>whnf);exact⟨rfl,rfl⟩
     ·have h3:(c12 !=c22)=false:=h3;rw[h3,cond_false]at hR;(conv=>whnf);refine⟨hlt,hR,ze ?_⟩;(conv=>whnf);rw[wi];rfl
   ·have hge:scs.length<=i:=by have:=of_decide_eq_false h1;omega
    rw[List.drop_eq_nil_of_le hge]at hR;have hR:jnErr cols tc scs=0:=hR;simp only[hR];clear hR;(conv=>whnf);refine qY (P:=Pg) (f:=T8.f) (body:=Zq) 3 ?_;(conv=>whnf);refine⟨by omega,by show(0:Int)<((2:Nat):Int);omega,?_⟩;(conv=>whnf);refine⟨_,rfl,?_⟩;(conv=>whnf);refine qY (P:=Pg) (f:=T8.f) (body:=wx) 1 ?_;(conv=>whnf);refine⟨by decide,by show(1:Int)<((2:Nat):Int);omega,?_⟩;(conv=>whnf);refine⟨_,rfl,?_⟩;(conv=>whnf);refine qY (P:=Pg) (f:=T8.f) (body:=wx) 1 ?_;(conv=>whnf);refine Sat.mono (Vn cols hcl) ?_;rintro _ (⟨hk0,rfl⟩|rfl)
    ·(conv=>whnf);refine auX eo nm v1 v2 v3 ks items scs saggs sorts sn tb cols tc hcl htl ⟨_,yh 20 128 2 (by omega) (by omega) rfl,?_⟩ ?_
     ·(conv=>whnf);unfold tjS;rw[zC,hk0];rfl
     unfold vi tjS jfb;have hOl:(cols++xJ scs tc).length<=2000000:=by
      have:=List.length_filter_le (λc:Col=>!hasB scs c.name) tc;rw[List.length_append];unfold xJ;omega
     clear htl hcl hfd;generalize cols++xJ scs tc=O at*;(conv=>whnf);refine zF (P:=Pg) (f:=T8.f) (body:=wz) O.length (λi=>⟨[(20,cV (.own 128 2 O.length)),(130,cV (.own 128 2 O.length)),(131,zf O.length),(132,zf i)],[(128,.arr 2 (zi O) false)]⟩) (λi=>dupL [] O=dupL (O.take i) (O.drop i)) ⟨rfl,ze ?_⟩ ?_
     ·(conv=>whnf);rfl
     ·intro i hi hR;cases i with
      |zero=>
       (conv=>whnf);refine zd (λh1=>?_) (λh1=>?_)
       ·have h1:decide ((0:Nat)<(O.length:Int))=true:=h1;have hlt:0<O.length:=by have:=of_decide_eq_true h1;omega
        rw[zq hlt]at hR;simp only[dupL]at hR;rw[<- zP hlt]at hR;have hg:=yW hlt;have wi:=zx hlt (by omega);have hcol:=y0 (O.take (0)) O[0].name;have ht:zi (O.take (0))=(zi O).take (0):=by simp only[zi,List.map_take]
        rw[ht]at hcol;generalize hdi:dupL (O.take (0+1)) (O.drop (0+1))=rest at*;generalize O[0]=c at*;obtain⟨c1,c2⟩:=c;simp only at hR hcol;generalize zh (O.take (0)) c1=k at*;(conv=>whnf);refine⟨by omega,by omega,?_⟩;(conv=>whnf);refine⟨_,hg,?_⟩;(conv=>whnf);refine⟨by show(0:Int)<=((0:Nat):Int);omega,by show((0:Nat):Int)<=(O.length:Int);omega,?_⟩;(conv=>whnf);refine Sat.cal (hcol) ?_;(conv=>whnf);refine zd (λh2=>?_) (λh2=>?_)
        ·have h2:decide (k>=0)=true:=h2;rw[h2]at hR;have hR:dupL [] O=true:=hR;rw[hR];(conv=>whnf);exact⟨rfl,rfl⟩
        ·have h2:decide (k>=0)=false:=h2;rw[h2]at hR;have hR:dupL [] O=rest:=hR;(conv=>whnf);refine⟨hlt,hR,ze ?_⟩;(conv=>whnf);rw[wi];rfl
       ·have h1:decide ((0:Nat)<(O.length:Int))=false:=h1;have hge:O.length<=0:=by have:=of_decide_eq_false h1;omega
        rw[List.drop_eq_nil_of_le hge]at hR;have hR:dupL [] O=false:=hR;rw[hR];(conv=>whnf);refine zd (λh5=>?_) (λh5=>?_)
        ·have h5:decide ((O.length:Int)>32)=true:=h5;rw[h5];(conv=>whnf);exact⟨rfl,rfl⟩
        ·have h5:decide ((O.length:Int)>32)=false:=h5;rw[h5];(conv=>whnf);refine⟨rfl,?_⟩;show Res.mk (.tup [.c (.d (.sl ((zi O).take O.length))),.c (int 0)]) []=_;rw[<- zC,List.take_length];rfl
      |succ i=>
       (conv=>whnf);refine zd (λh1=>?_) (λh1=>?_)
       ·have h1:decide ((i+1:Nat)<(O.length:Int))=true:=h1;have hlt:i+1<O.length:=by have:=of_decide_eq_true h1;omega
        rw[zq hlt]at hR;simp only[dupL]at hR;rw[<- zP hlt]at hR;have hg:=yW hlt;have wi:=zx hlt (by omega);have hcol:=y0 (O.take (i+1)) O[i+1].name;have ht:zi (O.take (i+1))=(zi O).take (i+1):=by simp only[zi,List.map_take]
        rw[ht]at hcol;generalize hdi:dupL (O.take (i+1+1)) (O.drop (i+1+1))=rest at*;generalize O[i+1]=c at*;obtain⟨c1,c2⟩:=c;simp only at hR hcol;generalize zh (O.take (i+1)) c1=k at*;(conv=>whnf);refine⟨by omega,by omega,?_⟩;(conv=>whnf);refine⟨_,hg,?_⟩;(conv=>whnf);refine⟨by show(0:Int)<=((i+1:Nat):Int);omega,by show((i+1:Nat):Int)<=(O.length:Int);omega,?_⟩;(conv=>whnf);refine Sat.cal (hcol) ?_;(conv=>whnf);refine zd (λh2=>?_) (λh2=>?_)
        ·have h2:decide (k>=0)=true:=h2;rw[h2]at hR;have hR:dupL [] O=true:=hR;rw[hR];(conv=>whnf);exact⟨rfl,rfl⟩
        ·have h2:decide (k>=0)=false:=h2;rw[h2]at hR;have hR:dupL [] O=rest:=hR;(conv=>whnf);refine⟨hlt,hR,ze ?_⟩;(conv=>whnf);rw[wi];rfl
       ·have h1:decide ((i+1:Nat)<(O.length:Int))=false:=h1;have hge:O.length<=i+1:=by have:=of_decide_eq_false h1;omega
        rw[List.drop_eq_nil_of_le hge]at hR;have hR:dupL [] O=false:=hR;rw[hR];(conv=>whnf);refine zd (λh5=>?_) (λh5=>?_)
        ·have h5:decide ((O.length:Int)>32)=true:=h5;rw[h5];(conv=>whnf);exact⟨rfl,rfl⟩
        ·have h5:decide ((O.length:Int)>32)=false:=h5;rw[h5];(conv=>whnf);refine⟨rfl,?_⟩;show Res.mk (.tup [.c (.d (.sl ((zi O).take O.length))),.c (int 0)]) []=_;rw[<- zC,List.take_length];rfl
    ·(conv=>whnf);refine auX eo nm v1 v2 v3 ks items scs saggs sorts sn tb cols tc hcl htl ⟨_,Ql 20 601664 128 2 _ _ (by omega) rfl rfl,?_⟩ ?_
     ·(conv=>whnf);unfold tjS;rw[zC,zC];rfl
     unfold vi tjS jfb;have hOl:(cols++xJ scs tc).length<=2000000:=by
      have:=List.length_filter_le (λc:Col=>!hasB scs c.name) tc;rw[List.length_append];unfold xJ;omega
     clear htl hcl hfd;generalize cols++xJ scs tc=O at*;(conv=>whnf);refine zF (P:=Pg) (f:=T8.f) (body:=wz) O.length (λi=>⟨[(20,cV (.own 128 2 O.length)),(130,cV (.own 128 2 O.length)),(131,zf O.length),(132,zf i)],[(128,.arr 2 (zi O) false)]⟩) (λi=>dupL [] O=dupL (O.take i) (O.drop i)) ⟨rfl,ze ?_⟩ ?_
     ·(conv=>whnf);rfl
     ·intro i hi hR;cases i with
      |zero=>
       (conv=>whnf);refine zd (λh1=>?_) (λh1=>?_)
       ·have h1:decide ((0:Nat)<(O.length:Int))=true:=h1;have hlt:0<O.length:=by have:=of_decide_eq_true h1;omega
        rw[zq hlt]at hR;simp only[dupL]at hR;rw[<- zP hlt]at hR;have hg:=yW hlt;have wi:=zx hlt (by omega);have hcol:=y0 (O.take (0)) O[0].name;have ht:zi (O.take (0))=(zi O).take (0):=by simp only[zi,List.map_take]
        rw[ht]at hcol;generalize hdi:dupL (O.take (0+1)) (O.drop (0+1))=rest at*;generalize O[0]=c at*;obtain⟨c1,c2⟩:=c;simp only at hR hcol;generalize zh (O.take (0)) c1=k at*;(conv=>whnf);refine⟨by omega,by omega,?_⟩;(conv=>whnf);refine⟨_,hg,?_⟩;(conv=>whnf);refine⟨by show(0:Int)<=((0:Nat):Int);omega,by show((0:Nat):Int)<=(O.length:Int);omega,?_⟩;(conv=>whnf);refine Sat.cal (hcol) ?_;(conv=>whnf);refine zd (λh2=>?_) (λh2=>?_)
        ·have h2:decide (k>=0)=true:=h2;rw[h2]at hR;have hR:dupL [] O=true:=hR;rw[hR];(conv=>whnf);exact⟨rfl,rfl⟩
        ·have h2:decide (k>=0)=false:=h2;rw[h2]at hR;have hR:dupL [] O=rest:=hR;(conv=>whnf);refine⟨hlt,hR,ze ?_⟩;(conv=>whnf);rw[wi];rfl
       ·have h1:decide ((0:Nat)<(O.length:Int))=false:=h1;have hge:O.length<=0:=by have:=of_decide_eq_false h1;omega
        rw[List.drop_eq_nil_of_le hge]at hR;have hR:dupL [] O=false:=hR;rw[hR];(conv=>whnf);refine zd (λh5=>?_) (λh5=>?_)
        ·have h5:decide ((O.length:Int)>32)=true:=h5;rw[h5];(conv=>whnf);exact⟨rfl,rfl⟩
        ·have h5:decide ((O.length:Int)>32)=false:=h5;rw[h5];(conv=>whnf);refine⟨rfl,?_⟩;show Res.mk (.tup [.c (.d (.sl ((zi O).take O.length))),.c (int 0)]) []=_;rw[<- zC,List.take_length];rfl
      |succ i=>
       (conv=>whnf);refine zd (λh1=>?_) (λh1=>?_)
       ·have h1:decide ((i+1:Nat)<(O.length:Int))=true:=h1;have hlt:i+1<O.length:=by have:=of_decide_eq_true h1;omega
        rw[zq hlt]at hR;simp only[dupL]at hR;rw[<- zP hlt]at hR;have hg:=yW hlt;have wi:=zx hlt (by omega);have hcol:=y0 (O.take (i+1)) O[i+1].name;have ht:zi (O.take (i+1))=(zi O).take (i+1):=by simp only[zi,List.map_take]
        rw[ht]at hcol;generalize hdi:dupL (O.take (i+1+1)) (O.drop (i+1+1))=rest at*;generalize O[i+1]=c at*;obtain⟨c1,c2⟩:=c;simp only at hR hcol;generalize zh (O.take (i+1)) c1=k at*;(conv=>whnf);refine⟨by omega,by omega,?_⟩;(conv=>whnf);refine⟨_,hg,?_⟩;(conv=>whnf);refine⟨by show(0:Int)<=((i+1:Nat):Int);omega,by show((i+1:Nat):Int)<=(O.length:Int);omega,?_⟩;(conv=>whnf);refine Sat.cal (hcol) ?_;(conv=>whnf);refine zd (λh2=>?_) (λh2=>?_)
        ·have h2:decide (k>=0)=true:=h2;rw[h2]at hR;have hR:dupL [] O=true:=hR;rw[hR];(conv=>whnf);exact⟨rfl,rfl⟩
        ·have h2:decide (k>=0)=false:=h2;rw[h2]at hR;have hR:dupL [] O=rest:=hR;(conv=>whnf);refine⟨hlt,hR,ze ?_⟩;(conv=>whnf);rw[wi];rfl
       ·have h1:decide ((i+1:Nat)<(O.length:Int))=false:=h1;have hge:O.length<=i+1:=by have:=of_decide_eq_false h1;omega
        rw[List.drop_eq_nil_of_le hge]at hR;have hR:dupL [] O=false:=hR;rw[hR];(conv=>whnf);refine zd (λh5=>?_) (λh5=>?_)
        ·have h5:decide ((O.length:Int)>32)=true:=h5;rw[h5];(conv=>whnf);exact⟨rfl,rfl⟩
        ·have h5:decide ((O.length:Int)>32)=false:=h5;rw[h5];(conv=>whnf);refine⟨rfl,?_⟩;show Res.mk (.tup [.c (.d (.sl ((zi O).take O.length))),.c (int 0)]) []=_;rw[<- zC,List.take_length];rfl
theorem Qe (a b:List Val):Sat Pg gq [yf a,yf b] (λr=>r=rB (yz a b)):=by
 refine qe 0 (by kernel_rfl) rfl λhlen=>?_
 rw[zo]at hlen;unfold yz;refine zg T8 UV (by kernel_rfl) ?_
 conv=>whnf
 rw[zo,zo];refine zd (λh=>?_) (λh=>?_)
 ·rw[h];rfl
 ·rw[h];have hl:=atH h;simp only[cond_false];(conv=>whnf);rw[zo];refine zF (P:=Pg) (f:=T8.f) (body:=ZZ) a.length (λi=>⟨[(0,.w (yf a)),(1,.w (yf b)),(12,zf a.length),(13,zf i)],[]⟩) (λi=>xB xi a b=xB xi (a.drop i) (b.drop i)) ⟨rfl,ze ?_⟩ ?_
  ·(conv=>whnf);rfl
  ·intro i hi hR;(conv=>whnf);refine zd (λh1=>?_) (λh1=>?_)
   ·have hlt:i<a.length:=by have:=of_decide_eq_true h1;omega
    have hlb:i<b.length:=by omega
    rw[zq hlt,zq hlb]at hR;(conv=>whnf);refine⟨by omega,_,yU hlt,rfl,?_⟩;(conv=>whnf);refine⟨by omega,_,yU hlb,rfl,?_⟩;(conv=>whnf);refine zd (λh2=>?_) (λh2=>?_)
    ·have h2:(!xi a[i] b[i])=true:=h2;simp only[xB,h2,cond_true]at hR;(conv=>whnf);exact congrArg rB hR.symm
    ·have h2:(!xi a[i] b[i])=false:=h2;simp only[xB,h2,cond_false]at hR;(conv=>whnf);refine⟨hlt,hR,ze ?_⟩;(conv=>whnf);rw[zx hlt hlen];rfl
   ·have hge:a.length<=i:=by have:=of_decide_eq_false h1;omega
    rw[U5 _ hge hl]at hR;(conv=>whnf);exact congrArg rB hR.symm
theorem agF (l:List Val)(v:Val):Sat Pg gt [yf l,v.w] (λr=>r=rI (yd (xi v) 0 l)):=by
 refine qe 0 (by kernel_rfl) rfl λhlen=>?_
 rw[zo]at hlen;obtain⟨v1,v2,v3⟩:=v;refine zg T8 UW (by kernel_rfl) ?_
 conv=>whnf
 rw[zo];refine zF (P:=Pg) (f:=T8.f) (body:=Z0) l.length (λi=>⟨[(0,.w (yf l)),(3,cV (.ptr 3 0)),(7,zf l.length),(8,zf i)],[(3,.box [int v1,int v2,str v3])]⟩) (λi=>yd (xi ⟨v1,v2,v3⟩) 0 l=yd (xi ⟨v1,v2,v3⟩) i (l.drop i)) ⟨rfl,ze ?_⟩ ?_
 ·(conv=>whnf);rfl
 ·intro i hi hR;(conv=>whnf);refine zd (λh1=>?_) (λh1=>?_)
  ·have hlt:i<l.length:=by have:=of_decide_eq_true h1;omega
   rw[zq hlt]at hR;simp only[yd]at hR;have hg:=yU hlt;have wi:=zx hlt hlen;generalize l[i]=x at*;obtain⟨x1,x2,x3⟩:=x;(conv=>whnf);refine⟨by omega,_,hg,rfl,?_⟩;(conv=>whnf);refine zd (λh2=>?_) (λh2=>?_)
   ·have h2:xi ⟨v1,v2,v3⟩ ⟨x1,x2,x3⟩=true:=h2;rw[h2]at hR;have hR:yd (xi ⟨v1,v2,v3⟩) 0 l=(i:Int):=hR;rw[hR];(conv=>whnf);rfl
   ·have h2:xi ⟨v1,v2,v3⟩ ⟨x1,x2,x3⟩=false:=h2;rw[h2]at hR;(conv=>whnf);refine⟨hlt,hR,ze ?_⟩;(conv=>whnf);rw[wi];rfl
  ·have hge:l.length<=i:=by have:=of_decide_eq_false h1;omega
   rw[List.drop_eq_nil_of_le hge]at hR;have hR:yd (xi ⟨v1,v2,v3⟩) 0 l= -1:=hR;rw[hR];(conv=>whnf);rfl
theorem WL (l:List Val)(v:Val):Sat Pg UX [yf l,v.w] (λr=>r=rB (l.any (xi v))):=by
 have h:=agF l v;have hb:decide (yd (xi v) 0 l>=0)=l.any (xi v):=YT (xi v) l 0;rw[<- hb];generalize yd (xi v) 0 l=k at*;obtain⟨v1,v2,v3⟩:=v;refine zg T8 WT (by kernel_rfl) ?_
 conv=>whnf
 refine Sat.cal (h) ?_
 conv=>whnf
 rfl
theorem asi (a b:List Val):rowD a++rowD b=rowD (a++b):=by simp[rowD]
def JM:List D:=[.lit (.int .i64 0),.lit (.int .i64 0),.lit (.string ⟨#[]⟩)]
theorem aio (n:Nat)(hn:n<=1000000):zu Pg aaC [.c .nil,.c (int n)] [] (λr=>(n=0 /\r=⟨.w (.c .nil),[]⟩)\/(0<n /\r=⟨.w (.c (.own 0 3 0)),[.arr 3 (List.replicate n JM) false]⟩)):=by
 refine xT T8 JS (by kernel_rfl) (by simp) ?_;have h0:IntKind.i64.wrap ((0:Int) - 0)=0:=zM (by omega) (by omega);have hw:IntKind.i64.wrap ((n:Int) - IntKind.i64.wrap (0 - 0))=n:=by rw[h0,zM (by omega) (by omega)];omega
 conv=>whnf
 rw[hw];refine zd (λh2=>?_) (λh2=>?_)
 ·have h2:=of_decide_eq_true h2;(conv=>whnf);refine⟨by simp[zT],by simp[zT],by simp[zT],?_⟩;(conv=>whnf);refine⟨by omega,by unfold ye;simp;omega,by omega,?_⟩;(conv=>whnf);refine⟨by simp[zT],by simp[zT],?_⟩;(conv=>whnf);exact .inr ⟨by omega,rfl⟩
 ·have h2:=of_decide_eq_false h2;(conv=>whnf);exact .inl ⟨by omega,rfl⟩
def cvC (xs ys:List Val):W:=.c (.d (.sl [[.sl (rowD xs)],[.sl (rowD ys)]]))
def cvS (xs ys:List Val)(a b:Int):S:=⟨[(0,.w (cvC xs ys)),(3,zf a),(9,.w (cvC xs ys)),(10,zf 2),(11,zf b)],[]⟩
def cvT (xs ys:List Val)(p n:Nat)(els:List (List D))(b:Int):S:=⟨[(6,cV (.own p 3 n)),(25,.w (cvC xs ys)),(26,zf 2),(27,zf b)],[(p,.arr 3 els false)]⟩
def cvF (xs ys:List Val)(x:Nat×List (List D)):S:=match x.1 with|0=>cvT xs ys 33 0 x.2 0|1=>cvT xs ys 33 xs.length x.2 1|_=>cvT xs ys 33 (xs++ys).length x.2 2
theorem aoK {xs ys:List Val}(hx:xs.length<=100000)(hy:ys.length<=100000){Q:E ->S ->Prop}{s:S}(els:List (List D))(h0:xD s [6,25,26,27] (· =cvT xs ys 33 0 els 0))
 (hQ:Q (.exit 2) ⟨[(6,cV (.own 33 3 (xs++ys).length)),(25,.w (cvC xs ys)),(26,zf 2),(27,zf 2),(28,zD (decide ((2:Int)<2)))],[(33,.arr 3 (rowD (xs++ys)) false)]⟩):
 zS (mwpR Pg T8.f vC) [6,25,26,27] Q s:=by
 have v1:IntKind.i64.wrap ((0:Int)+1)=1:=zM (by omega) (by omega);have v2:IntKind.i64.wrap ((1:Int)+1)=2:=zM (by omega) (by omega);refine yv (P:=Pg) (f:=T8.f) (body:=vC) (cvF xs ys) (λx=>2 - x.1) (λx=>x.1=0\/(x.1=1 /\x.2=rowD xs)\/(x.1=2 /\x.2=rowD (xs++ys))) ⟨(0,els),.inl rfl,h0⟩ ?_;rintro⟨i,els⟩ hR;have hS:i=0\/(i=1 /\els=rowD xs)\/(i=2 /\els=rowD (xs++ys)):=hR;clear hR;rcases hS with rfl|⟨rfl,hS⟩|⟨rfl,hS⟩
 ·(conv=>whnf);refine⟨by omega,_,rfl,rfl,?_⟩;(conv=>whnf);refine⟨Q9 xs,by unfold ye;rw[zo];omega,by rw[zo];omega,?_⟩;(conv=>whnf);refine⟨(1,els.take 0++rowD xs),⟨.inr (.inl ⟨rfl,by simp⟩),by show 2 - 1<2 - 0;omega⟩,ze ?_⟩;(conv=>whnf);rw[v1,Nat.zero_add,zo];rfl
 ·(conv=>whnf);refine⟨by omega,_,rfl,rfl,?_⟩;(conv=>whnf);refine⟨Q9 ys,by unfold ye;rw[zo];omega,by rw[zo];omega,?_⟩;(conv=>whnf);refine⟨(2,els.take xs.length++rowD ys),⟨.inr (.inr ⟨rfl,by rw[hS,<- zo xs,List.take_length,asi]⟩),by show 2 - 2<2 - 1;omega⟩,ze ?_⟩;(conv=>whnf);rw[v2,zo,<- List.length_append];rfl
 ·(conv=>whnf);subst hS;exact hQ
theorem aeK (xs ys:List Val)(hx:xs.length<=100000)(hy:ys.length<=100000):
 Sat Pg KX [cvC xs ys] (λr=>r=⟨.w (.c (.own 0 3 (xs++ys).length)),[.arr 3 (rowD (xs++ys)) false]⟩):=by
 refine zg T8 Ub (by kernel_rfl) ?_;have w1:IntKind.i64.wrap ((0:Int)+((rowD xs).length:Nat))=((xs.length:Nat):Int):=by rw[zo,zM (by omega) (by omega)];omega
 have w2:IntKind.i64.wrap (((xs.length:Nat):Int)+((rowD ys).length:Nat))=((xs.length+ys.length:Nat):Int):=by rw[zo,zM (by omega) (by omega)];omega
 have v1:IntKind.i64.wrap ((0:Int)+1)=1:=zM (by omega) (by omega);have v2:IntKind.i64.wrap ((1:Int)+1)=2:=zM (by omega) (by omega)
 conv=>whnf
 refine zF (P:=Pg) (f:=T8.f) (body:=Zi) 2 (λi=>match i with|0=>cvS xs ys 0 0|1=>cvS xs ys xs.length 1|_=>cvS xs ys ((xs.length+ys.length:Nat):Int) 2) (λ_=>True) ⟨trivial,ze ?_⟩ ?_
 ·(conv=>whnf);rfl
 ·intro i hi _;obtain rfl|rfl|rfl:i=0\/i=1\/i=2:=by omega
  ·(conv=>whnf);refine⟨by omega,_,rfl,rfl,?_⟩;(conv=>whnf);rw[w1];(conv=>whnf);refine⟨by omega,trivial,ze ?_⟩;(conv=>whnf);rw[v1];rfl
  ·(conv=>whnf);refine⟨by omega,_,rfl,rfl,?_⟩;(conv=>whnf);rw[w2];(conv=>whnf);refine⟨by omega,trivial,ze ?_⟩;(conv=>whnf);rw[v2];rfl
  ·(conv=>whnf);refine zu.mono (aio (xs.length+ys.length) (by omega)) ?_;rintro r (⟨h1,rfl⟩|⟨h1,rfl⟩)
   ·(conv=>whnf);refine aoK hx hy [] ⟨_,yh 6 33 3 (by omega) (by omega) rfl,?_⟩ ?_
    ·(conv=>whnf);rfl
    ·(conv=>whnf);rfl
   ·(conv=>whnf);refine aoK hx hy (List.replicate (xs.length+ys.length) JM) ⟨_,Ql 6 600384 33 3 0 _ (by omega) rfl rfl,?_⟩ ?_
    ·(conv=>whnf);rfl
    ·(conv=>whnf);rfl
theorem aor (s:S)(p:Nat):QH s (s.withPl (qJ s.pl p)):=λ_ _ ι _ _ hr=>⟨ι,hr.freeze p⟩
def oth (on:List ByteArray):Nat ->List Col ->List Int
 |_,[]=> []
 |i,c::r=>(bif !hasB on c.name then [(i:Int)]else [])++oth on (i+1) r
theorem aie (on:List ByteArray): ∀(l:List Col) (i:Nat),∀k∈oth on i l,(i:Int)<=k /\k<i+l.length
 | [],_,k,h=>by cases h
 |c::r,i,k,h=>by
  simp only[oth,List.mem_append]at h;rcases h with h|h
  ·cases hb:(!hasB on c.name)
   ·rw[hb]at h;cases h
   ·rw[hb,cond_true,List.mem_singleton]at h;subst h;simp;omega
  ·have:=aie on r (i+1) k h;simp only[List.length_cons];omega
def vS (x:List Val)(key:List Val)(right others:List Int)(ys:List (List Val)):List (List Val):=(ys.filter λy=>yz key (zn y right)).map λy=>x++zn y others
def aen (left right others:List Int)(ys:List (List Val))(x:List Val):List (List Val):=bif (zn x left).any (xi yp)then []else vS x (zn x left) right others ys
def qx (left right others:List Int)(xs ys:List (List Val)):List (List Val):=xs.flatMap (aen left right others ys)
theorem ai2 (x key:List Val)(right others:List Int)(ys:List (List Val)):(vS x key right others ys).length<=ys.length:=by
 unfold vS;rw[List.length_map];exact List.length_filter_le _ _
theorem atE (left right others:List Int)(ys:List (List Val))(x:List Val):(aen left right others ys x).length<=ys.length:=by
 unfold aen;cases(zn x left).any (xi yp)
 ·exact ai2 ..
 ·exact Nat.zero_le _
theorem Jl (left right others:List Int)(ys:List (List Val)): ∀xs,(qx left right others xs ys).length<=xs.length*ys.length
 | []=>by simp[qx]
 |x::r=>by
  have h1:=atE left right others ys x;have h2:=Jl left right others ys r;simp only[qx,List.flatMap_cons,List.length_append,List.length_cons]at h2⊢;rw[Nat.add_mul];omega
def jnC (bc:List Col)(br:List (List Val))(left right others:List Int)(ar:List (List Val))(i:Nat)(x key:List Val)(j:Nat)(out:List (List Val)):S:=
 ⟨[(4,cV (.ptr 4 0)),(8,.w (.c (.d (.sl (zw left))))),(9,.w (.c (.d (.sl (zw right))))),(10,cV (.own 41 1 others.length)),(13,cV (.own 80 1 out.length)),(15,.w (yf x)),(16,.w (yf key)),(44,.w (.c (.d (.sl (zj ar))))),(45,zf ar.length),(46,zf i),(57,.w (.c (.d (.sl (zj br))))),(58,zf br.length),(59,zf j)],
 [(4,.box [.d (.sl (zi bc)),.d (.sl (zj br))]),(41,.arr 1 (zw others) true),(80,.arr 1 (zj out) false)]⟩
theorem axc {Q:E ->S ->Prop}{s:S}(bc:List Col)(br:List (List Val))(left right others:List Int)(ar:List (List Val))(i:Nat)(x key:List Val)(out:List (List Val))
 (hout:out.length+br.length<=20000) (hrl:right.length<=100000) (hol:others.length<=100000) (hxl:x.length<=100000) (hr: ∀y∈br,yQ y.length right) (ho: ∀y∈br,yQ y.length others)
 (h0:xD s [4,8,9,10,13,15,16,44,45,46,57,58,59] (· =jnC bc br left right others ar i x key 0 out))
 (hQ:Q (.exit 4) (vi (jnC bc br left right others ar i x key br.length (out++vS x key right others br)) 60 (zD (decide ((br.length:Int)<br.length))))):
 zS (mwpR Pg T8.f uN) [4,8,9,10,13,15,16,44,45,46,57,58,59] Q s:=by
 refine zF (P:=Pg) (f:=T8.f) (body:=uN) br.length (λj=>jnC bc br left right others ar i x key j (out++vS x key right others (br.take j))) (λ_=>True) ⟨trivial,?_⟩ ?_
 ·have e:out++vS x key right others (br.take 0)=out:=by simp[vS]
  rw[e];exact h0
 ·intro j hj _;clear h0;have hTl:(out++vS x key right others (br.take j)).length<=out.length+j:=by
   have:=ai2 x key right others (br.take j);rw[List.length_take]at this;rw[List.length_append];omega
  have hnx: ∀h:j<br.length,out++vS x key right others (br.take (j+1))=(out++vS x key right others (br.take j))++(bif yz key (zn br[j] right)then [x++zn br[j] others]else []):=λh=>by
   unfold vS;rw[Ys (λy=>yz key (zn y right)) h,List.map_append,List.append_assoc];cases yz key (zn br[j] right)<;>rfl
  have hend:j=br.length ->out++vS x key right others br=out++vS x key right others (br.take j):=λh=>by rw[h,List.take_length]
  show mwpR Pg T8.f uN _ (jnC bc br left right others ar i x key j (out++vS x key right others (br.take j)));generalize out++vS x key right others (br.take j)=T at*;have hta:(zj T).take T.length=zj T:=by rw[<- zA,List.take_length]
  have hto:(zw others).take others.length=zw others:=by rw[<- yu,List.take_length]
  unfold jnC;(conv=>whnf);refine zd (λh1=>?_) (λh1=>?_)
  ·have hlt:j<br.length:=by have:=of_decide_eq_true h1;omega
   have hg:=xu hlt;have hnx:=hnx hlt;have hpr:=gS br[j] right (by omega) (hr _ (List.getElem_mem hlt));have hpo:=gS br[j] others (by omega) (ho _ (List.getElem_mem hlt));have heq:=Qe key (zn br[j] right);have hcc:=aeK x (zn br[j] others) hxl (by simp[zn];omega);have wi:=zx hlt (by omega);have hT20:((T.length:Int)==20000)=false:=by simp;omega
   clear hQ hend hr ho;rw[<- hto]at hpo;generalize br[j]=y at*;generalize yz key (zn y right)=b at*;(conv=>whnf);refine⟨by omega,_,hg,rfl,?_⟩;(conv=>whnf);(conv=>whnf);refine Sat.cal (hpr) ?_;(conv=>whnf);refine Sat.cal (heq) ?_;(conv=>whnf);cases b with
   |true=>
    rw[cond_true]at hnx;have hrw:(rowD (x++zn y others)).take (x++zn y others).length=rowD (x++zn y others):=by rw[<- zo,List.take_length]
    generalize x++zn y others=R at*;(conv=>whnf);refine zd (λh3=>?_) (λh3=>?_)
    ·have h3:((T.length:Int)==20000)=true:=h3;rw[hT20]at h3;cases h3
    ·(conv=>whnf);refine Sat.cal (hpo) ?_;(conv=>whnf);refine Sat.cal (hcc) ?_;(conv=>whnf);refine⟨by simp,by unfold ye;simp;omega,by simp;omega,?_⟩;(conv=>whnf);refine⟨hlt,trivial,ze ?_⟩;(conv=>whnf);rw[wi,hta,hrw,hnx,vt,List.length_append];rfl
   |false=>
    rw[cond_false,List.append_nil]at hnx;(conv=>whnf);refine⟨hlt,trivial,ze ?_⟩;(conv=>whnf);rw[wi,hnx];rfl
  ·have hge:j=br.length:=by have:=of_decide_eq_false h1;omega
   rw[hend hge]at hQ;subst hge;(conv=>whnf);exact hQ
def jnA (ac:List Col)(ar:List (List Val))(on:List ByteArray)(bc:List Col)(br:List (List Val))(left right:List Int)(i:Nat)(acc:List Int):S:=
 ⟨[(2,.w (.c (.d (.sl (zp on))))),(3,cV (.ptr 3 0)),(4,cV (.ptr 4 0)),(8,.w (.c (.d (.sl (zw left))))),(9,.w (.c (.d (.sl (zw right))))),(10,cV (.own 41 1 acc.length)),(26,.w (.c (.d (.sl (zi bc))))),(27,zf bc.length),(28,zf i)],
 [(3,.box [.d (.sl (zi ac)),.d (.sl (zj ar))]),(4,.box [.d (.sl (zi bc)),.d (.sl (zj br))]),(41,.arr 1 (zw acc) false)]⟩
def jnB (bc:List Col)(br:List (List Val))(left right others:List Int)(ar:List (List Val))(i:Nat)(out:List (List Val)):S:=
 ⟨[(4,cV (.ptr 4 0)),(8,.w (.c (.d (.sl (zw left))))),(9,.w (.c (.d (.sl (zw right))))),(10,cV (.own 41 1 others.length)),(13,cV (.own 80 1 out.length)),(44,.w (.c (.d (.sl (zj ar))))),(45,zf ar.length),(46,zf i)],
 [(4,.box [.d (.sl (zi bc)),.d (.sl (zj br))]),(41,.arr 1 (zw others) true),(80,.arr 1 (zj out) false)]⟩
theorem ady (ac:List Col)(ar:List (List Val))(bc:List Col)(br:List (List Val))(on:List ByteArray)(hon:on.length<=100000)(hbc:bc.length<=100000)
 (hmul:ar.length*br.length<=20000) (har:ar.length<=1000000) (hax: ∀x∈ar,x.length=ac.length) (hacl:ac.length<=100000) (hby: ∀y∈br,y.length=bc.length) (hla:yQ ac.length (zm ac on)) (hra:yQ bc.length (zm bc on)):
 Sat Pg QX [.agg [.d (.sl (zi ac)),.d (.sl (zj ar))],.agg [.d (.sl (zi bc)),.d (.sl (zj br))],.c (.d (.sl (zp on)))]
  (λr=>r=⟨.tup [.c (.d (.sl (zj (qx (zm ac on) (zm bc on) (oth on 0 bc) ar br)))),.c (bool true)],[]⟩):=by
 have hpa:=gT ac (.sl (zj ar)) on (by omega);have hpb:=gT bc (.sl (zj br)) on (by omega);have hll:(zm ac on).length=on.length:=by simp[zm]
 have hrl:(zm bc on).length=on.length:=by simp[zm]
 have hoth:=aie on bc 0;have hothl:(oth on 0 bc).length<=bc.length:=by
  have gen: ∀(l:List Col) (i:Nat),(oth on i l).length<=l.length:=by
   intro l;induction l with
   |nil=>intro i;exact Nat.le_refl _
   |cons c r ih=>
    intro i;have:=ih (i+1);simp only[oth,List.length_append,List.length_cons];cases(!hasB on c.name)<;>simp<;>omega
  exact gen bc 0
 generalize zm ac on=left at*;generalize zm bc on=right at*;refine z0 ?_;refine zg T8 acI (by kernel_rfl) ?_
 conv=>whnf
 refine Sat.cal (hpa) ?_
 conv=>whnf
 refine Sat.cal (hpb) ?_
 conv=>whnf
 rw[zC];refine yv (P:=Pg) (f:=T8.f) (body:=Z6) (λx:Nat×List Int=>jnA ac ar on bc br left right x.1 x.2) (λx=>bc.length - x.1) (λx=>x.1<=bc.length /\x.2.length<=x.1 /\oth on 0 bc=x.2++oth on x.1 (bc.drop x.1)) ⟨(0,[]),⟨Nat.zero_le _,Nat.le_refl _,rfl⟩,⟨_,yh 10 41 1 (by omega) (by omega) rfl,?_⟩⟩ ?_
 ·(conv=>whnf);rfl
 ·rintro⟨i,T⟩ hx;obtain⟨hi,hTl,hR⟩:i<=bc.length /\T.length<=i /\oth on 0 bc=T++oth on i (bc.drop i):=hx;show mwpR Pg T8.f Z6 _ (jnA ac ar on bc br left right i T);have hta:(zw T).take T.length=zw T:=by rw[<- yu,List.take_length]
  unfold jnA;(conv=>whnf);refine zd (λh1=>?_) (λh1=>?_)
  ·have hlt:i<bc.length:=by have:=of_decide_eq_true h1;omega
   rw[zq hlt]at hR;simp only[oth]at hR;have hg:=yW hlt;have wi:=zx hlt (by omega);have hct:=yc on bc[i].name;generalize bc[i]=c at*;obtain⟨c1,c2⟩:=c;simp only at hR hct;generalize hasB on c1=b at*;(conv=>whnf);refine⟨by omega,_,hg,rfl,?_⟩;(conv=>whnf);refine Sat.cal (hct) ?_;(conv=>whnf);cases b with
   |false=>
    have hR:oth on 0 bc=T++([(i:Int)]++oth on (i+1) (bc.drop (i+1))):=hR;(conv=>whnf);refine⟨by simp,by unfold ye;simp;omega,by simp;omega,?_⟩;(conv=>whnf);refine⟨(i+1,T++[(i:Int)]),⟨⟨hlt,by show(T++[(i:Int)]).length<=i+1;simp;omega,by rw[hR,List.append_assoc]⟩,by show bc.length -(i+1)<bc.length - i;omega⟩,ze ?_⟩;(conv=>whnf);rw[wi,hta,List.length_append,<- WC];rfl
   |true=>
    have hR:oth on 0 bc=T++oth on (i+1) (bc.drop (i+1)):=hR;(conv=>whnf);refine⟨(i+1,T),⟨⟨hlt,by show T.length<=i+1;omega,hR⟩,by show bc.length -(i+1)<bc.length - i;omega⟩,ze ?_⟩;(conv=>whnf);rw[wi];rfl
  ·have hge:bc.length<=i:=by have:=of_decide_eq_false h1;omega
   rw[List.drop_eq_nil_of_le hge]at hR;have hR:oth on 0 bc=T:=by rw[hR];exact List.append_nil _
   rw[hR]at hoth hothl⊢;clear hTl;(conv=>whnf);rw[zA];refine zF (P:=Pg) (f:=T8.f) (body:=Z7) ar.length (λk=>jnB bc br left right T ar k (qx left right T (ar.take k) br)) (λ_=>True) ⟨trivial,⟨_,(aor _ 41).trans (yh 13 80 1 (by omega) (by omega) rfl),?_⟩⟩ ?_
   ·(conv=>whnf);rfl
   ·intro k hk _;have hnx: ∀h:k<ar.length,qx left right T (ar.take (k+1)) br=qx left right T (ar.take k) br++aen left right T br ar[k]:=λh=>by
     unfold qx;rw[zP h,List.flatMap_append];simp
    have hend:ar.length<=k ->qx left right T ar br=qx left right T (ar.take k) br:=λh=>by rw[List.take_of_length_le h]
    have hUl:k<ar.length ->(qx left right T (ar.take k) br).length+br.length<=20000:=λh=>by
     have h1:=Jl left right T br (ar.take k);rw[List.length_take,Nat.min_eq_left (by omega)]at h1;have h2:(k+1)*br.length<=ar.length*br.length:=Nat.mul_le_mul_right _ h;rw[Nat.add_mul]at h2;omega
    have hL1:=λ(Q':E ->S ->Prop) (s':S) (x key:List Val)=>axc (Q:=Q') (s:=s') bc br left right T ar k x key (qx left right T (ar.take k) br)
    show mwpR Pg T8.f Z7 _ (jnB bc br left right T ar k (qx left right T (ar.take k) br));generalize qx left right T (ar.take k) br=U at*;have htu:(zj U).take U.length=zj U:=by rw[<- zA,List.take_length]
    clear hR hpa hpb;unfold jnB;(conv=>whnf);refine zd (λh1=>?_) (λh1=>?_)
    ·have hlt:k<ar.length:=by have:=of_decide_eq_true h1;omega
     have hg:=xu hlt;have hnx:=hnx hlt;have hUl:=hUl hlt;have hxl:=hax _ (List.getElem_mem hlt);have wi:=zx hlt (by omega);have hpk:=gS ar[k] left (by omega) (by rw[hxl];exact hla);have hcn:=WL (zn ar[k] left) yp;clear hend hax;generalize ar[k]=x at*;unfold aen at hnx;generalize zn x left=key at*;have hL1:=λQ' s'=>hL1 Q' s' x key hUl (by omega) (by omega) (by omega) (λy hy=>by rw[hby y hy];exact hra) (λy hy=>by rw[hby y hy];intro z hz;have:=hoth z hz;omega)
     generalize key.any (xi yp)=b at*;(conv=>whnf);refine⟨by omega,_,hg,rfl,?_⟩;(conv=>whnf);(conv=>whnf);refine Sat.cal (hpk) ?_;(conv=>whnf);refine Sat.cal (hcn) ?_;(conv=>whnf);cases b with
     |true=>
      have hnx:qx left right T (ar.take (k+1)) br=U:=by rw[hnx];exact List.append_nil _
      (conv=>whnf);refine⟨hlt,trivial,ze ?_⟩;(conv=>whnf);rw[wi,hnx];rfl
     |false=>
      have hnx:qx left right T (ar.take (k+1)) br=U++vS x key right T br:=hnx;(conv=>whnf);refine hL1 _ _ (ze ?_) ?_
      ·(conv=>whnf);unfold jnC;rw[zA];rfl
      unfold vi jnC;(conv=>whnf);refine⟨hlt,trivial,ze ?_⟩;(conv=>whnf);rw[wi,hnx];rfl
    ·have hge:ar.length<=k:=by have:=of_decide_eq_false h1;omega
     rw[hend hge];(conv=>whnf);refine⟨rfl,?_⟩;show Res.mk (.tup [.c (.d (.sl ((zj U).take U.length))),.c (bool true)]) []=_;rw[htu]
theorem ab1 (d:List Nmd)(cols:List Col)(st:Stp)(hop:st.op=3)(hs:st.sorts.length<=1000000)(hcs:st.cols.length<=1000000)(hag:st.aggs.length<=100000):Sat Pg yk [.c (.d (.sl (zL d))),.c (.d (.sl (zi cols))),st.w] (λr=>r=bif st.err !=0 then QF st.err else Ur cols st.cols st.aggs):=by
 have hS:=q6 st hs;have hG:=ab0 cols st hcs hag;have hG2: ∃e l,Ur cols st.cols st.aggs=⟨.tup [.c (.d (.sl (zi l))),.c (int e)],[]⟩:=by
  unfold Ur;cases takeErr cols st.cols
  ·cases(yl cols st.aggs).1 !=0
   ·exact⟨_,_,rfl⟩
   ·exact⟨_,[],rfl⟩
  ·exact⟨_,[],rfl⟩
 generalize st.err=e at*;refine z0 ?_;obtain⟨op,⟨eo,nm,⟨vk,vn,vs⟩,ks⟩,items,scs,saggs,sorts,sn,tb⟩:=st;simp only at*;subst hop;cases h1:(e !=0)with
 |true=>
  refine zg T8 ya (by kernel_rfl) ?_;(conv=>whnf);refine Sat.cal (hS) ?_;(conv=>whnf);rw[h1];(conv=>whnf);exact⟨rfl,rfl⟩
 |false=>
  simp only[cond_false];refine zg T8 ya (by kernel_rfl) ?_;(conv=>whnf);refine Sat.cal (hS) ?_;(conv=>whnf);rw[h1];(conv=>whnf);obtain⟨e2,l2,hG2⟩:=hG2;rw[hG2]at hG⊢;refine Sat.cal (hG) ?_;(conv=>whnf);exact⟨rfl,rfl⟩
theorem am2 (d:List Nmd)(cols:List Col)(st:Stp)(hop:st.op=5)(hs:st.sorts.length<=1000000)(hcl:cols.length<=1000000):Sat Pg yk [.c (.d (.sl (zL d))),.c (.d (.sl (zi cols))),st.w] (λr=>r=bif st.err !=0 then QF st.err else rCs cols):=by
 have hS:=q6 st hs;have hC:=qp cols hcl;generalize st.err=e at*;refine z0 ?_;obtain⟨op,⟨eo,nm,⟨vk,vn,vs⟩,ks⟩,items,scs,saggs,sorts,sn,tb⟩:=st;simp only at*;subst hop;cases h1:(e !=0)with
 |true=>
  refine zg T8 ya (by kernel_rfl) ?_;(conv=>whnf);refine Sat.cal (hS) ?_;(conv=>whnf);rw[h1];(conv=>whnf);exact⟨rfl,rfl⟩
 |false=>
  simp only[cond_false];refine zg T8 ya (by kernel_rfl) ?_;(conv=>whnf);refine Sat.cal (hS) ?_;(conv=>whnf);rw[h1];(conv=>whnf);refine Sat.cal (hC) ?_;(conv=>whnf);exact⟨rfl,rfl⟩
theorem aom (d:List Nmd)(cols:List Col)(st:Stp)(hop:st.op=6)(hs:st.sorts.length<=1000000)(hcs:st.cols.length<=1000000)(hcl:cols.length<=1000000)(htl: ∀t,zY st.table d=some t ->t.cols.length<=1000000):Sat Pg yk [.c (.d (.sl (zL d))),.c (.d (.sl (zi cols))),st.w] (λr=>r=bif st.err !=0 then QF st.err else jnT d cols st.cols st.table):=by
 have hS:=q6 st hs;have hG:=adA d cols st hop hcs hcl htl;have hG2: ∃e l,jnT d cols st.cols st.table=⟨.tup [.c (.d (.sl (zi l))),.c (int e)],[]⟩:=by
  unfold jnT;cases zY st.table d with
  |none=>exact⟨_,[],rfl⟩
  |some t=>
   unfold jnQ;simp only;cases(jnErr cols t.cols st.cols !=0)
   ·cases dupL [] (cols++xJ st.cols t.cols)
    ·cases decide (((cols++xJ st.cols t.cols).length:Int)>32)
     ·exact⟨_,_,rfl⟩
     ·exact⟨_,[],rfl⟩
    ·exact⟨_,[],rfl⟩
   ·exact⟨_,[],rfl⟩
 generalize st.err=e at*;refine z0 ?_;obtain⟨op,⟨eo,nm,⟨vk,vn,vs⟩,ks⟩,items,scs,saggs,sorts,sn,tb⟩:=st;simp only at*;subst hop;cases h1:(e !=0)with
 |true=>
  refine zg T8 ya (by kernel_rfl) ?_;(conv=>whnf);refine Sat.cal (hS) ?_;(conv=>whnf);rw[h1];(conv=>whnf);exact⟨rfl,rfl⟩
 |false=>
  simp only[cond_false];refine zg T8 ya (by kernel_rfl) ?_;(conv=>whnf);refine Sat.cal (hS) ?_;(conv=>whnf);rw[h1];(conv=>whnf);obtain⟨e2,l2,hG2⟩:=hG2;rw[hG2]at hG⊢;refine Sat.cal (hG) ?_;(conv=>whnf);exact⟨rfl,rfl⟩
theorem auS (a b:Int):yP false a b=min a b:=by
 show(if b<a then b else a)=_;omega
def rRT (l:List (List Val)):Res:=⟨.tup [.c (.d (.sl (zj l))),.c (bool true)],[]⟩
theorem Wc (d:List Nmd)(t:Tbl)(st:Stp)(hop:st.op=3)(gs:List Gr)(hg:Sat Pg Jo [.agg [.d (.sl (zi t.cols)),.d (.sl (zj t.rows))],.agg st.cs] (λr=>r=rC (.d (.sl (zj (gs.map (yV t.cols st.aggs))))))):Sat Pg wC [.c (.d (.sl (zL d))),t.w,.agg st.cs] (λr=>r=rRT (gs.map (yV t.cols st.aggs))):=by
 refine z0 ?_;obtain⟨tc,tr⟩:=t;obtain⟨op,⟨eo,nm,⟨vk,vn,vs⟩,ks⟩,items,scs,saggs,sorts,sn,tb⟩:=st;simp only at*;subst hop;unfold Stp.cs qB;refine zg T8 ui (by kernel_rfl) ?_
 conv=>whnf
 refine Sat.cal (hg) ?_
 conv=>whnf
 exact⟨rfl,rfl⟩
theorem ait (d:List Nmd)(t:Tbl)(st:Stp)(hop:st.op=5)(hn:0<=st.n):Sat Pg wC [.c (.d (.sl (zL d))),t.w,.agg st.cs] (λr=>r=rRT (t.rows.take (yP false st.n t.rows.length).toNat)):=by
 refine z0 ?_;obtain⟨tc,tr⟩:=t;obtain⟨op,⟨eo,nm,⟨vk,vn,vs⟩,ks⟩,items,scs,saggs,sorts,sn,tb⟩:=st;simp only at*;subst hop;unfold Stp.cs qB;refine zg T8 ui (by kernel_rfl) ?_
 conv=>whnf
 rw[zA];have hm:=auS sn tr.length;have hrt:zj (tr.take (yP false sn tr.length).toNat)=((zj tr).drop 0).take ((yP false sn tr.length).toNat - 0):=by simp[zj,List.map_take]
 refine⟨by show(0:Int)<=yP false sn tr.length;omega,by show yP false sn tr.length<=(tr.length:Int);omega,?_⟩
 conv=>whnf
 exact⟨rfl,by unfold rRT;rw[hrt];rfl⟩
theorem aao (d:List Nmd)(t:Tbl)(st:Stp)(hop:st.op=6)(b:Tbl)(hb:zY st.table d=some b)(R:List (List Val))(hg:Sat Pg QX [.agg [.d (.sl (zi t.cols)),.d (.sl (zj t.rows))],.agg [.d (.sl (zi b.cols)),.d (.sl (zj b.rows))],.c (.d (.sl (zp st.cols)))] (λr=>r=rRT R)):Sat Pg wC [.c (.d (.sl (zL d))),t.w,.agg st.cs] (λr=>r=rRT (R)):=by
 have hf:=xR d st.table;rw[hb]at hf;obtain⟨bc,br⟩:=b;refine z0 ?_;obtain⟨tc,tr⟩:=t;obtain⟨op,⟨eo,nm,⟨vk,vn,vs⟩,ks⟩,items,scs,saggs,sorts,sn,tb⟩:=st;simp only at*;subst hop;unfold Stp.cs qB;refine zg T8 ui (by kernel_rfl) ?_
 conv=>whnf
 refine Sat.cal (hf) ?_
 conv=>whnf
 refine Sat.cal (hg) ?_
 conv=>whnf
 exact⟨rfl,rfl⟩
theorem kt (d:List Nmd)(t:Tbl)(st:Stp)(cols2:List Col)(R:List (List Val))(hop:st.op=3)(hl:R.length<=20000)(hR:Sat Pg wC [.c (.d (.sl (zL d))),t.w,.agg st.cs] (λr=>r=rRT R)):
 Sat Pg qF [.c (.d (.sl (zL d))),t.w,.agg st.cs,.c (.d (.sl (zi cols2)))] (λr=>r=wE ⟨cols2,R⟩ 0):=by
 have hf:=xR d st.table;obtain⟨tc,tr⟩:=t;obtain⟨op,⟨eo,nm,⟨vk,vn,vs⟩,ks⟩,items,scs,saggs,sorts,sn,tb⟩:=st;simp only at*;subst hop;unfold Stp.cs qB at*;have hl2:decide (((zj R).length:Int)>20000)=false:=decide_eq_false (by rw[zA];omega);generalize zY tb d=f at*;cases f with
 |none=>
  refine zg T8 yJ (by kernel_rfl) ?_;(conv=>whnf);refine Sat.cal (hf) ?_;(conv=>whnf);refine Sat.cal (hR) ?_;(conv=>whnf);rw[hl2];(conv=>whnf);rfl
 |some ft=>
  obtain⟨fc,fr⟩:=ft;refine zg T8 yJ (by kernel_rfl) ?_;(conv=>whnf);refine Sat.cal (hf) ?_;(conv=>whnf);refine Sat.cal (hR) ?_;(conv=>whnf);rw[hl2];(conv=>whnf);rfl
theorem akH (d:List Nmd)(t:Tbl)(st:Stp)(cols2:List Col)(R:List (List Val))(hop:st.op=6)(hl:R.length<=20000)(hR:Sat Pg wC [.c (.d (.sl (zL d))),t.w,.agg st.cs] (λr=>r=rRT R)):
 Sat Pg qF [.c (.d (.sl (zL d))),t.w,.agg st.cs,.c (.d (.sl (zi cols2)))] (λr=>r=wE ⟨cols2,R⟩ 0):=by
 have hf:=xR d st.table;obtain⟨tc,tr⟩:=t;obtain⟨op,⟨eo,nm,⟨vk,vn,vs⟩,ks⟩,items,scs,saggs,sorts,sn,tb⟩:=st;simp only at*;subst hop;unfold Stp.cs qB at*;have hl2:decide (((zj R).length:Int)>20000)=false:=decide_eq_false (by rw[zA];omega);generalize zY tb d=f at*;cases f with
 |none=>
  refine zg T8 yJ (by kernel_rfl) ?_;(conv=>whnf);refine Sat.cal (hf) ?_;(conv=>whnf);refine Sat.cal (hR) ?_;(conv=>whnf);rw[hl2];(conv=>whnf);rfl
 |some ft=>
  obtain⟨fc,fr⟩:=ft;refine zg T8 yJ (by kernel_rfl) ?_;(conv=>whnf);refine Sat.cal (hf) ?_;(conv=>whnf);refine Sat.cal (hR) ?_;(conv=>whnf);rw[hl2];(conv=>whnf);rfl
theorem Wl (d:List Nmd)(t:Tbl)(st:Stp)(cols2:List Col)(R:Tbl)(h1:xm d=0)(h2:zQ t=0)(hT:Sat Pg yk [.c (.d (.sl (zL d))),.c (.d (.sl (zi t.cols))),st.w] (λr=>r=rCs cols2))
 (hS:Sat Pg qF [.c (.d (.sl (zL d))),t.w,.agg st.cs,.c (.d (.sl (zi cols2)))] (λr=>r=wE R 0)):
 Sat Pg vI [.c (.d (.sl (zL d))),t.w,st.w] (λr=>r=wE R 0):=by
 have hc:=vM d;have hk:=y8 t;rw[h1]at hc;rw[h2]at hk;obtain⟨tc,tr⟩:=t;obtain⟨rc,rr⟩:=R;obtain⟨op,⟨eo,nm,⟨vk,vn,vs⟩,ks⟩,items,scs,saggs,sorts,sn,tb⟩:=st;unfold Stp.cs qB at hS;refine zg T8 jY (by kernel_rfl) ?_
 conv=>whnf
 refine Sat.cal (hc) ?_
 conv=>whnf
 refine Sat.cal (hk) ?_
 conv=>whnf
 refine Sat.cal (hT) ?_
 conv=>whnf
 refine Sat.cal (hS) ?_
 conv=>whnf
 rfl
theorem amK (d:List Nmd)(t:Tbl)(st:Stp)(e:Int)(h1:xm d=0)(h2:zQ t=0)(he:e≠0)(hT:Sat Pg yk [.c (.d (.sl (zL d))),.c (.d (.sl (zi t.cols))),st.w] (λr=>r=QF e)):
 Sat Pg vI [.c (.d (.sl (zL d))),t.w,st.w] (λr=>r=rNT e):=by
 have hc:=vM d;have hk:=y8 t;rw[h1]at hc;rw[h2]at hk;have he:(e !=0)=true:=by simpa using he
 obtain⟨tc,tr⟩:=t;obtain⟨op,⟨eo,nm,⟨vk,vn,vs⟩,ks⟩,items,scs,saggs,sorts,sn,tb⟩:=st;refine zg T8 jY (by kernel_rfl) ?_
 conv=>whnf
 refine Sat.cal (hc) ?_
 conv=>whnf
 refine Sat.cal (hk) ?_
 conv=>whnf
 refine Sat.cal (hT) ?_
 conv=>whnf
 rw[he]
 conv=>whnf
 rfl
theorem UP {s:S}(d:Nat)(c:C)(x:D)(pl1:List (Nat×Pl))(h:aget s.sl d=some (cV c))(ht:Qi s.pl c=some (x,pl1)):QH s ((s.withPl pl1).put (some d) (cV (.d x))):=by
 intro F N ι a w hr;obtain⟨y,hy1,hy2⟩:=hr.slots d _ h;obtain⟨hr2,hok,hd⟩:=ab8 hr (c:=c) (v:=y) hy2 ht;refine⟨ι,{hr2 with slots:=λk v hv=>?_}⟩;have hv:aget (yq d (cV (.d x)) s.sl) k=some v:=hv;rw[yi]at hv;by_cases e:d=k
 ·rw[if_pos e]at hv;cases hv;subst e;exact⟨y,hy1,hd⟩
 ·rw[if_neg e]at hv;exact hr2.slots k v hv
def xS:ACode ->ACode
 | .seq _ b=>b
 |x=>x
def sFrom:ByteArray:=⟨#[102,114,111,109]⟩
def sTo:ByteArray:=⟨#[116,111]⟩
theorem gQ (g:FuncId)(cap:List D)(p:ByteArray ->Bool)(hp: ∀x:ByteArray,Sat Pg g [.c (str x),.c (.fp cap)] (λr=>r=rB (p x)))(l:List ByteArray)(hlen:l.length<=1000000):
 Sat Pg Za [.c (.d (.sl (zp l))),.c (.d (.fn g [cap]))] (λr=>r=rI (yd p 0 l)):=by
 refine zg T8 uU (by kernel_rfl) ?_
 conv=>whnf
 refine zF (P:=Pg) (f:=T8.f) (body:=qV) l.length (λi=>⟨[(0,.w (.c (.d (.sl (zp l))))),(1,.w (.c (.d (.fn g [cap])))),(7,zf (zp l).length),(8,zf i)],[]⟩)
  (λi=>yd p 0 l=yd p i (l.drop i)) ⟨rfl,ze ?_⟩ ?_
 ·(conv=>whnf);rfl
 ·intro i hi hR;(conv=>whnf);refine zd (λh1=>?_) (λh1=>?_)
  ·have hlt:i<l.length:=by have:=of_decide_eq_true h1;rw[zK]at this;omega
   (conv=>whnf);refine⟨by omega,_,qN hlt,rfl,?_⟩;(conv=>whnf);refine Sat.cal (hp l[i]) ?_;rw[zq hlt]at hR;(conv=>whnf);refine zd (λh3=>?_) (λh3=>?_)
   ·simp only[yd,h3,cond_true]at hR;(conv=>whnf);exact congrArg rI hR.symm
   ·simp only[yd,h3,cond_false]at hR;(conv=>whnf);refine⟨hlt,hR,ze ?_⟩;(conv=>whnf);rw[zx hlt (by omega)];rfl
  ·have hge:l.length<=i:=by have:=of_decide_eq_false h1;rw[zK]at this;omega
   rw[List.drop_eq_nil_of_le hge]at hR;(conv=>whnf);exact congrArg rI hR.symm
theorem Z2 (g:FuncId)(cap:List D)(p:ByteArray ->Bool)(hp: ∀x:ByteArray,Sat Pg g [.c (str x),.c (.fp cap)] (λr=>r=rB (p x)))(l:List ByteArray)(hlen:l.length<=1000000):
 Sat Pg uZ [.c (.d (.sl (zp l))),.c (.d (.fn g [cap]))] (λr=>r=rB (l.any p)):=by
 refine zg T8 vV (by kernel_rfl) ?_
 conv=>whnf
 refine Sat.cal (gQ g cap p hp l hlen) ?_
 conv=>whnf
 exact congrArg rB (YT _ l 0)
theorem abX (x:ByteArray)(d0 d1 d2 d3 d4 d5 d6 d7:D)(scs:List ByteArray)(rest:List D):Sat Pg Vk [.c (str x),.c (.fp (d0::d1::d2::d3::d4::d5::d6::d7:: .sl (zp scs)::rest))] (λr=>r=rB (hasB scs x)):=by
 refine zg T8 kV (by kernel_rfl) ?_
 conv=>whnf
 refine Sat.cal (yc scs x) ?_
 conv=>whnf
 rfl
def colInt (cols:List Col)(s:ByteArray):Int:=bif decide (zh cols s<0)then 16 else bif (y5 cols (zh cols s)).t !=2 then 14 else 0
theorem Wm (cols:List Col)(s:ByteArray):Sat Pg aes [.c (.d (.sl (zi cols))),.c (str s)] (λr=>r=rI (colInt cols s)):=by
 have hc:=y0 cols s;have hb:=wA cols s;have hg:=λh=>Xb (hb h).1 (hb h).2
 unfold colInt;generalize zh cols s=k at*;refine zg T8 aaB (by kernel_rfl) ?_
 conv=>whnf
 refine Sat.cal (hc) ?_
 conv=>whnf
 refine zd (λh1=>?_) (λh1=>?_)
 ·have h1:decide (k<0)=true:=h1;rw[h1];(conv=>whnf);rfl
 ·have h1:decide (k<0)=false:=h1;rw[h1];have hg:=hg (of_decide_eq_false h1);have hb:=hb (of_decide_eq_false h1);generalize y5 cols k=c at*;obtain⟨c1,c2⟩:=c;(conv=>whnf);refine⟨hb.1,_,hg,rfl,?_⟩;(conv=>whnf);refine zd (λh2=>?_) (λh2=>?_)
  ·have h2:(c2 !=2)=true:=h2;simp only[h2];(conv=>whnf);rfl
  ·have h2:(c2 !=2)=false:=h2;simp only[h2];(conv=>whnf);rfl
def intErr (cols:List Col):List ByteArray ->Int
 | []=>0
 |s::r=>bif colInt cols s !=0 then colInt cols s else intErr cols r
def keepS (sp cs:List ByteArray)(l:List Col):List Col:=l.filter λc=>!hasB cs c.name&& !hasB sp c.name
def ap7 (sp:List ByteArray)(cols tcols:List Col)(cs:List ByteArray):Res:=
 bif jnErr cols tcols cs !=0 then QF (jnErr cols tcols cs)else bif intErr cols sp !=0 then QF (intErr cols sp)else bif intErr tcols sp !=0 then QF (intErr tcols sp)else
 bif dupL [] (cols++keepS sp cs tcols)then QF 4 else bif decide (((cols++keepS sp cs tcols).length:Int)>32)then QF 7 else rCs (cols++keepS sp cs tcols)
def ap6 (sp:List ByteArray)(cols tcols:List Col)(cs:List ByteArray):Res:=bif sp.any (hasB cs)then QF 4 else ap7 sp cols tcols cs
def ahM (sp:List ByteArray)(d:List Nmd)(cols:List Col)(cs:List ByteArray)(tb:ByteArray):Res:=match zY tb d with
 |none=>QF 17
 |some t=>ap6 sp cols t.cols cs
def W4 (op:Int)(eo:Int)(nm:ByteArray)(v1 v2:Int)(v3:ByteArray)(ks:List Ex)(items:List Itm)(scs:List ByteArray)(saggs:List Agg)(sorts:List Srt)(sn:Int)(tb:ByteArray):Pl:=
 .fbox [.lit (.int .i64 op),.lit (.int .i64 eo),.lit (.string nm),.lit (.int .i64 v1),.lit (.int .i64 v2),.lit (.string v3),.sl (exsD ks),.sl (yR items),.sl (zp scs),.sl (qy saggs),.sl (xg sorts),.lit (.int .i64 sn),.lit (.string tb)]
def gY (op:Int)(sp:List ByteArray)(eo:Int)(nm:ByteArray)(v1 v2:Int)(v3:ByteArray)(ks:List Ex)(items:List Itm)(scs:List ByteArray)(saggs:List Agg)(sorts:List Srt)(sn:Int)(tb:ByteArray)(tc:List Col)(i:Nat)(acc:List Col):S:=
 ⟨[(5,cV (.ptr 5 0)),(10,.w (.c (.d (.sl (zp sp))))),(20,cV (.own 128 2 acc.length)),(106,.w (.c (.d (.sl (zi tc))))),(107,zf tc.length),(108,zf i)],[(5,W4 op eo nm v1 v2 v3 ks items scs saggs sorts sn tb),(128,.arr 2 (zi acc) false)]⟩
theorem asS {Q:E ->S ->Prop}{s:S}(op:Int)(sp:List ByteArray)(eo:Int)(nm:ByteArray)(v1 v2:Int)(v3:ByteArray)(ks:List Ex)(items:List Itm)(scs:List ByteArray)(saggs:List Agg)(sorts:List Srt)(sn:Int)(tb:ByteArray)(cols tc:List Col)(hcl:cols.length<=1000000)(htl:tc.length<=1000000)
 (h0:xD s [5,10,20,106,107,108] (· =gY op sp eo nm v1 v2 v3 ks items scs saggs sorts sn tb tc 0 cols))
 (hQ:Q (.exit 8) (vi (gY op sp eo nm v1 v2 v3 ks items scs saggs sorts sn tb tc tc.length (cols++keepS sp scs tc)) 109 (zD (decide ((tc.length:Int)<tc.length))))):
 zS (mwpR Pg T8.f xM) [5,10,20,106,107,108] Q s:=by
 refine zF (P:=Pg) (f:=T8.f) (body:=xM) tc.length (λi=>gY op sp eo nm v1 v2 v3 ks items scs saggs sorts sn tb tc i (cols++keepS sp scs (tc.take i))) (λ_=>True) ⟨trivial,?_⟩ ?_
 ·have e:cols++keepS sp scs (tc.take 0)=cols:=by simp[keepS]
  rw[e];exact h0
 ·intro i hi _;clear h0;have hTl:(cols++keepS sp scs (tc.take i)).length<=1000000+i:=by
   have:=List.length_filter_le (λc:Col=>!hasB scs c.name&& !hasB sp c.name) (tc.take i);rw[List.length_take]at this;rw[List.length_append];unfold keepS;omega
  have hnx: ∀h:i<tc.length,cols++keepS sp scs (tc.take (i+1))=(cols++keepS sp scs (tc.take i))++(bif !hasB scs tc[i].name&& !hasB sp tc[i].name then [tc[i]]else []):=λh=>by
   unfold keepS;rw[Ys (λc:Col=>!hasB scs c.name&& !hasB sp c.name) h,List.append_assoc]
  have hend:i=tc.length ->cols++keepS sp scs tc=cols++keepS sp scs (tc.take i):=λh=>by rw[h,List.take_length]
  show mwpR Pg T8.f xM _ (gY op sp eo nm v1 v2 v3 ks items scs saggs sorts sn tb tc i (cols++keepS sp scs (tc.take i)));generalize cols++keepS sp scs (tc.take i)=T at*;have hta:(zi T).take T.length=zi T:=by rw[<- zC,List.take_length]
  unfold gY W4;(conv=>whnf);refine zd (λh1=>?_) (λh1=>?_)
  ·have hlt:i<tc.length:=by have:=of_decide_eq_true h1;omega
   have hg:=yW hlt;have hnx:=hnx hlt;have hhb:=yc scs tc[i].name;have hh0:=yc sp tc[i].name;have wi:=zx hlt (by omega);clear hQ hend;generalize tc[i]=c at*;obtain⟨c1,c2⟩:=c;simp only at hnx hhb hh0;generalize hasB scs c1=b at*;generalize hasB sp c1=b2 at*;(conv=>whnf);refine⟨by omega,_,hg,rfl,?_⟩;(conv=>whnf);refine Sat.cal (hhb) ?_;(conv=>whnf);refine zd (λh2=>?_) (λh2=>?_)
   ·have h2:(!b)=true:=h2;rw[h2,Bool.true_and]at hnx;(conv=>whnf);refine Sat.cal (hh0) ?_;(conv=>whnf);refine zd (λh3=>?_) (λh3=>?_)
    ·have h3:(!b2)=true:=h3;rw[h3,cond_true]at hnx;(conv=>whnf);refine⟨by simp,by unfold ye;simp;omega,by simp;omega,?_⟩;(conv=>whnf);refine⟨hlt,trivial,ze ?_⟩;(conv=>whnf);rw[wi,hta,hnx,List.length_append];simp only[zi,List.map_append];rfl
    ·have h3:(!b2)=false:=h3;rw[h3,cond_false,List.append_nil]at hnx;(conv=>whnf);refine⟨hlt,trivial,ze ?_⟩;(conv=>whnf);rw[wi,hnx];rfl
   ·have h2:(!b)=false:=h2;rw[h2,Bool.false_and,cond_false,List.append_nil]at hnx;(conv=>whnf);refine⟨hlt,trivial,ze ?_⟩;(conv=>whnf);rw[wi,hnx];rfl
  ·have hge:i=tc.length:=by have:=of_decide_eq_false h1;omega
   rw[hend hge]at hQ;subst hge;(conv=>whnf);exact hQ
def awH:ACode:=xS (xS (xS (xS (xS (xS (xS XS.code))))))
def awF (op:Int)(sp:List ByteArray)(eo:Int)(nm:ByteArray)(v1 v2:Int)(v3:ByteArray)(ks:List Ex)(items:List Itm)(scs:List ByteArray)(saggs:List Agg)(sorts:List Srt)(sn:Int)(tb:ByteArray)(cols tc:List Col)(tr:List (List Val))(i:Nat):S:=
 ⟨[(1,.w (.c (.d (.sl (zi cols))))),(5,cV (.ptr 5 0)),(8,cV (.ptr 8 0)),(10,.w (.c (.d (.sl (zp sp))))),(83,.w (.c (.d (.sl [[.sl (zi cols)],[.sl (zi tc)]])))),(84,zf 2),(85,zf i)],[(5,W4 op eo nm v1 v2 v3 ks items scs saggs sorts sn tb),(8,.box [.d (.sl (zi tc)),.d (.sl (zj tr))])]⟩
def aqU (op:Int)(sp:List ByteArray)(eo:Int)(nm:ByteArray)(v1 v2:Int)(v3:ByteArray)(ks:List Ex)(items:List Itm)(scs:List ByteArray)(saggs:List Agg)(sorts:List Srt)(sn:Int)(tb:ByteArray)(cols tc:List Col)(tr:List (List Val))(side:List Col)(i j:Nat):S:=
 ⟨[(1,.w (.c (.d (.sl (zi cols))))),(5,cV (.ptr 5 0)),(8,cV (.ptr 8 0)),(10,.w (.c (.d (.sl (zp sp))))),(16,.w (.c (.d (.sl (zi side))))),(83,.w (.c (.d (.sl [[.sl (zi cols)],[.sl (zi tc)]])))),(84,zf 2),(85,zf i),(89,.w (.c (.d (.sl (zp sp))))),(90,zf sp.length),(91,zf j)],[(5,W4 op eo nm v1 v2 v3 ks items scs saggs sorts sn tb),(8,.box [.d (.sl (zi tc)),.d (.sl (zj tr))])]⟩
theorem apk {s:S}(op:Int)(sp:List ByteArray)(hsp:sp.length<=1000)(eo:Int)(nm:ByteArray)(v1 v2:Int)(v3:ByteArray)(ks:List Ex)(items:List Itm)(scs:List ByteArray)(saggs:List Agg)(sorts:List Srt)(sn:Int)(tb:ByteArray)(cols tc:List Col)(tr:List (List Val))(hcs:scs.length<=1000000)(hcl:cols.length<=1000000)(htl:tc.length<=1000000)
 (h0:xD s [1,5,8,10,46,47,48] (· =⟨[(1,.w (.c (.d (.sl (zi cols))))),(5,cV (.ptr 5 0)),(8,cV (.ptr 8 0)),(10,.w (.c (.d (.sl (zp sp))))),(46,.w (.c (.d (.sl (zp scs))))),(47,zf scs.length),(48,zf (0:Nat))],[(5,W4 op eo nm v1 v2 v3 ks items scs saggs sorts sn tb),(8,.box [.d (.sl (zi tc)),.d (.sl (zj tr))])]⟩)):
 zS (mwpR Pg T8.f uj) [1,5,8,10,46,47,48] (XF 1 (gU (mwpR Pg T8.f awH) (Uo XS.res [] (DQ (ap7 sp cols tc scs))))) s:=by
 unfold ap7;refine zF (P:=Pg) (f:=T8.f) (body:=uj) scs.length (λi=>⟨[(1,.w (.c (.d (.sl (zi cols))))),(5,cV (.ptr 5 0)),(8,cV (.ptr 8 0)),(10,.w (.c (.d (.sl (zp sp))))),(46,.w (.c (.d (.sl (zp scs))))),(47,zf scs.length),(48,zf i)],[(5,W4 op eo nm v1 v2 v3 ks items scs saggs sorts sn tb),(8,.box [.d (.sl (zi tc)),.d (.sl (zj tr))])]⟩) (λi=>jnErr cols tc scs=jnErr cols tc (scs.drop i)) ⟨rfl,h0⟩ ?_
 ·intro i hi hR;unfold W4;(conv=>whnf);refine zd (λh1=>?_) (λh1=>?_)
  ·have hlt:i<scs.length:=by have:=of_decide_eq_true h1;omega
   rw[zq hlt]at hR;simp only[jnErr]at hR;have hg:=qN hlt;have wi:=zx hlt (by omega);have hc1:=y0 cols scs[i];have hc2:=y0 tc scs[i];have hb1:=wA cols scs[i];have hb2:=wA tc scs[i];have hg1:=λh=>Xb (hb1 h).1 (hb1 h).2
   have hg2:=λh=>Xb (hb2 h).1 (hb2 h).2
   generalize scs[i]=x at*;generalize zh cols x=k1 at*;generalize zh tc x=k2 at*;(conv=>whnf);refine⟨by omega,_,hg,rfl,?_⟩;(conv=>whnf);(conv=>whnf);refine Sat.cal (hc1) ?_;(conv=>whnf);refine Sat.cal (hc2) ?_;(conv=>whnf);refine zd (λh2=>?_) (λh2=>?_)
   ·have h2:(decide (k1<0)||decide (k2<0))=true:=h2;rw[h2]at hR;have hR:jnErr cols tc scs=16:=hR;simp only[hR];(conv=>whnf);exact⟨rfl,rfl⟩
   ·have h2:(decide (k1<0)||decide (k2<0))=false:=h2;rw[h2,cond_false]at hR;rw[Bool.or_eq_false_iff]at h2;have n1:=of_decide_eq_false h2.1;have n2:=of_decide_eq_false h2.2;have hb1:=hb1 n1;have hb2:=hb2 n2;have hg1:=hg1 n1;have hg2:=hg2 n2;generalize y5 cols k1=c1 at*;generalize y5 tc k2=c2 at*;obtain⟨c11,c12⟩:=c1;obtain⟨c21,c22⟩:=c2;simp only at hR;(conv=>whnf);refine⟨hb1.1,_,hg1,rfl,?_⟩;(conv=>whnf);refine⟨hb2.1,_,hg2,rfl,?_⟩;(conv=>whnf);refine zd (λh3=>?_) (λh3=>?_)
    ·have h3:(c12 !=c22)=true:=h3;rw[h3]at hR;have hR:jnErr cols tc scs=14:=hR;simp only[hR];(conv=>whnf);exact⟨rfl,rfl⟩
    ·have h3:(c12 !=c22)=false:=h3;rw[h3,cond_false]at hR;(conv=>whnf);refine⟨hlt,hR,ze ?_⟩;(conv=>whnf);rw[wi];rfl
  ·have hge:scs.length<=i:=by have:=of_decide_eq_false h1;omega
   rw[List.drop_eq_nil_of_le hge]at hR;have hR:jnErr cols tc scs=0:=hR;simp only[hR];clear hR;(conv=>whnf);refine zF (P:=Pg) (f:=T8.f) (body:=Zq) 2 (λi=>awF op sp eo nm v1 v2 v3 ks items scs saggs sorts sn tb cols tc tr i) (λi=>(1<=i ->intErr cols sp=0)/\(2<=i ->intErr tc sp=0)) ⟨⟨λh=>by omega,λh=>by omega⟩,⟨_,UP 83 _ _ _ rfl rfl,?_⟩⟩ ?_
   ·(conv=>whnf);rfl
   intro i hi hR;obtain⟨hR1,hR2⟩:(1<=i ->intErr cols sp=0)/\(2<=i ->intErr tc sp=0):=hR;unfold awF W4
   match i,hi with
   |0,_=>
    (conv=>whnf);refine⟨by decide,_,rfl,rfl,?_⟩;(conv=>whnf);rw[zK];refine zF (P:=Pg) (f:=T8.f) (body:=wx) sp.length (λj=>aqU op sp eo nm v1 v2 v3 ks items scs saggs sorts sn tb cols tc tr cols 0 j) (λj=>intErr cols sp=intErr cols (sp.drop j)) ⟨rfl,ze ?_⟩ ?_
    ·(conv=>whnf);rfl
    ·intro j hj hR;have hR:intErr cols sp=intErr cols (sp.drop j):=hR;unfold aqU W4;(conv=>whnf);refine zd (λh1=>?_) (λh1=>?_)
     ·have hlt:j<sp.length:=by have:=of_decide_eq_true h1;omega
      rw[zq hlt]at hR;simp only[intErr]at hR;have hg:=qN hlt;have wj:=zx hlt (by omega);have hint:=Wm cols sp[j];generalize sp[j]=x at*;generalize colInt cols x=c at*;(conv=>whnf);refine⟨by omega,_,hg,rfl,?_⟩;(conv=>whnf);(conv=>whnf);refine Sat.cal (hint) ?_;(conv=>whnf);refine zd (λh2=>?_) (λh2=>?_)
      ·have h2:(c !=0)=true:=h2;rw[h2,cond_true]at hR;simp only[hR,h2];(conv=>whnf);exact⟨rfl,rfl⟩
      ·have h2:(c !=0)=false:=h2;rw[h2,cond_false]at hR;(conv=>whnf);refine⟨hlt,hR,ze ?_⟩;(conv=>whnf);rw[wj];rfl
     ·have hge:sp.length<=j:=by have:=of_decide_eq_false h1;omega
      rw[List.drop_eq_nil_of_le hge]at hR;have hR:intErr cols sp=0:=hR;(conv=>whnf);refine⟨by decide,?_,ze ?_⟩
      ·exact⟨λ_=>hR,λh=>by omega⟩
      (conv=>whnf);rfl
   |1,_=>
    have hR1:=hR1 (Nat.le_refl _);(conv=>whnf);refine⟨by decide,_,rfl,rfl,?_⟩;(conv=>whnf);rw[zK];refine zF (P:=Pg) (f:=T8.f) (body:=wx) sp.length (λj=>aqU op sp eo nm v1 v2 v3 ks items scs saggs sorts sn tb cols tc tr tc 1 j) (λj=>intErr tc sp=intErr tc (sp.drop j)) ⟨rfl,ze ?_⟩ ?_
    ·(conv=>whnf);rfl
    ·intro j hj hR;have hR:intErr tc sp=intErr tc (sp.drop j):=hR;unfold aqU W4;(conv=>whnf);refine zd (λh1=>?_) (λh1=>?_)
     ·have hlt:j<sp.length:=by have:=of_decide_eq_true h1;omega
      rw[zq hlt]at hR;simp only[intErr]at hR;have hg:=qN hlt;have wj:=zx hlt (by omega);have hint:=Wm tc sp[j];generalize sp[j]=x at*;generalize colInt tc x=c at*;(conv=>whnf);refine⟨by omega,_,hg,rfl,?_⟩;(conv=>whnf);(conv=>whnf);refine Sat.cal (hint) ?_;(conv=>whnf);refine zd (λh2=>?_) (λh2=>?_)
      ·have h2:(c !=0)=true:=h2;rw[h2,cond_true]at hR;simp only[hR1,hR,h2];(conv=>whnf);exact⟨rfl,rfl⟩
      ·have h2:(c !=0)=false:=h2;rw[h2,cond_false]at hR;(conv=>whnf);refine⟨hlt,hR,ze ?_⟩;(conv=>whnf);rw[wj];rfl
     ·have hge:sp.length<=j:=by have:=of_decide_eq_false h1;omega
      rw[List.drop_eq_nil_of_le hge]at hR;have hR:intErr tc sp=0:=hR;(conv=>whnf);refine⟨by decide,?_,ze ?_⟩
      ·exact⟨λ_=>hR1,λ_=>hR⟩
      (conv=>whnf);rfl
   |2,_=>
    have hR1:=hR1 (by omega);have hR2:=hR2 (by omega);rw[hR1,hR2];clear hR1 hR2;(conv=>whnf);refine Sat.mono (Vn cols hcl) ?_;rintro _ (⟨hk0,rfl⟩|rfl)
    ·(conv=>whnf);refine asS op sp eo nm v1 v2 v3 ks items scs saggs sorts sn tb cols tc hcl htl ⟨_,yh 20 128 2 (by omega) (by omega) rfl,?_⟩ ?_
     ·(conv=>whnf);unfold gY;rw[zC,hk0];rfl
     unfold vi gY W4;have hOl:(cols++keepS sp scs tc).length<=2000000:=by
      have:=List.length_filter_le (λc:Col=>!hasB scs c.name&& !hasB sp c.name) tc;rw[List.length_append];unfold keepS;omega
     clear htl hcl;generalize cols++keepS sp scs tc=O at*;(conv=>whnf);refine zF (P:=Pg) (f:=T8.f) (body:=wz) O.length (λi=>⟨[(20,cV (.own 128 2 O.length)),(130,cV (.own 128 2 O.length)),(131,zf O.length),(132,zf i)],[(128,.arr 2 (zi O) false)]⟩) (λi=>dupL [] O=dupL (O.take i) (O.drop i)) ⟨rfl,ze ?_⟩ ?_
     ·(conv=>whnf);rfl
     ·intro i hi hR;cases i with
      |zero=>
       (conv=>whnf);refine zd (λh1=>?_) (λh1=>?_)
       ·have h1:decide ((0:Nat)<(O.length:Int))=true:=h1;have hlt:0<O.length:=by have:=of_decide_eq_true h1;omega
        rw[zq hlt]at hR;simp only[dupL]at hR;rw[<- zP hlt]at hR;have hg:=yW hlt;have wi:=zx hlt (by omega);have hcol:=y0 (O.take (0)) O[0].name;have ht:zi (O.take (0))=(zi O).take (0):=by simp only[zi,List.map_take]
        rw[ht]at hcol;generalize hdi:dupL (O.take (0+1)) (O.drop (0+1))=rest at*;generalize O[0]=c at*;obtain⟨c1,c2⟩:=c;simp only at hR hcol;generalize zh (O.take (0)) c1=k at*;(conv=>whnf);refine⟨by omega,by omega,?_⟩;(conv=>whnf);refine⟨_,hg,?_⟩;(conv=>whnf);refine⟨by show(0:Int)<=((0:Nat):Int);omega,by show((0:Nat):Int)<=(O.length:Int);omega,?_⟩;(conv=>whnf);refine Sat.cal (hcol) ?_;(conv=>whnf);refine zd (λh2=>?_) (λh2=>?_)
        ·have h2:decide (k>=0)=true:=h2;rw[h2]at hR;have hR:dupL [] O=true:=hR;rw[hR];(conv=>whnf);exact⟨rfl,rfl⟩
        ·have h2:decide (k>=0)=false:=h2;rw[h2]at hR;have hR:dupL [] O=rest:=hR;(conv=>whnf);refine⟨hlt,hR,ze ?_⟩;(conv=>whnf);rw[wi];rfl
       ·have h1:decide ((0:Nat)<(O.length:Int))=false:=h1;have hge:O.length<=0:=by have:=of_decide_eq_false h1;omega
        rw[List.drop_eq_nil_of_le hge]at hR;have hR:dupL [] O=false:=hR;rw[hR];(conv=>whnf);refine zd (λh5=>?_) (λh5=>?_)
        ·have h5:decide ((O.length:Int)>32)=true:=h5;rw[h5];(conv=>whnf);exact⟨rfl,rfl⟩
        ·have h5:decide ((O.length:Int)>32)=false:=h5;rw[h5];(conv=>whnf);refine⟨rfl,?_⟩;show Res.mk (.tup [.c (.d (.sl ((zi O).take O.length))),.c (int 0)]) []=_;rw[<- zC,List.take_length];rfl
      |succ i=>
       (conv=>whnf);refine zd (λh1=>?_) (λh1=>?_)
       ·have h1:decide ((i+1:Nat)<(O.length:Int))=true:=h1;have hlt:i+1<O.length:=by have:=of_decide_eq_true h1;omega
        rw[zq hlt]at hR;simp only[dupL]at hR;rw[<- zP hlt]at hR;have hg:=yW hlt;have wi:=zx hlt (by omega);have hcol:=y0 (O.take (i+1)) O[i+1].name;have ht:zi (O.take (i+1))=(zi O).take (i+1):=by simp only[zi,List.map_take]
        rw[ht]at hcol;generalize hdi:dupL (O.take (i+1+1)) (O.drop (i+1+1))=rest at*;generalize O[i+1]=c at*;obtain⟨c1,c2⟩:=c;simp only at hR hcol;generalize zh (O.take (i+1)) c1=k at*;(conv=>whnf);refine⟨by omega,by omega,?_⟩;(conv=>whnf);refine⟨_,hg,?_⟩;(conv=>whnf);refine⟨by show(0:Int)<=((i+1:Nat):Int);omega,by show((i+1:Nat):Int)<=(O.length:Int);omega,?_⟩;(conv=>whnf);refine Sat.cal (hcol) ?_;(conv=>whnf);refine zd (λh2=>?_) (λh2=>?_)
        ·have h2:decide (k>=0)=true:=h2;rw[h2]at hR;have hR:dupL [] O=true:=hR;rw[hR];(conv=>whnf);exact⟨rfl,rfl⟩
        ·have h2:decide (k>=0)=false:=h2;rw[h2]at hR;have hR:dupL [] O=rest:=hR;(conv=>whnf);refine⟨hlt,hR,ze ?_⟩;(conv=>whnf);rw[wi];rfl
       ·have h1:decide ((i+1:Nat)<(O.length:Int))=false:=h1;have hge:O.length<=i+1:=by have:=of_decide_eq_false h1;omega
        rw[List.drop_eq_nil_of_le hge]at hR;have hR:dupL [] O=false:=hR;rw[hR];(conv=>whnf);refine zd (λh5=>?_) (λh5=>?_)
        ·have h5:decide ((O.length:Int)>32)=true:=h5;rw[h5];(conv=>whnf);exact⟨rfl,rfl⟩
        ·have h5:decide ((O.length:Int)>32)=false:=h5;rw[h5];(conv=>whnf);refine⟨rfl,?_⟩;show Res.mk (.tup [.c (.d (.sl ((zi O).take O.length))),.c (int 0)]) []=_;rw[<- zC,List.take_length];rfl
    ·(conv=>whnf);refine asS op sp eo nm v1 v2 v3 ks items scs saggs sorts sn tb cols tc hcl htl ⟨_,Ql 20 601664 128 2 _ _ (by omega) rfl rfl,?_⟩ ?_
     ·(conv=>whnf);unfold gY;rw[zC,zC];rfl
     unfold vi gY W4;have hOl:(cols++keepS sp scs tc).length<=2000000:=by
      have:=List.length_filter_le (λc:Col=>!hasB scs c.name&& !hasB sp c.name) tc;rw[List.length_append];unfold keepS;omega
     clear htl hcl;generalize cols++keepS sp scs tc=O at*;(conv=>whnf);refine zF (P:=Pg) (f:=T8.f) (body:=wz) O.length (λi=>⟨[(20,cV (.own 128 2 O.length)),(130,cV (.own 128 2 O.length)),(131,zf O.length),(132,zf i)],[(128,.arr 2 (zi O) false)]⟩) (λi=>dupL [] O=dupL (O.take i) (O.drop i)) ⟨rfl,ze ?_⟩ ?_
     ·(conv=>whnf);rfl
     ·intro i hi hR;cases i with
      |zero=>
       (conv=>whnf);refine zd (λh1=>?_) (λh1=>?_)
       ·have h1:decide ((0:Nat)<(O.length:Int))=true:=h1;have hlt:0<O.length:=by have:=of_decide_eq_true h1;omega
        rw[zq hlt]at hR;simp only[dupL]at hR;rw[<- zP hlt]at hR;have hg:=yW hlt;have wi:=zx hlt (by omega);have hcol:=y0 (O.take (0)) O[0].name;have ht:zi (O.take (0))=(zi O).take (0):=by simp only[zi,List.map_take]
        rw[ht]at hcol;generalize hdi:dupL (O.take (0+1)) (O.drop (0+1))=rest at*;generalize O[0]=c at*;obtain⟨c1,c2⟩:=c;simp only at hR hcol;generalize zh (O.take (0)) c1=k at*;(conv=>whnf);refine⟨by omega,by omega,?_⟩;(conv=>whnf);refine⟨_,hg,?_⟩;(conv=>whnf);refine⟨by show(0:Int)<=((0:Nat):Int);omega,by show((0:Nat):Int)<=(O.length:Int);omega,?_⟩;(conv=>whnf);refine Sat.cal (hcol) ?_;(conv=>whnf);refine zd (λh2=>?_) (λh2=>?_)
        ·have h2:decide (k>=0)=true:=h2;rw[h2]at hR;have hR:dupL [] O=true:=hR;rw[hR];(conv=>whnf);exact⟨rfl,rfl⟩
        ·have h2:decide (k>=0)=false:=h2;rw[h2]at hR;have hR:dupL [] O=rest:=hR;(conv=>whnf);refine⟨hlt,hR,ze ?_⟩;(conv=>whnf);rw[wi];rfl
       ·have h1:decide ((0:Nat)<(O.length:Int))=false:=h1;have hge:O.length<=0:=by have:=of_decide_eq_false h1;omega
        rw[List.drop_eq_nil_of_le hge]at hR;have hR:dupL [] O=false:=hR;rw[hR];(conv=>whnf);refine zd (λh5=>?_) (λh5=>?_)
        ·have h5:decide ((O.length:Int)>32)=true:=h5;rw[h5];(conv=>whnf);exact⟨rfl,rfl⟩
        ·have h5:decide ((O.length:Int)>32)=false:=h5;rw[h5];(conv=>whnf);refine⟨rfl,?_⟩;show Res.mk (.tup [.c (.d (.sl ((zi O).take O.length))),.c (int 0)]) []=_;rw[<- zC,List.take_length];rfl
      |succ i=>
       (conv=>whnf);refine zd (λh1=>?_) (λh1=>?_)
       ·have h1:decide ((i+1:Nat)<(O.length:Int))=true:=h1;have hlt:i+1<O.length:=by have:=of_decide_eq_true h1;omega
        rw[zq hlt]at hR;simp only[dupL]at hR;rw[<- zP hlt]at hR;have hg:=yW hlt;have wi:=zx hlt (by omega);have hcol:=y0 (O.take (i+1)) O[i+1].name;have ht:zi (O.take (i+1))=(zi O).take (i+1):=by simp only[zi,List.map_take]
        rw[ht]at hcol;generalize hdi:dupL (O.take (i+1+1)) (O.drop (i+1+1))=rest at*;generalize O[i+1]=c at*;obtain⟨c1,c2⟩:=c;simp only at hR hcol;generalize zh (O.take (i+1)) c1=k at*;(conv=>whnf);refine⟨by omega,by omega,?_⟩;(conv=>whnf);refine⟨_,hg,?_⟩;(conv=>whnf);refine⟨by show(0:Int)<=((i+1:Nat):Int);omega,by show((i+1:Nat):Int)<=(O.length:Int);omega,?_⟩;(conv=>whnf);refine Sat.cal (hcol) ?_;(conv=>whnf);refine zd (λh2=>?_) (λh2=>?_)
        ·have h2:decide (k>=0)=true:=h2;rw[h2]at hR;have hR:dupL [] O=true:=hR;rw[hR];(conv=>whnf);exact⟨rfl,rfl⟩
        ·have h2:decide (k>=0)=false:=h2;rw[h2]at hR;have hR:dupL [] O=rest:=hR;(conv=>whnf);refine⟨hlt,hR,ze ?_⟩;(conv=>whnf);rw[wi];rfl
       ·have h1:decide ((i+1:Nat)<(O.length:Int))=false:=h1;have hge:O.length<=i+1:=by have:=of_decide_eq_false h1;omega
        rw[List.drop_eq_nil_of_le hge]at hR;have hR:dupL [] O=false:=hR;rw[hR];(conv=>whnf);refine zd (λh5=>?_) (λh5=>?_)
        ·have h5:decide ((O.length:Int)>32)=true:=h5;rw[h5];(conv=>whnf);exact⟨rfl,rfl⟩
        ·have h5:decide ((O.length:Int)>32)=false:=h5;rw[h5];(conv=>whnf);refine⟨rfl,?_⟩;show Res.mk (.tup [.c (.d (.sl ((zi O).take O.length))),.c (int 0)]) []=_;rw[<- zC,List.take_length];rfl
theorem am0 (d:List Nmd)(cols:List Col)(st:Stp)(hop:st.op=7)(hcs:st.cols.length<=1000000)(hcl:cols.length<=1000000)(htl: ∀t,zY st.table d=some t ->t.cols.length<=1000000):
 Sat Pg wR [.c (.d (.sl (zL d))),.c (.d (.sl (zi cols))),.agg st.cs] (λr=>r=ahM [sFrom,sTo] d cols st.cols st.table):=by
 have hfd:=xR d st.table;unfold ahM;obtain⟨op,⟨eo,nm,⟨v1,v2,v3⟩,ks⟩,items,scs,saggs,sorts,sn,tb⟩:=st;simp only at hop hcs htl hfd;subst hop;refine z0 ?_;unfold Stp.cs qB;simp only;cases hf:zY tb d with
 |none=>
  rw[hf]at hfd;refine zg T8 qq (by kernel_rfl) ?_;(conv=>whnf);refine Sat.cal (hfd) ?_;(conv=>whnf);exact⟨rfl,rfl⟩
 |some t=>
  rw[hf]at hfd;have htl:=htl t hf;obtain⟨tc,tr⟩:=t;simp only at htl;unfold ap6;have hcf:=λg cap hp=>Z2 g cap (hasB scs) hp [sFrom,sTo] (by simp)
  generalize hany:([sFrom,sTo]:List ByteArray).any (hasB scs)=any at*;refine zg T8 qq (by kernel_rfl) ?_;(conv=>whnf);refine Sat.cal (hfd) ?_;(conv=>whnf);refine Sat.cal (hcf _ _ (λx=>abX x _ _ _ _ _ _ _ _ scs _)) ?_;(conv=>whnf);cases any with
  |true=>
   (conv=>whnf);exact⟨rfl,rfl⟩
  |false=>
   (conv=>whnf);rw[zK];refine apk 7 [sFrom,sTo] (by simp) eo nm v1 v2 v3 ks items scs saggs sorts sn tb cols tc tr hcs hcl htl ⟨_,UP 10 _ _ _ rfl rfl,?_⟩;(conv=>whnf);rfl
theorem am1 (d:List Nmd)(cols:List Col)(st:Stp)(hop:st.op=8)(hcs:st.cols.length<=1000000)(hcl:cols.length<=1000000)(htl: ∀t,zY st.table d=some t ->t.cols.length<=1000000):
 Sat Pg wR [.c (.d (.sl (zL d))),.c (.d (.sl (zi cols))),.agg st.cs] (λr=>r=ahM [sFrom] d cols st.cols st.table):=by
 have hfd:=xR d st.table;unfold ahM;obtain⟨op,⟨eo,nm,⟨v1,v2,v3⟩,ks⟩,items,scs,saggs,sorts,sn,tb⟩:=st;simp only at hop hcs htl hfd;subst hop;refine z0 ?_;unfold Stp.cs qB;simp only;cases hf:zY tb d with
 |none=>
  rw[hf]at hfd;refine zg T8 qq (by kernel_rfl) ?_;(conv=>whnf);refine Sat.cal (hfd) ?_;(conv=>whnf);exact⟨rfl,rfl⟩
 |some t=>
  rw[hf]at hfd;have htl:=htl t hf;obtain⟨tc,tr⟩:=t;simp only at htl;unfold ap6;have hcf:=λg cap hp=>Z2 g cap (hasB scs) hp [sFrom] (by simp)
  generalize hany:([sFrom]:List ByteArray).any (hasB scs)=any at*;refine zg T8 qq (by kernel_rfl) ?_;(conv=>whnf);refine Sat.cal (hfd) ?_;(conv=>whnf);refine Sat.cal (hcf _ _ (λx=>abX x _ _ _ _ _ _ _ _ scs _)) ?_;(conv=>whnf);cases any with
  |true=>
   (conv=>whnf);exact⟨rfl,rfl⟩
  |false=>
   (conv=>whnf);rw[zK];refine apk 8 [sFrom] (by simp) eo nm v1 v2 v3 ks items scs saggs sorts sn tb cols tc tr hcs hcl htl ⟨_,UP 10 _ _ _ rfl rfl,?_⟩;(conv=>whnf);rfl
def qH (x:Int×List Col):Res:=⟨.tup [.c (.d (.sl (zi x.2))),.c (int x.1)],[]⟩
def coT (cols:List Col)(cs:List ByteArray):Int×List Col:=
 bif hasB cs sFrom||hasB cs sTo then(4,[])else bif takeErr cols cs then(16,[])else bif colInt cols sFrom !=0 then(colInt cols sFrom,[])else bif colInt cols sTo !=0 then(colInt cols sTo,[])else(0,takeC cols cs++[⟨sFrom,2⟩,⟨sTo,2⟩])
theorem akC (cols:List Col)(st:Stp)(hcs:st.cols.length<=1000000):Sat Pg WI [.c (.d (.sl (zi cols))),.agg st.cs] (λr=>r=qH (coT cols st.cols)):=by
 have htk:=abZ cols st.cols hcs;have hlen:(takeC cols st.cols).length=st.cols.length:=by simp[takeC]
 have h1:=yc st.cols sFrom;have h2:=yc st.cols sTo;have h3:=Wm cols sFrom;have h4:=Wm cols sTo;unfold coT;obtain⟨op,⟨eo,nm,⟨v1,v2,v3⟩,ks⟩,items,scs,saggs,sorts,sn,tb⟩:=st;simp only at*;generalize hasB scs sFrom=b1 at*;generalize hasB scs sTo=b2 at*;generalize colInt cols sFrom=c1 at*;generalize colInt cols sTo=c2 at*;generalize takeC cols scs=T at*;generalize takeErr cols scs=te at*;refine z0 ?_;unfold Stp.cs qB;simp only;cases b1 with
 |true=>
  refine zg T8 xG (by kernel_rfl) ?_;(conv=>whnf);refine Sat.cal (h1) ?_;(conv=>whnf);exact⟨rfl,rfl⟩
 |false=>
  cases b2 with
  |true=>
   refine zg T8 xG (by kernel_rfl) ?_;(conv=>whnf);refine Sat.cal (h1) ?_;(conv=>whnf);refine Sat.cal (h2) ?_;(conv=>whnf);exact⟨rfl,rfl⟩
  |false=>
   cases te with
   |true=>
    refine zg T8 xG (by kernel_rfl) ?_;(conv=>whnf);refine Sat.cal (h1) ?_;(conv=>whnf);refine Sat.cal (h2) ?_;(conv=>whnf);refine Sat.cal (htk) ?_;(conv=>whnf);exact⟨rfl,rfl⟩
   |false=>
    have hta:(zi T).take T.length=zi T:=by rw[<- zC,List.take_length]
    cases e1:(c1 !=0)with
    |true=>
     refine zg T8 xG (by kernel_rfl) ?_;(conv=>whnf);refine Sat.cal (h1) ?_;(conv=>whnf);refine Sat.cal (h2) ?_;(conv=>whnf);refine Sat.cal (htk) ?_;(conv=>whnf);refine qY (P:=Pg) (f:=T8.f) (body:=wL) 3 ?_;(conv=>whnf);refine⟨by omega,by show(0:Int)<((2:Nat):Int);omega,?_⟩;(conv=>whnf);refine⟨_,rfl,?_⟩;(conv=>whnf);refine Sat.cal (h3) ?_;(conv=>whnf);rw[e1];(conv=>whnf);exact⟨rfl,rfl⟩
    |false=>
     cases e2:(c2 !=0)with
     |true=>
      refine zg T8 xG (by kernel_rfl) ?_;(conv=>whnf);refine Sat.cal (h1) ?_;(conv=>whnf);refine Sat.cal (h2) ?_;(conv=>whnf);refine Sat.cal (htk) ?_;(conv=>whnf);refine qY (P:=Pg) (f:=T8.f) (body:=wL) 3 ?_;(conv=>whnf);refine⟨by omega,by show(0:Int)<((2:Nat):Int);omega,?_⟩;(conv=>whnf);refine⟨_,rfl,?_⟩;(conv=>whnf);refine Sat.cal (h3) ?_;(conv=>whnf);rw[e1];(conv=>whnf);refine⟨by simp,by unfold ye;simp;omega,by simp;omega,?_⟩;(conv=>whnf);refine⟨by decide,by show(1:Int)<((2:Nat):Int);omega,?_⟩;(conv=>whnf);refine⟨_,rfl,?_⟩;(conv=>whnf);refine Sat.cal (h4) ?_;(conv=>whnf);rw[e2];(conv=>whnf);exact⟨rfl,rfl⟩
     |false=>
      refine zg T8 xG (by kernel_rfl) ?_;(conv=>whnf);refine Sat.cal (h1) ?_;(conv=>whnf);refine Sat.cal (h2) ?_;(conv=>whnf);refine Sat.cal (htk) ?_;(conv=>whnf);refine qY (P:=Pg) (f:=T8.f) (body:=wL) 3 ?_;(conv=>whnf);refine⟨by omega,by show(0:Int)<((2:Nat):Int);omega,?_⟩;(conv=>whnf);refine⟨_,rfl,?_⟩;(conv=>whnf);refine Sat.cal (h3) ?_;(conv=>whnf);rw[e1];(conv=>whnf);refine⟨by simp,by unfold ye;simp;omega,by simp;omega,?_⟩;(conv=>whnf);refine⟨by decide,by show(1:Int)<((2:Nat):Int);omega,?_⟩;(conv=>whnf);refine⟨_,rfl,?_⟩;(conv=>whnf);refine Sat.cal (h4) ?_;(conv=>whnf);rw[e2];(conv=>whnf);refine⟨by simp,by unfold ye;simp;omega,by simp;omega,?_⟩;(conv=>whnf);refine⟨rfl,?_⟩;refine Eq.trans (b:=⟨.tup [.c (.d (.sl ((((((zi T).take T.length)++[Col.ds ⟨sFrom,2⟩]).take (T.length+1))++[Col.ds ⟨sTo,2⟩]).take (T.length+1+1)))),.c (int 0)],[]⟩) rfl ?_;have e3:(zi T).length=T.length:=zC T;have e4:((zi T)++[Col.ds ⟨sFrom,2⟩]).take (T.length+1)=zi T++[Col.ds ⟨sFrom,2⟩]:=List.take_of_length_le (by simp[e3]);have e5:((zi T)++[Col.ds ⟨sFrom,2⟩]++[Col.ds ⟨sTo,2⟩]).take (T.length+1+1)=zi T++[Col.ds ⟨sFrom,2⟩]++[Col.ds ⟨sTo,2⟩]:=List.take_of_length_le (by simp[e3]);rw[hta,e4,e5];unfold qH;simp[zi]
def vx (cols:List Col):List Itm ->Int×List Col
 | []=>(0,[])
 |x::r=>bif (x.e.ty cols).2 !=0 then((x.e.ty cols).2,[])else bif (x.e.ty cols).1==0 then(14,[])else bif (vx cols r).1 !=0 then((vx cols r).1,[])else(0,⟨x.nm,(x.e.ty cols).1⟩::(vx cols r).2)
theorem am3 (cols:List Col): ∀l:List Itm,vx cols l=bif (vx cols l).1 !=0 then((vx cols l).1,[])else(0,(vx cols l).2)
 | []=>rfl
 |x::r=>by
  simp only[vx];cases h1:((x.e.ty cols).2 !=0)
  ·cases h2:((x.e.ty cols).1==0)
   ·cases h3:((vx cols r).1 !=0)
    ·rfl
    ·simp only[cond_false,cond_true,h3]
   ·rfl
  ·simp only[cond_true,h1]
def seS (cols:List Col)(l:List Itm)(i:Nat)(acc:List Col):S:=⟨[(0,.w (.c (.d (.sl (zi cols))))),(6,cV (.own 35 2 acc.length)),(11,.w (.c (.d (.sl (yR l))))),(12,zf l.length),(13,zf i)],[(35,.arr 2 (zi acc) false)]⟩
theorem amV (cols:List Col)(l:List Itm)(he: ∀x∈l,x.e.err=0)(hl:l.length<=1000000):Sat Pg Vl [.c (.d (.sl (zi cols))),.c (.d (.sl (yR l)))] (λr=>r=qH (vx cols l)):=by
 refine z0 ?_;refine zg T8 kW (by kernel_rfl) ?_
 conv=>whnf
 rw[wB];refine yv (P:=Pg) (f:=T8.f) (body:=jf) (λx:Nat×List Col=>seS cols l x.1 x.2) (λx=>l.length - x.1) (λx=>x.1<=l.length /\x.2.length=x.1 /\qH (vx cols l)=qH (bif (vx cols (l.drop x.1)).1 !=0 then((vx cols (l.drop x.1)).1,[])else(0,x.2++(vx cols (l.drop x.1)).2))) ⟨(0,[]),⟨Nat.zero_le _,rfl,?_⟩,⟨_,yh 6 35 2 (by omega) (by omega) rfl,?_⟩⟩ ?_
 ·exact congrArg qH (am3 cols l)
 ·(conv=>whnf);rfl
 ·rintro⟨i,A⟩ hx;obtain⟨hi,hA,hR⟩:i<=l.length /\A.length=i /\qH (vx cols l)=qH (bif (vx cols (l.drop i)).1 !=0 then((vx cols (l.drop i)).1,[])else(0,A++(vx cols (l.drop i)).2)):=hx;have hta:(zi A).take A.length=zi A:=by rw[<- zC,List.take_length]
  show mwpR Pg T8.f jf _ (seS cols l i A);unfold seS;(conv=>whnf);refine zd (λh1=>?_) (λh1=>?_)
  ·have hlt:i<l.length:=by have:=of_decide_eq_true h1;omega
   rw[zq hlt]at hR;simp only[vx]at hR;have hg:=WD hlt;have wi:=zx hlt (by omega);have hN:=JH cols l[i].e (he _ (List.getElem_mem hlt));generalize l[i]=x at*;obtain⟨⟨eo,nm,⟨vk,vn,vs⟩,ks⟩,s⟩:=x;simp only at hR hN;generalize Ex.ty cols ⟨eo,nm,⟨vk,vn,vs⟩,ks⟩=t at*;obtain⟨t1,t2⟩:=t;simp only at hR;(conv=>whnf);refine⟨by omega,_,hg,rfl,?_⟩;(conv=>whnf);(conv=>whnf);refine Sat.cal (hN) ?_;(conv=>whnf);refine zd (λh2=>?_) (λh2=>?_)
   ·have h2:(t2 !=0)=true:=h2;rw[h2]at hR;simp only[cond_true,h2]at hR;rw[hR];(conv=>whnf);exact⟨rfl,rfl⟩
   ·have h2:(t2 !=0)=false:=h2;rw[h2,cond_false]at hR;(conv=>whnf);refine zd (λh3=>?_) (λh3=>?_)
    ·have h3:(t1==0)=true:=h3;rw[h3]at hR;rw[hR];(conv=>whnf);exact⟨rfl,rfl⟩
    ·have h3:(t1==0)=false:=h3;rw[h3,cond_false]at hR;(conv=>whnf);refine⟨by simp,by unfold ye;simp;omega,by simp;omega,?_⟩;(conv=>whnf);refine⟨(i+1,A++[⟨s,t1⟩]),⟨⟨hlt,by simp[hA],?_⟩,by show l.length -(i+1)<l.length - i;omega⟩,ze ?_⟩
     ·rw[hR];cases h4:((vx cols (l.drop (i+1))).1 !=0)
      ·simp only[h4,cond_false,List.append_assoc];rfl
      ·simp only[h4,cond_true]
     ·(conv=>whnf);rw[wi,hta];show _=seS cols l (i+1) (A++[⟨s,t1⟩]);unfold seS;rw[List.length_append];simp only[zi,List.map_append];rfl
  ·have hge:l.length<=i:=by have:=of_decide_eq_false h1;omega
   rw[List.drop_eq_nil_of_le hge]at hR;have hR:qH (vx cols l)=qH (0,A++[]):=hR;rw[hR,List.append_nil];(conv=>whnf);refine⟨rfl,?_⟩;show Res.mk (.tup [.c (.d (.sl ((zi A).take A.length))),.c (int 0)]) []=_;rw[hta];rfl
end Go.Proofs.YtnlbmefhdiabcaaGreat
namespace Go.Proofs.YtnlbmefhdiabcaaGreat
open Go Go.AM
structure CmpOK {α:Type}(c:α ->α ->Int):Prop where
 refl: ∀x,c x x=0
 anti: ∀x y,c x y<0↔0<c y x
 trans: ∀x y z,c x y<=0 ->c y z<=0 ->c x z<=0
namespace CmpOK
variable {α:Type}{c:α ->α ->Int}
theorem ge (h:CmpOK c){x y:α}:0<=c x y↔c y x<=0:=by have:=h.anti x y;omega
theorem zero (h:CmpOK c){x y:α}:c x y=0↔c y x=0:=by have:=h.anti x y;have:=h.anti y x;omega
theorem lt_of (h:CmpOK c){x y z:α}(h1:c x y<0)(h2:c y z<=0):c x z<0:=by
 have h3:=h.trans x y z (by omega) h2;by_cases h4:c x z=0
 ·have h5:=h.zero.1 h4;have h6:=h.trans y z x h2 (by omega);have:=(h.anti x y).1 h1;omega
 ·omega
theorem lt_of2 (h:CmpOK c){x y z:α}(h1:c x y<=0)(h2:c y z<0):c x z<0:=by
 have h3:=h.trans x y z h1 (by omega);by_cases h4:c x z=0
 ·have h5:=h.zero.1 h4;have h6:=h.trans z x y (by omega) h1;have:=(h.anti y z).1 h2;omega
 ·omega
end CmpOK
theorem CmpOK.lex {α:Type}{c:α ->α ->Int}(h:CmpOK c):CmpOK (vG c):=by
 refine⟨λx=>?_,λx y=>?_,λx y z=>?_⟩
 ·induction x with
  |nil=>rfl
  |cons a r ih=>simp only[vG,h.refl];exact ih
 ·induction x generalizing y with
  |nil=>cases y<;>simp[vG]
  |cons a r ih=>
   cases y with
   |nil=>simp[vG]
   |cons b s=>
    simp only[vG];by_cases h1:c a b=0
    ·have h2:=h.zero.1 h1;simp only[h1,h2,bne_self_eq_false,cond_false];exact ih s
    ·have h2: ¬c b a=0:=λe=>h1 (h.zero.1 e)
     have e1:(c a b !=0)=true:=by simpa using h1
     have e2:(c b a !=0)=true:=by simpa using h2
     simp only[e1,e2,cond_true];exact h.anti a b
 ·induction x generalizing y z with
  |nil=>intro _ _;cases z<;>simp[vG]
  |cons a r ih=>
   intro h1 h2;cases y with
   |nil=>simp[vG]at h1
   |cons b s=>
    cases z with
    |nil=>simp[vG]at h2
    |cons d t=>
     simp only[vG]at h1 h2⊢;by_cases g1:c a b=0
     ·by_cases g2:c b d=0
      ·simp only[g1,g2,bne_self_eq_false,cond_false]at h1 h2;have g3:c a d=0:=by
        have i1:=h.trans a b d (by omega) (by omega);have i2:=h.trans d b a (by rw[h.zero.1 g2];exact Int.le_refl _) (by rw[h.zero.1 g1];exact Int.le_refl _);have:=h.ge.2 i2;omega
       simp only[g3,bne_self_eq_false,cond_false];exact ih _ _ h1 h2
      ·have e2:(c b d !=0)=true:=by simpa using g2
       simp only[e2,cond_true]at h2;have i1:=h.lt_of2 (x:=a) (y:=b) (z:=d) (by omega) (by omega);have e3:(c a d !=0)=true:=by simp;omega
       simp only[e3,cond_true];omega
     ·have e1:(c a b !=0)=true:=by simpa using g1
      simp only[e1,cond_true]at h1;have h2':c b d<=0:=by
       by_cases g2:c b d=0
       ·omega
       ·have e2:(c b d !=0)=true:=by simpa using g2
        simp only[e2,cond_true]at h2;exact h2
      have i1:=h.lt_of (x:=a) (y:=b) (z:=d) (by omega) h2';have e3:(c a d !=0)=true:=by simp;omega
      simp only[e3,cond_true];omega
theorem aoG (a b:Int):qD a b=if a<b then -1 else if b<a then 1 else 0:=by
 unfold qD;by_cases h1:a<b
 ·simp[h1]
 ·by_cases h2:b<a<;>simp[h1,h2]
theorem aoH:CmpOK qD:=by
 refine⟨λx=>?_,λx y=>?_,λx y z=>?_⟩<;>simp only[aoG]
 ·simp
 ·split<;>split<;>(try split)<;>omega
 ·split<;>split<;>(try split)<;>(try split)<;>(try split)<;>omega
theorem avf:CmpOK Yg:=by
 have key: ∀x y,(jx x y=true /\jx y x=false /\zl x y=false /\Yg x y= -1)\/(x=y /\Yg x y=0)\/(jx x y=false /\jx y x=true /\zl x y=false /\Yg x y=1):=by
  intro x y;cases h1:jx x y
  ·cases h2:jx y x
   ·have:=avs h1 h2;subst this;exact .inr (.inl ⟨rfl,by simp[Yg,h1,AM.beqS_self]⟩)
   ·have h3:zl x y=false:=(afa x y).2 λe=>by subst e;rw[h1]at h2;cases h2
    exact .inr (.inr ⟨rfl,rfl,h3,by simp[Yg,h1,h3]⟩)
  ·have h3:zl x y=false:=(afa x y).2 λe=>by subst e;rw[X3]at h1;cases h1
   exact .inl ⟨rfl,ar2 h1,h3,by simp[Yg,h1]⟩
 refine⟨λx=>?_,λx y=>?_,λx y z h1 h2=>?_⟩
 ·rcases key x x with⟨h,_⟩|⟨_,h⟩|⟨_,h,_⟩
  ·rw[X3]at h;cases h
  ·exact h
  ·rw[X3]at h;cases h
 ·rcases key x y with⟨h1,h2,_,h3⟩|⟨h1,h3⟩|⟨h1,h2,_,h3⟩<;>rcases key y x with⟨g1,g2,_,g3⟩|⟨g1,g3⟩|⟨g1,g2,_,g3⟩<;>rw[h3,g3]<;>simp_all
  all_goals (rw[X3]at*;simp_all)
 ·rcases key x y with⟨e1,_,_,e3⟩|⟨e1,e3⟩|⟨_,_,_,e3⟩
  ·rcases key y z with⟨f1,_,_,f3⟩|⟨f1,f3⟩|⟨_,_,_,f3⟩
   ·have:=aiZ e1 f1;simp[Yg,this]
   ·subst f1;omega
   ·omega
  ·subst e1;exact h2
  ·omega
theorem CmpOK.by_key {α:Type}(key:α ->Int)(c:Int ->α ->α ->Int)(h: ∀k,CmpOK (c k)):CmpOK (λx y=>bif key x !=key y then qD (key x) (key y)else c (key x) x y):=by
 have kp: ∀x y,(key x=key y /\(bif key x !=key y then qD (key x) (key y)else c (key x) x y)=c (key x) x y)\/(key x<key y /\(bif key x !=key y then qD (key x) (key y)else c (key x) x y)= -1)\/(key y<key x /\(bif key x !=key y then qD (key x) (key y)else c (key x) x y)=1):=by
  intro x y;by_cases e:key x=key y
  ·exact .inl ⟨e,by rw[show(key x !=key y)=false by simp[e]];rfl⟩
  ·have:(key x !=key y)=true:=by simp[e]
   rw[this,aoG];by_cases e2:key x<key y
   ·exact .inr (.inl ⟨e2,by simp[e2]⟩)
   ·exact .inr (.inr ⟨by omega,by simp[e2];omega⟩)
 refine⟨λx=>?_,λx y=>?_,λx y z h1 h2=>?_⟩
 ·rcases kp x x with⟨_,e⟩|⟨e,_⟩|⟨e,_⟩
  ·show(bif key x !=key x then qD (key x) (key x)else c (key x) x x)=0;rw[e,(h _).refl]
  ·omega
  ·omega
 ·show(bif key x !=key y then qD (key x) (key y)else c (key x) x y)<0↔0<(bif key y !=key x then qD (key y) (key x)else c (key y) y x);rcases kp x y with⟨e,e'⟩|⟨e,e'⟩|⟨e,e'⟩<;>rcases kp y x with⟨f,f'⟩|⟨f,f'⟩|⟨f,f'⟩<;>rw[e',f']<;>try omega
  rw[<- e];exact(h _).anti x y
 ·show(bif key x !=key z then qD (key x) (key z)else c (key x) x z)<=0;have h1:(bif key x !=key y then qD (key x) (key y)else c (key x) x y)<=0:=h1;have h2:(bif key y !=key z then qD (key y) (key z)else c (key y) y z)<=0:=h2;rcases kp x y with⟨e,e'⟩|⟨e,e'⟩|⟨e,e'⟩<;>rcases kp y z with⟨f,f'⟩|⟨f,f'⟩|⟨f,f'⟩<;>rcases kp x z with⟨g,g'⟩|⟨g,g'⟩|⟨g,g'⟩<;>rw[e']at h1<;>rw[f']at h2<;>rw[g']<;>try omega
  rw[<- e]at h2;exact(h _).trans x y z h1 h2
def atY (k:Int)(a b:Val):Int:=bif k==3 then Yg a.s b.s else bif k==1||k==2 then qD a.n b.n else 0
theorem CmpOK.on {α β:Type}{c:β ->β ->Int}(h:CmpOK c)(f:α ->β):CmpOK (λx y=>c (f x) (f y)):=⟨λx=>h.refl _,λx y=>h.anti _ _,λx y z=>h.trans _ _ _⟩
theorem avw (k:Int):CmpOK (atY k):=by
 unfold atY;cases k==3
 ·cases k==1||k==2
  ·exact⟨λ_=>rfl,λ_ _=>by simp,λ_ _ _ _ _=>by simp⟩
  ·exact aoH.on Val.n
 ·exact avf.on Val.s
theorem aid:CmpOK yY:=CmpOK.by_key Val.k atY avw
theorem ao3:CmpOK axQ:=aid.lex
end Go.Proofs.YtnlbmefhdiabcaaGreat
namespace Go.Proofs.YtnlbmefhdiabcaaGreat
section
variable {α:Type}
structure PermW (a b:Nat)(l l':List α):Prop where
 len:l'.length=l.length
 perm:l'.Perm l
 out: ∀i,i<a\/b<=i ->l'[i]? =l[i]?
 mem: ∀i x,a<=i ->i<b ->l'[i]? =some x -> ∃j,a<=j /\j<b /\l[j]? =some x
namespace PermW
theorem refl (a b:Nat)(l:List α):PermW a b l l:=⟨rfl,List.Perm.refl _,λ_ _=>rfl,λi _ h1 h2 h3=>⟨i,h1,h2,h3⟩⟩
theorem trans {a b:Nat}{l l' l'':List α}(h:PermW a b l l')(k:PermW a b l' l''):PermW a b l l'':=
 ⟨k.len.trans h.len,k.perm.trans h.perm,λi hi=>(k.out i hi).trans (h.out i hi),λi x h1 h2 h3=>by
  obtain⟨j,j1,j2,j3⟩:=k.mem i x h1 h2 h3;exact h.mem j x j1 j2 j3⟩
theorem mono {a b a' b':Nat}{l l':List α}(h:PermW a b l l')(ha:a'<=a)(hb:b<=b'):PermW a' b' l l':=
 ⟨h.len,h.perm,λi hi=>h.out i (by omega),λi x h1 h2 h3=>by
  by_cases hi:i<a\/b<=i
  ·exact⟨i,h1,h2,by rw[<- h.out i hi];exact h3⟩
  ·obtain⟨j,j1,j2,j3⟩:=h.mem i x (by omega) (by omega) h3;exact⟨j,by omega,by omega,j3⟩⟩
end PermW
def jL (l:List α)(i j:Nat)(x y:α):List α:=(l.set i y).set j x
theorem avM (l:List α)(i j:Nat)(x y:α):(jL l i j x y).length=l.length:=by simp[jL]
theorem Xk {l:List α}{i j:Nat}{x y:α}(hi:l[i]? =some x)(hj:l[j]? =some y)(k:Nat):
 (jL l i j x y)[k]? =if k=j then some x else if k=i then some y else l[k]? :=by
 have hil:i<l.length:=(List.getElem?_eq_some_iff.1 hi).1;have hjl:j<l.length:=(List.getElem?_eq_some_iff.1 hj).1;simp only[jL,List.getElem?_set,List.length_set];by_cases h1:k=j
 ·subst h1;simp[hjl]
 ·by_cases h2:k=i
  ·subst h2;simp[Ne.symm h1,hil,h1]
  ·simp[Ne.symm h1,Ne.symm h2,h1,h2]
theorem auC {l:List α}{i j:Nat}{x y:α}(hi:l[i]? =some x)(hj:l[j]? =some y):(jL l i j x y).Perm l:=by
 obtain⟨hil,rfl⟩:=List.getElem?_eq_some_iff.1 hi;obtain⟨hjl,rfl⟩:=List.getElem?_eq_some_iff.1 hj;exact List.set_set_perm hil hjl
theorem acB {l:List α}{i j a b:Nat}{x y:α}(hi:l[i]? =some x)(hj:l[j]? =some y)(h1:a<=i)(h2:i<b)(h3:a<=j)(h4:j<b):PermW a b l (jL l i j x y):=by
 refine⟨avM ..,auC hi hj,λk hk=>?_,λk z h5 h6 h7=>?_⟩
 ·rw[Xk hi hj,if_neg (by omega),if_neg (by omega)]
 ·rw[Xk hi hj]at h7;split at h7
  ·exact⟨i,h1,h2,hi.trans h7⟩
  ·split at h7
   ·exact⟨j,h3,h4,hj.trans h7⟩
   ·exact⟨k,h5,h6,h7⟩
variable (c:α ->α ->Int)
def zB (a b:Nat)(l:List α):Prop:= ∀i j x y,a<=i ->i<j ->j<b ->l[i]? =some x ->l[j]? =some y ->c x y<=0
def LeW (a b a' b':Nat)(l:List α):Prop:= ∀i j x y,a<=i ->i<b ->a'<=j ->j<b' ->l[i]? =some x ->l[j]? =some y ->c x y<=0
variable {c}
theorem zB.mono {a b a' b':Nat}{l:List α}(h:zB c a b l)(h1:a<=a')(h2:b'<=b):zB c a' b' l:=λi j x y i1 i2 i3=>h i j x y (by omega) i2 (by omega)
theorem zB.same {a b:Nat}{l l':List α}(h:zB c a b l)(he: ∀i,a<=i ->i<b ->l'[i]? =l[i]?):zB c a b l':=λi j x y i1 i2 i3 i4 i5=>h i j x y i1 i2 i3 (by rw[<- he i (by omega) (by omega)];exact i4) (by rw[<- he j (by omega) (by omega)];exact i5)
theorem zB.glue {a m b:Nat}{l:List α}(h1:zB c a m l)(h2:zB c m b l)(h3:LeW c a m m b l):zB c a b l:=by
 intro i j x y i1 i2 i3 i4 i5;by_cases h:j<m
 ·exact h1 i j x y i1 i2 h i4 i5
 ·by_cases h':m<=i
  ·exact h2 i j x y h' i2 i3 i4 i5
  ·exact h3 i j x y i1 (by omega) (by omega) i3 i4 i5
theorem zB.one (a b:Nat)(l:List α)(h:b<=a+1):zB c a b l:=λi j x y i1 i2 i3=>by omega
theorem LeW.perm {a m b:Nat}{l l':List α}(h:LeW c a m m b l)(h1:PermW a m l l'):LeW c a m m b l':=by
 intro i j x y i1 i2 i3 i4 i5 i6;obtain⟨k,k1,k2,k3⟩:=h1.mem i x i1 i2 i5;rw[h1.out j (by omega)]at i6;exact h k j x y k1 k2 i3 i4 k3 i6
theorem LeW.perm2 {a m b:Nat}{l l':List α}(h:LeW c a m m b l)(h1:PermW m b l l'):LeW c a m m b l':=by
 intro i j x y i1 i2 i3 i4 i5 i6;obtain⟨k,k1,k2,k3⟩:=h1.mem j y i3 i4 i6;rw[h1.out i (by omega)]at i5;exact h i k x y i1 i2 k1 k2 i5 k3
theorem zB.le {a b i j:Nat}{l:List α}{x y:α}(hc:CmpOK c)(h:zB c a b l)(i1:a<=i)(i2:i<=j)(i3:j<b)(hx:l[i]? =some x)(hy:l[j]? =some y):c x y<=0:=by
 rcases Nat.lt_or_ge i j with h'|h'
 ·exact h i j x y i1 h' i3 hx hy
 ·obtain rfl:i=j:=by omega
  rw[hx]at hy;cases hy;rw[hc.refl];exact Int.le_refl _
def QG (c:α ->α ->Int)(a i j:Nat)(l:List α):Prop:= ∀p q x y,a<=p ->p<q ->q<=i ->q≠j ->l[p]? =some x ->l[q]? =some y ->c x y<=0
theorem QG.start {a i:Nat}{l:List α}(h:zB c a i l):QG c a i i l:=λp q x y h1 h2 h3 h4=>h p q x y h1 h2 (by omega)
theorem QG.step {a i j:Nat}{l:List α}{x y:α}(hc:CmpOK c)(h:QG c a i j l)(haj:a<j)(hji:j<=i)(hx:l[j - 1]? =some x)(hy:l[j]? =some y)(hlt:c y x<0):QG c a i (j - 1) (jL l j (j - 1) y x):=by
 intro p q u v h1 h2 h3 h4 h5 h6;rw[Xk hy hx]at h5 h6;by_cases e1:q=j
 ·subst e1;rw[if_neg (by omega),if_pos rfl]at h6;cases h6;split at h5
  ·cases h5;omega
  ·rw[if_neg (by omega)]at h5;exact h p (q - 1) u x h1 (by omega) (by omega) (by omega) h5 hx
 ·rw[if_neg h4,if_neg e1]at h6;split at h5
  ·rename_i e2;cases h5;exact h j q y v (by omega) (by omega) h3 e1 hy h6
  ·split at h5
   ·rename_i e2 e3;cases h5;exact h (j - 1) q x v (by omega) (by omega) h3 e1 hx h6
   ·exact h p q u v h1 h2 h3 e1 h5 h6
theorem QG.stop {a i j:Nat}{l:List α}(hc:CmpOK c)(h:QG c a i j l)(hji:j<=i)(hs:j<=a\/ ∃x y,l[j - 1]? =some x /\l[j]? =some y /\0<=c y x):zB c a (i+1) l:=by
 intro p q u v h1 h2 h3 h4 h5;by_cases e:q=j
 ·subst e;rcases hs with h'|⟨x,y,hx,hy,hxy⟩
  ·omega
  ·rw[hy]at h5;cases h5;by_cases e2:p=q - 1
   ·subst e2;rw[hx]at h4;cases h4;exact hc.ge.1 hxy
   ·exact hc.trans _ _ _ (h p (q - 1) u x h1 (by omega) (by omega) (by omega) h4 hx) (hc.ge.1 hxy)
 ·exact h p q u v h1 h2 (by omega) e h4 h5
end
end Go.Proofs.YtnlbmefhdiabcaaGreat
namespace Go.Proofs.YtnlbmefhdiabcaaGreat
open Go Go.AM
attribute [local irreducible] Sat zu zS
theorem yG {α:Type}{l:List α}{i:Nat}(h:i<l.length): ∃x,l[i]? =some x:=⟨l[i],List.getElem?_eq_getElem h⟩
theorem JL {j:Nat}(h:0<j)(hn:j<=9223372036854775807):IntKind.i64.wrap ((j:Int) - 1)=((j - 1:Nat):Int):=by
 rw[zM (by omega) (by omega)];omega
end Go.Proofs.YtnlbmefhdiabcaaGreat
namespace Go.Proofs.YtnlbmefhdiabcaaGreat
open Go Go.AM
attribute [local irreducible] Sat zu zS
set_option maxRecDepth 100000
section
variable {α:Type}
theorem aoB (P R:List α)(x:α):(P++x::R)[P.length]? =some x:=by simp
theorem au6 (P Q R:List α)(x y:α):(P++x::(Q++y::R))[P.length+1+Q.length]? =some y:=by
 have h:P++x::(Q++y::R)=(P++x::Q)++y::R:=by simp
 have e:P.length+1+Q.length=(P++x::Q).length:=by simp;omega
 rw[h,e];exact aoB _ _ _
theorem apb (P R:List α)(x y:α):(P++x::R).set P.length y=P++y::R:=by
 rw[List.set_append_right _ _ (Nat.le_refl _)];simp
theorem avL (P Q R:List α)(x y:α):jL (P++x::(Q++y::R)) P.length (P.length+1+Q.length) x y=P++y::(Q++x::R):=by
 unfold jL;rw[apb];have h:P++y::(Q++y::R)=(P++y::Q)++y::R:=by simp
 have e:P.length+1+Q.length=(P++y::Q).length:=by simp;omega
 rw[h,e,apb];simp
def Qh (P X M Y S:List α)(i:Nat):List α:=P++(Y.take i++X.drop i)++M++(X.take i++Y.drop i)++S
theorem anl (P X M Y S:List α):Qh P X M Y S 0=P++X++M++Y++S:=by simp[Qh]
theorem apg (P X M Y S:List α)(h:X.length=Y.length):Qh P X M Y S X.length=P++Y++M++X++S:=by
 unfold Qh;rw[List.take_length,List.drop_length,h,List.take_length,List.drop_length];simp
theorem aph (P X M Y S:List α)(i:Nat)(h:X.length=Y.length)(hi:i<=X.length):(Qh P X M Y S i).length=(P++X++M++Y++S).length:=by
 simp[Qh];omega
theorem ank (P X M Y S:List α)(i:Nat)(h:X.length=Y.length)(hi:i<X.length): ∃x y,(Qh P X M Y S i)[P.length+i]? =some x /\(Qh P X M Y S i)[P.length+X.length+M.length+i]? =some y /\
 jL (Qh P X M Y S i) (P.length+i) (P.length+X.length+M.length+i) x y=Qh P X M Y S (i+1):=by
 have hi2:i<Y.length:=by omega
 have e0:Qh P X M Y S i=(P++Y.take i)++X[i]::((X.drop (i+1)++M++X.take i)++Y[i]::(Y.drop (i+1)++S)):=by
  unfold Qh;rw[zq hi,zq hi2];simp only[List.append_assoc,List.cons_append]
 have l1:(P++Y.take i).length=P.length+i:=by simp;omega
 have l2:(P++Y.take i).length+1+(X.drop (i+1)++M++X.take i).length=P.length+X.length+M.length+i:=by simp;omega
 refine⟨X[i],Y[i],?_,?_,?_⟩
 ·rw[e0,<- l1];exact aoB _ _ _
 ·rw[e0,<- l2];exact au6 _ _ _ _ _
 ·rw[e0,<- l2,<- l1,avL];unfold Qh;rw[List.take_succ_eq_append_getElem hi,List.take_succ_eq_append_getElem hi2];simp only[List.append_assoc,List.cons_append,List.nil_append]
end
end Go.Proofs.YtnlbmefhdiabcaaGreat
namespace Go.Proofs.YtnlbmefhdiabcaaGreat
open Go Go.AM
attribute [local irreducible] Sat zu zS
end Go.Proofs.YtnlbmefhdiabcaaGreat
namespace Go.Proofs.YtnlbmefhdiabcaaGreat
section
variable {α:Type}{c:α ->α ->Int}
theorem apf (hc:CmpOK c){l l':List α}{a i b:Nat}{x:α}(hx:l[a]? =some x)(h1:a<i)(h2:i<=b)(hs:zB c (a+1) b l)
 (hget: ∀p,l'[p]? =if a<=p /\p<i - 1 then l[p+1]? else if p=i - 1 then l[a]? else l[p]?)
 (g1:i=a+1\/ ∃u,l[i - 1]? =some u /\c u x<=0) (g2:i=b\/ ∃u,l[i]? =some u /\c x u<=0):zB c a b l':=by
 intro p q u v p1 p2 p3 hu hv;rw[hget]at hu hv;by_cases e1:a<=p /\p<i - 1
 ·rw[if_pos e1]at hu;by_cases e2:a<=q /\q<i - 1
  ·rw[if_pos e2]at hv;exact hs (p+1) (q+1) u v (by omega) (by omega) (by omega) hu hv
  ·rw[if_neg e2]at hv;by_cases e3:q=i - 1
   ·rw[if_pos e3,hx]at hv;cases hv;rcases g1 with g1|⟨w,w1,w2⟩
    ·omega
    ·exact hc.trans _ _ _ (hs.le hc (by omega) (show p+1<=i - 1 by omega) (by omega) hu w1) w2
   ·rw[if_neg e3]at hv;exact hs (p+1) q u v (by omega) (by omega) p3 hu hv
 ·rw[if_neg e1]at hu;rw[if_neg (by omega)]at hv;by_cases e3:p=i - 1
  ·rw[if_pos e3,hx]at hu;cases hu;rw[if_neg (by omega)]at hv;rcases g2 with g2|⟨w,w1,w2⟩
   ·omega
   ·exact hc.trans _ _ _ w2 (hs.le hc (by omega) (show i<=q by omega) p3 w1 hv)
  ·rw[if_neg e3]at hu;rw[if_neg (by omega)]at hv;exact hs p q u v (by omega) p2 p3 hu hv
theorem ajf (hc:CmpOK c){l l':List α}{a i m:Nat}{x:α}(hx:l[m]? =some x)(h1:a<=i)(h2:i<=m)(hs:zB c a m l)
 (hget: ∀p,l'[p]? =if i<p /\p<=m then l[p - 1]? else if p=i then l[m]? else l[p]?)
 (g1:i=a\/ ∃u,l[i - 1]? =some u /\c u x<=0) (g2:i=m\/ ∃u,l[i]? =some u /\c x u<=0):zB c a (m+1) l':=by
 intro p q u v p1 p2 p3 hu hv;rw[hget]at hu hv;by_cases e1:i<p /\p<=m
 ·rw[if_pos e1]at hu;rw[if_pos (by omega)]at hv;exact hs (p - 1) (q - 1) u v (by omega) (by omega) (by omega) hu hv
 ·rw[if_neg e1]at hu;by_cases e3:p=i
  ·rw[if_pos e3,hx]at hu;cases hu;rw[if_pos (by omega)]at hv;rcases g2 with g2|⟨w,w1,w2⟩
   ·omega
   ·exact hc.trans _ _ _ w2 (hs.le hc (by omega) (show i<=q - 1 by omega) (by omega) w1 hv)
  ·rw[if_neg e3]at hu;by_cases e2:i<q /\q<=m
   ·rw[if_pos e2]at hv;exact hs p (q - 1) u v (by omega) (by omega) (by omega) hu hv
   ·rw[if_neg e2]at hv;by_cases e4:q=i
    ·rw[if_pos e4,hx]at hv;cases hv;rcases g1 with g1|⟨w,w1,w2⟩
     ·omega
     ·exact hc.trans _ _ _ (hs.le hc p1 (show p<=i - 1 by omega) (by omega) hu w1) w2
    ·rw[if_neg e4]at hv;exact hs p q u v p1 p2 (by omega) hu hv
def wV (s m e:Nat)(l l1:List α):Prop:= ∀p,l1[p]? =if s<=p /\p<s+(e - m)then l[p+(m - s)]? else if s+(e - m)<=p /\p<e then l[p -(e - m)]? else l[p]?
theorem wV.same {s m e:Nat}{l:List α}(h1:s<=m)(h2:m<=e)(h:s=m\/m=e):wV s m e l l:=by
 intro p;rcases h with rfl|rfl
 ·split
  ·congr 1;omega
  ·rw[if_neg (by omega)]
 ·rw[if_neg (by omega)];split
  ·congr 1;omega
  ·rfl
theorem Jz (hc:CmpOK c){l l1:List α}{a s m e b:Nat}(a1:a<=s)(a2:s<=m)(a3:m<=e)(a4:e<=b)(hg:wV s m e l l1)(hs1:zB c a m l)(hs2:zB c m b l)
 (hb1:s=a\/e=b\/ ∃x y,l[s - 1]? =some x /\l[e]? =some y /\c x y<=0) (hb2:s=m\/e=m\/ ∃x y,l[e - 1]? =some x /\l[s]? =some y /\c x y<=0):
 zB c a s l1 /\zB c s (s+(e - m)) l1 /\zB c (s+(e - m)) e l1 /\zB c e b l1 /\LeW c a (s+(e - m)) (s+(e - m)) b l1:=by
 refine⟨?_,?_,?_,?_,?_⟩
 ·intro p q u v p1 p2 p3 hu hv;rw[hg,if_neg (by omega),if_neg (by omega)]at hu hv;exact hs1 p q u v p1 p2 (by omega) hu hv
 ·intro p q u v p1 p2 p3 hu hv;rw[hg,if_pos (by omega)]at hu hv;exact hs2 _ _ u v (by omega) (by omega) (by omega) hu hv
 ·intro p q u v p1 p2 p3 hu hv;rw[hg,if_neg (by omega),if_pos (by omega)]at hu hv;exact hs1 _ _ u v (by omega) (by omega) (by omega) hu hv
 ·intro p q u v p1 p2 p3 hu hv;rw[hg,if_neg (by omega),if_neg (by omega)]at hu hv;exact hs2 p q u v (by omega) p2 p3 hu hv
 ·intro p q u v p1 p2 p3 p4 hu hv;rw[hg]at hu hv;rw[if_neg (by omega)]at hv;by_cases e1:p<s
  ·rw[if_neg (by omega),if_neg (by omega)]at hu;by_cases e2:q<e
   ·rw[if_pos (by omega)]at hv;exact hs1 p _ u v p1 (by omega) (by omega) hu hv
   ·rw[if_neg (by omega)]at hv;rcases hb1 with h|h|⟨x,y,hx,hy,hxy⟩
    ·omega
    ·omega
    ·exact hc.trans _ _ _ (hs1.le hc p1 (show p<=s - 1 by omega) (by omega) hu hx) (hc.trans _ _ _ hxy (hs2.le hc (by omega) (show e<=q by omega) p4 hy hv))
  ·rw[if_pos (by omega)]at hu;by_cases e2:q<e
   ·rw[if_pos (by omega)]at hv;rcases hb2 with h|h|⟨x,y,hx,hy,hxy⟩
    ·omega
    ·omega
    ·exact hc.trans _ _ _ (hs2.le hc (by omega) (show p+(m - s)<=e - 1 by omega) (by omega) hu hx) (hc.trans _ _ _ hxy (hs1.le hc (by omega) (show s<=q -(e - m)by omega) (by omega) hy hv))
   ·rw[if_neg (by omega)]at hv;exact hs2 _ q u v (by omega) (by omega) p4 hu hv
theorem Va {l:List α}{s m e:Nat}(h1:s<=m)(h2:m<=e)(h3:e<=l.length):l.take s++(l.drop s).take (m - s)++(l.drop m).take (e - m)++l.drop e=l:=by
 have k1:l.take s++(l.drop s).take (m - s)=l.take m:=by
  have:=List.take_add (l:=l) (i:=s) (j:=m - s);rw[<- this];congr 1;omega
 have k2:l.take m++(l.drop m).take (e - m)=l.take e:=by
  have:=List.take_add (l:=l) (i:=m) (j:=e - m);rw[<- this];congr 1;omega
 rw[k1,k2,List.take_append_drop]
theorem kk {l:List α}{s m e:Nat}(h1:s<=m)(h2:m<=e)(h3:e<=l.length):wV s m e l (l.take s++(l.drop m).take (e - m)++(l.drop s).take (m - s)++l.drop e):=by
 intro p;simp only[List.getElem?_append,List.length_append,List.length_take,List.length_drop,List.getElem?_take,List.getElem?_drop];split
 ·split
  ·rename_i k1 k2;split
   ·rename_i k3;rw[if_pos (by omega),if_neg (by omega),if_neg (by omega)]
   ·rename_i k3;rw[if_pos (by omega),if_pos (by omega)];congr 1;omega
  ·rename_i k1 k2;rw[if_pos (by omega),if_neg (by omega),if_pos (by omega)];congr 1;omega
 ·rename_i k1;rw[if_neg (by omega),if_neg (by omega)];congr 1;omega
theorem akP {l:List α}{s m e:Nat}(h1:s<=m)(h2:m<=e)(h3:e<=l.length):PermW s e l (l.take s++(l.drop m).take (e - m)++(l.drop s).take (m - s)++l.drop e):=by
 have hg:=kk h1 h2 h3;refine⟨?_,?_,λp hp=>?_,λp x p1 p2 hx=>?_⟩
 ·simp;omega
 ·have:=Va h1 h2 h3;refine List.Perm.trans ?_ (List.Perm.of_eq this);refine List.Perm.append_right _ ?_;rw[List.append_assoc,List.append_assoc];exact List.Perm.append_left _ List.perm_append_comm
 ·rw[hg,if_neg (by omega),if_neg (by omega)]
 ·rw[hg]at hx;split at hx
  ·exact⟨_,by omega,by omega,hx⟩
  ·rw[if_pos (by omega)]at hx;exact⟨_,by omega,by omega,hx⟩
end
end Go.Proofs.YtnlbmefhdiabcaaGreat
namespace Go.Proofs.YtnlbmefhdiabcaaGreat
section
variable {α:Type}{R:α ->α ->Prop}{c:α ->α ->Int}
def JP (R:α ->α ->Prop)(a b a' b':Nat)(l:List α):Prop:= ∀i j x y,a<=i ->i<b ->a'<=j ->j<b' ->l[i]? =some x ->l[j]? =some y ->R x y
def u9 (R:α ->α ->Prop)(a b:Nat)(l:List α):Prop:= ∀i j x y,a<=i ->i<j ->j<b ->l[i]? =some x ->l[j]? =some y ->R x y
def VX (R:α ->α ->Prop)(a j:Nat)(l:List α):Prop:= ∀p x y,a<=p ->p<j ->l[p]? =some x ->l[j]? =some y ->R x y
theorem JP.same {a b a' b':Nat}{l l':List α}(h:JP R a b a' b' l)(he: ∀i,(a<=i /\i<b)\/(a'<=i /\i<b') ->l'[i]? =l[i]?):JP R a b a' b' l':=
 λi j x y i1 i2 i3 i4 i5 i6=>h i j x y i1 i2 i3 i4 (by rw[<- he i (.inl ⟨i1,i2⟩)];exact i5) (by rw[<- he j (.inr ⟨i3,i4⟩)];exact i6)
theorem JP.rot {l l1:List α}{a s m e b:Nat}(a1:a<=s)(a2:s<=m)(a3:m<=e)(a4:e<=b)(hg:wV s m e l l1)(h:JP R a m m b l):JP R a s s (s+(e - m)) l1 /\JP R (s+(e - m)) e e b l1:=by
 refine⟨?_,?_⟩
 ·intro p q u v p1 p2 p3 p4 hu hv;rw[hg,if_neg (by omega),if_neg (by omega)]at hu;rw[hg,if_pos (by omega)]at hv;exact h p _ u v p1 (by omega) (by omega) (by omega) hu hv
 ·intro p q u v p1 p2 p3 p4 hu hv;rw[hg,if_neg (by omega),if_pos (by omega)]at hu;rw[hg,if_neg (by omega),if_neg (by omega)]at hv;exact h _ q u v (by omega) (by omega) (by omega) p4 hu hv
theorem u9.mono {a b a' b':Nat}{l:List α}(h:u9 R a b l)(h1:a<=a')(h2:b'<=b):u9 R a' b' l:=λi j x y i1 i2 i3=>h i j x y (by omega) i2 (by omega)
theorem VX.start {a b i:Nat}{l l1:List α}(h:u9 R a b l)(hp:PermW a i l l1)(hi:i<b):VX R a i l1:=by
 intro p x y p1 p2 hx hy;obtain⟨q,q1,q2,q3⟩:=hp.mem p x p1 p2 hx;rw[hp.out i (.inr (Nat.le_refl _))]at hy;exact h q i x y q1 q2 hi q3 hy
theorem VX.step {a j:Nat}{l:List α}{x y:α}(h:VX R a j l)(haj:a<j)(hx:l[j - 1]? =some x)(hy:l[j]? =some y):VX R a (j - 1) (jL l j (j - 1) y x):=by
 intro p u v p1 p2 hu hv;rw[Xk hy hx]at hu hv;rw[if_neg (by omega),if_neg (by omega)]at hu;rw[if_pos rfl]at hv;cases hv;exact h p u y p1 (by omega) hu hy
def Cut (bs i j:Nat):Prop:= ∃k,i<k*bs /\k*bs<=j
def aaN (R:α ->α ->Prop)(bs:Nat)(l:List α):Prop:= ∀i j x y,Cut bs i j ->l[i]? =some x ->l[j]? =some y ->R x y
def uM (R:α ->α ->Prop)(bs a:Nat)(l:List α):Prop:= ∀i j x y,Cut (2*bs) i j\/(a<=i /\Cut bs i j) ->l[i]? =some x ->l[j]? =some y ->R x y
theorem aaN.pass {bs:Nat}{l:List α}(h:aaN R bs l):uM R bs 0 l:=by
 rintro i j x y (⟨k,k1,k2⟩|⟨_,hc⟩)
 ·exact h i j x y ⟨k*2,by rw[Nat.mul_assoc];exact k1,by rw[Nat.mul_assoc];exact k2⟩
 ·exact h i j x y hc
theorem uM.blk {bs a:Nat}{l:List α}(h:uM R bs a l):aaN R (2*bs) l:=λi j x y hc=>h i j x y (.inl hc)
theorem uM.rel {bs q e:Nat}{l:List α}(h:uM R bs (q*(2*bs)) l):JP R (q*(2*bs)) (q*(2*bs)+bs) (q*(2*bs)+bs) e l:=by
 intro i j x y i1 i2 i3 i4;refine h i j x y (.inr ⟨i1,2*q+1,?_,?_⟩)
 ·rw[Nat.succ_mul,Nat.mul_comm 2 q,Nat.mul_assoc];exact i2
 ·rw[Nat.succ_mul,Nat.mul_comm 2 q,Nat.mul_assoc];exact i3
theorem uM.next {bs q e n:Nat}{l l':List α}(h:uM R bs (q*(2*bs)) l)(hp:PermW (q*(2*bs)) e l l')(h2:e<=(q+1)*(2*bs))(hn:e=(q+1)*(2*bs)\/(e=n /\l.length=n)):uM R bs ((q+1)*(2*bs)) l':=by
 intro i j x y hc hx hy;have hjl:j<l.length:=by rw[<- hp.len];exact(List.getElem?_eq_some_iff.1 hy).1
 have key: ∀i0 j0:Nat,(q*(2*bs)<=i0 /\i0<e /\q*(2*bs)<=i /\i<e)\/i0=i ->(q*(2*bs)<=j0 /\j0<e /\q*(2*bs)<=j /\j<e)\/j0=j ->Cut (2*bs) i0 j0\/(q*(2*bs)<=i0 /\Cut bs i0 j0):=by
  intro i0 j0 hi hj;rcases hc with⟨k,k1,k2⟩|⟨ha,hc⟩
  ·left
   refine⟨k,?_,?_⟩
   ·rcases hi with⟨i1,i2,i3,i4⟩|rfl
    ·have:q<k:=by
      rcases Nat.lt_or_ge q k with h'|h'
      ·exact h'
      ·have:=Nat.mul_le_mul_right (2*bs) h';omega
     have:=Nat.mul_le_mul_right (2*bs) (show q+1<=k from this);omega
    ·exact k1
   ·rcases hj with⟨i1,i2,i3,i4⟩|rfl
    ·have:k<=q:=by
      rcases Nat.lt_or_ge q k with h'|h'
      ·have:=Nat.mul_le_mul_right (2*bs) (show q+1<=k from h');omega
      ·exact h'
     have:=Nat.mul_le_mul_right (2*bs) this;omega
    ·exact k2
  ·right
   have e0:(q+1)*(2*bs)=q*(2*bs)+2*bs:=Nat.succ_mul _ _;obtain⟨k,k1,k2⟩:=hc;have hie:e<=i:=by
    rcases hn with hn|⟨hn,hl⟩
    ·omega
    ·omega
   rcases hi with⟨i1,i2,i3,i4⟩|rfl
   ·omega
   ·rcases hj with⟨j1,j2,j3,j4⟩|rfl
    ·omega
    ·exact⟨by omega,k,k1,k2⟩
 have hi: ∃i0,((q*(2*bs)<=i0 /\i0<e /\q*(2*bs)<=i /\i<e)\/i0=i)/\l[i0]? =some x:=by
  by_cases hw:q*(2*bs)<=i /\i<e
  ·obtain⟨i0,i1,i2,i3⟩:=hp.mem i x hw.1 hw.2 hx;exact⟨i0,.inl ⟨i1,i2,hw.1,hw.2⟩,i3⟩
  ·rw[hp.out i (by omega)]at hx;exact⟨i,.inr rfl,hx⟩
 have hj: ∃j0,((q*(2*bs)<=j0 /\j0<e /\q*(2*bs)<=j /\j<e)\/j0=j)/\l[j0]? =some y:=by
  by_cases hw:q*(2*bs)<=j /\j<e
  ·obtain⟨i0,i1,i2,i3⟩:=hp.mem j y hw.1 hw.2 hy;exact⟨i0,.inl ⟨i1,i2,hw.1,hw.2⟩,i3⟩
  ·rw[hp.out j (by omega)]at hy;exact⟨j,.inr rfl,hy⟩
 obtain⟨i0,hi1,hi2⟩:=hi;obtain⟨j0,hj1,hj2⟩:=hj;exact h i0 j0 x y (key i0 j0 hi1 hj1) hi2 hj2
def qf (R:α ->α ->Prop)(bs e:Nat)(l:List α):Prop:= ∀i j x y,i<j ->(Cut bs i j\/e<=j) ->l[i]? =some x ->l[j]? =some y ->R x y
theorem qf.start {bs n:Nat}{l:List α}(h:u9 R 0 n l)(hn:l.length=n):qf R bs 0 l:=by
 intro i j x y h1 _ hx hy;exact h i j x y (Nat.zero_le _) h1 (by rw[<- hn];exact(List.getElem?_eq_some_iff.1 hy).1) hx hy
theorem qf.pair {bs e n:Nat}{l:List α}(h:qf R bs e l):u9 R e n l:=λi j x y i1 i2 _=>h i j x y i2 (.inr (by omega))
theorem qf.next {bs q e:Nat}{l l':List α}(h:qf R bs (q*bs) l)(hp:PermW (q*bs) e l l')(h0:q*bs<=e)(h2:e<=(q+1)*bs):qf R bs e l':=by
 intro i j x y hij hc hx hy;by_cases hj:q*bs<=j /\j<e
 ·obtain⟨j0,j1,j2,j3⟩:=hp.mem j y hj.1 hj.2 hy;rcases hc with⟨k,k1,k2⟩|hc
  ·have hk:k<=q:=by
    rcases Nat.lt_or_ge q k with h'|h'
    ·have:=Nat.mul_le_mul_right bs (show q+1<=k from h');omega
    ·exact h'
   have hk2:=Nat.mul_le_mul_right bs hk;rw[hp.out i (.inl (by omega))]at hx;exact h i j0 x y (by omega) (.inr j1) hx j3
  ·omega
 ·rw[hp.out j (by omega)]at hy;by_cases hi:q*bs<=i /\i<e
  ·obtain⟨i0,i1,i2,i3⟩:=hp.mem i x hi.1 hi.2 hx;exact h i0 j x y (by omega) (.inr (by omega)) i3 hy
  ·rw[hp.out i (by omega)]at hx;refine h i j x y hij ?_ hx hy;rcases hc with hc|hc
   ·exact .inl hc
   ·by_cases h':q*bs<=j
    ·exact .inr h'
    ·omega
theorem qf.blk {bs e:Nat}{l:List α}(h:qf R bs e l):aaN R bs l:=λi j x y hc=>h i j x y (by obtain⟨k,k1,k2⟩:=hc;omega) (.inl hc)
end
section
variable {α:Type}
def Yh (c:α ->α ->Int)(x:α):List α ->List α
 | []=> [x]
 |y::r=>if c x y<0 then x::y::r else y::Yh c x r
def yK (c:α ->α ->Int)(l:List α):List α:=l.foldl (λacc x=>Yh c x acc) []
def U4 (c:α ->α ->Int)(l:List α):Prop:=List.Pairwise (λx y=>c x y<=0) l
theorem Xd (c:α ->α ->Int)(x:α): ∀l:List α,(Yh c x l).Perm (x::l)
 | []=>List.Perm.refl _
 |y::r=>by
  unfold Yh;split
  ·exact List.Perm.refl _
  ·exact((Xd c x r).cons y).trans (List.Perm.swap x y r)
theorem aiW {c:α ->α ->Int}(hc:CmpOK c)(x:α): ∀{l:List α},U4 c l ->U4 c (Yh c x l)
 | [],_=>List.pairwise_singleton _ _
 |y::r,h=>by
  unfold Yh;have h1: ∀z∈r,c y z<=0:=λz hz=>List.rel_of_pairwise_cons h hz
  have h2:=List.Pairwise.of_cons h;split
  ·rename_i hlt;refine List.Pairwise.cons (λz hz=>?_) h;simp only[List.mem_cons]at hz;rcases hz with rfl|hz
   ·omega
   ·exact hc.trans _ _ _ (by omega:c x y<=0) (h1 z hz)
  ·rename_i hge;refine List.Pairwise.cons (λz hz=>?_) (aiW hc x h2);have hz:=(Xd c x r).mem_iff.1 hz;simp only[List.mem_cons]at hz;rcases hz with rfl|hz
   ·exact hc.ge.1 (by omega)
   ·exact h1 z hz
theorem aqL (c:α ->α ->Int)(l:List α)(x:α):yK c (l++[x])=Yh c x (yK c l):=by simp[yK]
theorem agN (c:α ->α ->Int){l:List α}{i:Nat}{x:α}(h:l[i]? =some x):yK c (l.take (i+1))=Yh c x (yK c (l.take i)):=by
 rw[List.take_add_one,h];exact aqL c _ _
theorem abe (c:α ->α ->Int)(hc:CmpOK c): ∀(l acc:List α),U4 c acc ->(l.foldl (λacc x=>Yh c x acc) acc).Perm (acc++l)/\U4 c (l.foldl (λacc x=>Yh c x acc) acc)
 | [],acc,h=>⟨by simp,h⟩
 |x::r,acc,h=>by
  obtain⟨h1,h2⟩:=abe c hc r (Yh c x acc) (aiW hc x h);refine⟨h1.trans ?_,h2⟩;exact((Xd c x acc).append_right r).trans (List.perm_middle.symm)
theorem VK {c:α ->α ->Int}(hc:CmpOK c)(l:List α):(yK c l).Perm l:=(abe c hc l [] List.Pairwise.nil).1
theorem aqM {c:α ->α ->Int}(hc:CmpOK c)(l:List α):U4 c (yK c l):=(abe c hc l [] List.Pairwise.nil).2
def uG (c:α ->α ->Int)(x y:α×Nat):Int:=if c x.1 y.1=0 then(if x.2<y.2 then -1 else if y.2<x.2 then 1 else 0)else c x.1 y.1
theorem acC {c:α ->α ->Int}(hc:CmpOK c):CmpOK (uG c):=by
 refine⟨λx=>?_,λx y=>?_,λx y z h1 h2=>?_⟩
 ·simp[uG,hc.refl]
 ·have h0:=hc.zero (x:=x.1) (y:=y.1);have h1:=hc.anti x.1 y.1;have h2:=hc.anti y.1 x.1;unfold uG;by_cases h:c x.1 y.1=0
  ·rw[if_pos h,if_pos (h0.1 h)];split<;>split<;>(try split)<;>omega
  ·rw[if_neg h,if_neg (λe=>h (h0.2 e))];exact h1
 ·have h0:=hc.zero (x:=x.1) (y:=y.1);have h0':=hc.zero (x:=y.1) (y:=z.1);have ht:=hc.trans x.1 y.1 z.1;unfold uG at h1 h2⊢;by_cases e1:c x.1 y.1=0
  ·by_cases e2:c y.1 z.1=0
   ·have e3:c x.1 z.1=0:=by
     have a1:=ht (by omega) (by omega);have a2:=hc.trans z.1 y.1 x.1 (by have:=h0'.1 e2;omega) (by have:=h0.1 e1;omega);have a3:=hc.ge (x:=x.1) (y:=z.1);have a4:=a3.2 a2;omega
    rw[if_pos e1]at h1;rw[if_pos e2]at h2;rw[if_pos e3];split at h1<;>split at h2<;>(try split at h1)<;>(try split at h2)<;>(try split)<;>(try split)<;>omega
   ·rw[if_neg e2]at h2;have e3:=hc.lt_of2 (x:=x.1) (y:=y.1) (z:=z.1) (by omega) (by omega);rw[if_neg (by omega)];omega
  ·rw[if_neg e1]at h1;by_cases e2:c y.1 z.1=0
   ·have e3:=hc.lt_of (x:=x.1) (y:=y.1) (z:=z.1) (by omega) (by omega);rw[if_neg (by omega)];omega
   ·rw[if_neg e2]at h2;have e3:=hc.lt_of (x:=x.1) (y:=y.1) (z:=z.1) (by omega) (by omega);rw[if_neg (by omega)];omega
theorem api {c:α ->α ->Int}(hc:CmpOK c){x y:α×Nat}(h:x.2<y.2):c y.1 x.1<0↔uG c y x<0:=by
 unfold uG;by_cases e:c y.1 x.1=0
 ·rw[if_pos e,if_neg (by omega),if_pos h];omega
 ·rw[if_neg e]
theorem alQ (c:α ->α ->Int)(x:α)(n:Nat): ∀l:List (α×Nat),(∀y∈l,y.2<n) ->(Yh (uG c) (x,n) l).map Prod.fst=Yh c x (l.map Prod.fst)
 | [],_=>rfl
 |y::r,h=>by
  have hy:=h y (List.mem_cons_self ..);have ih:=alQ c x n r (λz hz=>h z (List.mem_cons_of_mem _ hz));have e:uG c (x,n) y<0↔c x y.1<0:=by
   unfold uG;by_cases e:c x y.1=0
   ·rw[if_pos e,if_neg (by show¬n<y.2;omega),if_pos (show y.2<n from hy)];omega
   ·rw[if_neg e]
  simp only[Yh,List.map_cons];by_cases h':c x y.1<0
  ·rw[if_pos (e.2 h'),if_pos h'];rfl
  ·rw[if_neg (λh2=>h' (e.1 h2)),if_neg h',List.map_cons,ih]
def qw (l:List α):List (α×Nat):=l.zipIdx
theorem asA {c:α ->α ->Int}(hc:CmpOK c)(l:List α):(yK (uG c) (qw l)).map Prod.fst=yK c l:=by
 have h: ∀n,n<=l.length ->(yK (uG c) ((qw l).take n)).map Prod.fst=yK c (l.take n)/\ ∀y∈yK (uG c) ((qw l).take n),y.2<n:=by
  intro n;induction n with
  |zero=>intro _;exact⟨rfl,λy hy=>by simp[yK]at hy⟩
  |succ n ih=>
   intro hn;obtain⟨h1,h2⟩:=ih (by omega);have e1:(qw l)[n]? =some (l[n],n):=by
    unfold qw;rw[List.getElem?_zipIdx,List.getElem?_eq_getElem (by omega)];simp
   rw[agN _ e1,agN c (List.getElem?_eq_getElem (by omega:n<l.length)),alQ c _ _ _ h2,h1];refine⟨rfl,λy hy=>?_⟩;have:=(Xd _ _ _).mem_iff.1 hy;simp only[List.mem_cons]at this;rcases this with rfl|h
   ·exact Nat.lt_succ_self _
   ·have:=h2 y h;omega
 have:=(h l.length (Nat.le_refl _)).1;rw[List.take_of_length_le (by simp[qw]),List.take_length]at this;exact this
theorem avI {c:α ->α ->Int}{l:List α}{n:Nat}(h:zB c 0 n l)(hn:l.length=n):U4 c l:=by
 refine List.pairwise_iff_getElem.2 λi j hi hj hij=>?_
 exact h i j _ _ (Nat.zero_le _) hij (by omega) (List.getElem?_eq_getElem hi) (List.getElem?_eq_getElem hj)
theorem adD (l:List α)(n:Nat):u9 (λx y:α×Nat=>x.2<y.2) 0 n (qw l):=by
 intro i j x y _ hij _ hx hy;unfold qw at hx hy;rw[List.getElem?_zipIdx]at hx hy;cases h1:l[i]? with
 |none=>rw[h1]at hx;cases hx
 |some a=>
  cases h2:l[j]? with
  |none=>rw[h2]at hy;cases hy
  |some b=>
   rw[h1]at hx;rw[h2]at hy;simp at hx hy;rw[<- hx,<- hy];exact hij
theorem gX (l:List α):(qw l).length=l.length:=by simp[qw]
theorem gW (l:List α):(qw l).map Prod.fst=l:=by
 unfold qw;simp
theorem asQ {c:α ->α ->Int}(hc:CmpOK c){x y:α×Nat}(h1:uG c x y<=0)(h2:uG c y x<=0):x.2=y.2:=by
 have h0:=hc.zero (x:=x.1) (y:=y.1);unfold uG at h1 h2;by_cases e:c x.1 y.1=0
 ·rw[if_pos e]at h1;rw[if_pos (h0.1 e)]at h2;split at h1<;>split at h2<;>(try split at h1)<;>(try split at h2)<;>omega
 ·rw[if_neg e]at h1;rw[if_neg (λe'=>e (h0.2 e'))]at h2;have:=hc.ge.2 h2;omega
theorem ajt {c:α ->α ->Int}(hc:CmpOK c){l:List α}{l':List (α×Nat)}{n:Nat}(hn:l.length=n)(hp:PermW 0 n (qw l) l')(hs:zB (uG c) 0 n l'):l'.map Prod.fst=yK c l:=by
 have hl':l'.length=n:=by rw[hp.len,gX,hn]
 rw[<- asA hc l];congr 1
 have hperm:l'.Perm (yK (uG c) (qw l)):=hp.perm.trans (VK (acC hc) _).symm;have hmem: ∀x∈l',∀y∈l',x.2=y.2 ->x=y:=by
  intro x hx y hy e;have hx:=hp.perm.mem_iff.1 hx;have hy:=hp.perm.mem_iff.1 hy;unfold qw at hx hy;have hx:=List.mem_zipIdx hx;have hy:=List.mem_zipIdx hy;refine Prod.ext ?_ e;rw[hx.2.2,hy.2.2];simp only[e]
 have gen: ∀{u v:List (α×Nat)},U4 (uG c) u ->U4 (uG c) v ->u.Perm v ->(∀x∈u,∀y∈u,x.2=y.2 ->x=y) ->u=v:=by
  intro u;induction u with
  |nil=>intro v _ _ hp _;exact List.Perm.nil_eq hp
  |cons x r ih=>
   intro v h1 h2 hp hm;cases v with
   |nil=>exact absurd hp.length_eq (by simp)
   |cons y r'=>
    have hxy:x=y:=by
     have hx:x∈y::r':=hp.mem_iff.1 (List.mem_cons_self ..);have hy:y∈x::r:=hp.mem_iff.2 (List.mem_cons_self ..);have hy0:=hy;simp only[List.mem_cons]at hx hy;rcases hx with hx|hx
     ·exact hx
     ·rcases hy with hy|hy
      ·exact hy.symm
      ·exact hm _ (List.mem_cons_self ..) _ hy0 (asQ hc (List.rel_of_pairwise_cons h1 hy) (List.rel_of_pairwise_cons h2 hx))
    subst hxy;rw[ih (List.Pairwise.of_cons h1) (List.Pairwise.of_cons h2) (List.Perm.cons_inv hp) (λa ha b hb=>hm a (List.mem_cons_of_mem _ ha) b (List.mem_cons_of_mem _ hb))]
 exact gen (avI hs hl') (aqM (acC hc) _) hperm hmem
end
end Go.Proofs.YtnlbmefhdiabcaaGreat
namespace Go.Proofs.YtnlbmefhdiabcaaGreat
open Go Go.AM
attribute [local irreducible] Sat zu zS
set_option maxRecDepth 100000
set_option maxHeartbeats 2000000
variable {α:Type}(d:α ->D) (cp0 cp1:List D)
def yt (l:List α):List (List D):=l.map λx=> [d x]
theorem y7 {l:List α}{i:Nat}{x:α}(h:l[i]? =some x):(yt d l)[i]? =some [d x]:=by simp[yt,h]
theorem YS (l:List α)(i:Nat)(x:α):(yt d l).set i [d x]=yt d (l.set i x):=by simp[yt]
theorem k8 {l:List α}{i j:Nat}{x y:α}(h:l[j]? =some y): ∃z:α,((yt d l).set i [d x])[j]? =some [d z]:=by
 have hj:j<l.length:=(List.getElem?_eq_some_iff.1 h).1;rw[YS];exact⟨(l.set i x)[j]'(by simpa using hj),y7 d (List.getElem?_eq_getElem _)⟩
def awn (g:FuncId)(n a b i:Nat)(els:List (List D)):S:=⟨[(0,cV (.own 100000 1 n)),(1,zf a),(2,zf b),(3,.w (.c (.d (.fn g [cp0,cp1])))),(8,zf i)],[(100000,.arr 1 els false)]⟩
def arQ (g:FuncId)(n a b i j:Nat)(els:List (List D)):S:=⟨[(0,cV (.own 100000 1 n)),(1,zf a),(2,zf b),(3,.w (.c (.d (.fn g [cp0,cp1])))),(8,zf i),(9,zf j)],[(100000,.arr 1 els false)]⟩
theorem akE (g:FuncId)(c:α ->α ->Int)(hcc:CmpOK c)(R:α ->α ->Prop)(hg: ∀x y:α,R x y ->Sat Pg g [(.c (.d (d y))),(.c (.d (d x))),.c (.fp cp0),.c (.fp cp1)] (λr=> ∃z,r=rI z /\(z<0↔c y x<0)))(l:List α)(a b:Nat)(hab:a<=b)(hb:b<=l.length)(hl:l.length<=1000000)(hpr:u9 R a b l):
 zu Pg xO [.c (.own 0 1 l.length),.c (int a),.c (int b),.c (.d (.fn g [cp0,cp1]))] [.arr 1 (yt d l) false]
  (λr=> ∃l':List α,PermW a b l l' /\zB c a b l' /\r=⟨.tup [],[.arr 1 (yt d l') false]⟩):=by
 have wa:IntKind.i64.wrap ((a:Int)+1)=((a+1:Nat):Int):=zx (n:=1000001) (by omega) (by omega);refine xT T8 qL (by kernel_rfl) (by simp) ?_
 conv=>whnf
 refine yv (P:=Pg) (f:=T8.f) (body:=xl) (λx:Nat×List α=>awn cp0 cp1 g l.length a b x.1 (yt d x.2)) (λx=>b - x.1)
  (λx=>a<x.1 /\(x.1<=b\/(x.1=a+1 /\x.2=l))/\PermW a x.1 l x.2 /\zB c a x.1 x.2)
  ⟨(a+1,l),⟨by show a<a+1;omega,.inr ⟨rfl,rfl⟩,PermW.refl _ _ _,zB.one _ _ _ (Nat.le_refl _)⟩,ze ?_⟩ ?_
 ·(conv=>whnf);rw[wa];rfl
 ·rintro⟨i,l1⟩ hR;have hS:a<i /\(i<=b\/(i=a+1 /\l1=l))/\PermW a i l l1 /\zB c a i l1:=hR;clear hR;obtain⟨g1,g2,g3,g4⟩:=hS;(conv=>whnf);refine zd (λh1=>?_) (λh1=>?_)
  ·have hib:i<b:=by have h1:decide ((i:Int)<(b:Int))=true:=h1;have:=of_decide_eq_true h1;omega
   have wi:IntKind.i64.wrap ((i:Int)+1)=((i+1:Nat):Int):=zx hib (by omega);(conv=>whnf)
   refine yv (P:=Pg) (f:=T8.f) (body:=qK) (λx:Nat×List α=>arQ cp0 cp1 g l.length a b i x.1 (yt d x.2)) (λx=>x.1)
    (λx=>a<=x.1 /\x.1<=i /\PermW a (i+1) l x.2 /\QG c a i x.1 x.2 /\VX R a x.1 x.2)
    ⟨(i,l1),⟨by show a<=i;omega,Nat.le_refl _,g3.mono (Nat.le_refl _) (by omega),QG.start g4,VX.start hpr g3 hib⟩,ze ?_⟩ ?_
   ·(conv=>whnf);rfl
   ·rintro⟨j,l2⟩ hR;have hS:a<=j /\j<=i /\PermW a (i+1) l l2 /\QG c a i j l2 /\VX R a j l2:=hR;clear hR;obtain⟨k1,k2,k3,k4,k6⟩:=hS;have k5:=k3.len;(conv=>whnf);refine zd (λh2=>?_) (λh2=>?_)
    ·have hja:a<j:=by have h2:decide ((j:Int)>(a:Int))=true:=h2;have:=of_decide_eq_true h2;omega
     have wj:IntKind.i64.wrap ((j:Int) - 1)=((j - 1:Nat):Int):=JL (by omega) (by omega);obtain⟨x,hx⟩:=yG (l:=l2) (i:=j - 1) (by omega);obtain⟨y,hy⟩:=yG (l:=l2) (i:=j) (by omega);(conv=>whnf);refine⟨by show(0:Int)<=(j:Int);omega,by show(j:Int)<(l.length:Int);omega,?_⟩;(conv=>whnf);refine⟨_,y7 d hy,?_⟩;(conv=>whnf);rw[wj];refine⟨by omega,by omega,?_⟩;(conv=>whnf);refine⟨_,y7 d hx,?_⟩;(conv=>whnf);refine Sat.mono (hg x y (k6 (j - 1) x y (by omega) (by omega) hx hy)) ?_;rintro _ ⟨z,rfl,hz⟩;(conv=>whnf);refine zd (λh3=>?_) (λh3=>?_)
     ·have hlt:c y x<0:=hz.1 (of_decide_eq_true h3);(conv=>whnf);rw[wj];refine⟨by omega,by omega,?_⟩;(conv=>whnf);refine⟨_,y7 d hx,?_⟩;(conv=>whnf);refine⟨by show(0:Int)<=(j:Int);omega,by show(j:Int)<(l.length:Int);omega,?_⟩;(conv=>whnf);refine⟨_,y7 d hy,?_⟩;(conv=>whnf);refine⟨by show(0:Int)<=(j:Int);omega,by show(j:Int)<(l.length:Int);omega,?_⟩;(conv=>whnf);refine⟨_,y7 d hy,Nat.le_refl _,?_⟩;(conv=>whnf);refine⟨by omega,by omega,?_⟩;obtain⟨z1,hz1⟩:=k8 d (i:=j) (x:=x) hx;(conv=>whnf);refine⟨_,hz1,Nat.le_refl _,?_⟩;(conv=>whnf);refine⟨(j - 1,jL l2 j (j - 1) y x),⟨⟨by show a<=j - 1;omega,by show j - 1<=i;omega,k3.trans (acB hy hx (by omega) (by omega) (by omega) (by omega)),k4.step hcc hja k2 hx hy hlt,k6.step hja hx hy⟩,by show j - 1<j;omega⟩,ze ?_⟩;(conv=>whnf);rw[wj];have e:((yt d l2).set j [d x]).set (j - 1) [d y]=yt d (jL l2 j (j - 1) y x):=by rw[YS,YS];rfl
      exact congrArg (arQ cp0 cp1 g l.length a b i (j - 1)) e
     ·have hge: ¬c y x<0:=λh=>(of_decide_eq_false h3: ¬z<0) (hz.2 h)
      (conv=>whnf);refine⟨(i+1,l2),⟨⟨by show a<i+1;omega,.inl (by show i+1<=b;omega),k3,?_⟩,by show b -(i+1)<b - i;omega⟩,ze ?_⟩
      ·exact k4.stop hcc k2 (.inr ⟨x,y,hx,hy,by omega⟩)
      ·(conv=>whnf);rw[wi];rfl
    ·have hja:j<=a:=by have h2:decide ((j:Int)>(a:Int))=false:=h2;have:=of_decide_eq_false h2;omega
     (conv=>whnf);refine⟨(i+1,l2),⟨⟨by show a<i+1;omega,.inl (by show i+1<=b;omega),k3,?_⟩,by show b -(i+1)<b - i;omega⟩,ze ?_⟩
     ·exact k4.stop hcc k2 (.inl hja)
     ·(conv=>whnf);rw[wi];rfl
  ·have hib:b<=i:=by have h1:decide ((i:Int)<(b:Int))=false:=h1;have:=of_decide_eq_false h1;omega
   (conv=>whnf);refine⟨l1,?_,g4.mono (Nat.le_refl _) hib,rfl⟩;rcases g2 with g2|⟨_,g2⟩
   ·exact g3.mono (Nat.le_refl _) g2
   ·rw[g2];exact PermW.refl _ _ _
end Go.Proofs.YtnlbmefhdiabcaaGreat
namespace Go.Proofs.YtnlbmefhdiabcaaGreat
open Go Go.AM
attribute [local irreducible] Sat zu zS
set_option maxRecDepth 100000
set_option maxHeartbeats 2000000
variable {α:Type}(d:α ->D) (cp0 cp1:List D)
def auV (n a b k i:Nat)(els:List (List D)):S:=⟨[(0,cV (.own 100000 1 n)),(1,zf a),(2,zf b),(3,zf k),(10,zf i)],[(100000,.arr 1 els false)]⟩
theorem agJ (g:FuncId)(P X M Y S:List α)(h:X.length=Y.length)(N a b n:Nat)(hN:N=(P++X++M++Y++S).length)(ha:a=P.length)(hn:n=X.length)(hb:b=P.length+X.length+M.length)(hl:N<=1000000):
 zu Pg vJ [.c (.own 0 1 N),.c (int a),.c (int b),.c (int n),.c (.d (.fn g [cp0,cp1]))] [.arr 1 (yt d (P++X++M++Y++S)) false]
  (λr=>r=⟨.tup [],[.arr 1 (yt d (P++Y++M++X++S)) false]⟩):=by
 have hsz:P.length+X.length+M.length+Y.length+S.length=N:=by rw[hN];simp;omega
 obtain⟨l0,hl0⟩: ∃l0,l0=P++X++M++Y++S:=⟨_,rfl⟩;rw[<- hl0];refine xT T8 ZN (by kernel_rfl) (by simp) ?_
 conv=>whnf
 refine zF (P:=Pg) (f:=T8.f) (body:=wG) n (λi=>auV N a b n i (yt d (Qh P X M Y S i))) (λ_=>True) ⟨trivial,ze ?_⟩ ?_
 ·(conv=>whnf);rw[hl0,<- anl];rfl
 ·intro i hi _;have hlen:=aph P X M Y S i h (by omega);rw[<- hN]at hlen;(conv=>whnf);refine zd (λh1=>?_) (λh1=>?_)
  ·have hlt:i<n:=by have h1:decide ((i:Int)<(n:Int))=true:=h1;have:=of_decide_eq_true h1;omega
   obtain⟨x,y,hx,hy,hs⟩:=ank P X M Y S i h (by omega);rw[<- hb]at hy hs;rw[<- ha]at hx hs;have wi:IntKind.i64.wrap ((i:Int)+1)=((i+1:Nat):Int):=zx hlt (by omega);have wa:IntKind.i64.wrap ((a:Int)+(i:Int))=((a+i:Nat):Int):=by rw[zM (by omega) (by omega)];omega
   have wb:IntKind.i64.wrap ((b:Int)+(i:Int))=((b+i:Nat):Int):=by rw[zM (by omega) (by omega)];omega
   (conv=>whnf);rw[wb];refine⟨by omega,by omega,?_⟩;(conv=>whnf);refine⟨_,y7 d hy,?_⟩;(conv=>whnf);rw[wa];refine⟨by omega,by omega,?_⟩;(conv=>whnf);refine⟨_,y7 d hx,?_⟩;(conv=>whnf);refine⟨by omega,by omega,?_⟩;(conv=>whnf);refine⟨_,y7 d hx,Nat.le_refl _,?_⟩;(conv=>whnf);refine⟨by omega,by omega,?_⟩;obtain⟨z1,hz1⟩:=k8 d (i:=a+i) (x:=y) hy;(conv=>whnf);refine⟨_,hz1,Nat.le_refl _,?_⟩;(conv=>whnf);refine⟨hlt,trivial,ze ?_⟩;(conv=>whnf);rw[wi];have e:((yt d (Qh P X M Y S i)).set (a+i) [d y]).set (b+i) [d x]=yt d (Qh P X M Y S (i+1)):=by rw[YS,YS,<- hs];rfl
   exact congrArg (auV N a b n (i+1)) e
  ·have hge:n<=i:=by have h1:decide ((i:Int)<(n:Int))=false:=h1;have:=of_decide_eq_false h1;omega
   obtain rfl:i=n:=by omega
   (conv=>whnf);have e:=apg P X M Y S h;rw[<- hn]at e;exact congrArg (λl=>(⟨.tup [],[.arr 1 (yt d l) false]⟩:Res)) e
end Go.Proofs.YtnlbmefhdiabcaaGreat
namespace Go.Proofs.YtnlbmefhdiabcaaGreat
open Go Go.AM
attribute [local irreducible] Sat zu zS
set_option maxRecDepth 100000
set_option maxHeartbeats 2000000
variable {α:Type}(d:α ->D) (cp0 cp1:List D)
theorem Y6 (g:FuncId)(P X M Y S l l':List α)(h1:l=P++X++M++Y++S)(h2:l'=P++Y++M++X++S)(h:X.length=Y.length)(N a b n:Nat)(hN:N=l.length)(ha:a=P.length)(hn:n=X.length)(hb:b=P.length+X.length+M.length)(hl:N<=1000000):
 zu Pg vJ [.c (.own 0 1 N),.c (int a),.c (int b),.c (int n),.c (.d (.fn g [cp0,cp1]))] [.arr 1 (yt d l) false]
  (λr=>r=⟨.tup [],[.arr 1 (yt d l') false]⟩):=by
 subst h1 h2;exact agJ d cp0 cp1 g P X M Y S h N a b n hN ha hn hb hl
structure Rt_r (α:Type) where
 P:List α
 A:List α
 B:List α
 S:List α
def Rt_r.l (x:Rt_r α):List α:=x.P++x.A++x.B++x.S
def Rt_r.t (x:Rt_r α):List α:=x.P++x.B++x.A++x.S
def abR (g:FuncId)(n m i j:Nat)(els:List (List D)):S:=⟨[(0,cV (.own 100000 1 n)),(2,zf m),(4,.w (.c (.d (.fn g [cp0,cp1])))),(10,zf i),(11,zf j)],[(100000,.arr 1 els false)]⟩
theorem amU (g:FuncId)(x0:Rt_r α)(N a m b:Nat)(hN:N=x0.l.length)(ha:a=x0.P.length)(hm:m=a+x0.A.length)(hb:b=m+x0.B.length)(hA:0<x0.A.length)(hB:0<x0.B.length)(hl:N<=1000000):
 zu Pg uJ [.c (.own 0 1 N),.c (int a),.c (int m),.c (int b),.c (.d (.fn g [cp0,cp1]))] [.arr 1 (yt d x0.l) false]
  (λr=>r=⟨.tup [],[.arr 1 (yt d x0.t) false]⟩):=by
 have hsz:x0.P.length+x0.A.length+x0.B.length+x0.S.length=N:=by rw[hN];simp[Rt_r.l];omega
 have w1:IntKind.i64.wrap ((m:Int) -(a:Int))=((x0.A.length:Nat):Int):=by rw[zM (by omega) (by omega)];omega
 have w2:IntKind.i64.wrap ((b:Int) -(m:Int))=((x0.B.length:Nat):Int):=by rw[zM (by omega) (by omega)];omega
 refine xT T8 YN (by kernel_rfl) (by simp) ?_
 conv=>whnf
 refine yv (P:=Pg) (f:=T8.f) (body:=vE) (λx:Rt_r α=>abR cp0 cp1 g N m x.A.length x.B.length (yt d x.l)) (λx=>x.A.length+x.B.length)
  (λx=>x.P.length+x.A.length=m /\0<x.A.length /\0<x.B.length /\x.l.length=N /\x.t=x0.t)
  ⟨x0,⟨by omega,hA,hB,hN.symm,rfl⟩,ze ?_⟩ ?_
 ·(conv=>whnf);rw[w1,w2];rfl
 ·rintro⟨P,A,B,S⟩ hR;have hS:P.length+A.length=m /\0<A.length /\0<B.length /\(P++A++B++S).length=N /\P++B++A++S=x0.t:=hR;clear hR;obtain⟨g1,g2,g3,g4,g5⟩:=hS;have g6:P.length+A.length+B.length+S.length=N:=by rw[<- g4];simp;omega
  have wmi:IntKind.i64.wrap ((m:Int) -(A.length:Int))=((P.length:Nat):Int):=by rw[zM (by omega) (by omega)];omega
  (conv=>whnf);refine zd (λh1=>?_) (λh1=>?_)
  ·have hne:A.length≠B.length:=by
    intro e;have h1:(((A.length:Nat):Int) !=((B.length:Nat):Int))=true:=h1;rw[e]at h1;simp at h1
   (conv=>whnf);refine zd (λh2=>?_) (λh2=>?_)
   ·have hgt:B.length<A.length:=by have h2:decide ((A.length:Int)>(B.length:Int))=true:=h2;have:=of_decide_eq_true h2;omega
    have wij:IntKind.i64.wrap ((A.length:Int) -(B.length:Int))=(((A.drop B.length).length:Nat):Int):=by rw[zM (by omega) (by omega),List.length_drop];omega
    have e1:(A.take B.length).length=B.length:=by rw[List.length_take];omega
    have e2:(A.drop B.length).length=A.length - B.length:=List.length_drop;have e3:A.take B.length++A.drop B.length=A:=List.take_append_drop _ _;(conv=>whnf);rw[wmi];obtain⟨l',hl'⟩: ∃l',l'=(P++B)++A.drop B.length++A.take B.length++S:=⟨_,rfl⟩;refine zu.mono (Y6 d cp0 cp1 g P (A.take B.length) (A.drop B.length) B S (P++A++B++S) l' ?_ hl' e1 N P.length m B.length g4.symm rfl e1.symm (by omega) hl) ?_
    ·rw[List.append_assoc P (A.take _),e3]
    rintro _ rfl;(conv=>whnf);refine⟨⟨P++B,A.drop B.length,A.take B.length,S⟩,⟨⟨?_,?_,?_,?_,?_⟩,?_⟩,ze ?_⟩
    ·show(P++B).length+(A.drop B.length).length=m;rw[e2,List.length_append];omega
    ·show 0<(A.drop B.length).length;omega
    ·show 0<(A.take B.length).length;omega
    ·show((P++B)++A.drop B.length++A.take B.length++S).length=N;simp only[List.length_append,e1,e2];omega
    ·show(P++B)++A.take B.length++A.drop B.length++S=x0.t;rw[<- g5,List.append_assoc (P++B) (A.take _),e3]
    ·show(A.drop B.length).length+(A.take B.length).length<A.length+B.length;omega
    ·(conv=>whnf);rw[wij];show abR cp0 cp1 g N m (A.drop B.length).length B.length (yt d l')=abR cp0 cp1 g N m (A.drop B.length).length (A.take B.length).length (yt d ((P++B)++A.drop B.length++A.take B.length++S));rw[e1,hl']
   ·have hlt:A.length<B.length:=by have h2:decide ((A.length:Int)>(B.length:Int))=false:=h2;have:=of_decide_eq_false h2;omega
    have e1:(B.take (B.length - A.length)).length=B.length - A.length:=by rw[List.length_take];omega
    have e2:(B.drop (B.length - A.length)).length=A.length:=by rw[List.length_drop];omega
    have e3:B.take (B.length - A.length)++B.drop (B.length - A.length)=B:=List.take_append_drop _ _;have wji:IntKind.i64.wrap ((B.length:Int) -(A.length:Int))=(((B.take (B.length - A.length)).length:Nat):Int):=by rw[zM (by omega) (by omega),e1];omega
    have wmj:IntKind.i64.wrap ((m:Int)+(B.length:Int))=((m+B.length:Nat):Int):=by rw[zM (by omega) (by omega)];omega
    have wk:IntKind.i64.wrap (((m+B.length:Nat):Int) -(A.length:Int))=((m+B.length - A.length:Nat):Int):=by rw[zM (by omega) (by omega)];omega
    (conv=>whnf);rw[wmi,wmj,wk];obtain⟨l',hl'⟩: ∃l',l'=P++B.drop (B.length - A.length)++B.take (B.length - A.length)++(A++S):=⟨_,rfl⟩;refine zu.mono (Y6 d cp0 cp1 g P A (B.take (B.length - A.length)) (B.drop (B.length - A.length)) S (P++A++B++S) l' ?_ ?_ e2.symm N P.length (m+B.length - A.length) A.length g4.symm rfl rfl (by omega) hl) ?_
    ·rw[List.append_assoc (P++A) (B.take _),e3]
    ·rw[hl'];simp only[List.append_assoc]
    rintro _ rfl;(conv=>whnf);refine⟨⟨P,B.drop (B.length - A.length),B.take (B.length - A.length),A++S⟩,⟨⟨?_,?_,?_,?_,?_⟩,?_⟩,ze ?_⟩
    ·show P.length+(B.drop (B.length - A.length)).length=m;omega
    ·show 0<(B.drop (B.length - A.length)).length;omega
    ·show 0<(B.take (B.length - A.length)).length;omega
    ·show(P++B.drop (B.length - A.length)++B.take (B.length - A.length)++(A++S)).length=N;simp only[List.length_append,e1,e2];omega
    ·show P++B.take (B.length - A.length)++B.drop (B.length - A.length)++(A++S)=x0.t;rw[<- g5,List.append_assoc P (B.take _),e3];simp only[List.append_assoc]
    ·show(B.drop (B.length - A.length)).length+(B.take (B.length - A.length)).length<A.length+B.length;omega
    ·(conv=>whnf);rw[wji];show abR cp0 cp1 g N m A.length (B.take (B.length - A.length)).length (yt d l')=abR cp0 cp1 g N m (B.drop (B.length - A.length)).length (B.take (B.length - A.length)).length (yt d (P++B.drop (B.length - A.length)++B.take (B.length - A.length)++(A++S)));rw[e2,hl']
  ·have heq:A.length=B.length:=by
    have h1:(((A.length:Nat):Int) !=((B.length:Nat):Int))=false:=h1;rw[bne_eq_false_iff_eq]at h1;omega
   (conv=>whnf);rw[wmi];refine zu.mono (Y6 d cp0 cp1 g P A [] B S (P++A++B++S) (P++B++A++S) (by simp) (by simp) heq N P.length m A.length g4.symm rfl rfl (by simp;omega) hl) ?_;rintro _ rfl;(conv=>whnf);exact congrArg (λl=>(⟨.tup [],[.arr 1 (yt d l) false]⟩:Res)) g5
end Go.Proofs.YtnlbmefhdiabcaaGreat
namespace Go.Proofs.YtnlbmefhdiabcaaGreat
open Go Go.AM
attribute [local irreducible] Sat zu zS
theorem J4 (i j:Nat)(h:i+j<=4611686018427387904):IntKind.i64.wrap (JI false IntKind.u64 (IntKind.u64.wrap (IntKind.i64.wrap ((i:Int)+(j:Int)))) 1)=(((i+j)/2:Nat):Int):=by
 have e1:IntKind.i64.wrap ((i:Int)+(j:Int))=((i+j:Nat):Int):=by rw[zM (by omega) (by omega)];omega
 have e2:IntKind.u64.wrap ((i+j:Nat):Int)=((i+j:Nat):Int):=by
  have:IntKind.u64.wrap ((i+j:Nat):Int)=((i+j:Nat):Int)%18446744073709551616:=by simp[IntKind.wrap,IntKind.bits,IntKind.signed]
  rw[this];omega
 rw[e1,e2];have e3:JI false IntKind.u64 ((i+j:Nat):Int) 1=(((i+j)/2:Nat):Int):=by
  show((i+j:Nat):Int).fdiv (2^min (1:Nat) 64)=_;rw[show(2:Int)^min (1:Nat) 64=2 from rfl,Int.fdiv_eq_ediv_of_nonneg _ (by omega)];omega
 rw[e3,zM (by omega) (by omega)]
theorem xI {a b c d:Nat}(h:(decide ((a:Int)<(b:Int))&&decide ((c:Int)<(d:Int)))=true):a<b /\c<d:=by
 rw[Bool.and_eq_true]at h;have h1:=of_decide_eq_true h.1;have h2:=of_decide_eq_true h.2;omega
theorem xH {a b c d:Nat}(h:(decide ((a:Int)<(b:Int))&&decide ((c:Int)<(d:Int)))=false):b<=a\/d<=c:=by
 simp only[Bool.and_eq_false_iff,decide_eq_false_iff_not]at h;omega
end Go.Proofs.YtnlbmefhdiabcaaGreat
namespace Go.Proofs.YtnlbmefhdiabcaaGreat
open Go Go.AM
attribute [local irreducible] Sat zu zS
set_option maxRecDepth 100000
set_option maxHeartbeats 2000000
variable {α:Type}(d:α ->D) (cp0 cp1:List D)
def awB (g:FuncId)(n a i j:Nat)(els:List (List D)):S:=⟨[(0,cV (.own 100000 1 n)),(1,zf a),(4,.w (.c (.d (.fn g [cp0,cp1])))),(10,zf i),(11,zf j)],[(100000,.arr 1 els false)]⟩
def asL (n i k:Nat)(els:List (List D)):S:=⟨[(0,cV (.own 100000 1 n)),(10,zf i),(13,zf k)],[(100000,.arr 1 els false)]⟩
def awE (g:FuncId)(n m i j:Nat)(els:List (List D)):S:=⟨[(0,cV (.own 100000 1 n)),(2,zf m),(4,.w (.c (.d (.fn g [cp0,cp1])))),(14,zf i),(15,zf j)],[(100000,.arr 1 els false)]⟩
def asN (n i k:Nat)(els:List (List D)):S:=⟨[(0,cV (.own 100000 1 n)),(14,zf i),(17,zf k)],[(100000,.arr 1 els false)]⟩
def asP (g:FuncId)(N a m b mid n s r p:Nat)(els:List (List D)):S:=⟨[(0,cV (.own 100000 1 N)),(1,zf a),(2,zf m),(3,zf b),(4,.w (.c (.d (.fn g [cp0,cp1])))),(18,zf mid),(19,zf n),(20,zf s),(21,zf r),(22,zf p)],[(100000,.arr 1 els false)]⟩
def av2 (g:FuncId)(c:α ->α ->Int)(R:α ->α ->Prop)(N k:Nat):Prop:= ∀(l:List α) (a m b:Nat),b - a<=k ->a<m ->m<b ->b<=l.length ->l.length=N ->zB c a m l ->zB c m b l ->JP R a m m b l ->
    zu Pg Xu [.c (.own 0 1 N),.c (int a),.c (int m),.c (int b),.c (.d (.fn g [cp0,cp1]))] [.arr 1 (yt d l) false]
     (λr=> ∃l':List α,PermW a b l l' /\zB c a b l' /\r=⟨.tup [],[.arr 1 (yt d l') false]⟩)
def jq (c:α ->α ->Int)(l:List α)(i j:Nat):Prop:= ∃u v,l[i]? =some u /\l[j]? =some v /\c u v<=0
theorem ag0 {l:List α}{i j:Nat}(x y:α):((yt d l).set i [d y]).set j [d x]=yt d (jL l i j x y):=by rw[YS,YS];rfl
def UI (s m e:Nat)(l:List α):List α:=l.take s++(l.drop m).take (e - m)++(l.drop s).take (m - s)++l.drop e
theorem aan (g:FuncId)(l:List α)(N s m e:Nat)(h1:s<m)(h2:m<e)(h3:e<=l.length)(hN:l.length=N)(hl:N<=1000000):
 zu Pg uJ [.c (.own 0 1 N),.c (int s),.c (int m),.c (int e),.c (.d (.fn g [cp0,cp1]))] [.arr 1 (yt d l) false]
  (λr=>r=⟨.tup [],[.arr 1 (yt d (UI s m e l)) false]⟩):=by
 have h:=amU d cp0 cp1 g ⟨l.take s,(l.drop s).take (m - s),(l.drop m).take (e - m),l.drop e⟩ N s m e;simp only[Rt_r.l,Rt_r.t,Va (Nat.le_of_lt h1) (Nat.le_of_lt h2) h3]at h;refine h hN.symm ?_ ?_ ?_ ?_ ?_ hl<;>simp<;>omega
theorem xx {c:α ->α ->Int}{l l1 l2 l3:List α}{a r mid e b:Nat}(hw:PermW r e l l1)(h1:a<=r)(h2:e<=b)(p2:PermW a mid l1 l2)(p3:PermW mid b l2 l3)(h3:a<=mid)(h4:mid<=b)
 (t2:zB c a mid l2) (t3:zB c mid b l3) (s5:LeW c a mid mid b l1):PermW a b l l3 /\zB c a b l3:=
 ⟨(hw.mono h1 h2).trans ((p2.mono (Nat.le_refl _) h4).trans (p3.mono h3 (Nat.le_refl _))),zB.glue (t2.same λi _ i2=>p3.out i (.inl i2)) t3 ((s5.perm p2).perm2 p3)⟩
theorem kw (g:FuncId)(c:α ->α ->Int)(hcc:CmpOK c)(R:α ->α ->Prop)(hg: ∀x y:α,R x y ->Sat Pg g [(.c (.d (d y))),(.c (.d (d x))),.c (.fp cp0),.c (.fp cp1)] (λr=> ∃z,r=rI z /\(z<0↔c y x<0)))(N:Nat)(hl:N<=1000000): ∀k,av2 d cp0 cp1 g c R N k:=by
 intro k;induction k with
 |zero=>intro l a m b h0 h1 h2;omega
 |succ k ih=>
 intro l a m b h0 h1 h2 hb hN hs1 hs2 hrw;refine xT T8 Yc (by kernel_rfl) (by simp) ?_
 conv=>whnf
 refine zd (λe1=>?_) (λe1=>?_)
 ·have hm:m=a+1:=by
   have e1:(IntKind.i64.wrap ((m:Int) -(a:Int))==1)=true:=e1;rw[zM (by omega) (by omega)]at e1;have:=eq_of_beq e1;omega
  obtain⟨x,hx⟩:=yG (l:=l) (i:=a) (by omega);(conv=>whnf)
  refine yv (P:=Pg) (f:=T8.f) (body:=w6) (λz:Nat×Nat=>awB cp0 cp1 g N a z.1 z.2 (yt d l)) (λz=>z.2 - z.1)
   (λz=>m<=z.1 /\z.1<=z.2 /\z.2<=b /\(z.1=m\/ ∃u,l[z.1 - 1]? =some u /\c u x<=0)/\(z.2=b\/ ∃u,l[z.2]? =some u /\c x u<=0))
   ⟨(m,b),⟨by omega,by omega,by omega,.inl rfl,.inl rfl⟩,ze ?_⟩ ?_
  ·(conv=>whnf);rfl
  ·rintro⟨i,j⟩ hR;have hS:m<=i /\i<=j /\j<=b /\(i=m\/ ∃u,l[i - 1]? =some u /\c u x<=0)/\(j=b\/ ∃u,l[j]? =some u /\c x u<=0):=hR;clear hR;obtain⟨g1,g2,g3,g4,g5⟩:=hS;(conv=>whnf);refine zd (λk1=>?_) (λk1=>?_)
   ·have hij:i<j:=by have k1:decide ((i:Int)<(j:Int))=true:=k1;have:=of_decide_eq_true k1;omega
    have wh:=J4 i j (by omega);obtain⟨h,hh⟩: ∃h,h=(i+j)/2:=⟨_,rfl⟩;rw[<- hh]at wh;obtain⟨u,hu⟩:=yG (l:=l) (i:=h) (by omega);have w1:IntKind.i64.wrap ((h:Int)+1)=((h+1:Nat):Int):=zx (n:=b) (by omega) (by omega);(conv=>whnf);refine⟨by decide,?_⟩;(conv=>whnf);rw[wh];refine⟨by omega,by omega,?_⟩;(conv=>whnf);refine⟨_,y7 d hu,?_⟩;(conv=>whnf);refine⟨by omega,by omega,?_⟩;(conv=>whnf);refine⟨_,y7 d hx,?_⟩;(conv=>whnf);refine Sat.mono (hg x u (hrw a h x u (Nat.le_refl _) (by omega) (by omega) (by omega) hx hu)) ?_;rintro _ ⟨z,rfl,hz⟩;(conv=>whnf);refine zd (λk2=>?_) (λk2=>?_)
    ·have hlt:c u x<0:=hz.1 (of_decide_eq_true k2);(conv=>whnf);refine⟨(h+1,j),⟨⟨by show m<=h+1;omega,by show h+1<=j;omega,g3,.inr ⟨u,hu,by omega⟩,g5⟩,by show j -(h+1)<j - i;omega⟩,ze ?_⟩;(conv=>whnf);rw[w1];rfl
    ·have hge: ¬c u x<0:=λh=>(of_decide_eq_false k2: ¬z<0) (hz.2 h)
     (conv=>whnf);refine⟨(i,h),⟨⟨g1,by show i<=h;omega,by show h<=b;omega,g4,.inr ⟨u,hu,hcc.ge.1 (by omega)⟩⟩,by show h - i<j - i;omega⟩,ze ?_⟩;(conv=>whnf);rfl
   ·have hij:j=i:=by have k1:decide ((i:Int)<(j:Int))=false:=k1;have:=of_decide_eq_false k1;omega
    subst hij;have wi:IntKind.i64.wrap ((j:Int) - 1)=((j - 1:Nat):Int):=JL (by omega) (by omega);(conv=>whnf)
    refine yv (P:=Pg) (f:=T8.f) (body:=w7) (λz:Nat×List α=>asL N j z.1 (yt d z.2)) (λz=>j - z.1)
     (λz=>a<=z.1 /\z.1<=j - 1 /\PermW a b l z.2 /\ ∀p,z.2[p]? =if a<=p /\p<z.1 then l[p+1]? else if p=z.1 then l[a]? else l[p]?)
     ⟨(a,l),⟨Nat.le_refl _,by omega,PermW.refl _ _ _,λp=>?_⟩,ze ?_⟩ ?_
    ·rw[if_neg (by omega)];split
     ·rename_i e;rw[e]
     ·rfl
    ·(conv=>whnf);rfl
    ·rintro⟨q,l1⟩ hR;have hS:a<=q /\q<=j - 1 /\PermW a b l l1 /\ ∀p,l1[p]? =if a<=p /\p<q then l[p+1]? else if p=q then l[a]? else l[p]? :=hR
     clear hR;obtain⟨r1,r2,r3,r4⟩:=hS;have r5:=r3.len;(conv=>whnf);refine zd (λk3=>?_) (λk3=>?_)
     ·have hq:q<j - 1:=by
       have k3:decide ((q:Int)<IntKind.i64.wrap ((j:Int) - 1))=true:=k3;rw[wi]at k3;have:=of_decide_eq_true k3;omega
      have wq:IntKind.i64.wrap ((q:Int)+1)=((q+1:Nat):Int):=zx (n:=b) (by omega) (by omega);obtain⟨u,hu⟩:=yG (l:=l1) (i:=q) (by omega);obtain⟨v,hv⟩:=yG (l:=l1) (i:=q+1) (by omega);obtain⟨z,hz⟩:=k8 d (i:=q) (x:=v) hv;(conv=>whnf);rw[wq];refine⟨by omega,by omega,?_⟩;(conv=>whnf);refine⟨_,y7 d hv,?_⟩;(conv=>whnf);refine⟨by show(0:Int)<=(q:Int);omega,by show(q:Int)<(N:Int);omega,?_⟩;(conv=>whnf);refine⟨_,y7 d hu,?_⟩;(conv=>whnf);refine⟨by show(0:Int)<=(q:Int);omega,by show(q:Int)<(N:Int);omega,?_⟩;(conv=>whnf);refine⟨_,y7 d hu,Nat.le_refl _,?_⟩;(conv=>whnf);refine⟨by omega,by omega,?_⟩;(conv=>whnf);refine⟨_,hz,Nat.le_refl _,?_⟩;(conv=>whnf);refine⟨(q+1,jL l1 q (q+1) u v),⟨⟨by show a<=q+1;omega,by show q+1<=j - 1;omega,r3.trans (acB hu hv (by omega) (by omega) (by omega) (by omega)),λp=>?_⟩,by show j -(q+1)<j - q;omega⟩,ze ?_⟩
      ·rw[r4]at hu hv;rw[if_neg (by omega),if_pos rfl]at hu;rw[if_neg (by omega),if_neg (by omega)]at hv;show(jL l1 q (q+1) u v)[p]? =if a<=p /\p<q+1 then l[p+1]? else if p=q+1 then l[a]? else l[p]?
       have hu':l1[q]? =some u:=by rw[r4,if_neg (by omega),if_pos rfl];exact hu
       have hv':l1[q+1]? =some v:=by rw[r4,if_neg (by omega),if_neg (by omega)];exact hv
       rw[Xk hu' hv',r4 p];by_cases p1:p=q+1
       ·rw[if_pos p1,if_neg (by omega),if_pos p1,hu]
       ·rw[if_neg p1];by_cases p2:p=q
        ·rw[if_pos p2,if_pos (by omega),p2,hv]
        ·rw[if_neg p2];by_cases p3:a<=p /\p<q
         ·rw[if_pos p3,if_pos (by omega)]
         ·rw[if_neg p3,if_neg p2,if_neg (by omega),if_neg p1]
      ·(conv=>whnf);rw[wq];exact congrArg (asL N j (q+1)) (ag0 d u v)
     ·have hq:q=j - 1:=by
       have k3:decide ((q:Int)<IntKind.i64.wrap ((j:Int) - 1))=false:=k3;rw[wi]at k3;have:=of_decide_eq_false k3;omega
      subst hq;(conv=>whnf);exact⟨l1,r3,apf hcc hx (by omega) g3 (hs2.mono (by omega) (Nat.le_refl _)) r4 (by rcases g4 with g4|g4;exact .inl (by omega);exact .inr g4) g5,rfl⟩
 ·have hm:a+1<m:=by
   have e1:(IntKind.i64.wrap ((m:Int) -(a:Int))==1)=false:=e1;rw[zM (by omega) (by omega),beq_eq_false_iff_ne]at e1;omega
  (conv=>whnf);refine zd (λe2=>?_) (λe2=>?_)
  ·have hm2:b=m+1:=by
    have e2:(IntKind.i64.wrap ((b:Int) -(m:Int))==1)=true:=e2;rw[zM (by omega) (by omega)]at e2;have:=eq_of_beq e2;omega
   obtain⟨x,hx⟩:=yG (l:=l) (i:=m) (by omega);(conv=>whnf)
   refine yv (P:=Pg) (f:=T8.f) (body:=w8) (λz:Nat×Nat=>awE cp0 cp1 g N m z.1 z.2 (yt d l)) (λz=>z.2 - z.1)
    (λz=>a<=z.1 /\z.1<=z.2 /\z.2<=m /\(z.1=a\/ ∃u,l[z.1 - 1]? =some u /\c u x<=0)/\(z.2=m\/ ∃u,l[z.2]? =some u /\c x u<=0))
    ⟨(a,m),⟨by omega,by omega,by omega,.inl rfl,.inl rfl⟩,ze ?_⟩ ?_
   ·(conv=>whnf);rfl
   ·rintro⟨i,j⟩ hR;have hS:a<=i /\i<=j /\j<=m /\(i=a\/ ∃u,l[i - 1]? =some u /\c u x<=0)/\(j=m\/ ∃u,l[j]? =some u /\c x u<=0):=hR;clear hR;obtain⟨g1,g2,g3,g4,g5⟩:=hS;(conv=>whnf);refine zd (λk1=>?_) (λk1=>?_)
    ·have hij:i<j:=by have k1:decide ((i:Int)<(j:Int))=true:=k1;have:=of_decide_eq_true k1;omega
     have wh:=J4 i j (by omega);obtain⟨h,hh⟩: ∃h,h=(i+j)/2:=⟨_,rfl⟩;rw[<- hh]at wh;obtain⟨u,hu⟩:=yG (l:=l) (i:=h) (by omega);have w1:IntKind.i64.wrap ((h:Int)+1)=((h+1:Nat):Int):=zx (n:=b) (by omega) (by omega);(conv=>whnf);refine⟨by decide,?_⟩;(conv=>whnf);refine⟨by omega,by omega,?_⟩;(conv=>whnf);refine⟨_,y7 d hx,?_⟩;(conv=>whnf);rw[wh];refine⟨by omega,by omega,?_⟩;(conv=>whnf);refine⟨_,y7 d hu,?_⟩;(conv=>whnf);refine Sat.mono (hg u x (hrw h m u x (by omega) (by omega) (Nat.le_refl _) (by omega) hu hx)) ?_;rintro _ ⟨z,rfl,hz⟩;(conv=>whnf);refine zd (λk2=>?_) (λk2=>?_)
     ·have hge: ¬c x u<0:=by
       have k2:(!decide (z<0))=true:=k2;rw[<- hz];simpa using k2
      (conv=>whnf);refine⟨(h+1,j),⟨⟨by show a<=h+1;omega,by show h+1<=j;omega,g3,.inr ⟨u,hu,hcc.ge.1 (by omega)⟩,g5⟩,by show j -(h+1)<j - i;omega⟩,ze ?_⟩;(conv=>whnf);rw[w1];rfl
     ·have hlt:c x u<0:=by
       have k2:(!decide (z<0))=false:=k2;rw[<- hz];simpa using k2
      (conv=>whnf);refine⟨(i,h),⟨⟨g1,by show i<=h;omega,by show h<=m;omega,g4,.inr ⟨u,hu,by omega⟩⟩,by show h - i<j - i;omega⟩,ze ?_⟩;(conv=>whnf);rfl
    ·have hij:j=i:=by have k1:decide ((i:Int)<(j:Int))=false:=k1;have:=of_decide_eq_false k1;omega
     subst hij;(conv=>whnf)
     refine yv (P:=Pg) (f:=T8.f) (body:=w9) (λz:Nat×List α=>asN N j z.1 (yt d z.2)) (λz=>z.1)
      (λz=>j<=z.1 /\z.1<=m /\PermW a b l z.2 /\ ∀p,z.2[p]? =if z.1<p /\p<=m then l[p - 1]? else if p=z.1 then l[m]? else l[p]?)
      ⟨(m,l),⟨g3,Nat.le_refl _,PermW.refl _ _ _,λp=>?_⟩,ze ?_⟩ ?_
     ·rw[if_neg (by omega)];split
      ·rename_i e;rw[e]
      ·rfl
     ·(conv=>whnf);rfl
     ·rintro⟨q,l1⟩ hR;have hS:j<=q /\q<=m /\PermW a b l l1 /\ ∀p,l1[p]? =if q<p /\p<=m then l[p - 1]? else if p=q then l[m]? else l[p]? :=hR
      clear hR;obtain⟨r1,r2,r3,r4⟩:=hS;have r5:=r3.len;(conv=>whnf);refine zd (λk3=>?_) (λk3=>?_)
      ·have hq:j<q:=by
        have k3:decide ((q:Int)>(j:Int))=true:=k3;have:=of_decide_eq_true k3;omega
       have wq:IntKind.i64.wrap ((q:Int) - 1)=((q - 1:Nat):Int):=JL (by omega) (by omega);obtain⟨u,hu⟩:=yG (l:=l1) (i:=q) (by omega);obtain⟨v,hv⟩:=yG (l:=l1) (i:=q - 1) (by omega);obtain⟨z,hz⟩:=k8 d (i:=q) (x:=v) hv;(conv=>whnf);rw[wq];refine⟨by omega,by omega,?_⟩;(conv=>whnf);refine⟨_,y7 d hv,?_⟩;(conv=>whnf);refine⟨by show(0:Int)<=(q:Int);omega,by show(q:Int)<(N:Int);omega,?_⟩;(conv=>whnf);refine⟨_,y7 d hu,?_⟩;(conv=>whnf);refine⟨by show(0:Int)<=(q:Int);omega,by show(q:Int)<(N:Int);omega,?_⟩;(conv=>whnf);refine⟨_,y7 d hu,Nat.le_refl _,?_⟩;(conv=>whnf);refine⟨by omega,by omega,?_⟩;(conv=>whnf);refine⟨_,hz,Nat.le_refl _,?_⟩;(conv=>whnf);refine⟨(q - 1,jL l1 q (q - 1) u v),⟨⟨by show j<=q - 1;omega,by show q - 1<=m;omega,r3.trans (acB hu hv (by omega) (by omega) (by omega) (by omega)),λp=>?_⟩,by show q - 1<q;omega⟩,ze ?_⟩
       ·rw[r4]at hu hv;rw[if_neg (by omega),if_pos rfl]at hu;rw[if_neg (by omega),if_neg (by omega)]at hv;show(jL l1 q (q - 1) u v)[p]? =if q - 1<p /\p<=m then l[p - 1]? else if p=q - 1 then l[m]? else l[p]?
        have hu':l1[q]? =some u:=by rw[r4,if_neg (by omega),if_pos rfl];exact hu
        have hv':l1[q - 1]? =some v:=by rw[r4,if_neg (by omega),if_neg (by omega)];exact hv
        rw[Xk hu' hv',r4 p];by_cases p1:p=q - 1
        ·rw[if_pos p1,if_neg (by omega),if_pos p1,hu]
        ·rw[if_neg p1];by_cases p2:p=q
         ·rw[if_pos p2,if_pos (by omega),p2,hv]
         ·rw[if_neg p2];by_cases p3:q<p /\p<=m
          ·rw[if_pos p3,if_pos (by omega)]
          ·rw[if_neg p3,if_neg p2,if_neg (by omega),if_neg p1]
       ·(conv=>whnf);rw[wq];exact congrArg (asN N j (q - 1)) (ag0 d u v)
      ·have hq:q=j:=by
        have k3:decide ((q:Int)>(j:Int))=false:=k3;have:=of_decide_eq_false k3;omega
       subst hq;(conv=>whnf);exact⟨l1,r3,by rw[hm2];exact ajf hcc hx g1 g3 hs1 r4 g4 g5,rfl⟩
  ·have hm2:m+1<b:=by
    have e2:(IntKind.i64.wrap ((b:Int) -(m:Int))==1)=false:=e2;rw[zM (by omega) (by omega),beq_eq_false_iff_ne]at e2;omega
   have wh:=J4 a b (by omega);obtain⟨mid,hmid⟩: ∃mid,mid=(a+b)/2:=⟨_,rfl⟩;rw[<- hmid]at wh;have wn:IntKind.i64.wrap ((mid:Int)+(m:Int))=((mid+m:Nat):Int):=by rw[zM (by omega) (by omega)];omega
   have wnb:IntKind.i64.wrap (((mid+m:Nat):Int) -(b:Int))=((mid+m - b:Nat):Int)\/m<=mid:=by
    by_cases h:m<=mid
    ·exact .inr h
    ·exact .inl (by rw[zM (by omega) (by omega)];omega)
   have wp:IntKind.i64.wrap (((mid+m:Nat):Int) - 1)=((mid+m - 1:Nat):Int):=JL (by omega) (by omega);(conv=>whnf);refine⟨by decide,?_⟩;(conv=>whnf);rw[wh];refine zd (λe3=>?_) (λe3=>?_)
   ·have hm3:mid<m:=by
     have e3:decide ((m:Int)>(mid:Int))=true:=e3;have:=of_decide_eq_true e3;omega
    (conv=>whnf);rw[wn]
    refine yv (P:=Pg) (f:=T8.f) (body:=qb) (λz:Nat×Nat=>asP cp0 cp1 g N a m b mid (mid+m) z.1 z.2 (mid+m - 1) (yt d l)) (λz=>z.2 - z.1)
     (λz=>mid+m - b<=z.1 /\z.1<=z.2 /\z.2<=mid /\(z.1=mid+m - b\/jq c l (z.1 - 1) (mid+m - z.1))/\(z.2=mid\/jq c l (mid+m - 1 - z.2) z.2))
     ⟨(mid+m - b,mid),⟨Nat.le_refl _,by show mid+m - b<=mid;omega,Nat.le_refl _,.inl rfl,.inl rfl⟩,ze ?_⟩ ?_
    ·(conv=>whnf);rw[wp,wnb.resolve_right (by omega)];rfl
    ·rintro⟨s,r⟩ hR;have hS:mid+m - b<=s /\s<=r /\r<=mid /\(s=mid+m - b\/jq c l (s - 1) (mid+m - s))/\(r=mid\/jq c l (mid+m - 1 - r) r):=hR;clear hR;obtain⟨g1,g2,g3,g4,g5⟩:=hS;(conv=>whnf);refine zd (λk1=>?_) (λk1=>?_)
     ·have hij:s<r:=by have k1:decide ((s:Int)<(r:Int))=true:=k1;have:=of_decide_eq_true k1;omega
      have wq:=J4 s r (by omega);obtain⟨h,hh⟩: ∃h,h=(s+r)/2:=⟨_,rfl⟩;rw[<- hh]at wq;obtain⟨u,hu⟩:=yG (l:=l) (i:=h) (by omega);obtain⟨v,hv⟩:=yG (l:=l) (i:=mid+m - 1 - h) (by omega);have w1:IntKind.i64.wrap ((h:Int)+1)=((h+1:Nat):Int):=zx (n:=b) (by omega) (by omega);have wv:IntKind.i64.wrap (((mid+m - 1:Nat):Int) -(h:Int))=((mid+m - 1 - h:Nat):Int):=by rw[zM (by omega) (by omega)];omega
      (conv=>whnf);refine⟨by decide,?_⟩;(conv=>whnf);rw[wq,wv];refine⟨by omega,by omega,?_⟩;(conv=>whnf);refine⟨_,y7 d hv,?_⟩;(conv=>whnf);refine⟨by omega,by omega,?_⟩;(conv=>whnf);refine⟨_,y7 d hu,?_⟩;(conv=>whnf);refine Sat.mono (hg u v (hrw h (mid+m - 1 - h) u v (by omega) (by omega) (by omega) (by omega) hu hv)) ?_;rintro _ ⟨z,rfl,hz⟩;(conv=>whnf);refine zd (λk2=>?_) (λk2=>?_)
      ·have hge: ¬c v u<0:=by
        have k2:(!decide (z<0))=true:=k2;rw[<- hz];simpa using k2
       (conv=>whnf);refine⟨(h+1,r),⟨⟨by show mid+m - b<=h+1;omega,by show h+1<=r;omega,g3,.inr ⟨u,v,hu,?_,hcc.ge.1 (by omega)⟩,g5⟩,by show r -(h+1)<r - s;omega⟩,ze ?_⟩
       ·rw[<- hv];congr 1;show mid+m -(h+1)=_;omega
       (conv=>whnf);rw[w1];rfl
      ·have hlt:c v u<0:=by
        have k2:(!decide (z<0))=false:=k2;rw[<- hz];simpa using k2
       (conv=>whnf);refine⟨(s,h),⟨⟨g1,by show s<=h;omega,by show h<=mid;omega,g4,.inr ⟨v,u,hv,hu,by omega⟩⟩,by show h - s<r - s;omega⟩,ze ?_⟩;(conv=>whnf);rfl
     ·have hij:r=s:=by have k1:decide ((s:Int)<(r:Int))=false:=k1;have:=of_decide_eq_false k1;omega
      subst hij;obtain⟨e,he⟩: ∃e,e=mid+m - r:=⟨_,rfl⟩;have we:IntKind.i64.wrap (((mid+m:Nat):Int) -(r:Int))=(e:Int):=by rw[zM (by omega) (by omega)];omega
      have hb1:r=a\/e=b\/jq c l (r - 1) e:=by
       rcases g4 with g4|⟨u,v,q1,q2,q3⟩
       ·right;left;omega
       ·exact .inr (.inr ⟨u,v,q1,by rw[he];exact q2,q3⟩)
      have hb2:r=m\/e=m\/jq c l (e - 1) r:=by
       rcases g5 with g5|⟨u,v,q1,q2,q3⟩
       ·right;left;omega
       ·refine .inr (.inr ⟨u,v,?_,q2,q3⟩);rw[<- q1];congr 1;omega
      have hpar:=λ(l1:List α) (hr:wV r m e l l1)=>Jz hcc (show a<=r by omega) (show r<=m by omega) (show m<=e by omega) (show e<=b by omega) hr hs1 hs2 hb1 hb2
      have hmd:r+(e - m)=mid:=by omega
      simp only[hmd]at hpar;have hrl:=λ(l1:List α) (hr:wV r m e l l1)=>hrw.rot (show a<=r by omega) (show r<=m by omega) (show m<=e by omega) (show e<=b by omega) hr
      simp only[hmd]at hrl;(conv=>whnf);rw[we];refine zd (λf1=>?_) (λf1=>?_)
      ·have f1:r<m /\m<e:=xI f1;(conv=>whnf);refine zu.mono (aan d cp0 cp1 g l N r m e f1.1 f1.2 (by omega) hN hl) ?_;rintro _ rfl;have hr0:wV r m e l (UI r m e l):=kk (by omega) (by omega) (by omega);have hw0:PermW r e l (UI r m e l):=akP (by omega) (by omega) (by omega);obtain⟨l1,hl1⟩: ∃l1,l1=UI r m e l:=⟨_,rfl⟩;rw[<- hl1]at hr0 hw0⊢;have hr:=hr0;have hw:=hw0;have hrel:=hrl l1 hr;obtain⟨s1,s2,s3,s4,s5⟩:=hpar l1 hr;have hn1:=hw.len;(conv=>whnf);refine zd (λf2=>?_) (λf2=>?_)
       ·have f2:a<r /\r<mid:=xI f2;(conv=>whnf);refine zu.mono (ih l1 a r mid (by omega) f2.1 f2.2 (by omega) (by omega) s1 s2 hrel.1) ?_;rintro _ ⟨l2,p2,t2,rfl⟩;have hn2:=p2.len;(conv=>whnf);refine zd (λf3=>?_) (λf3=>?_)
        ·have f3:mid<e /\e<b:=xI f3;(conv=>whnf);refine zu.mono (ih l2 mid e b (by omega) f3.1 f3.2 (by omega) (by omega) (s3.same λi i1 _=>p2.out i (.inr i1)) (s4.same λi i1 _=>p2.out i (.inr (by omega))) (hrel.2.same λi hi=>p2.out i (.inr (by omega)))) ?_;rintro _ ⟨l3,p3,t3,rfl⟩;have fin:=xx hw (show a<=r by omega) (show e<=b by omega) p2 p3 (by omega) (by omega) t2 t3 s5;(conv=>whnf);exact⟨l3,fin.1,fin.2,rfl⟩
        ·have f3:e<=mid\/b<=e:=xH f3;have t3:zB c mid b l2:=by
          rcases f3 with f3|f3
          ·exact(s4.mono (show e<=mid by omega) (Nat.le_refl _)).same λi i1 _=>p2.out i (.inr i1)
          ·exact(s3.mono (Nat.le_refl _) (show b<=e by omega)).same λi i1 _=>p2.out i (.inr i1)
         have fin:=xx hw (show a<=r by omega) (show e<=b by omega) p2 (PermW.refl mid b l2) (by omega) (by omega) t2 t3 s5;(conv=>whnf);exact⟨l2,fin.1,fin.2,rfl⟩
       ·have f2:r<=a\/mid<=r:=xH f2;have p2:PermW a mid l1 l1:=PermW.refl _ _ _;have t2:zB c a mid l1:=by
         rcases f2 with f2|f2
         ·exact s2.mono (show r<=a by omega) (Nat.le_refl _)
         ·exact s1.mono (Nat.le_refl _) (show mid<=r by omega)
        (conv=>whnf);refine zd (λf3=>?_) (λf3=>?_)
        ·have f3:mid<e /\e<b:=xI f3;(conv=>whnf);refine zu.mono (ih l1 mid e b (by omega) f3.1 f3.2 (by omega) (by omega) (s3.same λi i1 _=>p2.out i (.inr i1)) (s4.same λi i1 _=>p2.out i (.inr (by omega))) (hrel.2.same λi hi=>p2.out i (.inr (by omega)))) ?_;rintro _ ⟨l3,p3,t3,rfl⟩;have fin:=xx hw (show a<=r by omega) (show e<=b by omega) p2 p3 (by omega) (by omega) t2 t3 s5;(conv=>whnf);exact⟨l3,fin.1,fin.2,rfl⟩
        ·have f3:e<=mid\/b<=e:=xH f3;have t3:zB c mid b l1:=by
          rcases f3 with f3|f3
          ·exact(s4.mono (show e<=mid by omega) (Nat.le_refl _)).same λi i1 _=>p2.out i (.inr i1)
          ·exact(s3.mono (Nat.le_refl _) (show b<=e by omega)).same λi i1 _=>p2.out i (.inr i1)
         have fin:=xx hw (show a<=r by omega) (show e<=b by omega) p2 (PermW.refl mid b l1) (by omega) (by omega) t2 t3 s5;(conv=>whnf);exact⟨l1,fin.1,fin.2,rfl⟩
      ·have f1:m<=r\/e<=m:=xH f1;have hr:wV r m e l l:=wV.same (by omega) (by omega) (by omega);have hw:PermW r e l l:=PermW.refl _ _ _;have hrel:=hrl l hr;obtain⟨s1,s2,s3,s4,s5⟩:=hpar l hr;have hn1:=hw.len;(conv=>whnf);refine zd (λf2=>?_) (λf2=>?_)
       ·have f2:a<r /\r<mid:=xI f2;(conv=>whnf);refine zu.mono (ih l a r mid (by omega) f2.1 f2.2 (by omega) (by omega) s1 s2 hrel.1) ?_;rintro _ ⟨l2,p2,t2,rfl⟩;have hn2:=p2.len;(conv=>whnf);refine zd (λf3=>?_) (λf3=>?_)
        ·have f3:mid<e /\e<b:=xI f3;(conv=>whnf);refine zu.mono (ih l2 mid e b (by omega) f3.1 f3.2 (by omega) (by omega) (s3.same λi i1 _=>p2.out i (.inr i1)) (s4.same λi i1 _=>p2.out i (.inr (by omega))) (hrel.2.same λi hi=>p2.out i (.inr (by omega)))) ?_;rintro _ ⟨l3,p3,t3,rfl⟩;have fin:=xx hw (show a<=r by omega) (show e<=b by omega) p2 p3 (by omega) (by omega) t2 t3 s5;(conv=>whnf);exact⟨l3,fin.1,fin.2,rfl⟩
        ·have f3:e<=mid\/b<=e:=xH f3;have t3:zB c mid b l2:=by
          rcases f3 with f3|f3
          ·exact(s4.mono (show e<=mid by omega) (Nat.le_refl _)).same λi i1 _=>p2.out i (.inr i1)
          ·exact(s3.mono (Nat.le_refl _) (show b<=e by omega)).same λi i1 _=>p2.out i (.inr i1)
         have fin:=xx hw (show a<=r by omega) (show e<=b by omega) p2 (PermW.refl mid b l2) (by omega) (by omega) t2 t3 s5;(conv=>whnf);exact⟨l2,fin.1,fin.2,rfl⟩
       ·have f2:r<=a\/mid<=r:=xH f2;have p2:PermW a mid l l:=PermW.refl _ _ _;have t2:zB c a mid l:=by
         rcases f2 with f2|f2
         ·exact s2.mono (show r<=a by omega) (Nat.le_refl _)
         ·exact s1.mono (Nat.le_refl _) (show mid<=r by omega)
        (conv=>whnf);refine zd (λf3=>?_) (λf3=>?_)
        ·have f3:mid<e /\e<b:=xI f3;(conv=>whnf);refine zu.mono (ih l mid e b (by omega) f3.1 f3.2 (by omega) (by omega) (s3.same λi i1 _=>p2.out i (.inr i1)) (s4.same λi i1 _=>p2.out i (.inr (by omega))) (hrel.2.same λi hi=>p2.out i (.inr (by omega)))) ?_;rintro _ ⟨l3,p3,t3,rfl⟩;have fin:=xx hw (show a<=r by omega) (show e<=b by omega) p2 p3 (by omega) (by omega) t2 t3 s5;(conv=>whnf);exact⟨l3,fin.1,fin.2,rfl⟩
        ·have f3:e<=mid\/b<=e:=xH f3;have t3:zB c mid b l:=by
          rcases f3 with f3|f3
          ·exact(s4.mono (show e<=mid by omega) (Nat.le_refl _)).same λi i1 _=>p2.out i (.inr i1)
          ·exact(s3.mono (Nat.le_refl _) (show b<=e by omega)).same λi i1 _=>p2.out i (.inr i1)
         have fin:=xx hw (show a<=r by omega) (show e<=b by omega) p2 (PermW.refl mid b l) (by omega) (by omega) t2 t3 s5;(conv=>whnf);exact⟨l,fin.1,fin.2,rfl⟩
   ·have hm3:m<=mid:=by
     have e3:decide ((m:Int)>(mid:Int))=false:=e3;have:=of_decide_eq_false e3;omega
    (conv=>whnf);rw[wn]
    refine yv (P:=Pg) (f:=T8.f) (body:=qb) (λz:Nat×Nat=>asP cp0 cp1 g N a m b mid (mid+m) z.1 z.2 (mid+m - 1) (yt d l)) (λz=>z.2 - z.1)
     (λz=>a<=z.1 /\z.1<=z.2 /\z.2<=m /\(z.1=a\/jq c l (z.1 - 1) (mid+m - z.1))/\(z.2=m\/jq c l (mid+m - 1 - z.2) z.2))
     ⟨(a,m),⟨Nat.le_refl _,by show a<=m;omega,Nat.le_refl _,.inl rfl,.inl rfl⟩,ze ?_⟩ ?_
    ·(conv=>whnf);rw[wp];rfl
    ·rintro⟨s,r⟩ hR;have hS:a<=s /\s<=r /\r<=m /\(s=a\/jq c l (s - 1) (mid+m - s))/\(r=m\/jq c l (mid+m - 1 - r) r):=hR;clear hR;obtain⟨g1,g2,g3,g4,g5⟩:=hS;(conv=>whnf);refine zd (λk1=>?_) (λk1=>?_)
     ·have hij:s<r:=by have k1:decide ((s:Int)<(r:Int))=true:=k1;have:=of_decide_eq_true k1;omega
      have wq:=J4 s r (by omega);obtain⟨h,hh⟩: ∃h,h=(s+r)/2:=⟨_,rfl⟩;rw[<- hh]at wq;obtain⟨u,hu⟩:=yG (l:=l) (i:=h) (by omega);obtain⟨v,hv⟩:=yG (l:=l) (i:=mid+m - 1 - h) (by omega);have w1:IntKind.i64.wrap ((h:Int)+1)=((h+1:Nat):Int):=zx (n:=b) (by omega) (by omega);have wv:IntKind.i64.wrap (((mid+m - 1:Nat):Int) -(h:Int))=((mid+m - 1 - h:Nat):Int):=by rw[zM (by omega) (by omega)];omega
      (conv=>whnf);refine⟨by decide,?_⟩;(conv=>whnf);rw[wq,wv];refine⟨by omega,by omega,?_⟩;(conv=>whnf);refine⟨_,y7 d hv,?_⟩;(conv=>whnf);refine⟨by omega,by omega,?_⟩;(conv=>whnf);refine⟨_,y7 d hu,?_⟩;(conv=>whnf);refine Sat.mono (hg u v (hrw h (mid+m - 1 - h) u v (by omega) (by omega) (by omega) (by omega) hu hv)) ?_;rintro _ ⟨z,rfl,hz⟩;(conv=>whnf);refine zd (λk2=>?_) (λk2=>?_)
      ·have hge: ¬c v u<0:=by
        have k2:(!decide (z<0))=true:=k2;rw[<- hz];simpa using k2
       (conv=>whnf);refine⟨(h+1,r),⟨⟨by show a<=h+1;omega,by show h+1<=r;omega,g3,.inr ⟨u,v,hu,?_,hcc.ge.1 (by omega)⟩,g5⟩,by show r -(h+1)<r - s;omega⟩,ze ?_⟩
       ·rw[<- hv];congr 1;show mid+m -(h+1)=_;omega
       (conv=>whnf);rw[w1];rfl
      ·have hlt:c v u<0:=by
        have k2:(!decide (z<0))=false:=k2;rw[<- hz];simpa using k2
       (conv=>whnf);refine⟨(s,h),⟨⟨g1,by show s<=h;omega,by show h<=m;omega,g4,.inr ⟨v,u,hv,hu,by omega⟩⟩,by show h - s<r - s;omega⟩,ze ?_⟩;(conv=>whnf);rfl
     ·have hij:r=s:=by have k1:decide ((s:Int)<(r:Int))=false:=k1;have:=of_decide_eq_false k1;omega
      subst hij;obtain⟨e,he⟩: ∃e,e=mid+m - r:=⟨_,rfl⟩;have we:IntKind.i64.wrap (((mid+m:Nat):Int) -(r:Int))=(e:Int):=by rw[zM (by omega) (by omega)];omega
      have hb1:r=a\/e=b\/jq c l (r - 1) e:=by
       rcases g4 with g4|⟨u,v,q1,q2,q3⟩
       ·left;exact g4
       ·exact .inr (.inr ⟨u,v,q1,by rw[he];exact q2,q3⟩)
      have hb2:r=m\/e=m\/jq c l (e - 1) r:=by
       rcases g5 with g5|⟨u,v,q1,q2,q3⟩
       ·left;exact g5
       ·refine .inr (.inr ⟨u,v,?_,q2,q3⟩);rw[<- q1];congr 1;omega
      have hpar:=λ(l1:List α) (hr:wV r m e l l1)=>Jz hcc (show a<=r by omega) (show r<=m by omega) (show m<=e by omega) (show e<=b by omega) hr hs1 hs2 hb1 hb2
      have hmd:r+(e - m)=mid:=by omega
      simp only[hmd]at hpar;have hrl:=λ(l1:List α) (hr:wV r m e l l1)=>hrw.rot (show a<=r by omega) (show r<=m by omega) (show m<=e by omega) (show e<=b by omega) hr
      simp only[hmd]at hrl;(conv=>whnf);rw[we];refine zd (λf1=>?_) (λf1=>?_)
      ·have f1:r<m /\m<e:=xI f1;(conv=>whnf);refine zu.mono (aan d cp0 cp1 g l N r m e f1.1 f1.2 (by omega) hN hl) ?_;rintro _ rfl;have hr0:wV r m e l (UI r m e l):=kk (by omega) (by omega) (by omega);have hw0:PermW r e l (UI r m e l):=akP (by omega) (by omega) (by omega);obtain⟨l1,hl1⟩: ∃l1,l1=UI r m e l:=⟨_,rfl⟩;rw[<- hl1]at hr0 hw0⊢;have hr:=hr0;have hw:=hw0;have hrel:=hrl l1 hr;obtain⟨s1,s2,s3,s4,s5⟩:=hpar l1 hr;have hn1:=hw.len;(conv=>whnf);refine zd (λf2=>?_) (λf2=>?_)
       ·have f2:a<r /\r<mid:=xI f2;(conv=>whnf);refine zu.mono (ih l1 a r mid (by omega) f2.1 f2.2 (by omega) (by omega) s1 s2 hrel.1) ?_;rintro _ ⟨l2,p2,t2,rfl⟩;have hn2:=p2.len;(conv=>whnf);refine zd (λf3=>?_) (λf3=>?_)
        ·have f3:mid<e /\e<b:=xI f3;(conv=>whnf);refine zu.mono (ih l2 mid e b (by omega) f3.1 f3.2 (by omega) (by omega) (s3.same λi i1 _=>p2.out i (.inr i1)) (s4.same λi i1 _=>p2.out i (.inr (by omega))) (hrel.2.same λi hi=>p2.out i (.inr (by omega)))) ?_;rintro _ ⟨l3,p3,t3,rfl⟩;have fin:=xx hw (show a<=r by omega) (show e<=b by omega) p2 p3 (by omega) (by omega) t2 t3 s5;(conv=>whnf);exact⟨l3,fin.1,fin.2,rfl⟩
        ·have f3:e<=mid\/b<=e:=xH f3;have t3:zB c mid b l2:=by
          rcases f3 with f3|f3
          ·exact(s4.mono (show e<=mid by omega) (Nat.le_refl _)).same λi i1 _=>p2.out i (.inr i1)
          ·exact(s3.mono (Nat.le_refl _) (show b<=e by omega)).same λi i1 _=>p2.out i (.inr i1)
         have fin:=xx hw (show a<=r by omega) (show e<=b by omega) p2 (PermW.refl mid b l2) (by omega) (by omega) t2 t3 s5;(conv=>whnf);exact⟨l2,fin.1,fin.2,rfl⟩
       ·have f2:r<=a\/mid<=r:=xH f2;have p2:PermW a mid l1 l1:=PermW.refl _ _ _;have t2:zB c a mid l1:=by
         rcases f2 with f2|f2
         ·exact s2.mono (show r<=a by omega) (Nat.le_refl _)
         ·exact s1.mono (Nat.le_refl _) (show mid<=r by omega)
        (conv=>whnf);refine zd (λf3=>?_) (λf3=>?_)
        ·have f3:mid<e /\e<b:=xI f3;(conv=>whnf);refine zu.mono (ih l1 mid e b (by omega) f3.1 f3.2 (by omega) (by omega) (s3.same λi i1 _=>p2.out i (.inr i1)) (s4.same λi i1 _=>p2.out i (.inr (by omega))) (hrel.2.same λi hi=>p2.out i (.inr (by omega)))) ?_;rintro _ ⟨l3,p3,t3,rfl⟩;have fin:=xx hw (show a<=r by omega) (show e<=b by omega) p2 p3 (by omega) (by omega) t2 t3 s5;(conv=>whnf);exact⟨l3,fin.1,fin.2,rfl⟩
        ·have f3:e<=mid\/b<=e:=xH f3;have t3:zB c mid b l1:=by
          rcases f3 with f3|f3
          ·exact(s4.mono (show e<=mid by omega) (Nat.le_refl _)).same λi i1 _=>p2.out i (.inr i1)
          ·exact(s3.mono (Nat.le_refl _) (show b<=e by omega)).same λi i1 _=>p2.out i (.inr i1)
         have fin:=xx hw (show a<=r by omega) (show e<=b by omega) p2 (PermW.refl mid b l1) (by omega) (by omega) t2 t3 s5;(conv=>whnf);exact⟨l1,fin.1,fin.2,rfl⟩
      ·have f1:m<=r\/e<=m:=xH f1;have hr:wV r m e l l:=wV.same (by omega) (by omega) (by omega);have hw:PermW r e l l:=PermW.refl _ _ _;have hrel:=hrl l hr;obtain⟨s1,s2,s3,s4,s5⟩:=hpar l hr;have hn1:=hw.len;(conv=>whnf);refine zd (λf2=>?_) (λf2=>?_)
       ·have f2:a<r /\r<mid:=xI f2;(conv=>whnf);refine zu.mono (ih l a r mid (by omega) f2.1 f2.2 (by omega) (by omega) s1 s2 hrel.1) ?_;rintro _ ⟨l2,p2,t2,rfl⟩;have hn2:=p2.len;(conv=>whnf);refine zd (λf3=>?_) (λf3=>?_)
        ·have f3:mid<e /\e<b:=xI f3;(conv=>whnf);refine zu.mono (ih l2 mid e b (by omega) f3.1 f3.2 (by omega) (by omega) (s3.same λi i1 _=>p2.out i (.inr i1)) (s4.same λi i1 _=>p2.out i (.inr (by omega))) (hrel.2.same λi hi=>p2.out i (.inr (by omega)))) ?_;rintro _ ⟨l3,p3,t3,rfl⟩;have fin:=xx hw (show a<=r by omega) (show e<=b by omega) p2 p3 (by omega) (by omega) t2 t3 s5;(conv=>whnf);exact⟨l3,fin.1,fin.2,rfl⟩
        ·have f3:e<=mid\/b<=e:=xH f3;have t3:zB c mid b l2:=by
          rcases f3 with f3|f3
          ·exact(s4.mono (show e<=mid by omega) (Nat.le_refl _)).same λi i1 _=>p2.out i (.inr i1)
          ·exact(s3.mono (Nat.le_refl _) (show b<=e by omega)).same λi i1 _=>p2.out i (.inr i1)
         have fin:=xx hw (show a<=r by omega) (show e<=b by omega) p2 (PermW.refl mid b l2) (by omega) (by omega) t2 t3 s5;(conv=>whnf);exact⟨l2,fin.1,fin.2,rfl⟩
       ·have f2:r<=a\/mid<=r:=xH f2;have p2:PermW a mid l l:=PermW.refl _ _ _;have t2:zB c a mid l:=by
         rcases f2 with f2|f2
         ·exact s2.mono (show r<=a by omega) (Nat.le_refl _)
         ·exact s1.mono (Nat.le_refl _) (show mid<=r by omega)
        (conv=>whnf);refine zd (λf3=>?_) (λf3=>?_)
        ·have f3:mid<e /\e<b:=xI f3;(conv=>whnf);refine zu.mono (ih l mid e b (by omega) f3.1 f3.2 (by omega) (by omega) (s3.same λi i1 _=>p2.out i (.inr i1)) (s4.same λi i1 _=>p2.out i (.inr (by omega))) (hrel.2.same λi hi=>p2.out i (.inr (by omega)))) ?_;rintro _ ⟨l3,p3,t3,rfl⟩;have fin:=xx hw (show a<=r by omega) (show e<=b by omega) p2 p3 (by omega) (by omega) t2 t3 s5;(conv=>whnf);exact⟨l3,fin.1,fin.2,rfl⟩
        ·have f3:e<=mid\/b<=e:=xH f3;have t3:zB c mid b l:=by
          rcases f3 with f3|f3
          ·exact(s4.mono (show e<=mid by omega) (Nat.le_refl _)).same λi i1 _=>p2.out i (.inr i1)
          ·exact(s3.mono (Nat.le_refl _) (show b<=e by omega)).same λi i1 _=>p2.out i (.inr i1)
         have fin:=xx hw (show a<=r by omega) (show e<=b by omega) p2 (PermW.refl mid b l) (by omega) (by omega) t2 t3 s5;(conv=>whnf);exact⟨l,fin.1,fin.2,rfl⟩
end Go.Proofs.YtnlbmefhdiabcaaGreat
namespace Go.Proofs.YtnlbmefhdiabcaaGreat
open Go Go.AM
attribute [local irreducible] Sat zu zS
set_option maxRecDepth 100000
set_option maxHeartbeats 1000000
section
variable {α:Type}{c:α ->α ->Int}
def xy (c:α ->α ->Int)(bs e:Nat)(l:List α):Prop:= ∀k,zB c (k*bs) (min ((k+1)*bs) e) l
def Z3 (c:α ->α ->Int)(bs a n:Nat)(l:List α):Prop:= ∀k,a<=k*bs ->zB c (k*bs) (min ((k+1)*bs) n) l
theorem xy.zero (bs:Nat)(l:List α):xy c bs 0 l:=λk=>zB.one _ _ _ (by omega)
theorem xy.ext {bs q e:Nat}{l l':List α}(h:xy c bs (q*bs) l)(hp:PermW (q*bs) e l l')(hs:zB c (q*bs) e l')(h1:q*bs<=e)(h2:e<=(q+1)*bs):xy c bs e l':=by
 intro k;rcases Nat.lt_trichotomy k q with hk|hk|hk
 ·have e1:(k+1)*bs<=q*bs:=Nat.mul_le_mul_right _ hk;have:=h k;rw[Nat.min_eq_left e1]at this;rw[Nat.min_eq_left (Nat.le_trans e1 h1)];exact this.same λi _ i2=>hp.out i (.inl (by omega))
 ·subst hk;rw[Nat.min_eq_right h2];exact hs
 ·have e1:(q+1)*bs<=k*bs:=Nat.mul_le_mul_right _ hk;exact zB.one _ _ _ (by omega)
theorem xy.blkF {bs n:Nat}{l:List α}(h:xy c bs n l):Z3 c bs 0 n l:=λk _=>h k
theorem Z3.next {bs a e n:Nat}{l l':List α}(h:Z3 c bs a n l)(hp:PermW a e l l')(h1:a<=e):Z3 c bs e n l':=λk hk=>(h k (by omega)).same λi i1 _=>hp.out i (.inr (by omega))
theorem Z3.at0 {bs q n:Nat}{l:List α}(h:Z3 c bs (q*(2*bs)) n l):zB c (q*(2*bs)) (min (q*(2*bs)+bs) n) l:=by
 have e0:q*(2*bs)=(2*q)*bs:=by rw[Nat.mul_comm 2 q,Nat.mul_assoc]
 have e1:(2*q+1)*bs=2*q*bs+bs:=Nat.succ_mul (2*q) bs;have:=h (2*q) (by omega);rw[e1]at this;rw[e0];exact this
theorem Z3.at1 {bs q n:Nat}{l:List α}(h:Z3 c bs (q*(2*bs)) n l):zB c (q*(2*bs)+bs) (min (q*(2*bs)+bs+bs) n) l:=by
 have e0:q*(2*bs)=(2*q)*bs:=by rw[Nat.mul_comm 2 q,Nat.mul_assoc]
 have e1:(2*q+1)*bs=2*q*bs+bs:=Nat.succ_mul (2*q) bs;have e2:(2*q+1+1)*bs=2*q*bs+bs+bs:=by rw[Nat.succ_mul (2*q+1) bs,e1]
 have:=h (2*q+1) (by rw[e1,e0];omega);rw[e1,e2]at this;rw[e0];exact this
end
end Go.Proofs.YtnlbmefhdiabcaaGreat
namespace Go.Proofs.YtnlbmefhdiabcaaGreat
open Go Go.AM
attribute [local irreducible] Sat zu zS
set_option maxRecDepth 100000
set_option maxHeartbeats 2000000
variable {α:Type}(d:α ->D) (cp0 cp1:List D)
def Wo (g:FuncId)(N n bs a b:Nat)(els:List (List D)):S:=⟨[(0,cV (.own 100000 1 N)),(1,zf n),(2,.w (.c (.d (.fn g [cp0,cp1])))),(6,zf bs),(7,zf a),(8,zf b)],[(100000,.arr 1 els false)]⟩
def axm (g:FuncId)(N n bs:Nat)(els:List (List D)):S:=⟨[(0,cV (.own 100000 1 N)),(1,zf n),(2,.w (.c (.d (.fn g [cp0,cp1])))),(6,zf bs)],[(100000,.arr 1 els false)]⟩
theorem kq (g:FuncId)(c:α ->α ->Int)(hcc:CmpOK c)(R:α ->α ->Prop)(hg: ∀x y:α,R x y ->Sat Pg g [(.c (.d (d y))),(.c (.d (d x))),.c (.fp cp0),.c (.fp cp1)] (λr=> ∃z,r=rI z /\(z<0↔c y x<0)))(N:Nat)(l:List α)(a b:Nat)(hN:l.length=N)(hab:a<=b)(hb:b<=N)(hl:N<=1000000)(hpr:u9 R a b l):
 zu Pg xO [.c (.own 0 1 N),.c (int a),.c (int b),.c (.d (.fn g [cp0,cp1]))] [.arr 1 (yt d l) false]
  (λr=> ∃l':List α,PermW a b l l' /\zB c a b l' /\r=⟨.tup [],[.arr 1 (yt d l') false]⟩):=by
 subst hN;exact akE d cp0 cp1 g c hcc R hg l a b hab hb hl hpr
theorem amY (g:FuncId)(c:α ->α ->Int)(hcc:CmpOK c)(R:α ->α ->Prop)(hg: ∀x y:α,R x y ->Sat Pg g [(.c (.d (d y))),(.c (.d (d x))),.c (.fp cp0),.c (.fp cp1)] (λr=> ∃z,r=rI z /\(z<0↔c y x<0)))(l:List α)(n:Nat)(hn:l.length=n)(hl:n<=1000000)(hpr:u9 R 0 n l):
 zu Pg uK [.c (.own 0 1 n),.c (int n),.c (.d (.fn g [cp0,cp1]))] [.arr 1 (yt d l) false]
  (λr=> ∃l':List α,PermW 0 n l l' /\zB c 0 n l' /\r=⟨.tup [],[.arr 1 (yt d l') false]⟩):=by
 refine xT T8 vF (by kernel_rfl) (by simp) ?_
 conv=>whnf
 refine yv (P:=Pg) (f:=T8.f) (body:=xe) (λz:Nat×List α=>Wo cp0 cp1 g n n 20 (z.1*20) (z.1*20+20) (yt d z.2)) (λz=>n - z.1*20)
  (λz=>z.1*20<=n /\PermW 0 n l z.2 /\xy c 20 (z.1*20) z.2 /\qf R 20 (z.1*20) z.2)
  ⟨(0,l),⟨by show 0*20<=n;omega,PermW.refl _ _ _,by show xy c 20 (0*20) l;rw[Nat.zero_mul];exact xy.zero _ _,by show qf R 20 (0*20) l;rw[Nat.zero_mul];exact qf.start hpr hn⟩,ze ?_⟩ ?_
 ·(conv=>whnf);rfl
 ·rintro⟨q,l1⟩ hR;have hS:q*20<=n /\PermW 0 n l l1 /\xy c 20 (q*20) l1 /\qf R 20 (q*20) l1:=hR;clear hR;obtain⟨g1,g2,g3,g6⟩:=hS;have g7:=g6.pair (n:=n);have g4:=g2.len;obtain⟨a,ha⟩: ∃a,a=q*20:=⟨_,rfl⟩;show mwpR Pg T8.f xe _ (Wo cp0 cp1 g n n 20 (q*20) (q*20+20) (yt d l1));rw[<- ha]at g1 g3 g6 g7⊢;(conv=>whnf);refine zd (λk1=>?_) (λk1=>?_)
  ·have hlt:a+20<=n:=by have k1:decide (((a+20:Nat):Int)<=(n:Int))=true:=k1;have:=of_decide_eq_true k1;omega
   have wb:IntKind.i64.wrap (((a+20:Nat):Int)+((20:Nat):Int))=((a+20+20:Nat):Int):=by rw[zM (by omega) (by omega)];omega
   (conv=>whnf);refine zu.mono (kq d cp0 cp1 g c hcc R hg n l1 a (a+20) (by omega) (by omega) hlt hl (g7.mono (Nat.le_refl _) hlt)) ?_;rintro _ ⟨l2,p2,s2,rfl⟩;(conv=>whnf);have e1:(q+1)*20=a+20:=by omega
   refine⟨(q+1,l2),⟨⟨by show(q+1)*20<=n;omega,g2.trans (p2.mono (Nat.zero_le _) hlt),?_,?_⟩,by show n -(q+1)*20<n - a;omega⟩,ze ?_⟩
   ·show xy c 20 ((q+1)*20) l2;rw[ha]at g3 p2 s2;exact g3.ext (e:=(q+1)*20) (by rw[Nat.succ_mul];exact p2) (by rw[Nat.succ_mul];exact s2) (by omega) (Nat.le_refl _)
   ·show qf R 20 ((q+1)*20) l2;rw[ha]at g6 p2;exact g6.next (e:=(q+1)*20) (by rw[Nat.succ_mul];exact p2) (by omega) (Nat.le_refl _)
   ·(conv=>whnf);rw[wb];show Wo cp0 cp1 g n n 20 (a+20) (a+20+20) (yt d l2)=Wo cp0 cp1 g n n 20 ((q+1)*20) ((q+1)*20+20) (yt d l2);rw[e1]
  ·have hge:n<a+20:=by have k1:decide (((a+20:Nat):Int)<=(n:Int))=false:=k1;have:=of_decide_eq_false k1;omega
   (conv=>whnf);refine zu.mono (kq d cp0 cp1 g c hcc R hg n l1 a n (by omega) g1 (Nat.le_refl _) hl g7) ?_;rintro _ ⟨l2,p2,s2,rfl⟩;have b2:xy c 20 n l2:=by
    rw[ha]at g3 p2 s2;exact g3.ext p2 s2 (by omega) (by rw[Nat.succ_mul];omega)
   have b3:qf R 20 n l2:=by
    rw[ha]at g6 p2 g1;exact g6.next p2 g1 (by omega)
   have q2:PermW 0 n l l2:=g2.trans (p2.mono (Nat.zero_le _) (Nat.le_refl _));have b4:=b3.blk;clear p2 s2 g3 g2 g4 g6 g7 b3;(conv=>whnf)
   refine yv (P:=Pg) (f:=T8.f) (body:=qo) (λz:Nat×List α=>axm cp0 cp1 g n n z.1 (yt d z.2)) (λz=>n - z.1)
    (λz=>0<z.1 /\z.1<=2000000 /\PermW 0 n l z.2 /\xy c z.1 n z.2 /\aaN R z.1 z.2)
    ⟨(20,l2),⟨by show 0<20;omega,by show 20<=2000000;omega,q2,b2,b4⟩,ze ?_⟩ ?_
   ·(conv=>whnf);rfl
   ·rintro⟨bs,l3⟩ hR;have hS:0<bs /\bs<=2000000 /\PermW 0 n l l3 /\xy c bs n l3 /\aaN R bs l3:=hR;clear hR;obtain⟨g1,g2,g3,g4,g6⟩:=hS;(conv=>whnf);refine zd (λk2=>?_) (λk2=>?_)
    ·have hbs:bs<n:=by have k2:decide ((bs:Int)<(n:Int))=true:=k2;have:=of_decide_eq_true k2;omega
     have w2:IntKind.i64.wrap (2*(bs:Int))=((2*bs:Nat):Int):=by rw[zM (by omega) (by omega)];omega
     have w3:IntKind.i64.wrap ((bs:Int)*2)=((2*bs:Nat):Int):=by rw[zM (by omega) (by omega)];omega
     conv=>whnf
     refine yv (P:=Pg) (f:=T8.f) (body:=qn) (λz:Nat×List α=>Wo cp0 cp1 g n n bs (z.1*(2*bs)) (z.1*(2*bs)+2*bs) (yt d z.2)) (λz=>n - z.1*(2*bs))
      (λz=>z.1*(2*bs)<=n /\PermW 0 n l z.2 /\xy c (2*bs) (z.1*(2*bs)) z.2 /\Z3 c bs (z.1*(2*bs)) n z.2 /\uM R bs (z.1*(2*bs)) z.2)
      ⟨(0,l3),⟨by show 0*(2*bs)<=n;omega,g3,by show xy c (2*bs) (0*(2*bs)) l3;rw[Nat.zero_mul];exact xy.zero _ _,by show Z3 c bs (0*(2*bs)) n l3;rw[Nat.zero_mul];exact g4.blkF,by show uM R bs (0*(2*bs)) l3;rw[Nat.zero_mul];exact g6.pass⟩,ze ?_⟩ ?_
     ·(conv=>whnf);rw[w2];show Wo cp0 cp1 g n n bs 0 (2*bs) (yt d l3)=Wo cp0 cp1 g n n bs (0*(2*bs)) (0*(2*bs)+2*bs) (yt d l3);rw[Nat.zero_mul,Nat.zero_add]
     ·rintro⟨q,l4⟩ hR;have hS:q*(2*bs)<=n /\PermW 0 n l l4 /\xy c (2*bs) (q*(2*bs)) l4 /\Z3 c bs (q*(2*bs)) n l4 /\uM R bs (q*(2*bs)) l4:=hR;clear hR;obtain⟨r1,r2,r3,r4,r6⟩:=hS;have r7:=λe=>r6.rel (e:=e)
      have r8:=r6.blk;have r9:=λe l5=>r6.next (e:=e) (n:=n) (l':=l5)
      have r5:=r2.len;have s1:=r4.at0;have s2:=r4.at1;obtain⟨a,ha⟩: ∃a,a=q*(2*bs):=⟨_,rfl⟩;show mwpR Pg T8.f qn _ (Wo cp0 cp1 g n n bs (q*(2*bs)) (q*(2*bs)+2*bs) (yt d l4));have hq1:(q+1)*(2*bs)=a+2*bs:=by rw[Nat.succ_mul,ha]
      rw[<- ha]at r1 r3 r4 s1 s2 r7 r9⊢;rw[hq1]at r9;have w4:IntKind.i64.wrap ((a:Int)+(bs:Int))=((a+bs:Nat):Int):=by rw[zM (by omega) (by omega)];omega
      (conv=>whnf);refine zd (λk3=>?_) (λk3=>?_)
      ·have hlt:a+2*bs<=n:=by have k3:decide (((a+2*bs:Nat):Int)<=(n:Int))=true:=k3;have:=of_decide_eq_true k3;omega
       have w5:IntKind.i64.wrap (((a+2*bs:Nat):Int)+((2*bs:Nat):Int))=((a+2*bs+2*bs:Nat):Int):=by rw[zM (by omega) (by omega)];omega
       rw[Nat.min_eq_left (by omega)]at s1 s2;(conv=>whnf);rw[w4];refine zu.mono (kw d cp0 cp1 g c hcc R hg n hl _ l4 a (a+bs) (a+2*bs) (Nat.le_refl _) (by omega) (by omega) (by omega) (by omega) s1 (s2.mono (Nat.le_refl _) (by omega)) (r7 _)) ?_;rintro _ ⟨l5,p5,t5,rfl⟩;have e1:(q+1)*(2*bs)=a+2*bs:=by rw[Nat.succ_mul,ha]
       (conv=>whnf);refine⟨(q+1,l5),⟨⟨by show(q+1)*(2*bs)<=n;omega,r2.trans (p5.mono (Nat.zero_le _) hlt),?_,?_,?_⟩,by show n -(q+1)*(2*bs)<n - a;rw[e1];omega⟩,ze ?_⟩
       ·show xy c (2*bs) ((q+1)*(2*bs)) l5;rw[e1];have e2:=e1;subst ha;exact r3.ext p5 t5 (by omega) (by omega)
       ·show Z3 c bs ((q+1)*(2*bs)) n l5;rw[e1];exact r4.next p5 (by omega)
       ·show uM R bs ((q+1)*(2*bs)) l5;rw[e1];exact r9 _ _ p5 (Nat.le_refl _) (.inl rfl)
       ·(conv=>whnf);rw[w2,w5];show Wo cp0 cp1 g n n bs (a+2*bs) (a+2*bs+2*bs) (yt d l5)=Wo cp0 cp1 g n n bs ((q+1)*(2*bs)) ((q+1)*(2*bs)+2*bs) (yt d l5);rw[e1]
      ·have hge:n<a+2*bs:=by have k3:decide (((a+2*bs:Nat):Int)<=(n:Int))=false:=k3;have:=of_decide_eq_false k3;omega
       have e1:(q+1)*(2*bs)=a+2*bs:=by rw[Nat.succ_mul,ha]
       (conv=>whnf);rw[w4];refine zd (λk4=>?_) (λk4=>?_)
       ·have hm:a+bs<n:=by have k4:decide (((a+bs:Nat):Int)<(n:Int))=true:=k4;have:=of_decide_eq_true k4;omega
        rw[Nat.min_eq_left (by omega)]at s1;rw[Nat.min_eq_right (by omega)]at s2;(conv=>whnf);refine zu.mono (kw d cp0 cp1 g c hcc R hg n hl _ l4 a (a+bs) n (Nat.le_refl _) (by omega) (by omega) (by omega) (by omega) s1 s2 (r7 _)) ?_;rintro _ ⟨l5,p5,t5,rfl⟩;(conv=>whnf);refine⟨(2*bs,l5),⟨⟨by show 0<2*bs;omega,by show 2*bs<=2000000;omega,r2.trans (p5.mono (Nat.zero_le _) (Nat.le_refl _)),?_,(r9 _ _ p5 (by omega) (.inr ⟨rfl,by rw[r5];exact hn⟩)).blk⟩,by show n - 2*bs<n - bs;omega⟩,ze ?_⟩
        ·show xy c (2*bs) n l5;subst ha;exact r3.ext p5 t5 r1 (by omega)
        ·(conv=>whnf);rw[w3];rfl
       ·have hm:n<=a+bs:=by have k4:decide (((a+bs:Nat):Int)<(n:Int))=false:=k4;have:=of_decide_eq_false k4;omega
        rw[Nat.min_eq_right (by omega)]at s1;(conv=>whnf);refine⟨(2*bs,l4),⟨⟨by show 0<2*bs;omega,by show 2*bs<=2000000;omega,r2,?_,r8⟩,by show n - 2*bs<n - bs;omega⟩,ze ?_⟩
        ·show xy c (2*bs) n l4;subst ha;exact r3.ext (PermW.refl _ _ _) s1 r1 (by omega)
        ·(conv=>whnf);rw[w3];rfl
    ·have hbs:n<=bs:=by have k2:decide ((bs:Int)<(n:Int))=false:=k2;have:=of_decide_eq_false k2;omega
     have s0:=g4 0;rw[Nat.zero_mul,Nat.zero_add,Nat.one_mul,Nat.min_eq_right hbs]at s0;(conv=>whnf);exact⟨l3,g3,s0,rfl⟩
theorem aeP (g:FuncId)(c:α ->α ->Int)(hcc:CmpOK c)(R:α ->α ->Prop)(hg: ∀x y:α,R x y ->Sat Pg g [(.c (.d (d y))),(.c (.d (d x))),.c (.fp cp0),.c (.fp cp1)] (λr=> ∃z,r=rI z /\(z<0↔c y x<0)))(l:List α)(n:Nat)(hn:l.length=n)(hl:n<=1000000)(hpr:u9 R 0 n l):
 zu Pg qG [.c (.own 0 1 n),.c (.d (.fn g [cp0,cp1]))] [.arr 1 (yt d l) false]
  (λr=> ∃l':List α,PermW 0 n l l' /\zB c 0 n l' /\r=⟨.tup [],[.arr 1 (yt d l') false]⟩):=by
 refine xT T8 vl (by kernel_rfl) (by simp) ?_
 conv=>whnf
 refine zu.mono (amY d cp0 cp1 g c hcc R hg l n hn hl hpr) ?_;rintro _ ⟨l',h1,h2,rfl⟩
 conv=>whnf
 exact⟨l',h1,h2,rfl⟩
end Go.Proofs.YtnlbmefhdiabcaaGreat
namespace Go.Proofs.YtnlbmefhdiabcaaGreat
open Go Go.AM
attribute [local irreducible] Sat zu zS
def ahC (s:Srt)(x y:Val):Int:=bif s.desc then yY y x else yY x y
def J0:List Srt ->List Val ->List Val ->Int
 |s::r,x::xs,y::ys=>bif ahC s x y !=0 then ahC s x y else J0 r xs ys
 |_,_,_=>0
theorem avK {l:List Srt}{i:Nat}(h:i<l.length):(xg l)[((i:Nat):Int).toNat]? =some l[i].ds:=by
 rw[Int.toNat_natCast];simp[xg,List.getElem?_eq_getElem h]
theorem aip (l:List Srt)(i:Nat)(hi:i<l.length)(x y:Val):Sat Pg Zw [.c (int i),x.w,y.w,.c (.fp [.sl (xg l)])] (λr=>r=rI (ahC l[i] x y)):=by
 have hg:=avK hi;obtain⟨x1,x2,x3⟩:=x;obtain⟨y1,y2,y3⟩:=y;unfold ahC;generalize l[i]=s at*;obtain⟨sc,sd⟩:=s;refine zg T8 KG (by kernel_rfl) ?_
 conv=>whnf
 refine⟨by omega,_,hg,rfl,?_⟩
 conv=>whnf
 cases sd
 ·(conv=>whnf);rfl
 ·(conv=>whnf);rfl
def cpS (l:List Srt)(xs ys:List Val)(n i:Nat):S:=⟨[(0,.w (yf xs)),(1,.w (yf ys)),(2,.w (.c (.d (.fn Zw [[.sl (xg l)]])))),(13,zf n),(14,zf i)],[]⟩
theorem amO (l:List Srt)(xs ys:List Val)(hx:xs.length=l.length)(hy:ys.length=l.length)(hl:l.length<=1000000):
 Sat Pg J5 [yf xs,yf ys,.c (.d (.fn Zw [[.sl (xg l)]]))] (λr=>r=rI (J0 l xs ys)):=by
 have hm:yP false (rowD xs).length (rowD ys).length=(l.length:Int):=by
  rw[zo,zo,hx,hy];have:=auS l.length l.length;omega
 have hC:qD (l.length:Int) l.length=0:=by simp[qD]
 refine zg T8 Vy (by kernel_rfl) ?_
 conv=>whnf
 rw[hm];refine zF (P:=Pg) (f:=T8.f) (body:=ve) l.length (λi=>cpS l xs ys l.length i) (λi=>J0 l xs ys=J0 (l.drop i) (xs.drop i) (ys.drop i)) ⟨rfl,ze ?_⟩ ?_
 ·(conv=>whnf);rfl
 ·intro i hi hR;have hR:J0 l xs ys=J0 (l.drop i) (xs.drop i) (ys.drop i):=hR;show mwpR Pg T8.f ve _ (cpS l xs ys l.length i);unfold cpS;(conv=>whnf);refine zd (λh1=>?_) (λh1=>?_)
  ·have hlt:i<l.length:=by have:=of_decide_eq_true h1;omega
   have h2:=aip l i hlt xs[i] ys[i];have gx:=yU (r:=xs) (i:=i) (by omega);have gy:=yU (r:=ys) (i:=i) (by omega);rw[zq hlt,zq (show i<xs.length by omega),zq (show i<ys.length by omega)]at hR;simp only[J0]at hR;generalize ahC l[i] xs[i] ys[i]=c at*;generalize xs[i]=x at*;generalize ys[i]=y at*;obtain⟨x1,x2,x3⟩:=x;obtain⟨y1,y2,y3⟩:=y;(conv=>whnf);refine⟨by omega,_,gx,rfl,?_⟩;(conv=>whnf);refine⟨by omega,_,gy,rfl,?_⟩;(conv=>whnf);refine Sat.cal (h2) ?_;(conv=>whnf);refine zd (λh3=>?_) (λh3=>?_)
   ·rw[show(c !=0)=true from h3]at hR;(conv=>whnf);exact congrArg rI hR.symm
   ·rw[show(c !=0)=false from h3]at hR;(conv=>whnf);refine⟨hlt,hR,ze ?_⟩;(conv=>whnf);rw[zx hlt (by omega)];rfl
  ·have hge:l.length<=i:=by have:=of_decide_eq_false h1;omega
   rw[List.drop_eq_nil_of_le hge]at hR;have hR:J0 l xs ys=0:=hR;rw[hR];(conv=>whnf);rw[zo,zo,hx,hy];rw[hC];rfl
def kyS (row:List Val)(at_:List Int)(i:Nat)(acc:List Val):S:=⟨[(0,.w (yf row)),(4,cV (.own 19 3 acc.length)),(7,.w (.c (.d (.sl (zw at_))))),(8,zf (zw at_).length),(9,zf i)],
 [(19,.arr 3 (rowD acc) false)]⟩
theorem amQ (row:List Val)(at_:List Int)(hn:at_.length<=1000000)(hin:yQ row.length at_):Sat Pg jh [yf row,.c (.fp [.sl (zw at_)])] (λr=>r=rC (.d (.sl (rowD (zn row at_))))):=by
 refine z0 ?_;refine zg T8 aaz (by kernel_rfl) ?_
 conv=>whnf
 refine zF (P:=Pg) (f:=T8.f) (body:=jU) at_.length (λi=>kyS row at_ i (zn row (at_.take i))) (λ_=>True) ⟨trivial,⟨_,yh 4 19 3 (by omega) (by omega) rfl,?_⟩⟩ ?_
 ·(conv=>whnf);rfl
 ·intro i hi _;have hTl:(zn row (at_.take i)).length=i:=by simp[zn];omega
  have hnx: ∀h:i<at_.length,zn row (at_.take (i+1))=zn row (at_.take i)++[at0 row (at_[i]).toNat]:=λh=>by
   unfold zn;rw[zP h,List.map_append];rfl
  have hend:at_.length<=i ->zn row at_=zn row (at_.take i):=λh=>by rw[List.take_of_length_le h]
  show mwpR Pg T8.f jU _ (kyS row at_ i (zn row (at_.take i)));generalize zn row (at_.take i)=T at*;have hta:(rowD T).take T.length=rowD T:=by rw[<- zo,List.take_length]
  unfold kyS;(conv=>whnf);refine zd (λh1=>?_) (λh1=>?_)
  ·have hlt:i<at_.length:=by have:=of_decide_eq_true h1;rw[yu]at this;omega
   have hg:=um hlt;have hnx:=hnx hlt;have hk:=hin _ (List.getElem_mem hlt);generalize at_[i]=k at*;have hgr:(rowD row)[k.toNat]? =some (at0 row k.toNat).ds:=by
    have h6:k.toNat<row.length:=by omega
    rw[show at0 row k.toNat=row[k.toNat]by simp[at0,List.getD,List.getElem?_eq_getElem h6]];simp[rowD,List.getElem?_eq_getElem h6]
   generalize at0 row k.toNat=v at*;obtain⟨v1,v2,v3⟩:=v;(conv=>whnf);refine⟨by omega,_,hg,rfl,?_⟩;(conv=>whnf);(conv=>whnf);refine⟨hk.1,_,hgr,rfl,?_⟩;(conv=>whnf);refine⟨by simp,by unfold ye;simp;omega,by simp;omega,?_⟩;(conv=>whnf);refine⟨hlt,trivial,ze ?_⟩;(conv=>whnf);rw[zx hlt (by omega),hta,hnx,<- vL,List.length_append];rfl
  ·have hge:at_.length<=i:=by have:=of_decide_eq_false h1;rw[yu]at this;omega
   rw[hend hge];(conv=>whnf);refine⟨rfl,?_⟩;show Res.mk (.w (.c (.d (.sl ((rowD T).take T.length))))) []=_;rw[hta];rfl
def uX (at_:List Int)(l:List Srt)(a b:List Val):Int:=J0 l (zn a at_) (zn b at_)
theorem amJ (at_:List Int)(l:List Srt)(a b:List Val)(ha:yQ a.length at_)(hb:yQ b.length at_)(hl:at_.length=l.length)(hn:l.length<=1000000):
 Sat Pg YZ [yf a,yf b,.c (.fp [.fn jh [[.sl (zw at_)]]]),.c (.fp [.sl (xg l)])] (λr=>r=rI (uX at_ l a b)):=by
 have h1:=amQ a at_ (by omega) ha;have h2:=amQ b at_ (by omega) hb;have h3:=amO l (zn a at_) (zn b at_) (by simp[zn,hl]) (by simp[zn,hl]) hn;unfold uX;generalize J0 l (zn a at_) (zn b at_)=c at*;generalize zn a at_=x at*;generalize zn b at_=y at*;refine zg T8 aaA (by kernel_rfl) ?_
 conv=>whnf
 repeat' (first
  |(refine And.intro ?_ ?_<;>conv=>whnf)
  |(refine Sat.mono h1 ?_;rintro _ rfl;conv=>whnf)
  |(refine Sat.mono h2 ?_;rintro _ rfl;conv=>whnf)
  |(refine Sat.mono h3 ?_;rintro _ rfl;conv=>whnf))
 all_goals rfl
theorem CmpOK.both {α:Type}{c d:α ->α ->Int}(h:CmpOK c)(k:CmpOK d):CmpOK (λx y=>bif c x y !=0 then c x y else d x y):=by
 have e: ∀x y,(bif c x y !=0 then c x y else d x y)=if c x y=0 then d x y else c x y:=λx y=>by
  by_cases hz:c x y=0
  ·rw[if_pos hz,hz];rfl
  ·rw[if_neg hz,show(c x y !=0)=true by simpa using hz];rfl
 refine⟨λx=>?_,λx y=>?_,λx y z h1 h2=>?_⟩
 ·simp only[e];rw[if_pos (h.refl x)];exact k.refl x
 ·simp only[e];have a1:=h.anti x y;have a2:=h.anti y x;have a3:=k.anti x y;have a4:=h.zero (x:=x) (y:=y);by_cases hz:c x y=0
  ·rw[if_pos hz,if_pos (a4.1 hz)];exact a3
  ·rw[if_neg hz,if_neg (λh'=>hz (a4.2 h'))];exact a1
 ·simp only[e]at h1 h2⊢;by_cases hz:c x y=0
  ·rw[if_pos hz]at h1;by_cases hz2:c y z=0
   ·rw[if_pos hz2]at h2;have h3:=h.trans x y z (by omega) (by omega);have h4:=h.trans z y x (by have:=h.zero.1 hz2;omega) (by have:=h.zero.1 hz;omega);have h5:=h.ge.2 h4;rw[if_pos (by omega)];exact k.trans _ _ _ h1 h2
   ·rw[if_neg hz2]at h2;have:=h.lt_of2 (x:=x) (y:=y) (z:=z) (by omega) (by omega);rw[if_neg (by omega)];omega
  ·rw[if_neg hz]at h1;by_cases hz2:c y z=0
   ·have:=h.lt_of (x:=x) (y:=y) (z:=z) (by omega) (by omega);rw[if_neg (by omega)];omega
   ·rw[if_neg hz2]at h2;have:=h.lt_of (x:=x) (y:=y) (z:=z) (by omega) (by omega);rw[if_neg (by omega)];omega
theorem CmpOK.onF {α β:Type}{c:α ->α ->Int}(h:CmpOK c)(f:β ->α):CmpOK (λx y=>c (f x) (f y)):=⟨λx=>h.refl _,λx y=>h.anti _ _,λx y z=>h.trans _ _ _⟩
theorem CmpOK.flip {α:Type}{c:α ->α ->Int}(h:CmpOK c):CmpOK (λx y=>c y x):=⟨λx=>h.refl _,λx y=>h.anti _ _,λx y z h1 h2=>h.trans _ _ _ h2 h1⟩
theorem ave (s:Srt):CmpOK (ahC s):=by
 obtain⟨sc,sd⟩:=s;cases sd
 ·exact aid
 ·exact aid.flip
theorem VP: ∀(at_:List Int) (l:List Srt),CmpOK (uX at_ l)
 | [],l=>by
   have e:uX [] l= λ_ _=>0:=by funext a b;cases l<;>rfl
   rw[e];exact⟨λ_=>rfl,λ_ _=>by omega,λ_ _ _ _ _=>Int.le_refl _⟩
 |k::at_,[]=>by
  have e:uX (k::at_) []= λ_ _=>0:=by funext a b;rfl
  rw[e];exact⟨λ_=>rfl,λ_ _=>by omega,λ_ _ _ _ _=>Int.le_refl _⟩
 |k::at_,s::l=>((ave s).onF (λrow=>at0 row k.toNat)).both (VP at_ l)
theorem asj (l:List (List Val)): ∀x∈zj l,x.length=1:=by
 intro x hx;simp only[zj,List.mem_map]at hx;obtain⟨a,_,rfl⟩:=hx;rfl
theorem Vo (l:List (List Val))(hl:l.length<=1000000):Sat Pg KV [.c (.d (.sl (zj l)))] (λr=>(l=[]/\r=rC .nil)\/r=abO 1 (zj l)):=by
 refine zg T8 V9 (by kernel_rfl) ?_
 conv=>whnf
 refine⟨λh=>?_,?_⟩
 ·conv=>whnf
  left
  refine⟨?_,rfl⟩;cases l with
  |nil=>rfl
  |cons a r=>cases h
 ·(conv=>whnf);refine⟨asj l,by unfold ye;rw[zA];simp;omega,by rw[zA];simp;omega,?_⟩;(conv=>whnf)
  right
  show Res.mk (.w (.c (.own 0 1 (([]:List (List D)).length+(zj l).length)))) [.arr 1 (([]:List (List D)).take ([]:List (List D)).length++zj l) false]=_;unfold abO;rw[List.length_nil,Nat.zero_add,List.take_nil,List.nil_append]
theorem aol (g:FuncId)(cp:List (List D)):zu Pg xO [.c .nil,.c (int 0),.c (int 0),.c (.d (.fn g cp))] [] (λr=>r=⟨.tup [],[]⟩):=by
 refine xT T8 qL (by kernel_rfl) (by simp) ?_
 conv=>whnf
 refine yv (P:=Pg) (f:=T8.f) (body:=xl) (λ_:Unit=>⟨[(0,cV .nil),(1,zf 0),(2,zf 0),(3,.w (.c (.d (.fn g cp)))),(8,zf 1)],[]⟩) (λ_=>0) (λ_=>True) ⟨(),trivial,ze ?_⟩ ?_
 ·(conv=>whnf);rfl
 ·rintro _ _;(conv=>whnf);rfl
theorem aiv (g:FuncId)(cp:List (List D)):zu Pg uK [.c .nil,.c (int 0),.c (.d (.fn g cp))] [] (λr=>r=⟨.tup [],[]⟩):=by
 refine xT T8 vF (by kernel_rfl) (by simp) ?_
 conv=>whnf
 refine yv (P:=Pg) (f:=T8.f) (body:=xe) (λ_:Unit=>⟨[(0,cV .nil),(1,zf 0),(2,.w (.c (.d (.fn g cp)))),(6,zf 20),(7,zf 0),(8,zf 20)],[]⟩) (λ_=>0) (λ_=>True) ⟨(),trivial,ze ?_⟩ ?_
 ·(conv=>whnf);rfl
 ·rintro _ _;(conv=>whnf);refine zu.mono (aol g cp) ?_;rintro _ rfl;(conv=>whnf);refine yv (P:=Pg) (f:=T8.f) (body:=qo) (λ_:Unit=>⟨[(0,cV .nil),(1,zf 0),(2,.w (.c (.d (.fn g cp)))),(6,zf 20)],[]⟩) (λ_=>0) (λ_=>True) ⟨(),trivial,ze ?_⟩ ?_
  ·(conv=>whnf);rfl
  ·rintro _ _;(conv=>whnf);rfl
theorem WM (g:FuncId)(cp:List (List D)):zu Pg qG [.c .nil,.c (.d (.fn g cp))] [] (λr=>r=⟨.tup [],[]⟩):=by
 refine xT T8 vl (by kernel_rfl) (by simp) ?_
 conv=>whnf
 refine zu.mono (aiv g cp) ?_;rintro _ rfl
 conv=>whnf
 rfl
theorem adz (d:List Nmd)(src:ByteArray)(st:Stp)(t:Tbl)(cols2:List Col)(h1:xm d=0)(h2:Qry.err ⟨src,[st]⟩=0)(hf:zY src d=some t)(htl:t.cols.length<=1000000)(hs:st.sorts.length<=1000000)
 (hT:Sat Pg yk [.c (.d (.sl (zL d))),.c (.d (.sl (zi t.cols))),st.w] (λr=>r=rCs cols2)):Sat Pg vy [.c (.d (.sl (zL d))),Qry.w ⟨src,[st]⟩] (λr=>r=rCs cols2):=by
 have hc:=vM d;have hq:=abU ⟨src,[st]⟩ (by intro s h;rw[List.mem_singleton.1 h];exact hs);have hfd:=xR d src;have hcl:=qp t.cols htl;rw[h1]at hc;rw[h2]at hq;rw[hf]at hfd;clear h1 h2 hf;obtain⟨tc,tr⟩:=t;obtain⟨op,⟨eo,nm,⟨vk,vn,vs⟩,ks⟩,items,scs,saggs,sorts,sn,tb⟩:=st;refine zg T8 va (by kernel_rfl) ?_
 conv=>whnf
 refine Sat.cal (hc) ?_
 conv=>whnf
 refine Sat.cal (hq) ?_
 conv=>whnf
 refine Sat.cal (hfd) ?_
 conv=>whnf
 refine Sat.cal (hcl) ?_
 conv=>whnf
 refine qY (P:=Pg) (f:=T8.f) (body:=Yf) 2 ?_
 conv=>whnf
 refine⟨by omega,_,rfl,rfl,?_⟩
 conv=>whnf
 refine Sat.cal (hT) ?_
 conv=>whnf
 rfl
theorem amI (d:List Nmd)(src:ByteArray)(st:Stp)(t R:Tbl)(cols2:List Col)(hf:zY src d=some t)(hQ:Sat Pg vy [.c (.d (.sl (zL d))),Qry.w ⟨src,[st]⟩] (λr=>r=rCs cols2))
 (hS:Sat Pg vI [.c (.d (.sl (zL d))),t.w,st.w] (λr=>r=wE R 0)):Sat Pg jP [.c (.d (.sl (zL d))),Qry.w ⟨src,[st]⟩] (λr=>r=wE R 0):=by
 have hfd:=xR d src;rw[hf]at hfd;clear hf;obtain⟨tc,tr⟩:=t;obtain⟨rc,rr⟩:=R;obtain⟨op,⟨eo,nm,⟨vk,vn,vs⟩,ks⟩,items,scs,saggs,sorts,sn,tb⟩:=st;refine zg T8 QM (by kernel_rfl) ?_
 conv=>whnf
 refine Sat.cal (hQ) ?_
 conv=>whnf
 refine Sat.cal (hfd) ?_
 conv=>whnf
 refine qY (P:=Pg) (f:=T8.f) (body:=QL) 2 ?_
 conv=>whnf
 refine⟨by omega,_,rfl,rfl,?_⟩
 conv=>whnf
 refine Sat.cal (hS) ?_
 conv=>whnf
 rfl
end Go.Proofs.YtnlbmefhdiabcaaGreat
namespace Go.Proofs.YtnlbmefhdiabcaaGreat
open Go Go.AM
theorem yB (a b:ByteArray):zl a b=decide (a.data=b.data):=by
 by_cases h:a=b
 ·rw[h,AM.beqS_self];simp
 ·have h1:zl a b=false:=by
   cases e:zl a b
   ·rfl
   ·exact absurd ((AM.beqS_iff a b).1 e) h
  rw[h1];have:a.data≠b.data:=λe=>h (by cases a;cases b;simp at e;rw[e])
  exact(decide_eq_false this).symm
theorem ahU (a b:ByteArray):jx a b=Op.bytesLess a.data.toList b.data.toList:=by
 unfold jx;rw[ByteArray.toList_eq,ByteArray.toList_eq]
def xt (s:ByteArray):Val:=⟨3,0,s⟩
def xn (n:Int):Val:=⟨2,n,⟨#[]⟩⟩
def sA:ByteArray:=⟨#[97]⟩
def sB:ByteArray:=⟨#[98]⟩
def sK:ByteArray:=⟨#[107]⟩
def sN:ByteArray:=⟨#[110]⟩
def sM:ByteArray:=⟨#[109]⟩
def sS:ByteArray:=⟨#[115]⟩
def sC:ByteArray:=⟨#[99]⟩
def sT:ByteArray:=⟨#[116]⟩
def sU:ByteArray:=⟨#[117]⟩
def uc:List (List Val):=[[xt sA,xn 1],[xt sB,xn 2],[xt sA,xn 3]]
def xj:Tbl:=⟨[⟨sK,3⟩,⟨sN,2⟩],uc⟩
def Vb:Tbl:=⟨[⟨sK,3⟩,⟨sM,2⟩],uc⟩
def Ym:List Nmd:=[⟨sT,xj⟩,⟨sU,Vb⟩]
def ex0:Ex:=⟨0,⟨#[]⟩,⟨0,0,⟨#[]⟩⟩,[]⟩
def XE:Stp:=⟨3,ex0,[],[sK],[⟨Y4,sN,sS⟩],[],0,⟨#[]⟩⟩
def V2:Stp:=⟨6,ex0,[],[sK],[],[],0,sU⟩
def Ku:Stp:=⟨3,ex0,[],[],[⟨qj,⟨#[]⟩,sC⟩],[],0,⟨#[]⟩⟩
theorem alc:zQ xj=0:=by
 simp only[zQ,xj,uc,xt,xn,sA,sB,sK,sN,List.map,List.take,j8,xZ,zh,yd,ZW,wU,yx,yB]
 decide+kernel
theorem awc:zQ Vb=0:=by
 simp only[zQ,Vb,uc,xt,xn,sA,sB,sK,sM,List.map,List.take,j8,xZ,zh,yd,ZW,wU,yx,yB]
 decide+kernel
theorem awb:zQ ⟨xj.cols,[]⟩=0:=by
 simp only[zQ,xj,uc,xt,xn,sA,sB,sK,sN,List.map,List.take,j8,xZ,zh,yd,ZW,wU,yx,yB]
 decide+kernel
theorem ae9:xm Ym=0:=by
 simp only[xm,Ym,Yq,alc,awc,zY,ack,List.nil_append,List.length_cons,List.length_nil];simp only[xZ,sT,sU,yB]
 decide+kernel
theorem arl:XE.err=0:=by
 simp only[XE,Stp.err,Stp.uses,VM,ex0,Ex.zero,VN,xi,WZ,Zt,qI,Yk,VZ,zU,qd,z7,kws,hasB,fns,J1,List.any,sK,sN,sS,Y4,yB]
 decide+kernel
theorem arm:V2.err=0:=by
 simp only[V2,Stp.err,Stp.uses,VM,ex0,Ex.zero,VN,xi,WZ,qd,qC,zU,z7,kws,hasB,List.any,sK,sU,yB]
 decide+kernel
theorem awa:Ku.err=0:=by
 simp only[Ku,Stp.err,Stp.uses,VM,ex0,Ex.zero,VN,xi,WZ,Zt,qC,qI,Yk,VZ,zU,z7,kws,hasB,fns,J1,List.any,sC,qj,yB]
 decide+kernel
theorem arM:z7 sT=true:=by
 simp only[z7,kws,hasB,List.any,sT,yB]
 decide+kernel
theorem avb:Qry.err ⟨sT,[XE]⟩=0:=by
 simp only[Qry.err,jm,arM,arl]
 decide+kernel
theorem avc:Qry.err ⟨sT,[V2]⟩=0:=by
 simp only[Qry.err,jm,arM,arm]
 decide+kernel
theorem afI:zY sT Ym=some xj:=by
 simp only[zY,Ym,yB];rfl
theorem alJ:zY sU Ym=some Vb:=by
 have h:zl sT sU=false:=by rw[yB];decide
 simp only[zY,Ym,h,AM.beqS_self,cond_true,cond_false]
theorem ato:zh xj.cols sK=0:=by
 simp only[zh,xj,yd,yB]
 decide+kernel
theorem awf:zh xj.cols sN=1:=by
 simp only[zh,xj,yd,yB]
 decide+kernel
theorem auP:zh Vb.cols sK=0:=by
 simp only[zh,Vb,yd,yB]
 decide+kernel
theorem axp:Ur xj.cols XE.cols XE.aggs=rCs [⟨sK,3⟩,⟨sS,2⟩]:=by
 have h1:zl Y4 qj=false:=by rw[yB];decide
 have h2:y5 xj.cols 0=⟨sK,3⟩:=rfl;have h3:y5 xj.cols 1=⟨sN,2⟩:=rfl;simp only[Ur,XE,takeErr,takeC,yl,ja,List.any,List.map,ato,awf,h1,h2,h3,AM.beqS_self];rfl
theorem axq:Ur xj.cols Ku.cols Ku.aggs=rCs [⟨sC,2⟩]:=by
 simp only[Ur,Ku,takeErr,takeC,yl,ja,List.any,List.map,AM.beqS_self];rfl
theorem jn2:jnT Ym xj.cols V2.cols V2.table=rCs [⟨sK,3⟩,⟨sN,2⟩,⟨sM,2⟩]:=by
 have h1:zl sK sK=true:=AM.beqS_self _;have h2:zl sM sK=false:=by rw[yB];decide
 have h3:zl sK sN=false:=by rw[yB];decide
 have h4:zl sK sM=false:=by rw[yB];decide
 have h5:zl sN sM=false:=by rw[yB];decide
 have hk:xJ [sK] Vb.cols=[⟨sM,2⟩]:=by
  simp only[xJ,Vb,hasB,List.any,List.filter,h1,h2,Bool.or_false,Bool.not_true,Bool.not_false]
 have hd:dupL [] (xj.cols++[⟨sM,2⟩])=false:=by
  simp only[xj,List.cons_append,List.nil_append,dupL,zh,yd,h3,h4,h5]
  decide+kernel
 simp only[jnT,V2,alJ,jnQ,jnErr,ato,auP,hk,hd];rfl
theorem arX:xP [xt sA] [xt sA]=0:=by
 simp only[xP,vG,yY,xt,Yg,sA,yB,ahU]
 decide+kernel
theorem aws:xP [xt sA] [xt sB]= -1:=by
 simp only[xP,vG,yY,xt,Yg,sA,sB,yB,ahU]
 decide+kernel
theorem awt:xP [xt sB] [xt sA]=1:=by
 simp only[xP,vG,yY,xt,Yg,sA,sB,yB,ahU]
 decide+kernel
def UE:List Val:=[xt sA,xn 1]
def rB2:List Val:=[xt sB,xn 2]
def rA3:List Val:=[xt sA,xn 3]
theorem axR (g:Gr)(k:List Val):yX [g] k=(bif decide (xP g.key k<0)then 1 else 0):=by
 show uf (y9 [g.gp] k) 1 0 1=_;have h:y9 [g.gp] k ((0+1)/2)=decide (xP g.key k<0):=rfl;simp only[uf,h];cases decide (xP g.key k<0)<;>rfl
theorem aqo:yX [⟨[xt sA],[UE]⟩] [xt sB]=1 /\v7 [⟨[xt sA],[UE]⟩] [xt sB]=false:=by
 have h:yX [⟨[xt sA],[UE]⟩] [xt sB]=1:=by rw[axR,aws];rfl
 exact⟨h,by unfold v7;rw[h];rfl⟩
theorem agu:yX [⟨[xt sA],[UE]⟩,⟨[xt sB],[rB2]⟩] [xt sA]=0 /\v7 [⟨[xt sA],[UE]⟩,⟨[xt sB],[rB2]⟩] [xt sA]=true:=by
 have h:yX [⟨[xt sA],[UE]⟩,⟨[xt sB],[rB2]⟩] [xt sA]=0:=by
  show uf (y9 [Gr.gp ⟨[xt sA],[UE]⟩,Gr.gp ⟨[xt sB],[rB2]⟩] [xt sA]) 2 0 2=0;have h1:y9 [Gr.gp ⟨[xt sA],[UE]⟩,Gr.gp ⟨[xt sB],[rB2]⟩] [xt sA] ((0+2)/2)=false:=by
   show decide (xP [xt sB] [xt sA]<0)=false;rw[awt];rfl
  have h2:y9 [Gr.gp ⟨[xt sA],[UE]⟩,Gr.gp ⟨[xt sB],[rB2]⟩] [xt sA] ((0+(0+2)/2)/2)=false:=by
   show decide (xP [xt sA] [xt sA]<0)=false;rw[arX];rfl
  simp only[uf,h1,h2];rfl
 refine⟨h,?_⟩;unfold v7;rw[h];show(xP [xt sA] [xt sA]==0)=true;rw[arX];rfl
theorem g1:xN [0] (uc.take 1)=[⟨[xt sA],[UE]⟩]:=rfl
theorem g2:xN [0] (uc.take 2)=[⟨[xt sA],[UE]⟩,⟨[xt sB],[rB2]⟩]:=by
 have e:xN [0] (uc.take 2)=ju [0] (xN [0] (uc.take 1)) rB2:=rfl;rw[e,g1];unfold ju jg;rw[show zn rB2 [0]=[xt sB]from rfl,aqo.1,aqo.2];rfl
theorem g3:xN [0] uc=[⟨[xt sA],[UE,rA3]⟩,⟨[xt sB],[rB2]⟩]:=by
 have e:xN [0] uc=ju [0] (xN [0] (uc.take 2)) rA3:=rfl;rw[e,g2];unfold ju jg;rw[show zn rA3 [0]=[xt sA]from rfl,agu.1,agu.2];rfl
def awG:List Gr:=[⟨[xt sA],[UE,rA3]⟩,⟨[xt sB],[rB2]⟩]
def atb:List (List Val):=[[xt sA,xn 4],[xt sB,xn 2]]
theorem atc:awG.map (yV xj.cols XE.aggs)=atb:=by
 have h1:zl Y4 qj=false:=by rw[yB];decide
 have h2: ∀g:Gr,yV xj.cols XE.aggs g=g.key++[UL (z8 (g.rows.map λr=>at0 r 1))]:=λg=>by
  simp only[yV,XE,jb,List.map,XA,YQ,awf,h1,AM.beqS_self,cond_true,cond_false,Bool.not_false,Bool.and_true];rfl
 simp only[awG,List.map,h2];rfl
def alb:List (List Val):=[[xt sA,xn 1,xn 1],[xt sA,xn 1,xn 3],[xt sB,xn 2,xn 2],[xt sA,xn 3,xn 1],[xt sA,xn 3,xn 3]]
theorem awZ:yz [xt sA] [xt sA]=true:=by
 simp only[yz,xB,xi,xt,sA,yB]
 decide+kernel
theorem aw0:yz [xt sA] [xt sB]=false:=by
 simp only[yz,xB,xi,xt,sA,sB,yB]
 decide+kernel
theorem aw4:yz [xt sB] [xt sA]=false:=by
 simp only[yz,xB,xi,xt,sA,sB,yB]
 decide+kernel
theorem aw5:yz [xt sB] [xt sB]=true:=by
 simp only[yz,xB,xi,xt,sB,yB]
 decide+kernel
theorem axO:([xt sA].any (xi yp))=false:=rfl
theorem axP:([xt sB].any (xi yp))=false:=rfl
theorem awv:oth [sK] 0 Vb.cols=[1]:=by
 have h1:zl sK sK=true:=AM.beqS_self _;have h2:zl sM sK=false:=by rw[yB];decide
 simp only[oth,Vb,hasB,List.any,h1,h2];rfl
theorem avq:qx [0] [0] [1] uc uc=alb:=by
 have p1:zn [xt sA,xn 1] [0]=[xt sA]:=rfl;have p2:zn [xt sB,xn 2] [0]=[xt sB]:=rfl;have p3:zn [xt sA,xn 3] [0]=[xt sA]:=rfl;simp only[qx,uc,List.flatMap_cons,List.flatMap_nil,aen,vS,p1,p2,p3,axO,axP,awZ,aw0,aw4,aw5,List.filter,List.map,cond_false];rfl
end Go.Proofs.YtnlbmefhdiabcaaGreat
namespace Go.Proofs.YtnlbmefhdiabcaaGreat
open Go Go.AM
attribute [local irreducible] Sat zu zS zl
theorem awV: ∀(i:Nat) (h:i<uc.length),v7 (xN [0] (uc.take i)) (zn uc[i] [0])=false ->ae0 (xN [0] (uc.take i)).length (yX (xN [0] (uc.take i)) (zn uc[i] [0]))
 |0,_,_=>ahK (n:=0) (by omega)
 |1,_,_=>by
  rw[g1];rw[show yX [⟨[xt sA],[UE]⟩] (zn uc[1] [0])=1 from aqo.1];exact ahK (n:=1) (by omega)
 |2,_,h=>by
  rw[g2]at h;have:=agu.2;rw[show v7 [⟨[xt sA],[UE]⟩,⟨[xt sB],[rB2]⟩] (zn uc[2] [0])=true from agu.2]at h;cases h
 |n+3,h,_=>absurd h (by show¬n+3<3;omega)
theorem atd:zm xj.cols [sK]=[0]:=by
 show [zh xj.cols sK]=[0];rw[ato]
theorem auN:zm Vb.cols [sK]=[0]:=by
 show [zh Vb.cols sK]=[0];rw[auP]
theorem apG: ∀r∈uc,r.length=2:=by
 intro r hr;simp only[uc,List.mem_cons,List.not_mem_nil,or_false]at hr;rcases hr with rfl|rfl|rfl<;>rfl
theorem arn:Sat Pg uY [.agg [.d (.sl (zi xj.cols)),.d (.sl (zj xj.rows))],.c (.d (.sl (zw (zm xj.cols XE.cols))))] (λr=>r=rC (.d (.sl (WY awG)))):=by
 have h:=gR xj.cols uc [0] (by decide) (λr hr=>by rw[apG r hr];intro k hk;rw[List.mem_singleton.1 hk];decide) (by decide) awV;have e:wP [0] uc=awG:=by unfold wP;rw[if_neg (by decide),g3];rfl
 rw[e]at h;rw[show zm xj.cols XE.cols=[0]from atd];exact h
theorem au9:Sat Pg jP [.c (.d (.sl (zL Ym))),Qry.w ⟨sT,[XE]⟩] (λr=>r=wE ⟨[⟨sK,3⟩,⟨sS,2⟩],atb⟩ 0):=by
 have hT:=ab1 Ym xj.cols XE rfl (by decide) (by decide) (by decide);rw[arl,axp]at hT;have hg:=Kj xj.cols xj.rows XE awG (by decide) (by decide) (by decide) (by decide) (by decide) (by decide) arn;have hR:=Wc Ym xj XE rfl awG hg;rw[atc]at hR;have hS:=kt Ym xj XE [⟨sK,3⟩,⟨sS,2⟩] atb rfl (by decide) hR;have hSt:=Wl Ym xj XE _ _ ae9 alc hT hS;have hQ:=adz Ym sT XE xj _ ae9 avb afI (by decide) (by decide) hT;exact amI Ym sT XE xj _ _ afI hQ hSt
theorem aro:Sat Pg QX [.agg [.d (.sl (zi xj.cols)),.d (.sl (zj xj.rows))],.agg [.d (.sl (zi Vb.cols)),.d (.sl (zj Vb.rows))],.c (.d (.sl (zp V2.cols)))] (λr=>r=rRT alb):=by
 have h:=ady xj.cols uc Vb.cols uc [sK] (by decide) (by decide) (by decide) (by decide) apG (by decide) apG (by rw[atd];intro k hk;rw[List.mem_singleton.1 hk];decide) (by rw[auN];intro k hk;rw[List.mem_singleton.1 hk];decide);rw[atd,auN,awv,avq]at h;exact h
theorem ava:Sat Pg jP [.c (.d (.sl (zL Ym))),Qry.w ⟨sT,[V2]⟩] (λr=>r=wE ⟨[⟨sK,3⟩,⟨sN,2⟩,⟨sM,2⟩],alb⟩ 0):=by
 have hT:=aom Ym xj.cols V2 rfl (by decide) (by decide) (by decide) (λt ht=>by rw[show V2.table=sU from rfl,alJ]at ht;cases ht;decide);rw[arm,jn2]at hT;have hR:=aao Ym xj V2 rfl Vb alJ alb aro;have hS:=akH Ym xj V2 [⟨sK,3⟩,⟨sN,2⟩,⟨sM,2⟩] alb rfl (by decide) hR;have hSt:=Wl Ym xj V2 _ _ ae9 alc hT hS;have hQ:=adz Ym sT V2 xj _ ae9 avc afI (by decide) (by decide) hT;exact amI Ym sT V2 xj _ _ afI hQ hSt
theorem ate:Sat Pg vI [.c (.d (.sl (zL []))),Tbl.w ⟨xj.cols,[]⟩,Ku.w] (λr=>r=wE ⟨[⟨sC,2⟩],[[xn 0]]⟩ 0):=by
 have hT:=ab1 [] xj.cols Ku rfl (by decide) (by decide) (by decide);rw[awa,axq]at hT;have hG:=gR xj.cols [] [] (by decide) (λr hr=>by cases hr) (by decide) (λi h=>absurd h (Nat.not_lt_zero i));have hg:=Kj xj.cols [] Ku [⟨[],[]⟩] (by decide) (by decide) (by decide) (by decide) (by decide) (by decide) hG;have e: [(⟨[],[]⟩:Gr)].map (yV xj.cols Ku.aggs)=[[xn 0]]:=by
  simp only[List.map,yV,Ku,jb,XA,YQ,AM.beqS_self,cond_true,Bool.not_true,Bool.and_false];rfl
 rw[e]at hg;have hR:=Wc [] ⟨xj.cols,[]⟩ Ku rfl [⟨[],[]⟩] (by rw[e];exact hg);rw[e]at hR;have hS:=kt [] ⟨xj.cols,[]⟩ Ku [⟨sC,2⟩] [[xn 0]] rfl (by decide) hR;exact Wl [] ⟨xj.cols,[]⟩ Ku _ _ rfl awb hT hS
theorem JF (s:ByteArray):Sat Pg alW [.c (str s)] (λr=>r=rV (xt s)):=by
 refine zg T8 afg (by kernel_rfl) ?_
 conv=>whnf
 rfl
theorem Wb (n:Int):Sat Pg anV [.c (int n)] (λr=>r=rV (xn n)):=by
 refine zg T8 aho (by kernel_rfl) ?_
 conv=>whnf
 rfl
theorem JC:Sat Pg aj1 [] (λr=>r=rB true):=by
 refine zg T8 adU (by kernel_rfl) ?_
 conv=>whnf
 refine Sat.cal (JF sA) ?_
 conv=>whnf
 refine Sat.cal (Wb 1) ?_
 conv=>whnf
 refine Sat.cal (JF sB) ?_
 conv=>whnf
 refine Sat.cal (Wb 2) ?_
 conv=>whnf
 refine Sat.cal (JF sA) ?_
 conv=>whnf
 refine Sat.cal (Wb 3) ?_
 conv=>whnf
 refine Sat.cal (au9) ?_
 conv=>whnf
 refine Sat.cal (ava) ?_
 conv=>whnf
 refine Sat.cal (ate) ?_
 conv=>whnf
 refine⟨by decide,_,rfl,rfl,?_⟩
 conv=>whnf
 refine⟨by decide,_,rfl,rfl,?_⟩
 conv=>whnf
 refine⟨by decide,_,rfl,rfl,?_⟩
 conv=>whnf
 refine⟨by decide,_,rfl,rfl,?_⟩
 conv=>whnf
 refine Sat.cal (JF sA) ?_;generalize xt sA=x1 at*;obtain⟨x11,x12,x13⟩:=x1
 conv=>whnf
 refine zd (λ_=>?_) (λh=>absurd h (by simp[AM.beqS_self]))
 conv=>whnf
 refine⟨by decide,_,rfl,rfl,?_⟩
 conv=>whnf
 refine⟨by decide,_,rfl,rfl,?_⟩
 conv=>whnf
 refine Sat.cal (Wb 4) ?_;generalize xn 4=x2 at*;obtain⟨x21,x22,x23⟩:=x2
 conv=>whnf
 refine zd (λ_=>?_) (λh=>absurd h (by simp[AM.beqS_self]))
 conv=>whnf
 refine⟨by decide,_,rfl,rfl,?_⟩
 conv=>whnf
 refine⟨by decide,_,rfl,rfl,?_⟩
 conv=>whnf
 refine Sat.cal (Wb 2) ?_;generalize xn 2=x3 at*;obtain⟨x31,x32,x33⟩:=x3
 conv=>whnf
 refine zd (λ_=>?_) (λh=>absurd h (by simp[AM.beqS_self];exact⟨rfl,rfl⟩))
 conv=>whnf
 refine⟨by decide,_,rfl,rfl,?_⟩
 conv=>whnf
 refine⟨by decide,_,rfl,rfl,?_⟩
 conv=>whnf
 refine⟨by decide,_,rfl,rfl,?_⟩
 conv=>whnf
 refine Sat.cal (Wb 0) ?_;generalize xn 0=x4 at*;obtain⟨x41,x42,x43⟩:=x4
 conv=>whnf
 refine congrArg rB (?_:(bif true then(bif false then !((x41==x41)&&((x42==x42)&&(zl x43 x43&&true)))else((x41==x41)&&((x42==x42)&&(zl x43 x43&&true))))else false)=true);simp[AM.beqS_self]
theorem XC {α:Type}{e:α ->α ->Bool}(h: ∀x,e x x=true): ∀l:List α,xB e l l=true
 | []=>rfl
 |x::r=>by simp only[xB,h,Bool.not_true,cond_false];exact XC h r
theorem atq (v:Val):xi v v=true:=by simp[xi,AM.beqS_self]
theorem alE (v:Col):KK v v=true:=by simp[KK,AM.beqS_self]
theorem amE (r:List Val):yz r r=true:=by
 unfold yz;simp[XC atq]
theorem aqx (t:Tbl):akR t t=true:=by
 unfold akR;simp[XC alE,XC amE]
end Go.Proofs.YtnlbmefhdiabcaaGreat
namespace Go.Proofs.YtnlbmefhdiabcaaGreat
open Go Go.AM
theorem ahS:CmpOK xP:=ao3
def SortG (gs:List Gr):Prop:=gs.Pairwise λa b=>xP a.key b.key<0
theorem adP (p:Nat ->Bool)(n:Nat)(hm: ∀a b,a<=b ->b<n ->p b=true ->p a=true): ∀(f i j:Nat),(∀a,a<i ->p a=true) ->(∀a,j<=a ->a<n ->p a=false) ->j - i<=f ->i<=j ->j<=n ->
 (∀a,a<uf p f i j ->p a=true)/\(∀a,uf p f i j<=a ->a<n ->p a=false)
 |0,i,j,h1,h2,hf,hij,hjn=>by
  have e:i=j:=by omega
  subst e;exact⟨h1,h2⟩
 |f+1,i,j,h1,h2,hf,hij,hjn=>by
  simp only[uf];by_cases hlt:i<j
  ·rw[decide_eq_true hlt,cond_true];cases hp:p ((i+j)/2)
   ·exact adP p n hm f i ((i+j)/2) h1 (λa ha hn=>by
     cases h:p a
     ·rfl
     ·rw[hm ((i+j)/2) a ha hn h]at hp;cases hp) (by omega) (by omega) (by omega)
   ·exact adP p n hm f ((i+j)/2+1) j (λa ha=>hm a ((i+j)/2) (by omega) (by omega) hp) h2 (by omega) (by omega) hjn
  ·rw[decide_eq_false hlt,cond_false];have e:i=j:=by omega
   subst e;exact⟨h1,h2⟩
theorem Jr {gs:List Gr}(k:List Val){a:Nat}(h:a<gs.length):y9 (gs.map Gr.gp) k a=decide (xP gs[a].key k<0):=by
 unfold y9;rw[List.getElem?_map,List.getElem?_eq_getElem h];rfl
theorem ape {gs:List Gr}(hs:SortG gs){a b:Nat}(hab:a<b)(hb:b<gs.length):xP (gs[a]'(by omega)).key gs[b].key<0:=by
 unfold SortG at hs;rw[List.pairwise_iff_getElem]at hs;exact hs a b (by omega) hb hab
theorem asf {gs:List Gr}(hs:SortG gs)(k:List Val):(∀a (h:a<gs.length),a<yX gs k ->xP gs[a].key k<0)/\(∀a (h:a<gs.length),yX gs k<=a -> ¬xP gs[a].key k<0):=by
 have hl:(gs.map Gr.gp).length=gs.length:=List.length_map _;have h:=adP (y9 (gs.map Gr.gp) k) gs.length (λa b hab hb hp=>by
  rw[Jr k hb]at hp;rw[Jr k (by omega)];have hp:=of_decide_eq_true hp;by_cases e:a=b
  ·subst e;exact decide_eq_true hp
  ·exact decide_eq_true (ahS.lt_of (ape hs (by omega) hb) (by omega))) gs.length 0 gs.length (λa h=>absurd h (Nat.not_lt_zero a)) (λa h1 h2=>absurd h2 (by omega)) (by omega) (Nat.zero_le _) (Nat.le_refl _)
 have e:yX gs k=uf (y9 (gs.map Gr.gp) k) gs.length 0 gs.length:=by unfold yX ZU;rw[hl]
 rw[<- e]at h;refine⟨λa ha hlt=>?_,λa ha hge=>?_⟩
 ·have:=h.1 a hlt;rw[Jr k ha]at this;exact of_decide_eq_true this
 ·have:=h.2 a hge ha;rw[Jr k ha]at this;exact of_decide_eq_false this
theorem avl {gs:List Gr}{k:List Val}(h:yX gs k<gs.length):v7 gs k=(xP gs[yX gs k].key k==0):=by
 unfold v7 YD;rw[List.getElem?_map,List.getElem?_eq_getElem h];rfl
theorem arO {gs:List Gr}(hs:SortG gs)(k:List Val):SortG (jg gs k):=by
 obtain⟨h1,h2⟩:=asf hs k;unfold jg;cases hh:v7 gs k with
 |true=>exact hs
 |false=>
  simp only[cond_false];have hle:=act gs k;have hgt: ∀a (h:a<gs.length),yX gs k<=a ->xP k gs[a].key<0:=λa ha hge=>by
   have hp:yX gs k<gs.length:=by omega
   have h3:=h2 _ hp (Nat.le_refl _);have h4:xP gs[yX gs k].key k≠0:=λe=>by
    rw[avl hp,e]at hh;cases hh
   have h5:xP k gs[yX gs k].key<0:=(ahS.anti _ _).2 (by omega);by_cases e:yX gs k=a
   ·subst e;exact h5
   ·exact ahS.lt_of h5 (by have:=ape hs (show yX gs k<a by omega) ha;omega)
  have e:gs.take (yX gs k)++gs.drop (yX gs k)=gs:=List.take_append_drop ..;have hs':SortG (gs.take (yX gs k)++gs.drop (yX gs k)):=by rw[e];exact hs
  unfold SortG at hs'⊢;rw[List.pairwise_append]at hs';rw[List.append_assoc,List.pairwise_append,List.singleton_append,List.pairwise_cons];refine⟨hs'.1,⟨λb hb=>?_,hs'.2.1⟩,λa ha b hb=>?_⟩
  ·obtain⟨j,hj,rfl⟩:=List.getElem_of_mem hb;rw[List.length_drop]at hj;rw[List.getElem_drop];exact hgt _ _ (by omega)
  ·rcases List.mem_cons.1 hb with rfl|hb
   ·obtain⟨j,hj,rfl⟩:=List.getElem_of_mem ha;rw[List.length_take]at hj;rw[List.getElem_take];exact h1 _ _ (by omega)
   ·exact hs'.2.2 a ha b hb
theorem apA (gs:List Gr)(p:Nat)(row:List Val):(ZK gs p row).map Gr.key=gs.map Gr.key:=by
 unfold ZK;split
 ·rename_i g hg;obtain⟨h,rfl⟩:=List.getElem?_eq_some_iff.1 hg;rw[List.map_set];apply List.ext_getElem
  ·simp
  ·intro i h1 h2;rw[List.getElem_set];split
   ·rename_i e;subst e;simp
   ·rfl
 ·rfl
theorem asB {gs gs':List Gr}(h:gs.map Gr.key=gs'.map Gr.key)(hs:SortG gs):SortG gs':=by
 have e: ∀l:List Gr,SortG l↔(l.map Gr.key).Pairwise λa b=>xP a b<0:=λl=>by
  unfold SortG;rw[List.pairwise_map]
 rw[e]at hs⊢;rw[<- h];exact hs
def sumG (gs:List Gr):Nat:=(gs.map λg=>g.rows.length).sum
theorem acA (a b:List Gr):sumG (a++b)=sumG a+sumG b:=by simp[sumG]
theorem atC (gs:List Gr)(k:List Val):sumG (jg gs k)=sumG gs:=by
 unfold jg;cases v7 gs k
 ·simp only[cond_false,acA];have e:=acA (gs.take (yX gs k)) (gs.drop (yX gs k));rw[List.take_append_drop]at e;have e2:sumG [(⟨k,[]⟩:Gr)]=0:=rfl;omega
 ·rfl
theorem arg (gs:List Gr)(p:Nat)(hp:p<gs.length)(row:List Val):sumG (ZK gs p row)=sumG gs+1:=by
 unfold ZK;rw[List.getElem?_eq_getElem hp];simp only;rw[List.set_eq_take_append_cons_drop,if_pos hp];have e:gs=gs.take p++gs[p]::gs.drop (p+1):=by
  rw[<- List.drop_eq_getElem_cons hp,List.take_append_drop]
 have h0:sumG gs=sumG (gs.take p)+sumG (gs[p]::gs.drop (p+1)):=(congrArg sumG e).trans (acA _ _);have h1: ∀(g:Gr) (r:List Gr),sumG (g::r)=g.rows.length+sumG r:=λg r=>by simp[sumG]
 rw[h1]at h0;rw[acA,h1];simp only[List.length_append,List.length_singleton];omega
theorem aoT (at_:List Int)(rows:List (List Val)): ∀i,i<=rows.length ->SortG (xN at_ (rows.take i))/\sumG (xN at_ (rows.take i))=i /\(∀g∈xN at_ (rows.take i),g.key.length=at_.length /\ ∀r∈g.rows,r∈rows)
 |0,_=>⟨List.Pairwise.nil,rfl,λg hg=>by cases hg⟩
 |i+1,h=>by
  obtain⟨h1,h2,h3⟩:=aoT at_ rows i (by omega);rw[gj at_ (by omega)];unfold ju;have hk:(zn rows[i] at_).length=at_.length:=by simp[zn]
  have hi:=alR (xN at_ (rows.take i)) (zn rows[i] at_);refine⟨asB (apA ..).symm (arO h1 _),by rw[arg _ _ hi.2.2,atC,h2],?_⟩;have hins: ∀g∈jg (xN at_ (rows.take i)) (zn rows[i] at_),g.key.length=at_.length /\ ∀r∈g.rows,r∈rows:=by
   unfold jg;cases v7 (xN at_ (rows.take i)) (zn rows[i] at_)
   ·intro g hg;simp only[cond_false,List.mem_append,List.mem_singleton]at hg;rcases hg with(hg|rfl)|hg
    ·exact h3 g (List.mem_of_mem_take hg)
    ·exact⟨hk,λr hr=>by cases hr⟩
    ·exact h3 g (List.mem_of_mem_drop hg)
   ·exact h3
  unfold ZK;split
  ·rename_i g hg;intro g' hg';rcases List.mem_or_eq_of_mem_set hg' with hg'|rfl
   ·exact hins g' hg'
   ·have:=hins g (List.mem_of_getElem? hg);refine⟨this.1,λr hr=>?_⟩;simp only[List.mem_append,List.mem_singleton]at hr;rcases hr with hr|rfl
    ·exact this.2 r hr
    ·exact List.getElem_mem _
  ·exact hins
end Go.Proofs.YtnlbmefhdiabcaaGreat
namespace Go.Proofs.YtnlbmefhdiabcaaGreat
open Go Go.AM
attribute [local irreducible] Sat zu zS zl
theorem akB (d:List Nmd)(t:Tbl)(st:Stp)(h1:xm d=0)(h2:zQ t≠0):Sat Pg vI [.c (.d (.sl (zL d))),t.w,st.w] (λr=>r=rNT (zQ t)):=by
 have hc:=vM d;have hk:=y8 t;rw[h1]at hc;have h2:(zQ t !=0)=true:=by simpa using h2
 generalize zQ t=e at*;obtain⟨tc,tr⟩:=t;obtain⟨op,⟨eo,nm,⟨vk,vn,vs⟩,ks⟩,items,scs,saggs,sorts,sn,tb⟩:=st;refine zg T8 jY (by kernel_rfl) ?_
 conv=>whnf
 refine Sat.cal (hc) ?_
 conv=>whnf
 refine Sat.cal (hk) ?_
 conv=>whnf
 rw[h2]
 conv=>whnf
 rfl
theorem ai6 {cols:List Col}: ∀{rows:List (List Val)},ZW cols rows=0 -> ∀r∈rows,r.length=cols.length
 | [],_,r,hr=>by cases hr
 |x::rs,h,r,hr=>by
  simp only[ZW]at h;cases h1:(((x.length:Int)) !=cols.length)
  ·rw[h1,cond_false]at h;cases h2:(wU cols x !=0)
   ·rw[h2,cond_false]at h;rcases List.mem_cons.1 hr with rfl|hr
    ·have:((r.length:Int))=cols.length:=by simpa using h1
     omega
    ·exact ai6 h r hr
   ·rw[h2,cond_true]at h;rw[h]at h2;cases h2
  ·rw[h1]at h;cases h
theorem Xl {t:Tbl}(h:zQ t=0): ∀r∈t.rows,r.length=t.cols.length:=by
 unfold zQ at h;obtain⟨_,h⟩:=zW (by omega) h;cases h3:(j8 t.cols 0 t.cols !=0)
 ·rw[h3,cond_false]at h;exact ai6 h
 ·rw[h3,cond_true]at h;rw[h]at h3;cases h3
theorem apj {cols:List Col}{nms:List ByteArray}(h:takeErr cols nms=false):yQ cols.length (zm cols nms):=by
 intro k hk;unfold zm at hk;obtain⟨s,hs,rfl⟩:=List.mem_map.1 hk;unfold takeErr at h;rw[List.any_eq_false]at h;have:=h s hs;exact wA cols s (by simpa using this)
structure GOK (rows:List (List Val))(n:Nat)(G:List Gr):Prop where
 srt:SortG G
 sum:sumG G=rows.length
 key: ∀g∈G,g.key.length=n
 mem: ∀g∈G,∀r∈g.rows,r∈rows
 few:G.length<=rows.length+1
 cnt: ∀g∈G,g.rows.length<=rows.length
theorem aiU (at_:List Int)(rows:List (List Val)):GOK rows at_.length (wP at_ rows):=by
 unfold wP;by_cases h:at_=[]
 ·subst h;rw[if_pos rfl];refine⟨List.pairwise_singleton _ _,by simp[sumG],λg hg=>?_,λg hg=>?_,by simp,λg hg=>?_⟩;all_goals rw[List.mem_singleton.1 hg]
  ·rfl
  ·intro r hr;exact hr
  ·exact Nat.le_refl _
 ·rw[if_neg h];obtain⟨h1,h2,h3⟩:=aoT at_ rows rows.length (Nat.le_refl _);have h4:=VQ at_ rows rows.length;have h5:=gi at_ rows rows.length;rw[List.take_length]at h1 h2 h3 h4 h5;exact⟨h1,h2,λg hg=>(h3 g hg).1,λg hg=>(h3 g hg).2,by omega,h5⟩
end Go.Proofs.YtnlbmefhdiabcaaGreat
namespace Go.Proofs.YtnlbmefhdiabcaaGreat
open Go Go.AM
attribute [local irreducible] Sat zu zS
def vj (cols:List Col)(l:List Srt):List Int:=l.map λs=>zh cols s.col
def qv (cols:List Col)(l:List Srt):Bool:=l.any λs=>decide (zh cols s.col<0)
def aqN (t:Tbl)(l:List Srt):Res:=bif zQ t !=0 then wE ⟨[],[]⟩ (zQ t)else bif qv t.cols l then wE ⟨[],[]⟩ 16 else wE ⟨t.cols,yK (uX (vj t.cols l) l) t.rows⟩ 0
def soS (cols:List Col)(rows:D)(l:List Srt)(i:Nat):List Int ->S
 | []=>⟨[(2,cV (.ptr 2 0)),(3,cV (.ptr 3 0)),(4,cV (.ptr 4 0)),(7,cV (.ptr 7 0)),(19,.w (.c (.d (.sl (xg l))))),(20,zf l.length),(21,zf i)],
  [(2,.box [.d (.sl (zi cols)),.d rows]),(3,.box [.d (.sl (xg l))]),(4,.box [.nil,.nil]),(7,.box [.nil])]⟩
 |a::r=>⟨[(2,cV (.ptr 2 0)),(3,cV (.ptr 3 0)),(4,cV (.ptr 4 0)),(7,cV (.ptr 7 0)),(19,.w (.c (.d (.sl (xg l))))),(20,zf l.length),(21,zf i)],
   [(2,.box [.d (.sl (zi cols)),.d rows]),(3,.box [.d (.sl (xg l))]),(4,.box [.nil,.nil]),(7,.box [.own 35 1 (a::r).length]),(35,.arr 1 (zw (a::r)) false)]⟩
theorem abY (at_:List Int)(l:List Srt)(rows:List (List Val))(n:Nat)(hn:rows.length=n)(hlen:n<=1000000)(hin: ∀r∈rows,yQ r.length at_)(hal:at_.length=l.length)(hll:l.length<=1000000):
 zu Pg qG [.c (.own 0 1 n),.c (.d (.fn YZ [[.fn jh [[.sl (zw at_)]]],[.sl (xg l)]]))] [.arr 1 (zj rows) false]
  (λr=>r=⟨.tup [],[.arr 1 (zj (yK (uX at_ l) rows)) false]⟩):=by
 have hmap: ∀L:List (List Val×Nat),yt (λx:List Val×Nat=>D.sl (rowD x.1)) L=zj (L.map Prod.fst):=λL=>by simp[yt,zj,Function.comp_def]
 have e:zj rows=yt (λx:List Val×Nat=>D.sl (rowD x.1)) (qw rows):=by rw[hmap,gW]
 rw[e];refine zu.mono (aeP (λx:List Val×Nat=>D.sl (rowD x.1)) [.fn jh [[.sl (zw at_)]]] [.sl (xg l)] YZ (uG (uX at_ l)) (acC (VP at_ l)) (λx y=>x.2<y.2 /\yQ x.1.length at_ /\yQ y.1.length at_) (λx y hxy=>?_) (qw rows) n (by rw[gX,hn]) hlen ?_) ?_
 ·refine(amJ at_ l y.1 x.1 hxy.2.2 hxy.2.1 hal hll).mono ?_;rintro _ rfl;exact⟨_,rfl,api (VP at_ l) hxy.1⟩
 ·intro i j x y h1 h2 h3 hx hy;have hm: ∀(k:Nat) (z:List Val×Nat),(qw rows)[k]? =some z ->z.1∈rows:=λk z hz=>by
   have:=List.mem_of_getElem? hz;have h:=List.mem_map_of_mem (f:=Prod.fst) this;rwa[gW]at h
  exact⟨adD rows n i j x y h1 h2 h3 hx hy,hin _ (hm i x hx),hin _ (hm j y hy)⟩
 ·rintro _ ⟨l',h1,h2,rfl⟩;rw[hmap,ajt (VP at_ l) hn h1 h2]
theorem aqA (t:Tbl)(l:List Srt)(hl:l.length<=1000000)(hr:t.rows.length<=1000000)(hcl:t.cols.length<=1000000):Sat Pg K2 [t.w,.c (.d (.sl (xg l)))] (λr=>r=aqN t l):=by
 have hk:=y8 t;have hw:=@Xl t;unfold aqN;generalize zQ t=e at*;obtain⟨tc,tr⟩:=t;refine z0 ?_;refine zg T8 acS (by kernel_rfl) ?_
 conv=>whnf
 refine Sat.cal (hk) ?_
 conv=>whnf
 refine zd (λh1=>?_) (λh1=>?_)
 ·rw[show(e !=0)=true from h1];(conv=>whnf);exact⟨rfl,rfl⟩
 ·rw[show(e !=0)=false from h1];have hw: ∀r∈tr,r.length=tc.length:=hw (by simpa using h1);have hr:tr.length<=1000000:=hr;have hcl:tc.length<=1000000:=hcl;(conv=>whnf);rw[ZG];refine zF (P:=Pg) (f:=T8.f) (body:=Ye) l.length (λi=>soS tc (.sl (zj tr)) l i (vj tc (l.take i))) (λi=>qv tc (l.take i)=false) ⟨rfl,ze ?_⟩ ?_
  ·(conv=>whnf);rfl
  ·intro i hi hR;have hR:qv tc (l.take i)=false:=hR;have hAl:(vj tc (l.take i)).length=i:=by simp[vj];omega
   have hnx: ∀h:i<l.length,vj tc (l.take (i+1))=vj tc (l.take i)++[zh tc l[i].col]:=λh=>by
    unfold vj;rw[zP h,List.map_append];rfl
   have hnb: ∀h:i<l.length,qv tc (l.take (i+1))=decide (zh tc l[i].col<0):=λh=>by
    unfold qv at hR⊢;rw[zP h,List.any_append,hR];simp
   have hbad: ∀h:i<l.length,decide (zh tc l[i].col<0)=true ->qv tc l=true:=λh hb=>by
    unfold qv;exact List.any_eq_true.2 ⟨l[i],List.getElem_mem h,hb⟩
   have hend:l.length<=i ->vj tc l=vj tc (l.take i)/\qv tc l=false:=λh=>by
    rw[List.take_of_length_le h]at hR⊢;exact⟨rfl,hR⟩
   show mwpR Pg T8.f Ye _ (soS tc (.sl (zj tr)) l i (vj tc (l.take i)));generalize vj tc (l.take i)=A at*;have hta:(zw A).take A.length=zw A:=by rw[<- yu,List.take_length]
   cases A with
   |nil=>
    unfold soS;(conv=>whnf);refine zd (λh2=>?_) (λh2=>?_)
    ·have hlt:i<l.length:=by have:=of_decide_eq_true h2;omega
     have hg:=UJ hlt;have hnx:=hnx hlt;have hnb:=hnb hlt;have hbad:=hbad hlt;have hcol:=λs=>qM tc (.d (.sl (zj tr))) s ⟨_,rfl⟩
     generalize l[i]=s at*;obtain⟨sc,sd⟩:=s;have hcol:=hcol sc;generalize hc:zh tc sc=c at*;(conv=>whnf);refine⟨by omega,_,hg,rfl,?_⟩;(conv=>whnf);(conv=>whnf);refine Sat.cal (hcol) ?_;(conv=>whnf);refine zd (λh3=>?_) (λh3=>?_)
     ·rw[hbad (show decide (c<0)=true from h3)];(conv=>whnf);exact⟨rfl,rfl⟩
     ·have hnb:qv tc (l.take (i+1))=false:=hnb.trans h3;(conv=>whnf);refine⟨by simp,by unfold ye;simp,by simp,?_⟩;(conv=>whnf);refine⟨hlt,hnb,ze ?_⟩;(conv=>whnf);rw[zx hlt (by omega),hnx];rfl
    ·have hge:l.length<=i:=by have:=of_decide_eq_false h2;omega
     obtain⟨e1,e2⟩:=hend hge;rw[e2,e1];have hsr:=λhz=>abY [] l tr (zj tr).length (zA tr).symm (by rw[zA];exact hr) (λr hr k hk=>by cases hk) (by rw[<- e1];simp[vj]) hz
     have hS:(zj (yK (uX [] l) tr)).take (zj tr).length=zj (yK (uX [] l) tr):=by
      rw[zA,<-(VK (VP [] l) tr).length_eq,<- zA,List.take_length]
     have hSn:tr=[] ->yK (uX [] l) tr=[]:=λh=>by rw[h];rfl
     generalize yK (uX [] l) tr=S at*;have hCl:=qp tc hcl;(conv=>whnf);refine Sat.mono (Vo tr hr) ?_;rintro _ (⟨hnil,rfl⟩|rfl)
     ·rw[hSn hnil];(conv=>whnf);refine zu.mono (WM _ _) ?_;rintro _ rfl;(conv=>whnf);refine Sat.cal (hCl) ?_;(conv=>whnf);exact⟨rfl,rfl⟩
     ·(conv=>whnf);refine zu.mono (hsr hl) ?_;rintro _ rfl;(conv=>whnf);refine Sat.cal (hCl) ?_;(conv=>whnf);refine⟨rfl,?_⟩;refine Eq.trans (b:=⟨.tup [.agg [.d (.sl (zi tc)),.d (.sl ((zj S).take (zj tr).length))],.c (int 0)],[]⟩) rfl ?_;rw[hS];rfl
   |cons a A=>
    unfold soS;(conv=>whnf);refine zd (λh2=>?_) (λh2=>?_)
    ·have hlt:i<l.length:=by have:=of_decide_eq_true h2;omega
     have hg:=UJ hlt;have hnx:=hnx hlt;have hnb:=hnb hlt;have hbad:=hbad hlt;have hcol:=λs=>qM tc (.d (.sl (zj tr))) s ⟨_,rfl⟩
     generalize l[i]=s at*;obtain⟨sc,sd⟩:=s;have hcol:=hcol sc;generalize hc:zh tc sc=c at*;generalize hA:(a::A)=B at*;(conv=>whnf);refine⟨by omega,_,hg,rfl,?_⟩;(conv=>whnf);(conv=>whnf);refine Sat.cal (hcol) ?_;(conv=>whnf);refine zd (λh3=>?_) (λh3=>?_)
     ·rw[hbad (show decide (c<0)=true from h3)];(conv=>whnf);exact⟨rfl,rfl⟩
     ·have hnb:qv tc (l.take (i+1))=false:=hnb.trans h3;(conv=>whnf);refine⟨by simp,by unfold ye;simp;omega,by simp;omega,?_⟩;(conv=>whnf);refine⟨hlt,hnb,ze ?_⟩;(conv=>whnf);have e5:zw B++List.take [[D.lit (Value.int IntKind.i64 c)]].length [[D.lit (Value.int IntKind.i64 c)]]=zw (B++[c]):=by simp[zw]
      have e6:B.length+(List.take [[D.lit (Value.int IntKind.i64 c)]].length [[D.lit (Value.int IntKind.i64 c)]]).length=(B++[c]).length:=by simp
      rw[zx hlt (by omega),hta,hnx,e5,e6];subst hA;rfl
    ·have hge:l.length<=i:=by have:=of_decide_eq_false h2;omega
     obtain⟨e1,e2⟩:=hend hge;have hin:yQ tc.length (vj tc l):=by
      intro k hk;unfold vj at hk;obtain⟨s,hs,rfl⟩:=List.mem_map.1 hk;unfold qv at e2;rw[List.any_eq_false]at e2;exact wA tc s.col (by simpa using e2 s hs)
     rw[e2,e1];rw[e1]at hin;generalize hA:(a::A)=B at*;have hsr:=λhz=>abY B l tr (zj tr).length (zA tr).symm (by rw[zA];exact hr) (λr hr=>by rw[hw r hr];exact hin) (by rw[<- e1];simp[vj]) hz
     have hS:(zj (yK (uX B l) tr)).take (zj tr).length=zj (yK (uX B l) tr):=by
      rw[zA,<-(VK (VP B l) tr).length_eq,<- zA,List.take_length]
     have hSn:tr=[] ->yK (uX B l) tr=[]:=λh=>by rw[h];rfl
     generalize yK (uX B l) tr=S at*;have hCl:=qp tc hcl;(conv=>whnf);refine Sat.mono (Vo tr hr) ?_;rintro _ (⟨hnil,rfl⟩|rfl)
     ·rw[hSn hnil];(conv=>whnf);refine zu.mono (WM _ _) ?_;rintro _ rfl;(conv=>whnf);refine Sat.cal (hCl) ?_;(conv=>whnf);exact⟨rfl,rfl⟩
     ·rw[hta];(conv=>whnf);refine zu.mono (hsr hl) ?_;rintro _ rfl;(conv=>whnf);refine Sat.cal (hCl) ?_;(conv=>whnf);refine⟨rfl,?_⟩;refine Eq.trans (b:=⟨.tup [.agg [.d (.sl (zi tc)),.d (.sl ((zj S).take (zj tr).length))],.c (int 0)],[]⟩) rfl ?_;rw[hS];rfl
structure Stp.OK (st:Stp):Prop where
 sorts:st.sorts.length<=1000000
 cols:st.cols.length<=1000000
 aggs:st.aggs.length<=100000
 items:st.items.length<=1000000
def aeY (op:Int):List ByteArray:=bif op==7 then [sFrom,sTo]else bif op==8 then [sFrom]else []
def whT (cols:List Col)(e:Ex):Int×List Col:=bif auJ cols e !=0 then(auJ cols e,[])else(0,cols)
def soT (cols:List Col)(l:List Srt):Int×List Col:=bif qv cols l then(16,[])else(0,cols)
def grT (cols:List Col)(nms:List ByteArray)(aggs:List Agg):Int×List Col:=
 bif takeErr cols nms then(16,[])else bif (yl cols aggs).1 !=0 then((yl cols aggs).1,[])else(0,takeC cols nms++(yl cols aggs).2)
def ap8 (sp:List ByteArray)(cols tcols:List Col)(cs:List ByteArray):Int×List Col:=
 bif jnErr cols tcols cs !=0 then(jnErr cols tcols cs,[])else bif intErr cols sp !=0 then(intErr cols sp,[])else bif intErr tcols sp !=0 then(intErr tcols sp,[])else
 bif dupL [] (cols++keepS sp cs tcols)then(4,[])else bif decide (((cols++keepS sp cs tcols).length:Int)>32)then(7,[])else(0,cols++keepS sp cs tcols)
def YU (sp:List ByteArray)(d:List Nmd)(cols:List Col)(cs:List ByteArray)(tb:ByteArray):Int×List Col:=match zY tb d with
 |none=>(17,[])
 |some t=>bif sp.any (hasB cs)then(4,[])else ap8 sp cols t.cols cs
theorem ahe {b:Bool}{x y:Int×List Col}:(bif b then qH x else qH y)=qH (bif b then x else y):=by cases b<;>rfl
theorem aoX (sp:List ByteArray)(d:List Nmd)(cols:List Col)(cs:List ByteArray)(tb:ByteArray):ahM sp d cols cs tb=qH (YU sp d cols cs tb):=by
 unfold ahM YU;cases zY tb d with
 |none=>rfl
 |some t=>
  simp only[ap6,ap7,ap8,<- ahe];rfl
theorem arW (cs:List ByteArray)(l:List Col):keepS [] cs l=xJ cs l:=by
 unfold keepS xJ;congr 1
 funext c;show(!hasB cs c.name&&true)=_;rw[Bool.and_true]
theorem awr (d:List Nmd)(cols:List Col)(cs:List ByteArray)(tb:ByteArray):jnT d cols cs tb=qH (YU [] d cols cs tb):=by
 unfold jnT YU;cases zY tb d with
 |none=>rfl
 |some t=>
  simp only[jnQ,ap8,arW,<- ahe];rfl
theorem awk (cols:List Col)(nms:List ByteArray)(aggs:List Agg):Ur cols nms aggs=qH (grT cols nms aggs):=by
 unfold Ur grT;simp only[<- ahe];rfl
def yw (d:List Nmd)(cols:List Col)(st:Stp):Int×List Col:=
 bif st.err !=0 then(st.err,[])else bif st.op==1 then whT cols st.cond else bif st.op==2 then vx cols st.items else bif st.op==3 then grT cols st.cols st.aggs else
 bif st.op==4 then soT cols st.sorts else bif st.op==5 then(0,cols)else bif st.op==9 then coT cols st.cols else YU (aeY st.op) d cols st.cols st.table
theorem aqH (d:List Nmd)(cols:List Col)(st:Stp)(hs:st.sorts.length<=1000000)(h1:(st.err !=0)=true):Sat Pg yk [.c (.d (.sl (zL d))),.c (.d (.sl (zi cols))),st.w] (λr=>r=qH (st.err,[])):=by
 have hS:=q6 st hs;generalize st.err=e at*;refine z0 ?_;obtain⟨op,⟨eo,nm,⟨vk,vn,vs⟩,ks⟩,items,scs,saggs,sorts,sn,tb⟩:=st;refine zg T8 ya (by kernel_rfl) ?_
 conv=>whnf
 refine Sat.cal (hS) ?_
 conv=>whnf
 rw[h1]
 conv=>whnf
 exact⟨rfl,rfl⟩
theorem aul (d:List Nmd)(cols:List Col)(st:Stp)(hop:st.op=2)(hs:st.sorts.length<=1000000)(h1:(st.err !=0)=false)(x:Int×List Col)(hG:Sat Pg Vl [.c (.d (.sl (zi cols))),.c (.d (.sl (yR st.items)))] (λr=>r=qH x)):Sat Pg yk [.c (.d (.sl (zL d))),.c (.d (.sl (zi cols))),st.w] (λr=>r=qH x):=by
 have hS:=q6 st hs;generalize st.err=e at*;refine z0 ?_;obtain⟨op,⟨eo,nm,⟨vk,vn,vs⟩,ks⟩,items,scs,saggs,sorts,sn,tb⟩:=st;simp only at*;subst hop;obtain⟨x1,x2⟩:=x;refine zg T8 ya (by kernel_rfl) ?_
 conv=>whnf
 refine Sat.cal (hS) ?_
 conv=>whnf
 rw[h1]
 conv=>whnf
 refine Sat.cal (hG) ?_
 conv=>whnf
 exact⟨rfl,rfl⟩
theorem aum (d:List Nmd)(cols:List Col)(st:Stp)(hop:st.op=3)(hs:st.sorts.length<=1000000)(h1:(st.err !=0)=false)(x:Int×List Col)(hG:Sat Pg Uz [.c (.d (.sl (zi cols))),.agg st.cs] (λr=>r=qH x)):Sat Pg yk [.c (.d (.sl (zL d))),.c (.d (.sl (zi cols))),st.w] (λr=>r=qH x):=by
 have hS:=q6 st hs;generalize st.err=e at*;refine z0 ?_;obtain⟨op,⟨eo,nm,⟨vk,vn,vs⟩,ks⟩,items,scs,saggs,sorts,sn,tb⟩:=st;simp only at*;subst hop;obtain⟨x1,x2⟩:=x;refine zg T8 ya (by kernel_rfl) ?_
 conv=>whnf
 refine Sat.cal (hS) ?_
 conv=>whnf
 rw[h1]
 conv=>whnf
 refine Sat.cal (hG) ?_
 conv=>whnf
 exact⟨rfl,rfl⟩
theorem aus (d:List Nmd)(cols:List Col)(st:Stp)(hop:st.op=9)(hs:st.sorts.length<=1000000)(h1:(st.err !=0)=false)(x:Int×List Col)(hG:Sat Pg WI [.c (.d (.sl (zi cols))),.agg st.cs] (λr=>r=qH x)):Sat Pg yk [.c (.d (.sl (zL d))),.c (.d (.sl (zi cols))),st.w] (λr=>r=qH x):=by
 have hS:=q6 st hs;generalize st.err=e at*;refine z0 ?_;obtain⟨op,⟨eo,nm,⟨vk,vn,vs⟩,ks⟩,items,scs,saggs,sorts,sn,tb⟩:=st;simp only at*;subst hop;obtain⟨x1,x2⟩:=x;refine zg T8 ya (by kernel_rfl) ?_
 conv=>whnf
 refine Sat.cal (hS) ?_
 conv=>whnf
 rw[h1]
 conv=>whnf
 refine Sat.cal (hG) ?_
 conv=>whnf
 exact⟨rfl,rfl⟩
theorem aup (d:List Nmd)(cols:List Col)(st:Stp)(hop:st.op=6)(hs:st.sorts.length<=1000000)(h1:(st.err !=0)=false)(x:Int×List Col)(hG:Sat Pg wR [.c (.d (.sl (zL d))),.c (.d (.sl (zi cols))),.agg st.cs] (λr=>r=qH x)):Sat Pg yk [.c (.d (.sl (zL d))),.c (.d (.sl (zi cols))),st.w] (λr=>r=qH x):=by
 have hS:=q6 st hs;generalize st.err=e at*;refine z0 ?_;obtain⟨op,⟨eo,nm,⟨vk,vn,vs⟩,ks⟩,items,scs,saggs,sorts,sn,tb⟩:=st;simp only at*;subst hop;obtain⟨x1,x2⟩:=x;refine zg T8 ya (by kernel_rfl) ?_
 conv=>whnf
 refine Sat.cal (hS) ?_
 conv=>whnf
 rw[h1]
 conv=>whnf
 refine Sat.cal (hG) ?_
 conv=>whnf
 exact⟨rfl,rfl⟩
theorem auq (d:List Nmd)(cols:List Col)(st:Stp)(hop:st.op=7)(hs:st.sorts.length<=1000000)(h1:(st.err !=0)=false)(x:Int×List Col)(hG:Sat Pg wR [.c (.d (.sl (zL d))),.c (.d (.sl (zi cols))),.agg st.cs] (λr=>r=qH x)):Sat Pg yk [.c (.d (.sl (zL d))),.c (.d (.sl (zi cols))),st.w] (λr=>r=qH x):=by
 have hS:=q6 st hs;generalize st.err=e at*;refine z0 ?_;obtain⟨op,⟨eo,nm,⟨vk,vn,vs⟩,ks⟩,items,scs,saggs,sorts,sn,tb⟩:=st;simp only at*;subst hop;obtain⟨x1,x2⟩:=x;refine zg T8 ya (by kernel_rfl) ?_
 conv=>whnf
 refine Sat.cal (hS) ?_
 conv=>whnf
 rw[h1]
 conv=>whnf
 refine Sat.cal (hG) ?_
 conv=>whnf
 exact⟨rfl,rfl⟩
theorem aur (d:List Nmd)(cols:List Col)(st:Stp)(hop:st.op=8)(hs:st.sorts.length<=1000000)(h1:(st.err !=0)=false)(x:Int×List Col)(hG:Sat Pg wR [.c (.d (.sl (zL d))),.c (.d (.sl (zi cols))),.agg st.cs] (λr=>r=qH x)):Sat Pg yk [.c (.d (.sl (zL d))),.c (.d (.sl (zi cols))),st.w] (λr=>r=qH x):=by
 have hS:=q6 st hs;generalize st.err=e at*;refine z0 ?_;obtain⟨op,⟨eo,nm,⟨vk,vn,vs⟩,ks⟩,items,scs,saggs,sorts,sn,tb⟩:=st;simp only at*;subst hop;obtain⟨x1,x2⟩:=x;refine zg T8 ya (by kernel_rfl) ?_
 conv=>whnf
 refine Sat.cal (hS) ?_
 conv=>whnf
 rw[h1]
 conv=>whnf
 refine Sat.cal (hG) ?_
 conv=>whnf
 exact⟨rfl,rfl⟩
theorem auk (d:List Nmd)(cols:List Col)(st:Stp)(hop:st.op=1)(hs:st.sorts.length<=1000000)(h1:(st.err !=0)=false)(hl:cols.length<=1000000)(he:st.cond.err=0):Sat Pg yk [.c (.d (.sl (zL d))),.c (.d (.sl (zi cols))),st.w] (λr=>r=qH (whT cols st.cond)):=by
 have hS:=q6 st hs;have hN:=JH cols st.cond he;have hK:=qp cols hl;unfold whT auJ;generalize st.err=e at*;generalize Ex.ty cols st.cond=t at*;obtain⟨t1,t2⟩:=t;refine z0 ?_;obtain⟨op,⟨eo,nm,⟨vk,vn,vs⟩,ks⟩,items,scs,saggs,sorts,sn,tb⟩:=st;simp only at*;subst hop;have hf:=Wa t1 1;generalize qX t1 1=f at*;cases h2:(t2 !=0)with
 |true=>
  have h2':(t2==0)=false:=by
   have:t2≠0:=by simpa using h2
   simpa using this
  simp only[cond_true,h2];refine zg T8 ya (by kernel_rfl) ?_;(conv=>whnf);refine Sat.cal (hS) ?_;(conv=>whnf);rw[h1];(conv=>whnf);refine Sat.cal (hN) ?_;(conv=>whnf);refine zd (λc=>?_) (λc=>?_)
  ·have c:(t2==0)=true:=c;rw[h2']at c;cases c
  ·(conv=>whnf);refine zd (λd=>?_) (λd=>?_)
   ·(conv=>whnf);exact⟨rfl,rfl⟩
   ·have d:(t2 !=0)=false:=d;rw[h2]at d;cases d
 |false=>
  have h20:t2=0:=by simpa using h2
  subst h20;cases f with
  |true=>
   refine zg T8 ya (by kernel_rfl) ?_;(conv=>whnf);refine Sat.cal (hS) ?_;(conv=>whnf);rw[h1];(conv=>whnf);refine Sat.cal (hN) ?_;(conv=>whnf);refine Sat.cal (hf) ?_;(conv=>whnf);refine Sat.cal (hK) ?_;(conv=>whnf);exact⟨rfl,rfl⟩
  |false=>
   refine zg T8 ya (by kernel_rfl) ?_;(conv=>whnf);refine Sat.cal (hS) ?_;(conv=>whnf);rw[h1];(conv=>whnf);refine Sat.cal (hN) ?_;(conv=>whnf);refine Sat.cal (hf) ?_;(conv=>whnf);exact⟨rfl,rfl⟩
theorem auo (d:List Nmd)(cols:List Col)(st:Stp)(hop:st.op=5)(hs:st.sorts.length<=1000000)(h1:(st.err !=0)=false)(hl:cols.length<=1000000):Sat Pg yk [.c (.d (.sl (zL d))),.c (.d (.sl (zi cols))),st.w] (λr=>r=qH (0,cols)):=by
 have h:=am2 d cols st hop hs hl;rw[h1]at h;exact h
theorem aun (d:List Nmd)(cols:List Col)(st:Stp)(hop:st.op=4)(hs:st.sorts.length<=1000000)(h1:(st.err !=0)=false)(hl:cols.length<=1000000):Sat Pg yk [.c (.d (.sl (zL d))),.c (.d (.sl (zi cols))),st.w] (λr=>r=qH (soT cols st.sorts)):=by
 have hS:=q6 st hs;have hK:=qp cols hl;unfold soT;generalize st.err=e at*;refine z0 ?_;obtain⟨op,⟨eo,nm,⟨vk,vn,vs⟩,ks⟩,items,scs,saggs,sorts,sn,tb⟩:=st;simp only at*;subst hop;refine zg T8 ya (by kernel_rfl) ?_
 conv=>whnf
 refine Sat.cal (hS) ?_
 conv=>whnf
 rw[h1]
 conv=>whnf
 refine zF (P:=Pg) (f:=T8.f) (body:=Ul) sorts.length (λi=>⟨[(1,.w (.c (.d (.sl (zi cols))))),(57,.w (.c (.d (.sl (xg sorts))))),(58,zf (xg sorts).length),(59,zf i)],[]⟩) (λi=>qv cols (sorts.take i)=false) ⟨rfl,ze ?_⟩ ?_
 ·(conv=>whnf);rfl
 ·intro i hi hR;have hR:qv cols (sorts.take i)=false:=hR;have hnb: ∀h:i<sorts.length,qv cols (sorts.take (i+1))=decide (zh cols sorts[i].col<0):=λh=>by
   unfold qv at hR⊢;rw[zP h,List.any_append,hR];simp
  have hbad: ∀h:i<sorts.length,decide (zh cols sorts[i].col<0)=true ->qv cols sorts=true:=λh hb=>by
   unfold qv;exact List.any_eq_true.2 ⟨sorts[i],List.getElem_mem h,hb⟩
  (conv=>whnf);refine zd (λh2=>?_) (λh2=>?_)
  ·have hlt:i<sorts.length:=by have:=of_decide_eq_true h2;rw[ZG]at this;omega
   have hg:=UJ hlt;have hnb:=hnb hlt;have hbad:=hbad hlt;have hcol:=y0 cols sorts[i].col;have wi:=zx hlt (by omega);generalize sorts[i]=s at*;obtain⟨sc,sd⟩:=s;simp only at hcol hnb hbad;generalize zh cols sc=c at*;(conv=>whnf);refine⟨by omega,_,hg,rfl,?_⟩;(conv=>whnf);(conv=>whnf);refine Sat.cal (hcol) ?_;(conv=>whnf);refine zd (λh3=>?_) (λh3=>?_)
   ·rw[hbad (show decide (c<0)=true from h3)];(conv=>whnf);exact⟨rfl,rfl⟩
   ·have hnb:qv cols (sorts.take (i+1))=false:=hnb.trans h3;(conv=>whnf);refine⟨hlt,hnb,ze ?_⟩;(conv=>whnf);rw[wi];rfl
  ·have hge:sorts.length<=i:=by have:=of_decide_eq_false h2;rw[ZG]at this;omega
   rw[List.take_of_length_le hge]at hR;rw[hR];(conv=>whnf);refine Sat.cal (hK) ?_;(conv=>whnf);exact⟨rfl,rfl⟩
theorem att {st:Stp}(h:st.err=0):st.uses=true:=by
 unfold Stp.err at h;have:=(zW (by omega) h).1;simpa using this
theorem abc {st:Stp}(h:st.err=0):1<=st.op /\st.op<=9:=by
 have hu:=att h;unfold Stp.uses VM at hu;cases hc:(decide (st.op<1)||decide (st.op>9))
 ·simp only[Bool.or_eq_false_iff,decide_eq_false_iff_not]at hc;omega
 ·rw[hc]at hu;cases hu
theorem aw6 {st:Stp}(h:st.err=0)(hop:st.op=1):st.cond.err=0:=by
 unfold Stp.err at h;have h:=(zW (by omega) h).2;rw[hop]at h;exact VO h
theorem abl: ∀(l:List Itm) (acc:List ByteArray),xA acc l=0 -> ∀x∈l,x.e.chk=0
 | [],_,_,x,hx=>by cases hx
 |y::r,acc,h,x,hx=>by
  simp only[xA]at h;cases h1:(y.e.chk !=0)
  ·rw[h1,cond_false]at h;cases h2:(zU acc y.nm !=0)
   ·rw[h2,cond_false]at h;rcases List.mem_cons.1 hx with rfl|hx
    ·simpa using h1
    ·exact abl r _ h x hx
   ·rw[h2,cond_true]at h;rw[h]at h2;cases h2
  ·rw[h1,cond_true]at h;rw[h]at h1;cases h1
theorem aw7 {st:Stp}(h:st.err=0)(hop:st.op=2): ∀x∈st.items,x.e.chk=0:=by
 unfold Stp.err at h;have h:=(zW (by omega) h).2;rw[hop]at h;have h:(bif wS st.items.length 1 !=0 then wS st.items.length 1 else xA [] st.items)=0:=h;cases h1:(wS st.items.length 1 !=0)
 ·rw[h1,cond_false]at h;exact abl _ _ h
 ·rw[h1,cond_true]at h;rw[h]at h1;cases h1
theorem VJ (d:List Nmd)(cols:List Col)(st:Stp)(hk:st.OK)(hl:cols.length<=1000000)(htl: ∀t,zY st.table d=some t ->t.cols.length<=1000000):Sat Pg yk [.c (.d (.sl (zL d))),.c (.d (.sl (zi cols))),st.w] (λr=>r=qH (yw d cols st)):=by
 unfold yw;cases h1:(st.err !=0)with
 |true=>exact aqH d cols st hk.sorts h1
 |false=>
  have h0:st.err=0:=by simpa using h1
  have hop:=abc h0;have hop:st.op=1\/st.op=2\/st.op=3\/st.op=4\/st.op=5\/st.op=6\/st.op=7\/st.op=8\/st.op=9:=by omega
  rcases hop with hop|hop|hop|hop|hop|hop|hop|hop|hop
  ·have:=auk d cols st hop hk.sorts h1 hl (aw6 h0 hop);rw[hop];exact this
  ·have:=aul d cols st hop hk.sorts h1 _ (amV cols st.items (λx hx=>VO (aw7 h0 hop x hx)) hk.items);rw[hop];exact this
  ·have hg:=ab0 cols st hk.cols hk.aggs;rw[awk]at hg;have:=aum d cols st hop hk.sorts h1 _ hg;rw[hop];exact this
  ·have:=aun d cols st hop hk.sorts h1 hl;rw[hop];exact this
  ·have:=auo d cols st hop hk.sorts h1 hl;rw[hop];exact this
  ·have hg:=adA d cols st hop hk.cols hl htl;rw[awr]at hg;have:=aup d cols st hop hk.sorts h1 _ hg;rw[hop];exact this
  ·have hg:=am0 d cols st hop hk.cols hl htl;rw[aoX]at hg;have:=auq d cols st hop hk.sorts h1 _ hg;rw[hop];exact this
  ·have hg:=am1 d cols st hop hk.cols hl htl;rw[aoX]at hg;have:=aur d cols st hop hk.sorts h1 _ hg;rw[hop];exact this
  ·have:=aus d cols st hop hk.sorts h1 _ (akC cols st hk.cols);rw[hop];exact this
def jo (d:List Nmd)(cols:List Col):List Stp ->Int×List Col
 | []=>(0,cols)
 |s::r=>bif (yw d cols s).1 !=0 then((yw d cols s).1,[])else jo d (yw d cols s).2 r
def u7 (d:List Nmd)(q:Qry):Int×List Col:=
 bif xm d !=0 then(xm d,[])else bif q.err !=0 then(q.err,[])else match zY q.src d with
 |none=>(17,[])
 |some t=>jo d t.cols q.steps
def aqY (cols:List Col)(rows:D)(nms:List ByteArray)(i:Nat)(acc:List Int):S:=⟨[(2,cV (.ptr 2 0)),(5,cV (.own 19 1 acc.length)),(8,.w (.c (.d (.sl (zp nms))))),(9,zf (zp nms).length),(10,zf i)],
 [(2,.box [.d (.sl (zi cols)),.d rows]),(19,.arr 1 (zw acc) false)]⟩
theorem vw (cols:List Col)(rows:D)(nms:List ByteArray)(hn:nms.length<=1000000):Sat Pg ac2 [.agg [.d (.sl (zi cols)),.d rows],.c (.d (.sl (zp nms)))] (λr=>r=rC (.d (.sl (zw (zm cols nms))))):=by
 refine z0 ?_;refine zg T8 kT (by kernel_rfl) ?_
 conv=>whnf
 refine zF (P:=Pg) (f:=T8.f) (body:=je) nms.length (λi=>aqY cols rows nms i (zm cols (nms.take i))) (λ_=>True) ⟨trivial,⟨_,yh 5 19 1 (by omega) (by omega) rfl,?_⟩⟩ ?_
 ·(conv=>whnf);rfl
 ·intro i hi _;have hTl:(zm cols (nms.take i)).length=i:=by simp[zm];omega
  have hnx: ∀h:i<nms.length,zm cols (nms.take (i+1))=zm cols (nms.take i)++[zh cols nms[i]]:=λh=>by
   unfold zm;rw[zP h,List.map_append];rfl
  have hend:nms.length<=i ->zm cols nms=zm cols (nms.take i):=λh=>by rw[List.take_of_length_le h]
  show mwpR Pg T8.f je _ (aqY cols rows nms i (zm cols (nms.take i)));generalize zm cols (nms.take i)=T at*;have hta:(zw T).take T.length=zw T:=by rw[<- yu,List.take_length]
  unfold aqY;(conv=>whnf);refine zd (λh1=>?_) (λh1=>?_)
  ·have hlt:i<nms.length:=by have:=of_decide_eq_true h1;rw[zK]at this;omega
   have hg:=qN hlt;have hnx:=hnx hlt;have hcol:=qM cols (.d rows) nms[i] ⟨rows,rfl⟩;generalize nms[i]=x at*;generalize zh cols x=c at*;(conv=>whnf);refine⟨by omega,_,hg,rfl,?_⟩;(conv=>whnf);(conv=>whnf);refine Sat.cal (hcol) ?_;(conv=>whnf);refine⟨by simp,by unfold ye;simp;omega,by simp;omega,?_⟩;(conv=>whnf);refine⟨hlt,trivial,ze ?_⟩;(conv=>whnf);rw[zx hlt (by omega),hta,hnx,<- WC,List.length_append];rfl
  ·have hge:nms.length<=i:=by have:=of_decide_eq_false h1;rw[zK]at this;omega
   rw[hend hge];(conv=>whnf);refine⟨rfl,?_⟩;show Res.mk (.w (.c (.d (.sl ((zw T).take T.length))))) []=_;rw[hta];rfl
def ano (row:List Val)(at_:List Int)(i:Nat)(acc:List Val):S:=⟨[(0,.w (yf row)),(5,cV (.own 20 3 acc.length)),(8,.w (.c (.d (.sl (zw at_))))),(9,zf (zw at_).length),(10,zf i)],
 [(20,.arr 3 (rowD acc) false)]⟩
theorem ZD (row:List Val)(at_:List Int)(hn:at_.length<=1000000)(hin:yQ row.length at_):Sat Pg af1 [yf row,.c (.d (.sl (zw at_)))] (λr=>r=rC (.d (.sl (rowD (zn row at_))))):=by
 refine z0 ?_;refine zg T8 aa5 (by kernel_rfl) ?_
 conv=>whnf
 refine zF (P:=Pg) (f:=T8.f) (body:=Zo) at_.length (λi=>ano row at_ i (zn row (at_.take i))) (λ_=>True) ⟨trivial,⟨_,yh 5 20 3 (by omega) (by omega) rfl,?_⟩⟩ ?_
 ·(conv=>whnf);rfl
 ·intro i hi _;have hTl:(zn row (at_.take i)).length=i:=by simp[zn];omega
  have hnx: ∀h:i<at_.length,zn row (at_.take (i+1))=zn row (at_.take i)++[at0 row (at_[i]).toNat]:=λh=>by
   unfold zn;rw[zP h,List.map_append];rfl
  have hend:at_.length<=i ->zn row at_=zn row (at_.take i):=λh=>by rw[List.take_of_length_le h]
  show mwpR Pg T8.f Zo _ (ano row at_ i (zn row (at_.take i)));generalize zn row (at_.take i)=T at*;have hta:(rowD T).take T.length=rowD T:=by rw[<- zo,List.take_length]
  unfold ano;(conv=>whnf);refine zd (λh1=>?_) (λh1=>?_)
  ·have hlt:i<at_.length:=by have:=of_decide_eq_true h1;rw[yu]at this;omega
   have hg:=um hlt;have hnx:=hnx hlt;have hk:=hin _ (List.getElem_mem hlt);generalize at_[i]=k at*;have hgr:(rowD row)[k.toNat]? =some (at0 row k.toNat).ds:=by
    have h6:k.toNat<row.length:=by omega
    rw[show at0 row k.toNat=row[k.toNat]by simp[at0,List.getD,List.getElem?_eq_getElem h6]];simp[rowD,List.getElem?_eq_getElem h6]
   generalize at0 row k.toNat=v at*;obtain⟨v1,v2,v3⟩:=v;(conv=>whnf);refine⟨by omega,_,hg,rfl,?_⟩;(conv=>whnf);(conv=>whnf);refine⟨hk.1,_,hgr,rfl,?_⟩;(conv=>whnf);refine⟨by simp,by unfold ye;simp;omega,by simp;omega,?_⟩;(conv=>whnf);refine⟨hlt,trivial,ze ?_⟩;(conv=>whnf);rw[zx hlt (by omega),hta,hnx,<- vL,List.length_append];rfl
  ·have hge:at_.length<=i:=by have:=of_decide_eq_false h1;rw[yu]at this;omega
   rw[hend hge];(conv=>whnf);refine⟨rfl,?_⟩;show Res.mk (.w (.c (.d (.sl ((rowD T).take T.length))))) []=_;rw[hta];rfl
def trS (cols:List Col)(on:List ByteArray)(i:Nat)(acc:List Int):S:=⟨[(1,.w (.c (.d (.sl (zp on))))),(5,cV (.own 24 1 acc.length)),(9,.w (.c (.d (.sl (zi cols))))),(10,zf cols.length),(11,zf i)],[(24,.arr 1 (zw acc) false)]⟩
theorem amS (cols:List Col)(rows:D)(on:List ByteArray)(hcl:cols.length<=1000000):Sat Pg XZ [.agg [.d (.sl (zi cols)),.d rows],.c (.d (.sl (zp on)))] (λr=>r=rC (.d (.sl (zw (oth on 0 cols))))):=by
 refine z0 ?_;refine zg T8 aa6 (by kernel_rfl) ?_
 conv=>whnf
 rw[zC];refine yv (P:=Pg) (f:=T8.f) (body:=Zp) (λx:Nat×List Int=>trS cols on x.1 x.2) (λx=>cols.length - x.1) (λx=>x.1<=cols.length /\x.2.length<=x.1 /\oth on 0 cols=x.2++oth on x.1 (cols.drop x.1)) ⟨(0,[]),⟨Nat.zero_le _,Nat.le_refl _,rfl⟩,⟨_,yh 5 24 1 (by omega) (by omega) rfl,?_⟩⟩ ?_
 ·(conv=>whnf);rfl
 ·rintro⟨i,A⟩ hx;obtain⟨hi,hA,hR⟩:i<=cols.length /\A.length<=i /\oth on 0 cols=A++oth on i (cols.drop i):=hx;show mwpR Pg T8.f Zp _ (trS cols on i A);have hta:(zw A).take A.length=zw A:=by rw[<- yu,List.take_length]
  unfold trS;(conv=>whnf);refine zd (λh1=>?_) (λh1=>?_)
  ·have hlt:i<cols.length:=by have:=of_decide_eq_true h1;omega
   rw[zq hlt]at hR;simp only[oth]at hR;have hg:=yW hlt;have wi:=zx hlt (by omega);have hhb:=yc on cols[i].name;generalize cols[i]=c at*;obtain⟨c1,c2⟩:=c;simp only at hR hhb;generalize hasB on c1=b at*;(conv=>whnf);refine⟨by omega,_,hg,rfl,?_⟩;(conv=>whnf);(conv=>whnf);refine Sat.cal (hhb) ?_;(conv=>whnf);refine zd (λh2=>?_) (λh2=>?_)
   ·have h2:(!b)=true:=h2;rw[h2,cond_true]at hR;(conv=>whnf);refine⟨by simp,by unfold ye;simp;omega,by simp;omega,?_⟩;(conv=>whnf);refine⟨(i+1,A++[(i:Int)]),⟨⟨hlt,by simp;omega,?_⟩,by show cols.length -(i+1)<cols.length - i;omega⟩,ze ?_⟩
    ·rw[hR];simp
    ·(conv=>whnf);rw[wi,hta];show _=trS cols on (i+1) (A++[(i:Int)]);unfold trS;rw[List.length_append,<- WC];rfl
   ·have h2:(!b)=false:=h2;rw[h2,cond_false,List.nil_append]at hR;(conv=>whnf);refine⟨(i+1,A),⟨⟨hlt,by show A.length<=i+1;omega,hR⟩,by show cols.length -(i+1)<cols.length - i;omega⟩,ze ?_⟩;(conv=>whnf);rw[wi];rfl
  ·have hge:cols.length<=i:=by have:=of_decide_eq_false h1;omega
   rw[List.drop_eq_nil_of_le hge]at hR;have hR:oth on 0 cols=A:=by rw[hR];simp[oth]
   rw[hR];(conv=>whnf);refine⟨rfl,?_⟩;show Res.mk (.w (.c (.d (.sl ((zw A).take A.length))))) []=_;rw[hta];rfl
def Yl (a b:List Val):Bool:=yz a b&& !a.any (xi yp)
theorem ai9 (a b:List Val):Sat Pg aer [yf a,yf b] (λr=>r=rB (Yl a b)):=by
 have h1:=Qe a b;have h2:=WL a yp;unfold Yl;generalize yz a b=s at*;generalize a.any (xi yp)=n at*;cases s
 ·refine zg T8 Qz (by kernel_rfl) ?_;(conv=>whnf);refine Sat.cal (h1) ?_;(conv=>whnf);rfl
 ·refine zg T8 Qz (by kernel_rfl) ?_;(conv=>whnf);refine Sat.cal (h1) ?_;(conv=>whnf);refine Sat.cal (h2) ?_;(conv=>whnf);rfl
theorem Vp (l:List ByteArray)(hl:l.length<=1000000):Sat Pg KW [.c (.d (.sl (zp l)))] (λr=>(l=[]/\r=rC .nil)\/r=abO 1 (zp l)):=by
 refine zg T8 Ua (by kernel_rfl) ?_
 conv=>whnf
 refine⟨λh=>?_,?_⟩
 ·conv=>whnf
  left
  refine⟨?_,rfl⟩;cases l with
  |nil=>rfl
  |cons a r=>cases h
 ·(conv=>whnf);refine⟨auB l,by unfold ye;rw[zK];simp;omega,by rw[zK];simp;omega,?_⟩;(conv=>whnf)
  right
  show Res.mk (.w (.c (.own 0 1 (([]:List (List D)).length+(zp l).length)))) [.arr 1 (([]:List (List D)).take ([]:List (List D)).length++zp l) false]=_;unfold abO;rw[List.length_nil,Nat.zero_add,List.take_nil,List.nil_append]
end Go.Proofs.YtnlbmefhdiabcaaGreat
