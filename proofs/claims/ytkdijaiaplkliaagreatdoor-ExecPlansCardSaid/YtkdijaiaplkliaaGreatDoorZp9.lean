import Derived.Sort.Statements
import Derived.Test.YtkdijaiaplkliaaGreatDoorZp8
set_option linter.unusedSimpArgs false
set_option linter.unusedVariables false
set_option maxRecDepth 100000
set_option maxHeartbeats 4000000
open _root_ renaming List->am,of_decide_eq_false->aC,of_decide_eq_true->aF,cond_false->aG,if_neg->aI,cond_true->aK,if_pos->aM,congrArg->aZ,decide_eq_false->bN,Option->bR,decide_eq_false_iff_not->bX,decide_eq_true->cd,beq_eq_false_iff_ne->cq,bne_self_eq_false->cz
open Nat renaming le_refl->aA,mul_le_mul_right->aP,zero_le->aR,succ_mul->aY,min_eq_left->bB,zero_mul->bD,le_trans->bQ,min_eq_right->bZ,lt_or_ge->b9,le_of_ble_eq_true->cg
open Go.IntKind renaming i64->aB
open List renaming drop_eq_nil_of_le->aD,length_append->aE,replicate->aL,getElem_mem->aN,take_length->aO,take->aQ,append_nil->aT,take_append_drop->aU,mem_cons->aV,append_assoc->aW,map_append->aX,take_of_length_le->bA,length_take->bC,rel_of_pairwise_cons->bE,map_take->bF,mem_cons_self->bH,take_succ_eq_append_getElem->bJ,length_cons->bL,length_drop->bM,mem_cons_of_mem->bP,mem_singleton->bT,pairwise_iff_getElem->bV,pairwise_singleton->bY,pairwise_append->cm,getElem_of_mem->cr
open Go.AM.Sat renaming w->aH,mono->aS
open Go renaming IntKind->aJ
open Bool renaming true_and->bG,or_eq_false_iff->bO,false_and->bS
open And renaming intro->bI
open List.Pairwise renaming of_cons->bK,nil->bW,cons->cw
open Prod renaming fst->bU
open Int renaming le_refl->cj
open List.Perm renaming refl->ck
namespace Go.Proofs.YtkdijaiaplkliaaGreatDoor
open Go Go.AM
section
attribute [local irreducible] Sat zA zX
def hiI(h n:Int):Int:=aB.wrap (h+kG false .i64 n 32)
def loI(l n:Int):Int:=aB.wrap (l+kN .and .i64 n 4294967295)
def aha:Int->Int->am Val->bR (Int×Int)
 |h,l,[]=>some (h,l)
 |h,l,v::r=>bif v.k !=2 then none else aha (hiI h v.n) (loI l v.n) r
def atq(h l:Int):Val:=
 bif decide (hiI h l>1048576)||decide (hiI h l< -1048576)then zw else
 ut (aB.wrap (kG true .i64 (hiI h l) 32+kN .and .i64 l 4294967295)) (inB (aB.wrap (kG true .i64 (hiI h l) 32+kN .and .i64 l 4294967295)))
def gw(l:am Val):Val:=match aha 0 0 l with
 |some (h,x)=>atq h x
 |none=>zw
theorem aAm(l:am Val):dY ahW [yu l] (rV (gw l)):=by
 refine vI 0 dU rfl λo=>?_
 rw[zu]at o;refine ahu.s T8 ?_;refine yq (P:=Pg) (f:=T8.f) (body:=(ahu.l 0)) (λx:Nat×Int×Int=>⟨[(2,cV (.ptr 2 0)),(3,zm x.2.1),(4,zm x.2.2),(8,.w (yu l)),(9,zm (rowD l).length),(10,zm x.1)],[(2,.box [int 0,int 0,str ⟨#[]⟩])]⟩) (λx=>l.length-x.1) (λx=>x.1<=l.length/\aha 0 0 l=aha x.2.1 x.2.2 (l.drop x.1)) ⟨(0,0,0),⟨aR _,rfl⟩,ze ?_⟩ ?_
 .exact rfl
 rintro⟨i,h,lo⟩ U;obtain⟨hi,g⟩:i<=l.length/\aha 0 0 l=aha h lo (l.drop i):=U;refine zj (λI=>?_) (λI=>?_)
 .have j:i<l.length:=by have I:decide ((i:Int)<((rowD l).length:Int))=true:=I;simp_all[zu]
  have R:=xw j;rw[zt j]at g;simp only[aha]at g;have wi:=zB j o;generalize l[i]=v at*;obtain⟨v1,v2,v3⟩:=v;simp only at g;refine yb R ?_;refine zj (b:=v1 !=2) (λp=>?_) (λp=>?_)
  .rw[p,aK]at g;have hs:gw l=zw:=by grind[gw]
   rw[hs];exact rfl
  rw[p,aG]at g;(conv=>whnf);refine⟨d8,?_⟩;(conv=>whnf);refine⟨(i+1,hiI h v2,loI lo v2),⟨⟨j,g⟩,d9⟩,ze ?_⟩;(conv=>whnf);rw[wi];rfl
 have J:l.length<=i:=by grind[zu]
 rw[aD J]at g;have hs:gw l=atq h lo:=by unfold gw;rw[g];rfl
 rw[hs];unfold atq;clear hs g;(conv=>whnf);refine⟨d8,?_⟩;refine zj (b:=decide (hiI h lo>1048576)||decide (hiI h lo< -1048576)) (λp=>?_) (λp=>?_)
 .rw[p];exact rfl
 rw[p];simp only[aG];(conv=>whnf);refine⟨d8,?_⟩;(conv=>whnf);unfold hiI;generalize aB.wrap (kG true .i64 (aB.wrap (h+kG false .i64 lo 32)) 32+kN .and .i64 lo 4294967295)=z;cases inB z<;>rfl
def jT(m:Val):am Val->Val
 |[]=>m
 |v::r=>jT (bif decide (xV v m<0)then v else m) r
def Ws(m:Val):am Val->Val
 |[]=>m
 |v::r=>Ws (bif decide (xV v m>0)then v else m) r
theorem aAk(l:am Val)(h0:0<l.length):dY jS [yu l,.c (.d (.fn xR []))] (rV (jT l[0] (l.drop 1))):=by
 refine vI 0 dU rfl λo=>?_
 rw[zu]at o;have p:=xw h0;have e0:decide (((rowD l).length:Int)<1)=false:=bN d9;generalize l[0]=m0 at*;obtain⟨m1,m2,m3⟩:=m0;refine XC.s T8 ?_;rw[e0];refine yb p ?_;refine yq (P:=Pg) (f:=T8.f) (body:=(XC.l 0)) (λx:Nat×Val=>⟨[(0,.w (yu l)),(1,.w (.c (.d (.fn xR [])))),(4,cV (.ptr 4 0)),(5,cV (.ptr 5 0)),(6,zm x.1)],[(4,.box [int 0,int 0,str ⟨#[]⟩]),(5,.box [int x.2.k,int x.2.n,str x.2.s])]⟩) (λx=>l.length-x.1) (λx=>x.1<=l.length/\jT ⟨m1,m2,m3⟩ (l.drop 1)=jT x.2 (l.drop x.1)) ⟨(1,⟨m1,m2,m3⟩),⟨h0,rfl⟩,ze ?_⟩ ?_
 .exact rfl
 rintro⟨i,⟨I,J,R⟩⟩ hx;obtain⟨hi,j⟩:i<=l.length/\jT ⟨m1,m2,m3⟩ (l.drop 1)=jT ⟨I,J,R⟩ (l.drop i):=hx;clear e0 p;refine zj (λU=>?_) (λU=>?_)
 .have g:i<l.length:=by have U:decide ((i:Int)<((rowD l).length:Int))=true:=U;simp_all[zu]
  have hg:=xw g;rw[zt g]at j;simp only[jT]at j;have wi:=zB g o;generalize l[i]=v at*;obtain⟨v1,v2,v3⟩:=v;have hc:=jG ⟨v1,v2,v3⟩ ⟨I,J,R⟩;generalize xV ⟨v1,v2,v3⟩ ⟨I,J,R⟩=c at*;refine yb hg ?_;refine aH hc ?_;refine zx (b:=decide (c<0)) (λh2=>?_) (λh2=>?_)
  .rw[h2,aK]at j;refine yb hg ?_;refine⟨(i+1,⟨v1,v2,v3⟩),⟨⟨g,j⟩,d9⟩,ze ?_⟩;(conv=>whnf);rw[wi];rfl
  rw[h2,aG]at j;(conv=>whnf);refine⟨(i+1,⟨I,J,R⟩),⟨⟨g,j⟩,d9⟩,ze ?_⟩;(conv=>whnf);rw[wi];rfl
 have aa:l.length<=i:=by grind[zu]
 rw[aD aa]at j;simp only[jT]at j;rw[j];exact rfl
theorem aAj(l:am Val)(h0:0<l.length):dY jR [yu l,.c (.d (.fn xR []))] (rV (Ws l[0] (l.drop 1))):=by
 refine vI 0 dU rfl λo=>?_
 rw[zu]at o;have p:=xw h0;have e0:decide (((rowD l).length:Int)<1)=false:=bN d9;generalize l[0]=m0 at*;obtain⟨m1,m2,m3⟩:=m0;refine XB.s T8 ?_;rw[e0];refine yb p ?_;refine yq (P:=Pg) (f:=T8.f) (body:=(XB.l 0)) (λx:Nat×Val=>⟨[(0,.w (yu l)),(1,.w (.c (.d (.fn xR [])))),(4,cV (.ptr 4 0)),(5,cV (.ptr 5 0)),(6,zm x.1)],[(4,.box [int 0,int 0,str ⟨#[]⟩]),(5,.box [int x.2.k,int x.2.n,str x.2.s])]⟩) (λx=>l.length-x.1) (λx=>x.1<=l.length/\Ws ⟨m1,m2,m3⟩ (l.drop 1)=Ws x.2 (l.drop x.1)) ⟨(1,⟨m1,m2,m3⟩),⟨h0,rfl⟩,ze ?_⟩ ?_
 .exact rfl
 rintro⟨i,⟨I,J,R⟩⟩ hx;obtain⟨hi,j⟩:i<=l.length/\Ws ⟨m1,m2,m3⟩ (l.drop 1)=Ws ⟨I,J,R⟩ (l.drop i):=hx;clear e0 p;refine zj (λU=>?_) (λU=>?_)
 .have g:i<l.length:=by have U:decide ((i:Int)<((rowD l).length:Int))=true:=U;simp_all[zu]
  have hg:=xw g;rw[zt g]at j;simp only[Ws]at j;have wi:=zB g o;generalize l[i]=v at*;obtain⟨v1,v2,v3⟩:=v;have hc:=jG ⟨v1,v2,v3⟩ ⟨I,J,R⟩;generalize xV ⟨v1,v2,v3⟩ ⟨I,J,R⟩=c at*;refine yb hg ?_;refine aH hc ?_;refine zx (b:=decide (c>0)) (λh2=>?_) (λh2=>?_)
  .rw[h2,aK]at j;refine yb hg ?_;refine⟨(i+1,⟨v1,v2,v3⟩),⟨⟨g,j⟩,d9⟩,ze ?_⟩;(conv=>whnf);rw[wi];rfl
  rw[h2,aG]at j;(conv=>whnf);refine⟨(i+1,⟨I,J,R⟩),⟨⟨g,j⟩,d9⟩,ze ?_⟩;(conv=>whnf);rw[wi];rfl
 have aa:l.length<=i:=by grind[zu]
 rw[aD aa]at j;simp only[Ws]at j;rw[j];exact rfl
def yC(l:am Val):am Val:=l.filter λv=>v.k !=0
def Zp:ByteArray:=⟨#[99,111,117,110,116]⟩
def adZ:ByteArray:=⟨#[115,117,109]⟩
def aoE:ByteArray:=⟨#[102,105,114,115,116]⟩
def ayp:ByteArray:=⟨#[109,105,110]⟩
def ayo:ByteArray:=⟨#[109,97,120]⟩
def Jv(fn:ByteArray)(l:am Val):Val:=
 bif zo fn Zp then⟨2,l.length,⟨#[]⟩⟩else bif zo fn adZ then gw (yC l)else
 bif zo fn aoE&&decide ((l.length:Int)>0)then at0 l 0 else
 bif zo fn ayp&&decide (((yC l).length:Int)>0)then jT (at0 (yC l) 0) ((yC l).drop 1)else
 bif zo fn ayo&&decide (((yC l).length:Int)>0)then Ws (at0 (yC l) 0) ((yC l).drop 1)else zw
def agS(fn:ByteArray)(l:am Val)(i:Nat)(g:am Val):S:=⟨[(0,.w (.c (str fn))),(1,.w (yu l)),(4,cV (.ptr 4 0)),(5,cV (.own 20 3 g.length)),(8,.w (yu l)),(9,zm (rowD l).length),(10,zm i)],
 [(4,.box [int 0,int 0,str ⟨#[]⟩]),(20,.arr 3 (rowD g) false)]⟩
theorem ai4{l:am Val}{i:Nat}(h:i<l.length):at0 l i=l[i]:=by grind[at0]
theorem aAi(fn:ByteArray)(l:am Val)(ae:l.length<=1000000):dY abn [.c (str fn),yu l] (rV (Jv fn l)):=by
 have U:=aAm (yC l);have J:=λh=>aAk (yC l) h
 have I:=λh=>aAj (yC l) h
 have hA:∀h:0<(yC l).length,(yC l)[0]=at0 (yC l) 0:=λh=>(ai4 h).symm
 have J:0<(yC l).length->dY jS [yu (yC l),.c (.d (.fn xR []))] (rV (jT (at0 (yC l) 0) ((yC l).drop 1))):=λh=>d9
 have I:0<(yC l).length->dY jR [yu (yC l),.c (.d (.fn xR []))] (rV (Ws (at0 (yC l) 0) ((yC l).drop 1))):=λh=>d9
 have o:decide ((l.length:Int)>0)=true->(rowD l)[((0:Int)).toNat]?=some (at0 l 0).ds:=λh=>by
  have h:=aF h;have:=xw (r:=l) (i:=0) d8
  grind[ai4]
 unfold Jv;refine abb.s T8 ?_;refine yy (P:=Pg) (f:=T8.f) (body:=(abb.l 0)) l.length (λi=>agS fn l i (yC (l.take i))) (λ_=>True) ⟨trivial,⟨_,ya 5 20 3 d8 d8 rfl,?_⟩⟩ ?_
 .exact rfl
 intro i hi _;have ac:(yC (l.take i)).length<=i:=by grind[yC]
 have g:∀h:i<l.length,yC (l.take (i+1))=yC (l.take i)++(bif l[i].k !=0 then [l[i]]else []):=λh=>ZP (λv:Val=>v.k !=0) h
 have j:l.length<=i->yC l=yC (l.take i):=λh=>d9
 show mwpR Pg T8.f (abb.l 0) _ (agS fn l i (yC (l.take i)));generalize yC (l.take i)=T at*;have R:(rowD T).take T.length=rowD T:=by grind[zu]
 unfold agS;refine zj (λh1=>?_) (λh1=>?_)
 .have p:i<l.length:=by have h1:decide ((i:Int)<((rowD l).length:Int))=true:=h1;have:=aF h1;grind[zu]
  have hg:=xw p;have g:=g p;have wi:=zB p d8;clear U J I hA o j;generalize l[i]=v at*;obtain⟨v1,v2,v3⟩:=v;simp only at g;refine yb hg ?_;refine zj (b:=v1 !=0) (λh2=>?_) (λh2=>?_)
  .rw[h2,aK]at g;refine qr ?_;refine yW p trivial ?_;rw[wi,R,g,<-uu,aE];rfl
  rw[h2,aG,aT]at g;refine yW p trivial ?_;rw[wi,g];rfl
 have ad:l.length<=i:=by grind[zu]
 have j:=j ad;subst j;clear g ac;refine zj (b:=zo fn Zp) (λq1=>?_) (λq1=>?_)
 .rw[q1];(conv=>whnf);rw[zu];rfl
 rw[q1];simp only[aG];refine zj (b:=zo fn adZ) (λq2=>?_) (λq2=>?_)
 .rw[q2];simp only[aK];have ab:dY ahW [.c (.d (.sl ((rowD (yC l)).take (yC l).length)))] (rV (gw (yC l))):=by rw[R];exact U
  generalize gw (yC l)=u at*;obtain⟨u1,u2,u3⟩:=u;refine aH ab ?_;rfl
 rw[q2];simp only[aG];refine zj (b:=zo fn aoE&&decide (((rowD l).length:Int)>0)) (λq3=>?_) (λq3=>?_)
 .rw[zu]at q3;rw[q3];simp only[aK];have hf:=o dW;generalize at0 l 0=u at*;obtain⟨u1,u2,u3⟩:=u;refine yb hf ?_;exact rfl
 rw[zu]at q3;rw[q3];simp only[aG];refine zj (b:=zo fn ayp&&decide (((yC l).length:Int)>0)) (λq4=>?_) (λq4=>?_)
 .rw[q4];simp only[aK];have h0:0<(yC l).length:=dW
  have aa:dY jS [.c (.d (.sl ((rowD (yC l)).take (yC l).length))),.c (.d (.fn xR []))] (rV (jT (at0 (yC l) 0) ((yC l).drop 1))):=by rw[R];exact J h0
  generalize jT (at0 (yC l) 0) ((yC l).drop 1)=u at*;obtain⟨u1,u2,u3⟩:=u;refine aH aa ?_;rfl
 rw[q4];simp only[aG];refine zj (b:=zo fn ayo&&decide (((yC l).length:Int)>0)) (λq5=>?_) (λq5=>?_)
 .rw[q5];simp only[aK];have h0:0<(yC l).length:=dW
  have aa:dY jR [.c (.d (.sl ((rowD (yC l)).take (yC l).length))),.c (.d (.fn xR []))] (rV (Ws (at0 (yC l) 0) ((yC l).drop 1))):=by rw[R];exact I h0
  generalize Ws (at0 (yC l) 0) ((yC l).drop 1)=u at*;obtain⟨u1,u2,u3⟩:=u;refine aH aa ?_;rfl
 rw[q5];simp only[aG];exact rfl
theorem uU(l:am Val)(g:l.length<=1000000):Sat Pg abp [yu l] (λr=>(l=[]/\r=rC .nil)\/r=adR 3 (rowD l)):=by
 refine yA T3 abe.ok dU ?_;refine⟨λh=>?_,?_⟩
 .conv=>whnf
  left
  refine⟨?_,rfl⟩;cases l with
  |nil=>rfl
  |cons a r=>cases h
 (conv=>whnf);refine⟨QO l,by grind[yz,zu],by grind[zu],?_⟩
 right
 show Res.mk (.w (.c (.own 0 3 (([]:am (am D)).length+(rowD l).length)))) [.arr 3 (([]:am (am D)).take ([]:am (am D)).length++rowD l) false]=_;simp_all[adR]
def W9(cols:am Col)(rows:am (am Val))(a:Agg):am Val:=
 bif decide (zf cols a.col>=0)&&!zo a.fn Zp then rows.map λr=>at0 r (zf cols a.col).toNat else aL rows.length zw
def XU(cols:am Col)(rows:am (am Val))(g:am Agg):am Val:=g.map λa=>Jv a.fn (W9 cols rows a)
def qy(cols:am Col)(i:am Agg)(g:Gr):am Val:=g.key++XU cols g.rows i
def Stp.cs(s:Stp):am C:=match s.cond with|.mk g i v ks=>v8 s.op g i v ks (yP s.items) (zp s.cols) (qv s.aggs) (xz s.sorts) s.n s.table
def gdA(cols:am Col)(rows:D)(st:Stp)(gs:am Gr)(i:Nat)(g:am (am Val)):S:=⟨[(2,cV (.ptr 2 0)),(3,cV (.ptr 3 0)),(5,cV (.own 78 1 g.length)),(20,.w (.c (.d (.sl (JS gs))))),(21,zm gs.length),(22,zm i)],
 [(2,.box [.d (.sl (zl cols)),.d rows]),(3,.box st.cs),(78,.arr 1 (zg g) false)]⟩
def gdB(cols:am Col)(rows:D)(st:Stp)(gs:am Gr)(i:Nat)(o:am (am Val))(g:Gr)(l:am Agg)(j:Nat)(row:am Val):S:=⟨[(2,cV (.ptr 2 0)),(3,cV (.ptr 3 0)),(5,cV (.own 78 1 o.length)),(7,cV (.ptr 7 0)),(8,cV (.own 73 3 row.length)),(20,.w (.c (.d (.sl (JS gs))))),(21,zm gs.length),(22,zm i),(30,.w (.c (.d (.sl (qv l))))),(31,zm l.length),(32,zm j)],
 [(2,.box [.d (.sl (zl cols)),.d rows]),(3,.box st.cs),(7,.box [.d (.sl (rowD g.key)),.d (.sl (zg g.rows))]),(73,.arr 3 (rowD row) false),(78,.arr 1 (zg o) false)]⟩
def gdC(cols:am Col)(rows:D)(st:Stp)(gs:am Gr)(i:Nat)(p:am (am Val))(g:Gr)(o:am Agg)(j:Nat)(row:am Val)(a:Agg)(k:Int)(m:Nat)(l:am Val):S:=⟨[(2,cV (.ptr 2 0)),(3,cV (.ptr 3 0)),(5,cV (.own 78 1 p.length)),(7,cV (.ptr 7 0)),(8,cV (.own 73 3 row.length)),(10,cV (.ptr 10 0)),(11,cV (.own 39 3 g.rows.length)),(12,zm k),(20,.w (.c (.d (.sl (JS gs))))),(21,zm gs.length),(22,zm i),(30,.w (.c (.d (.sl (qv o))))),(31,zm o.length),(32,zm j),(52,.w (.c (.d (.sl (zg g.rows))))),(53,zm g.rows.length),(54,zm m)],
 [(2,.box [.d (.sl (zl cols)),.d rows]),(3,.box st.cs),(7,.box [.d (.sl (rowD g.key)),.d (.sl (zg g.rows))]),(10,.box [str a.fn,str a.col,str a.nm]),(39,.arr 3 (rowD l) false),(73,.arr 3 (rowD row) false),(78,.arr 1 (zg p) false)]⟩
def xM(s:S)(k:Nat)(v:V):S:=⟨s.sl++[(k,v)],s.pl⟩
theorem ayk(l:am Val)(i:Nat)(v:Val):(rowD l).set i v.ds=rowD (l.set i v):=by grind[rowD,List.map_set]
def part(rows:am (am Val))(k:Int)(m:Nat):am Val:=(rows.take m).map (λr=>at0 r k.toNat)++aL (rows.length-m) zw
theorem ax3(rows:am (am Val))(k:Int){m:Nat}(h:m<=rows.length):(part rows k m).length=rows.length:=by grind[part]
theorem ax4(rows:am (am Val))(k:Int){m:Nat}(h:m<rows.length):(part rows k m).set m (at0 rows[m] k.toNat)=part rows k (m+1):=by
 unfold part;have g:((rows.take m).map λr=>at0 r k.toNat).length=m:=dX
 rw[List.set_append_right _ _ d8,g,Nat.sub_self,zJ h,aX];obtain⟨n,i⟩:∃n,rows.length-m=n+1:=⟨rows.length-m-1,d8⟩
 grind
theorem aCh{Q:E->S->Prop}{s:S}(cols:am Col)(rows:D)(st:Stp)(gs:am Gr)(i:Nat)(I:am (am Val))(g:Gr)(o:am Agg)(j:Nat)(row:am Val)(a:Agg)(k:Int)(hk:0<=k/\k<cols.length)(ad:g.rows.length<=500000)(hw:∀r∈g.rows,r.length=cols.length)
 (h0:y8 s [2,3,5,7,8,10,11,12,20,21,22,30,31,32,52,53,54] (· =gdC cols rows st gs i I g o j row a k 0 (aL g.rows.length zw)))
 (hQ:Q (.exit 4) (xM (gdC cols rows st gs i I g o j row a k g.rows.length (g.rows.map λr=>at0 r k.toNat)) 55 (zZ (decide ((g.rows.length:Int)<g.rows.length))))):
 zX (mwpR Pg T8.f (qi.l 0)) [2,3,5,7,8,10,11,12,20,21,22,30,31,32,52,53,54] Q s:=by
 refine yy (P:=Pg) (f:=T8.f) (body:=(qi.l 0)) g.rows.length (λm=>gdC cols rows st gs i I g o j row a k m (part g.rows k m)) (λ_=>True) ⟨trivial,?_⟩ ?_
 .grind[part]
 intro m hm _;have J:=λh:m<g.rows.length=>ax4 g.rows k h
 have ac:=ax3 g.rows k hm;have U:m=g.rows.length->part g.rows k m=g.rows.map λr=>at0 r k.toNat:=λh=>by simp_all[part]
 show mwpR Pg T8.f (qi.l 0) _ (gdC cols rows st gs i I g o j row a k m (part g.rows k m));generalize part g.rows k m=l at*;obtain⟨key,R⟩:=g;obtain⟨op,⟨eo,nm,⟨v1,v2,v3⟩,ks⟩,ae,aj,af,ag,sn,tb⟩:=st;simp only at J ac U hm ad hw hQ;unfold gdC Stp.cs v8;refine zj (λh1=>?_) (λh1=>?_)
 .have p:m<R.length:=by have h1:decide ((m:Int)<(R.length:Int))=true:=h1;simp_all
  have hg:=yS p;have J:=J p;have ai:=hw _ (aN p);have wi:=zB p d8;generalize R[m]=r at*;have ab:(rowD r)[k.toNat]?=some (at0 r k.toNat).ds:=by grind[ai4,rowD]
  generalize at0 r k.toNat=v at*;obtain⟨u1,u2,u3⟩:=v;have ah:(m:Int)<(rowD l).length:=by grind[zu]
  refine yb hg ?_;refine yb ab ?_ (hA:=hk.1);refine qa ?_ (hA:=d8) (hB:=d9);refine⟨_,xw (r:=l) (i:=m) d8,aA _,?_⟩;refine yW p trivial ?_;rw[wi,<-J,<-ayk];rfl
 have aa:m=R.length:=d9
 have hf:=U aa;subst aa;subst hf;exact hQ
theorem anr(cols:am Col)(rows:am (am Val))(a:Agg):(W9 cols rows a).length=rows.length:=by grind[W9]
theorem aCi{Q:E->S->Prop}{s:S}(cols:am Col)(rows:am (am Val))(st:Stp)(gs:am Gr)(i:Nat)(J:am (am Val))(g:Gr)(R:st.aggs.length<=100000)(ao:g.key.length<=500000)(aj:g.rows.length<=500000)(hw:∀r∈g.rows,r.length=cols.length)
 (h0:y8 s [2,3,5,7,8,20,21,22,30,31,32] (· =gdB cols (.sl (zg rows)) st gs i J g st.aggs 0 g.key))
 (hQ:Q (.exit 2) (xM (gdB cols (.sl (zg rows)) st gs i J g st.aggs st.aggs.length (qy cols st.aggs g)) 33 (zZ (decide ((st.aggs.length:Int)<st.aggs.length))))):
 zX (mwpR Pg T8.f (qi.l 1)) [2,3,5,7,8,20,21,22,30,31,32] Q s:=by
 refine yy (P:=Pg) (f:=T8.f) (body:=(qi.l 1)) st.aggs.length (λj=>gdB cols (.sl (zg rows)) st gs i J g st.aggs j (g.key++XU cols g.rows (st.aggs.take j))) (λ_=>True) ⟨trivial,?_⟩ ?_
 .grind[XU]
 intro j hj _;have an:(g.key++XU cols g.rows (st.aggs.take j)).length=g.key.length+j:=by grind[XU]
 have I:∀h:j<st.aggs.length,g.key++XU cols g.rows (st.aggs.take (j+1))=(g.key++XU cols g.rows (st.aggs.take j))++[Jv (st.aggs[j]).fn (W9 cols g.rows st.aggs[j])]:=λh=>by grind[XU,zJ]
 have ad:j=st.aggs.length->qy cols st.aggs g=g.key++XU cols g.rows (st.aggs.take j):=λh=>by rw[h,aO];rfl
 show mwpR Pg T8.f (qi.l 1) _ (gdB cols (.sl (zg rows)) st gs i J g st.aggs j (g.key++XU cols g.rows (st.aggs.take j)));generalize au:g.key++XU cols g.rows (st.aggs.take j)=T at*;have ak:(rowD T).take T.length=rowD T:=by grind[zu]
 have al:=λ(Q':E->S->Prop) (s':S) (a:Agg) (k:Int) (hk:0<=k/\k<cols.length)=>aCh (Q:=Q') (s:=s') cols (.sl (zg rows)) st gs i J g st.aggs j T a k hk aj hw
 obtain⟨key,o⟩:=g;obtain⟨op,⟨eo,nm,⟨v1,v2,v3⟩,ks⟩,aq,aw,p,ar,sn,tb⟩:=st;simp only at I ad hj ao aj hw hQ an R;unfold gdB Stp.cs v8;refine zj (λh1=>?_) (λh1=>?_)
 .have ab:j<p.length:=by have h1:decide ((j:Int)<(p.length:Int))=true:=h1;have:=aF h1;omega
  have hg:=aa2 ab;have I:=I ab;have wi:=zB ab d8;generalize p[j]=a at*;have ac:=xC cols (.d (.sl (zg rows))) a.col ⟨_,rfl⟩;have av:=anr cols o a;have R:=aAi a.fn (W9 cols o a) d8;have af:=Yp (λx=>zo x.name a.col) cols 0 (cj _);have af:0<=zf cols a.col->zf cols a.col<cols.length:=λh=>by grind[zf]
  have aa:W9 cols o a=bif decide (zf cols a.col>=0)&&!zo a.fn Zp then o.map (λr=>at0 r (zf cols a.col).toNat)else aL o.length zw:=rfl
  have ae:(rowD (W9 cols o a)).take o.length=rowD (W9 cols o a):=by grind[zu]
  have ag:rowD (aL o.length zw)=aL o.length zw.ds:=by simp[rowD]
  generalize W9 cols o a=l at*;obtain⟨a1,a2,a3⟩:=a;simp only at ac R af aa I;generalize zf cols a2=k at*;refine yb hg ?_;rw[show(zg (Gr.mk key o).rows).length=o.length from zy o];refine⟨d8,d8,by unfold yz;simp;omega,d8,?_⟩;refine aH ac ?_;refine zx (b:=decide (k>=0)&&!zo a1 Zp) (λh2=>?_) (λh2=>?_)
  .rw[h2,aK]at aa;(conv=>whnf);have ai:0<=k:=dW
   refine al _ _ ⟨a1,a2,a3⟩ k ⟨ai,af ai⟩ (ze ?_) ?_
   ·(conv=>whnf);unfold gdC;rw[ag,zy];rfl
   simp only[];rw[<-aa];have U:dY abn [.c (str a1),.c (.d (.sl ((rowD l).take o.length)))] (rV (Jv a1 l)):=by rw[ae];exact R
   generalize Jv a1 l=u at*;obtain⟨u1,u2,u3⟩:=u;refine aH U ?_;refine qr ?_;refine yW ab trivial ?_;rw[wi,ak,I,<-uu,aE];rfl
  rw[h2,aG]at aa;rw[<-aa]at ag;have U:dY abn [.c (str a1),.c (.d (.sl ((aL o.length zw.ds).take o.length)))] (rV (Jv a1 l)):=by rw[<-ag,ae];exact R
  refine aH U ?_;refine qr ?_;refine yW ab trivial ?_;rw[wi,ak,I,<-uu,aE];rfl
 have ah:j=p.length:=d9
 rw[ad ah]at hQ;subst ah;exact hQ
theorem afT(cols:am Col)(rows:am (am Val))(st:Stp)(gs:am Gr)
 (ae:st.cols.length<=1000000) (ad:st.aggs.length<=100000) (au:gs.length<=1000000) (ab:∀g∈gs,g.key.length<=500000) (ao:∀g∈gs,g.rows.length<=500000) (hw:∀g∈gs,∀r∈g.rows,r.length=cols.length)
 (af:dY Y6 [.agg [.d (.sl (zl cols)),.d (.sl (zg rows))],.c (.d (.sl (zh (zi cols st.cols))))] (rC (.d (.sl (JS gs))))):
 dY K6 [.agg [.d (.sl (zl cols)),.d (.sl (zg rows))],.agg st.cs] (rC (.d (.sl (zg (gs.map (qy cols st.aggs)))))):=by
 have ag:=Wy cols (.sl (zg rows)) st.cols ae;have aa:=λ(Q:E->S->Prop) (s:S) (i:Nat) (aj:am (am Val)) (g:Gr) (h1:g.key.length<=500000) (h2:g.rows.length<=500000) (h3:∀r∈g.rows,r.length=cols.length)=>aCi (Q:=Q) (s:=s) cols rows st gs i aj g ad h1 h2 h3
 have p:∀i,∀h:i<gs.length,(gs.take (i+1)).map (qy cols st.aggs)=(gs.take i).map (qy cols st.aggs)++[qy cols st.aggs gs[i]]:=λi h=>by grind[zJ]
 have I:∀i,gs.length<=i->gs.map (qy cols st.aggs)=(gs.take i).map (qy cols st.aggs):=λi h=>by rw[bA h]
 refine zC ?_;obtain⟨op,⟨eo,nm,⟨v1,v2,v3⟩,ks⟩,J,ai,j,U,sn,tb⟩:=st;simp only at p I ae ad ag af;unfold Stp.cs v8;refine qi.s T8 ?_;refine aH ag ?_;refine aH af ?_;rw[aw4];refine yy (P:=Pg) (f:=T8.f) (body:=(qi.l 2)) gs.length (λi=>gdA cols (.sl (zg rows)) ⟨op,⟨eo,nm,⟨v1,v2,v3⟩,ks⟩,J,ai,j,U,sn,tb⟩ gs i ((gs.take i).map (qy cols j))) (λ_=>True) ⟨trivial,⟨_,ya 5 78 1 d8 d8 rfl,?_⟩⟩ ?_
 .exact rfl
 intro i hi _;show mwpR Pg T8.f (qi.l 2) _ (gdA cols (.sl (zg rows)) ⟨op,⟨eo,nm,⟨v1,v2,v3⟩,ks⟩,J,ai,j,U,sn,tb⟩ gs i ((gs.take i).map (qy cols j)));have ar:((gs.take i).map (qy cols j)).length=i:=dX
 have p:=p i;have I:=I i;generalize(gs.take i).map (qy cols j)=T at*;have ac:(zg T).take T.length=zg T:=by grind[zy]
 unfold gdA Stp.cs v8;refine uT (λo=>?_) (λal=>?_)
 .have hg:=aw3 o;have p:=p o;have aa:=λQ s=>aa Q s i T gs[i] (ab _ (aN o)) (ao _ (aN o)) (hw _ (aN o))
  have ab:=ab _ (aN o);have wi:=zB o d8;generalize gs[i]=g at*;have ah:(rowD (qy cols j g)).take (qy cols j g).length=rowD (qy cols j g):=by rw[<-zu,aO]
  obtain⟨key,aq⟩:=g;have ak:=uU key (by simp only at ab;omega);refine yb hg ?_;refine aS ak ?_;rintro _ (⟨an,rfl⟩|rfl)
  ·(conv=>whnf);refine aa _ _ ⟨_,ya 8 73 3 d8 d8 rfl,?_⟩ ?_
   ·(conv=>whnf);unfold gdB;rw[jN];simp only[an];rfl
   simp only[];unfold xM gdB Stp.cs v8;generalize qy cols j ⟨key,aq⟩=R at*;refine qr ?_;refine yW o trivial ?_;rw[wi,ac,ah,p,xy,aE];rfl
  (conv=>whnf);refine aa _ _ ⟨_,jK 8 600448 73 3 _ _ d8 rfl rfl,?_⟩ ?_
  ·(conv=>whnf);rw[jN,zu];rfl
  refine qr ?_;refine yW o trivial ?_;rw[wi,ac,ah,p,xy,aE];rfl
 rw[I al];refine gJ ?_;show Res.mk (.w (.c (.d (.sl ((zg T).take T.length))))) []=_;rw[ac];rfl
structure Nmd where
 nm:ByteArray
 t:Tbl
def Nmd.ds(x:Nmd):am D:=[.lit (.string x.nm),.sl (zl x.t.cols),.sl (zg x.t.rows)]
def zq(l:am Nmd):am (am D):=l.map Nmd.ds
theorem YG(l:am Nmd):(zq l).length=l.length:=by simp[zq]
theorem agF{r:am Nmd}{i:Nat}(h:i<r.length):(zq r)[((i:Int)).toNat]?=some (r[i]).ds:=by grind[zq]
theorem auS(l:am Nmd)(i:Nat):(zq l).take i=zq (l.take i):=by grind[zq,bF]
def zU(g:ByteArray):am Nmd->bR Tbl
 |[]=>none
 |x::r=>bif zo x.nm g then some x.t else zU g r
def rF(x:bR Tbl):Res:=match x with
 |some t=>⟨.tup [t.w,.c (bool true)],[]⟩
 |none=>⟨.tup [.agg [.nil,.nil],.c (bool false)],[]⟩
theorem y4(d:am Nmd)(p:ByteArray):dY Yx [.c (.d (.sl (zq d))),.c (str p)] (rF (zU p d)):=by
 refine vI 0 dU rfl λo=>?_
 rw[YG]at o;refine ac3.s T8 ?_;rw[YG];refine Uc T8 (ac3.l 0) d.length (λi=>⟨[(1,.w (.c (str p))),(4,cV (.ptr 4 0)),(8,.w (.c (.d (.sl (zq d))))),(9,zm d.length),(10,zm i)],[(4,.box [.nil,.nil])]⟩) (λi=>zU p d=zU p (d.drop i)) ?_
 intro i hi g;refine uT (λj=>?_) (λJ=>?_)
 .rw[zt j]at g;simp only[zU]at g;have P:=agF j;have R:=zB j o;generalize d[i]=x at*;obtain⟨xn,⟨U,xr⟩⟩:=x;simp only at g;refine yb P ?_;refine zj (b:=zo xn p) (λI=>?_) (λI=>?_)
  .rw[I,aK]at g;(conv=>whnf);rw[g];rfl
  rw[I,aG]at g;refine yW j g ?_;rw[R];rfl
 rw[aD J]at g;(conv=>whnf);rw[g];rfl
def aeM(x:bR Tbl):Bool:=match x with|some _=>true|none=>false
def XE(pre:am Nmd):am Nmd->Int
 |[]=>0
 |x::r=>bif w6 x.nm !=0 then w6 x.nm else bif aeM (zU x.nm pre)then 4 else bif zH x.t !=0 then zH x.t else XE (pre++[x]) r
def yH(d:am Nmd):Int:=bif decide ((d.length:Int)>32)then 7 else XE [] d
theorem wt(d:am Nmd):dY vE [.c (.d (.sl (zq d)))] (rI (yH d)):=by
 refine vI 0 dU rfl λo=>?_
 rw[YG]at o;unfold yH;refine JI.s T8 ?_;rw[YG];refine zx (b:=decide ((d.length:Int)>32)) (λh0=>?_) (λh0=>?_)
 .rw[h0];exact rfl
 rw[h0];simp only[aG];(conv=>whnf);rw[YG];refine Uc T8 (JI.l 0) d.length (λi=>⟨[(0,.w (.c (.d (.sl (zq d))))),(12,.w (.c (.d (.sl (zq d))))),(13,zm d.length),(14,zm i)],[]⟩) (λi=>XE [] d=XE (d.take i) (d.drop i)) ?_
 intro i hi g;refine uT (λj=>?_) (λR=>?_)
 .rw[zt j]at g;simp only[XE]at g;rw[<-zJ j]at g;have hg:=agF j;have wi:=zB j o;have I:=qk d[i].t;have p:=y4 (d.take i) d[i].nm;have U:=kB d[i].nm;rw[<-auS]at p;generalize d[i]=x at*;obtain⟨xn,⟨xc,xr⟩⟩:=x;simp only at g I p U;generalize zU xn (d.take i)=f at*;generalize zH ⟨xc,xr⟩=te at*;generalize aa:XE (d.take (i+1)) (d.drop (i+1))=rest at*;refine yb hg ?_;refine zj (b:=w6 xn !=0) (λJ=>?_) (λJ=>?_)
  .rw[J,aK]at g;(conv=>whnf);rw[g];rfl
  rw[J,aG]at g;have ab:i<=(zq d).length:=d9
  refine qa ?_ (hA:=by show(0:Int)<=(i:Int);omega) (hB:=by show(i:Int)<=((zq d).length:Int);omega);refine Sat.cal (p) ?_;cases f with
  |some ft=>
   obtain⟨fc,fr⟩:=ft;simp only[aeM,aK]at g;(conv=>whnf);rw[g];rfl
  |none=>
   simp only[aeM,aG]at g;refine aH I ?_;refine zx (b:=te !=0) (λP=>?_) (λP=>?_)
   .rw[P,aK]at g;(conv=>whnf);rw[g];rfl
   rw[P,aG]at g;refine yW j g ?_;rw[wi];rfl
 rw[aD R]at g;simp only[XE]at g;(conv=>whnf);rw[g];rfl
def q9(cols:am Col)(i:Int):Col:=cols.getD i.toNat ⟨⟨#[]⟩,0⟩
def takeErr(cols:am Col)(g:am ByteArray):Bool:=g.any λs=>decide (zf cols s<0)
def takeC(cols:am Col)(g:am ByteArray):am Col:=g.map λs=>q9 cols (zf cols s)
def Uf(e:Int):Res:=⟨.tup [.c (.d (.sl [])),.c (int e)],[]⟩
def rCs(l:am Col):Res:=⟨.tup [.c (.d (.sl (zl l))),.c (int 0)],[]⟩
theorem QC{cols:am Col}{k:Int}(h:0<=k)(g:k<cols.length):(zl cols)[k.toNat]?=some (q9 cols k).ds:=by grind[q9,zl]
theorem wI(cols:am Col)(s:ByteArray):¬zf cols s<0->0<=zf cols s/\zf cols s<cols.length:=λh=>by
 have:=Yp (λx=>zo x.name s) cols 0 (cj _)
 grind[zf]
def tkS(cols:am Col)(j:am ByteArray)(i:Nat)(g:am Col):S:=⟨[(0,.w (.c (.d (.sl (zl cols))))),(6,cV (.own 27 2 g.length)),(10,.w (.c (.d (.sl (zp j))))),(11,zm j.length),(12,zm i)],[(27,.arr 2 (zl g) false)]⟩
def rNE(e:Int):Res:=⟨.tup [.c .nil,.c (int e)],[]⟩
def rCo(l:am Col):Res:=⟨.tup [.c (.own 0 2 l.length),.c (int 0)],[.arr 2 (zl l) false]⟩
theorem aei(cols:am Col)(g:am ByteArray)(hn:g.length<=1000000):dY alT [.c (.d (.sl (zl cols))),.c (.d (.sl (zp g)))] (bif takeErr cols g then rNE 16 else rCo (takeC cols g)):=by
 refine Ut.s T8 ?_;rw[zP];refine yy (P:=Pg) (f:=T8.f) (body:=(Ut.l 0)) g.length (λi=>tkS cols g i (takeC cols (g.take i))) (λi=>takeErr cols (g.take i)=false) ⟨rfl,⟨_,ya 6 27 2 d8 d8 rfl,?_⟩⟩ ?_
 .exact rfl
 intro i hi hR;have ae:(takeC cols (g.take i)).length=i:=by grind[takeC]
 have R:∀h:i<g.length,takeC cols (g.take (i+1))=takeC cols (g.take i)++[q9 cols (zf cols g[i])]:=λh=>by grind[takeC,zJ]
 have I:∀h:i<g.length,takeErr cols (g.take (i+1))=decide (zf cols g[i]<0):=λh=>by grind[takeErr,zJ]
 have ab:g.length<=i->(bif takeErr cols g then rNE 16 else rCo (takeC cols g))=rCo (takeC cols (g.take i)):=λh=>d9
 have o:∀h:i<g.length,decide (zf cols g[i]<0)=true->(bif takeErr cols g then rNE 16 else rCo (takeC cols g))=rNE 16:=λh U=>by grind[takeErr]
 show mwpR Pg T8.f (Ut.l 0) _ (tkS cols g i (takeC cols (g.take i)));generalize takeC cols (g.take i)=T at*;have ad:(zl T).take T.length=zl T:=by grind[z8]
 unfold tkS;refine uT (λj=>?_) (λac=>?_)
 .have hg:=vh j;have R:=R j;have I:=I j;have o:=o j;have aa:=xQ cols g[i];have p:=wI cols g[i];have wi:=zB j d8;have J:=λh=>QC (p h).1 (p h).2
  generalize g[i]=x at*;generalize zf cols x=k at*;refine yb hg ?_;refine aH aa ?_;refine zx (b:=decide (k<0)) (λU=>?_) (λU=>?_)
  .rw[o U];exact rfl
  have h3:=aC U;have J:=J h3;have hb:=p h3;refine yb J ?_ (hA:=hb.1);refine qr ?_;refine yW j (I.trans U) ?_;rw[wi,ad,R,aE];simp only[zl,aX];rfl
 rw[ab ac];exact rfl
def Yh(cols:am Col)(a:Agg):Int×Col:=
 bif !zo a.fn Zp then
  bif decide (zf cols a.col<0)then(16,⟨a.nm,0⟩)else
  bif zo a.fn adZ&&(q9 cols (zf cols a.col)).t !=2 then(14,⟨a.nm,0⟩)else(0,⟨a.nm,(q9 cols (zf cols a.col)).t⟩)
 else(0,⟨a.nm,2⟩)
def xB(cols:am Col):am Agg->Int×am Col
 |[]=>(0,[])
 |a::r=>bif (Yh cols a).1 !=0 then((Yh cols a).1,[])else((xB cols r).1,(Yh cols a).2::(xB cols r).2)
def asu(cols:am Col)(i:am ByteArray)(g:am Agg):Res:=
 bif takeErr cols i then Uf 16 else bif (xB cols g).1 !=0 then Uf (xB cols g).1 else rCs (takeC cols i++(xB cols g).2)
def tgS(cols:am Col)(g:am Agg)(j:Nat)(i:am Col):S:=⟨[(0,.w (.c (.d (.sl (zl cols))))),(6,cV (.own 65 2 i.length)),(24,.w (.c (.d (.sl (qv g))))),(25,zm g.length),(26,zm j)],[(65,.arr 2 (zl i) false)]⟩
theorem ao0(cols:am Col)(st:Stp)(U:st.cols.length<=1000000)(af:st.aggs.length<=100000):dY J4 [.c (.d (.sl (zl cols))),.agg st.cs] (asu cols st.cols st.aggs):=by
 have J:=aei cols st.cols U;have aa:(takeC cols st.cols).length=st.cols.length:=by simp[takeC]
 unfold asu;obtain⟨op,⟨eo,nm,⟨v1,v2,v3⟩,ks⟩,ah,ae,g,ai,sn,tb⟩:=st;simp only at J aa U af;refine zC ?_;unfold Stp.cs v8;simp only;cases ac:takeErr cols ae with
 |true=>
  rw[ac,aK]at J;refine Zs.s T8 ?_;refine aH J ?_;exact⟨rfl,rfl⟩
 |false=>
  rw[ac,aG]at J;simp only[aG];generalize takeC cols ae=T0 at*;refine Zs.s T8 ?_;refine aH J ?_;rw[jN];refine yq (P:=Pg) (f:=T8.f) (body:=(Zs.l 0)) (λx:Nat×am Col=>tgS cols g x.1 x.2) (λx=>g.length-x.1) (λx=>x.1<=g.length/\x.2.length<=1000000+x.1/\(xB cols g).1=(xB cols (g.drop x.1)).1/\((xB cols (g.drop x.1)).1=0->T0++(xB cols g).2=x.2++(xB cols (g.drop x.1)).2)) ⟨(0,T0),⟨aR _,d9,rfl,λ_=>rfl⟩,⟨_,jK 6 600272 65 2 _ _ d8 rfl rfl,?_⟩⟩ ?_
  .exact rfl
  rintro⟨j,T⟩ hx;obtain⟨hj,aj,i,o⟩:j<=g.length/\T.length<=1000000+j/\(xB cols g).1=(xB cols (g.drop j)).1/\((xB cols (g.drop j)).1=0->T0++(xB cols g).2=T++(xB cols (g.drop j)).2):=hx;show mwpR Pg T8.f (Zs.l 0) _ (tgS cols g j T);have R:(zl T).take T.length=zl T:=by grind[z8]
  unfold tgS;refine uT (λI=>?_) (λag=>?_)
  .have hg:=aa2 I;rw[zt I]at i o;simp only[xB]at i o;have wi:=zB I d8;generalize g[j]=a at*;obtain⟨a1,a2,a3⟩:=a;unfold Yh at i o;simp only at i o;have p:=aei cols [a2] dT;have ad:takeErr cols [a2]=decide (zf cols a2<0):=by simp[takeErr]
   have ab:takeC cols [a2]=[q9 cols (zf cols a2)]:=rfl;rw[ad,ab]at p;generalize q9 cols (zf cols a2)=c at*;obtain⟨c1,c2⟩:=c;simp only at i o;refine yb hg ?_;refine zj (b:=!zo a1 Zp) (λh2=>?_) (λh2=>?_)
   .rw[h2]at i o;simp only[aK]at i o;(conv=>whnf);cases hb:decide (zf cols a2<0)with
    |true=>
     rw[hb]at i p;have i:(xB cols g).1=16:=i;rw[i];simp only[aK]at p;refine aH p ?_;exact⟨rfl,rfl⟩
    |false=>
     rw[hb]at i o p;simp only[aG]at i o p;refine aH p ?_;refine zx (b:=zo a1 adZ) (λh3=>?_) (λh3=>?_)
     .rw[h3,bG]at i o;refine qa ?_ (hA:=d8) (hB:=d9);refine⟨_,rfl,?_⟩;refine zj (b:=c2 !=2) (λh4=>?_) (λh4=>?_)
      .rw[h4]at i;have i:(xB cols g).1=14:=i;rw[i];exact⟨rfl,rfl⟩
      rw[h4]at i o;have i:(xB cols g).1=(xB cols (g.drop (j+1))).1:=i;have o:(xB cols (g.drop (j+1))).1=0->T0++(xB cols g).2=T++(⟨a3,c2⟩::(xB cols (g.drop (j+1))).2):=o;refine qa ?_ (hA:=d8) (hB:=d9);refine⟨_,rfl,?_⟩;refine qr ?_;refine⟨(j+1,T++[⟨a3,c2⟩]),⟨⟨I,d9,i,λh=>d9⟩,d9⟩,ze ?_⟩;rw[wi,R,aE];simp only[zl,aX];rfl
     rw[h3,bS]at i o;have i:(xB cols g).1=(xB cols (g.drop (j+1))).1:=i;refine qa ?_ (hA:=d8) (hB:=d9);refine⟨_,rfl,?_⟩;refine qr ?_;refine⟨(j+1,T++[⟨a3,c2⟩]),⟨⟨I,d9,i,λh=>d9⟩,d9⟩,ze ?_⟩;rw[wi,R,aE];simp only[zl,aX];rfl
   rw[h2]at i o;refine qr ?_;refine⟨(j+1,T++[⟨a3,2⟩]),⟨⟨I,by show(T++[(⟨a3,2⟩:Col)]).length<=1000000+(j+1);simp;omega,i,λh=>by rw[o h];simp⟩,by show g.length-(j+1)<g.length-j;omega⟩,ze ?_⟩;rw[wi,R,aE];simp only[zl,aX];rfl
  rw[aD ag]at i o;simp only[xB,aT]at i o;simp only[forall_const]at o;rw[i,o];refine gJ ?_;show Res.mk (.tup [.c (.d (.sl ((zl T).take T.length))),.c (int 0)]) []=_;rw[R];rfl
theorem UV(l:am Col)(g:l.length<=1000000):Sat Pg QJ [.c (.d (.sl (zl l)))] (λr=>(l=[]/\r=rC .nil)\/r=adR 2 (zl l)):=by
 refine yA T3 Qy.ok dU ?_;refine⟨λh=>?_,?_⟩
 .conv=>whnf
  left
  refine⟨?_,rfl⟩;cases l with
  |nil=>rfl
  |cons a r=>cases h
 (conv=>whnf);refine⟨aqT l,by grind[yz,z8],by grind[z8],?_⟩
 right
 show Res.mk (.w (.c (.own 0 2 (([]:am (am D)).length+(zl l).length)))) [.arr 2 (([]:am (am D)).take ([]:am (am D)).length++zl l) false]=_;simp_all[adR]
theorem afp(g:FuncId)(cap:am (am D)):dY Z9 [.c (.d (.sl [])),.c (.d (.fn g cap))] (rI (-1)):=by refine yA T8 wR.ok dU ?_;refine wZ (P:=Pg) (f:=T8.f) (body:=(wR.l 0)) 1 ?_;exact rfl
theorem abQ(g:FuncId)(cap:am (am D)):dY Zm [.c (.d (.sl [])),.c (.d (.fn g cap))] (rB false):=by refine Ze.s T8 ?_;refine aH (afp g cap) ?_;rfl
def jnErr(cols g:am Col):am ByteArray->Int
 |[]=>0
 |s::r=>bif decide (zf cols s<0)||decide (zf g s<0)then 16 else bif (q9 cols (zf cols s)).t !=(q9 g (zf g s)).t then 14 else jnErr cols g r
def wY(cs:am ByteArray)(l:am Col):am Col:=l.filter λc=>!hasB cs c.name
def dupL(pre:am Col):am Col->Bool
 |[]=>false
 |c::r=>bif decide (zf pre c.name>=0)then true else dupL (pre++[c]) r
def jnQ(cols g:am Col)(cs:am ByteArray):Res:=
 bif jnErr cols g cs !=0 then Uf (jnErr cols g cs)else bif dupL [] (cols++wY cs g)then Uf 4 else bif decide (((cols++wY cs g).length:Int)>32)then Uf 7 else rCs (cols++wY cs g)
def jnT(d:am Nmd)(cols:am Col)(cs:am ByteArray)(tb:ByteArray):Res:=match zU tb d with
 |none=>Uf 17
 |some t=>jnQ cols t.cols cs
def jfb(o:Int)(p:ByteArray)(v1 v2:Int)(v3:ByteArray)(ks:am Ex)(g:am Itm)(l:am ByteArray)(i:am Agg)(j:am Srt)(r:Int)(tb:ByteArray):Pl:=
 .fbox [.lit (.int .i64 6),.lit (.int .i64 o),.lit (.string p),.lit (.int .i64 v1),.lit (.int .i64 v2),.lit (.string v3),.sl (exsD ks),.sl (yP g),.sl (zp l),.sl (qv i),.sl (xz j),.lit (.int .i64 r),.lit (.string tb)]
def tjS(r:Int)(I:ByteArray)(v1 v2:Int)(v3:ByteArray)(ks:am Ex)(g:am Itm)(p:am ByteArray)(j:am Agg)(l:am Srt)(J:Int)(tb:ByteArray)(tc:am Col)(i:Nat)(o:am Col):S:=
 ⟨[(5,cV (.ptr 5 0)),(10,cV .nil),(20,cV (.own 128 2 o.length)),(106,.w (.c (.d (.sl (zl tc))))),(107,zm tc.length),(108,zm i)],[(5,jfb r I v1 v2 v3 ks g p j l J tb),(128,.arr 2 (zl o) false)]⟩
theorem azw{Q:E->S->Prop}{s:S}(U:Int)(nm:ByteArray)(v1 v2:Int)(v3:ByteArray)(ks:am Ex)(j:am Itm)(g:am ByteArray)(o:am Agg)(p:am Srt)(sn:Int)(tb:ByteArray)(cols tc:am Col)(ae:cols.length<=1000000)(af:tc.length<=1000000)
 (h0:y8 s [5,10,20,106,107,108] (· =tjS U nm v1 v2 v3 ks j g o p sn tb tc 0 cols))
 (hQ:Q (.exit 8) (xM (tjS U nm v1 v2 v3 ks j g o p sn tb tc tc.length (cols++wY g tc)) 109 (zZ (decide ((tc.length:Int)<tc.length))))):
 zX (mwpR Pg T8.f (zL.l 3)) [5,10,20,106,107,108] Q s:=by
 refine yy (P:=Pg) (f:=T8.f) (body:=(zL.l 3)) tc.length (λi=>tjS U nm v1 v2 v3 ks j g o p sn tb tc i (cols++wY g (tc.take i))) (λ_=>True) ⟨trivial,?_⟩ ?_
 .grind[wY]
 intro i hi _;have ad:(cols++wY g (tc.take i)).length<=1000000+i:=by grind[wY]
 have r:∀h:i<tc.length,cols++wY g (tc.take (i+1))=(cols++wY g (tc.take i))++(bif !hasB g tc[i].name then [tc[i]]else []):=λh=>by grind[wY,ZP]
 have J:i=tc.length->cols++wY g tc=cols++wY g (tc.take i):=λh=>d9
 show mwpR Pg T8.f (zL.l 3) _ (tjS U nm v1 v2 v3 ks j g o p sn tb tc i (cols++wY g (tc.take i)));generalize cols++wY g (tc.take i)=T at*;have ac:(zl T).take T.length=zl T:=by grind[z8]
 unfold tjS jfb;refine rgE (λI=>?_) (λR=>?_)
 .have hg:=xJ I;have r:=r I;have ab:=yk g tc[i].name;have aa:=yk [] tc[i].name;have wi:=zB I d8;generalize tc[i]=c at*;obtain⟨c1,c2⟩:=c;generalize hasB g c1=b at*;refine yb hg ?_;refine aH ab ?_;refine zx (b:=!b) (λh2=>?_) (λh2=>?_)
  .rw[h2,aK]at r;refine aH aa ?_;refine qr ?_;refine yW I trivial ?_;rw[wi,ac,r,aE];simp only[zl,aX];rfl
  rw[h2,aG,aT]at r;refine yW I trivial ?_;rw[wi,r];rfl
 rw[J R]at hQ;subst R;exact hQ
theorem aqw(d:am Nmd)(cols:am Col)(st:Stp)(aj:st.op=6)(ar:st.cols.length<=1000000)(af:cols.length<=1000000)(R:∀t,zU st.table d=some t->t.cols.length<=1000000):
 dY uf [.c (.d (.sl (zq d))),.c (.d (.sl (zl cols))),.agg st.cs] (jnT d cols st.cols st.table):=by
 have U:=y4 d st.table;unfold jnT;obtain⟨op,⟨eo,nm,⟨v1,v2,v3⟩,ks⟩,aa,p,ab,ac,sn,tb⟩:=st;simp only at aj ar R U;subst aj;refine zC ?_;unfold Stp.cs v8;simp only;cases hf:zU tb d with
 |none=>
  rw[hf]at U;refine zL.s T8 ?_;refine aH U ?_;exact⟨rfl,rfl⟩
 |some t=>
  rw[hf]at U;have R:=R t hf;obtain⟨tc,tr⟩:=t;simp only at R;unfold jnQ;refine zL.s T8 ?_;refine aH U ?_;refine aH (abQ UR _) ?_;rw[zP];refine Uc T8 (zL.l 0) p.length (λi=>⟨[(1,.w (.c (.d (.sl (zl cols))))),(5,cV (.ptr 5 0)),(8,cV (.ptr 8 0)),(10,cV .nil),(46,.w (.c (.d (.sl (zp p))))),(47,zm p.length),(48,zm i)],[(5,jfb eo nm v1 v2 v3 ks aa p ab ac sn tb),(8,.box [.d (.sl (zl tc)),.d (.sl (zg tr))])]⟩) (λi=>jnErr cols tc p=jnErr cols tc (p.drop i)) ?_
  intro i hi g;unfold jfb;refine uT (λj=>?_) (λJ=>?_)
  .rw[zt j]at g;simp only[jnErr]at g;have hg:=vh j;have wi:=zB j d8;have ao:=xQ cols p[i];have aq:=xQ tc p[i];have ad:=wI cols p[i];have ae:=wI tc p[i];have ah:=λh=>QC (ad h).1 (ad h).2
   have ai:=λh=>QC (ae h).1 (ae h).2
   generalize p[i]=x at*;generalize zf cols x=k1 at*;generalize zf tc x=k2 at*;refine yb hg ?_;refine aH ao ?_;refine aH aq ?_;refine zx (b:=decide (k1<0)||decide (k2<0)) (λI=>?_) (λI=>?_)
   .rw[I]at g;have g:jnErr cols tc p=16:=g;simp only[g];exact⟨rfl,rfl⟩
   rw[I,aG]at g;rw[bO]at I;have n1:=aC I.1;have n2:=aC I.2;have ad:=ad n1;have ae:=ae n2;have ah:=ah n1;have ai:=ai n2;generalize q9 cols k1=c1 at*;generalize q9 tc k2=c2 at*;obtain⟨av,ak⟩:=c1;obtain⟨aw,al⟩:=c2;simp only at g;refine yb ah ?_ (hA:=ad.1);refine yb ai ?_ (hA:=ae.1);refine zj (b:=ak !=al) (λh3=>?_) (λh3=>?_)
   .rw[h3]at g;have g:jnErr cols tc p=14:=g;simp only[g];exact⟨rfl,rfl⟩
   rw[h3,aG]at g;refine yW j g ?_;rw[wi];rfl
  rw[aD J]at g;have g:jnErr cols tc p=0:=g;simp only[g];clear g;(conv=>whnf);refine wZ (P:=Pg) (f:=T8.f) (body:=(zL.l 2)) 3 ?_;refine qa ?_ (hA:=d8) (hB:=d9);refine⟨_,rfl,?_⟩;(conv=>whnf);refine wZ (P:=Pg) (f:=T8.f) (body:=(zL.l 1)) 1 ?_;refine qa ?_ (hA:=dV) (hB:=by show(1:Int)<((2:Nat):Int);omega);refine⟨_,rfl,?_⟩;(conv=>whnf);refine wZ (P:=Pg) (f:=T8.f) (body:=(zL.l 1)) 1 ?_;(conv=>whnf);refine aS (UV cols af) ?_;rintro _ (⟨au,rfl⟩|rfl)
  ·(conv=>whnf);refine azw eo nm v1 v2 v3 ks aa p ab ac sn tb cols tc af R ⟨_,ya 20 128 2 d8 d8 rfl,?_⟩ ?_
   ·(conv=>whnf);unfold tjS;rw[z8,au];rfl
   unfold xM tjS jfb;have an:(cols++wY p tc).length<=2000000:=by grind[wY]
   clear R af U;generalize cols++wY p tc=O at*;(conv=>whnf);refine yy (P:=Pg) (f:=T8.f) (body:=(zL.l 4)) O.length (λi=>⟨[(20,cV (.own 128 2 O.length)),(130,cV (.own 128 2 O.length)),(131,zm O.length),(132,zm i)],[(128,.arr 2 (zl O) false)]⟩) (λi=>dupL [] O=dupL (O.take i) (O.drop i)) ⟨rfl,ze ?_⟩ ?_
   .exact rfl
   intro i hi g;cases i with
   |zero=>
    refine zj (b:=decide ((0:Nat)<(O.length:Int))) (λh1=>?_) (λh1=>?_)
    .have j:0<O.length:=dW
     rw[zt j]at g;simp only[dupL]at g;rw[<-zJ j]at g;have hg:=xJ j;have wi:=zB j d8;have o:=xQ (O.take (0)) O[0].name;have ht:zl (O.take (0))=(zl O).take (0):=by grind[zl]
     rw[ht]at o;generalize ag:dupL (O.take (0+1)) (O.drop (0+1))=rest at*;generalize O[0]=c at*;obtain⟨c1,c2⟩:=c;simp only at g o;generalize zf (O.take (0)) c1=k at*;(conv=>whnf);refine⟨d8,d8,?_⟩;(conv=>whnf);refine⟨_,hg,?_⟩;(conv=>whnf);refine⟨by show(0:Int)<=((0:Nat):Int);omega,by show((0:Nat):Int)<=(O.length:Int);omega,?_⟩;refine aH o ?_;refine zx (b:=decide (k>=0)) (λI=>?_) (λI=>?_)
     .rw[I]at g;have g:dupL [] O=true:=g;rw[g];exact⟨rfl,rfl⟩
     rw[I]at g;have g:dupL [] O=rest:=g;(conv=>whnf);refine⟨j,g,ze ?_⟩;(conv=>whnf);rw[wi];rfl
    have J:O.length<=0:=d9
    rw[aD J]at g;have g:dupL [] O=false:=g;rw[g];refine zj (b:=decide ((O.length:Int)>32)) (λh5=>?_) (λh5=>?_)
    .grind
    rw[h5];(conv=>whnf);refine⟨rfl,?_⟩;show Res.mk (.tup [.c (.d (.sl ((zl O).take O.length))),.c (int 0)]) []=_;rw[<-z8,aO];rfl
   |succ i=>
    refine zj (b:=decide ((i+1:Nat)<(O.length:Int))) (λh1=>?_) (λh1=>?_)
    .have j:i+1<O.length:=by have:=aF h1;omega
     rw[zt j]at g;simp only[dupL]at g;rw[<-zJ j]at g;have hg:=xJ j;have wi:=zB j d8;have o:=xQ (O.take (i+1)) O[i+1].name;have ht:zl (O.take (i+1))=(zl O).take (i+1):=by grind[zl,bF]
     rw[ht]at o;generalize ag:dupL (O.take (i+1+1)) (O.drop (i+1+1))=rest at*;generalize O[i+1]=c at*;obtain⟨c1,c2⟩:=c;simp only at g o;generalize zf (O.take (i+1)) c1=k at*;(conv=>whnf);refine⟨d8,d8,?_⟩;(conv=>whnf);refine⟨_,hg,?_⟩;(conv=>whnf);refine⟨by show(0:Int)<=((i+1:Nat):Int);omega,by show((i+1:Nat):Int)<=(O.length:Int);omega,?_⟩;refine aH o ?_;refine zx (b:=decide (k>=0)) (λI=>?_) (λI=>?_)
     .rw[I]at g;have g:dupL [] O=true:=g;rw[g];exact⟨rfl,rfl⟩
     rw[I]at g;have g:dupL [] O=rest:=g;(conv=>whnf);refine⟨j,g,ze ?_⟩;(conv=>whnf);rw[wi];rfl
    have J:O.length<=i+1:=d9
    rw[aD J]at g;have g:dupL [] O=false:=g;rw[g];refine zj (b:=decide ((O.length:Int)>32)) (λh5=>?_) (λh5=>?_)
    .rw[h5];exact⟨rfl,rfl⟩
    rw[h5];(conv=>whnf);refine⟨rfl,?_⟩;show Res.mk (.tup [.c (.d (.sl ((zl O).take O.length))),.c (int 0)]) []=_;rw[<-z8,aO];rfl
  (conv=>whnf);refine azw eo nm v1 v2 v3 ks aa p ab ac sn tb cols tc af R ⟨_,jK 20 601664 128 2 _ _ d8 rfl rfl,?_⟩ ?_
  ·(conv=>whnf);unfold tjS;rw[z8,z8];rfl
  unfold xM tjS jfb;have an:(cols++wY p tc).length<=2000000:=by grind[wY]
  clear R af U;generalize cols++wY p tc=O at*;(conv=>whnf);refine yy (P:=Pg) (f:=T8.f) (body:=(zL.l 4)) O.length (λi=>⟨[(20,cV (.own 128 2 O.length)),(130,cV (.own 128 2 O.length)),(131,zm O.length),(132,zm i)],[(128,.arr 2 (zl O) false)]⟩) (λi=>dupL [] O=dupL (O.take i) (O.drop i)) ⟨rfl,ze ?_⟩ ?_
  .exact rfl
  intro i hi g;cases i with
  |zero=>
   refine zj (b:=decide ((0:Nat)<(O.length:Int))) (λh1=>?_) (λh1=>?_)
   .have j:0<O.length:=dW
    rw[zt j]at g;simp only[dupL]at g;rw[<-zJ j]at g;have hg:=xJ j;have wi:=zB j d8;have o:=xQ (O.take (0)) O[0].name;have ht:zl (O.take (0))=(zl O).take (0):=by grind[zl]
    rw[ht]at o;generalize ag:dupL (O.take (0+1)) (O.drop (0+1))=rest at*;generalize O[0]=c at*;obtain⟨c1,c2⟩:=c;simp only at g o;generalize zf (O.take (0)) c1=k at*;(conv=>whnf);refine⟨d8,d8,?_⟩;(conv=>whnf);refine⟨_,hg,?_⟩;(conv=>whnf);refine⟨by show(0:Int)<=((0:Nat):Int);omega,by show((0:Nat):Int)<=(O.length:Int);omega,?_⟩;refine aH o ?_;refine zx (b:=decide (k>=0)) (λI=>?_) (λI=>?_)
    .rw[I]at g;have g:dupL [] O=true:=g;rw[g];exact⟨rfl,rfl⟩
    rw[I]at g;have g:dupL [] O=rest:=g;(conv=>whnf);refine⟨j,g,ze ?_⟩;(conv=>whnf);rw[wi];rfl
   have J:O.length<=0:=d9
   rw[aD J]at g;have g:dupL [] O=false:=g;rw[g];refine zj (b:=decide ((O.length:Int)>32)) (λh5=>?_) (λh5=>?_)
   .grind
   rw[h5];(conv=>whnf);refine⟨rfl,?_⟩;show Res.mk (.tup [.c (.d (.sl ((zl O).take O.length))),.c (int 0)]) []=_;rw[<-z8,aO];rfl
  |succ i=>
   refine zj (b:=decide ((i+1:Nat)<(O.length:Int))) (λh1=>?_) (λh1=>?_)
   .have j:i+1<O.length:=by have:=aF h1;omega
    rw[zt j]at g;simp only[dupL]at g;rw[<-zJ j]at g;have hg:=xJ j;have wi:=zB j d8;have o:=xQ (O.take (i+1)) O[i+1].name;have ht:zl (O.take (i+1))=(zl O).take (i+1):=by grind[zl,bF]
    rw[ht]at o;generalize ag:dupL (O.take (i+1+1)) (O.drop (i+1+1))=rest at*;generalize O[i+1]=c at*;obtain⟨c1,c2⟩:=c;simp only at g o;generalize zf (O.take (i+1)) c1=k at*;(conv=>whnf);refine⟨d8,d8,?_⟩;(conv=>whnf);refine⟨_,hg,?_⟩;(conv=>whnf);refine⟨by show(0:Int)<=((i+1:Nat):Int);omega,by show((i+1:Nat):Int)<=(O.length:Int);omega,?_⟩;refine aH o ?_;refine zx (b:=decide (k>=0)) (λI=>?_) (λI=>?_)
    .rw[I]at g;have g:dupL [] O=true:=g;rw[g];exact⟨rfl,rfl⟩
    rw[I]at g;have g:dupL [] O=rest:=g;(conv=>whnf);refine⟨j,g,ze ?_⟩;(conv=>whnf);rw[wi];rfl
   have J:O.length<=i+1:=d9
   rw[aD J]at g;have g:dupL [] O=false:=g;rw[g];refine zj (b:=decide ((O.length:Int)>32)) (λh5=>?_) (λh5=>?_)
   .rw[h5];exact⟨rfl,rfl⟩
   rw[h5];(conv=>whnf);refine⟨rfl,?_⟩;show Res.mk (.tup [.c (.d (.sl ((zl O).take O.length))),.c (int 0)]) []=_;rw[<-z8,aO];rfl
theorem Ye(a b:am Val):dY abq [yu a,yu b] (rB (xp a b)):=by
 refine vI 0 dU rfl λj=>?_
 rw[zu]at j;unfold xp;refine Wa.s T8 ?_;rw[zu,zu];refine zx (λh=>?_) (λh=>?_)
 .rw[h];rfl
 rw[h];have P:=lens h;(conv=>whnf);rw[zu];refine Uc T8 (Wa.l 0) a.length (λi=>⟨[(0,.w (yu a)),(1,.w (yu b)),(12,zm a.length),(13,zm i)],[]⟩) (λi=>wQ xf a b=wQ xf (a.drop i) (b.drop i)) ?_
 intro i hi o;refine uT (λg=>?_) (λJ=>?_)
 .have p:i<b.length:=d8
  rw[zt g,zt p]at o;refine yb (xw g) ?_;refine yb (xw p) ?_;refine zj (b:=!xf a[i] b[i]) (λI=>?_) (λI=>?_)
  .simp only[wQ,I,aK]at o;exact aZ rB o.symm
  simp only[wQ,I,aG]at o;refine yW g o ?_;rw[zB g j];rfl
 rw[KN _ J P]at o;exact aZ rB o.symm
theorem air(l:am Val)(v:Val):dY abr [yu l,v.w] (rI (yp (xf v) 0 l)):=by
 refine vI 0 dU rfl λo=>?_
 rw[zu]at o;obtain⟨v1,v2,v3⟩:=v;refine Wb.s T8 ?_;rw[zu];refine Uc T8 (Wb.l 0) l.length (λi=>⟨[(0,.w (yu l)),(3,cV (.ptr 3 0)),(7,zm l.length),(8,zm i)],[(3,.box [int v1,int v2,str v3])]⟩) (λi=>yp (xf ⟨v1,v2,v3⟩) 0 l=yp (xf ⟨v1,v2,v3⟩) i (l.drop i)) ?_
 intro i hi j;refine uT (λg=>?_) (λI=>?_)
 .rw[zt g]at j;simp only[yp]at j;have J:=xw g;have P:=zB g o;generalize l[i]=x at*;obtain⟨R,U,x3⟩:=x;refine yb J ?_;refine zj (b:=xf ⟨v1,v2,v3⟩ ⟨R,U,x3⟩) (λp=>?_) (λp=>?_)
  .rw[p]at j;rw[j];exact rfl
  rw[p]at j;refine yW g j ?_;rw[P];rfl
 rw[aD I]at j;rw[j];exact rfl
theorem YK(l:am Val)(v:Val):dY KG [yu l,v.w] (rB (l.any (xf v))):=by have h:=air l v;have g:decide (yp (xf v) 0 l>=0)=l.any (xf v):=Qf (xf v) l 0;rw[<-g];refine KF.s T8 ?_;refine aH h ?_;rfl
theorem avb(a b:am Val):rowD a++rowD b=rowD (a++b):=by simp[rowD]
def VQ:am D:=[.lit (.int .i64 0),.lit (.int .i64 0),.lit (.string ⟨#[]⟩)]
theorem ajT(n:Nat)(j:n<=1000000):zA Pg acH [.c .nil,.c (int n)] [] (λr=>(n=0/\r=⟨.w (.c .nil),[]⟩)\/(0<n/\r=⟨.w (.c (.own 0 3 0)),[.arr 3 (aL n VQ) false]⟩)):=by
 refine qe T8 acE.ok dU dT ?_;have h0:aB.wrap ((0:Int)-0)=0:=yf d8 d8;have i:aB.wrap ((n:Int)-aB.wrap (0-0))=n:=by grind[yf]
 conv=>whnf
 rw[i];refine zx (λg=>?_) (λg=>?_)
 .have g:=aF g;refine⟨by simp[yh],by simp[yh],by simp[yh],?_⟩;refine⟨d8,by grind[yz],d8,?_⟩;refine qa ?_ (hA:=by simp[yh]) (hB:=by simp[yh]);exact .inr ⟨d8,rfl⟩
 have g:=aC g;exact .inl ⟨d8,rfl⟩
def cvC(xs ys:am Val):W:=.c (.d (.sl [[.sl (rowD xs)],[.sl (rowD ys)]]))
def cvS(xs ys:am Val)(a b:Int):S:=⟨[(0,.w (cvC xs ys)),(3,zm a),(9,.w (cvC xs ys)),(10,zm 2),(11,zm b)],[]⟩
def cvT(xs ys:am Val)(p n:Nat)(g:am (am D))(b:Int):S:=⟨[(6,cV (.own p 3 n)),(25,.w (cvC xs ys)),(26,zm 2),(27,zm b)],[(p,.arr 3 g false)]⟩
def cvF(xs ys:am Val)(x:Nat×am (am D)):S:=match x.1 with|0=>cvT xs ys 33 0 x.2 0|1=>cvT xs ys 33 xs.length x.2 1|_=>cvT xs ys 33 (xs++ys).length x.2 2
theorem aqV{xs ys:am Val}(r:xs.length<=100000)(I:ys.length<=100000){Q:E->S->Prop}{s:S}(g:am (am D))(h0:y8 s [6,25,26,27] (· =cvT xs ys 33 0 g 0))
 (o:Q (.exit 2) ⟨[(6,cV (.own 33 3 (xs++ys).length)),(25,.w (cvC xs ys)),(26,zm 2),(27,zm 2),(28,zZ (decide ((2:Int)<2)))],[(33,.arr 3 (rowD (xs++ys)) false)]⟩):
 zX (mwpR Pg T8.f (ud.l 1)) [6,25,26,27] Q s:=by
 have v1:aB.wrap ((0:Int)+1)=1:=yf d8 d8;have v2:aB.wrap ((1:Int)+1)=2:=yf d8 d8;refine yq (P:=Pg) (f:=T8.f) (body:=(ud.l 1)) (cvF xs ys) (λx=>2-x.1) (λx=>x.1=0\/(x.1=1/\x.2=rowD xs)\/(x.1=2/\x.2=rowD (xs++ys))) ⟨(0,g),.inl rfl,h0⟩ ?_;rintro⟨i,g⟩ p;have j:i=0\/(i=1/\g=rowD xs)\/(i=2/\g=rowD (xs++ys)):=p;rcases j with rfl|⟨rfl,j⟩|⟨rfl,j⟩
 .refine vt ?_;refine⟨QO xs,by grind[yz,zu],by grind[zu],?_⟩;(conv=>whnf);refine⟨(1,g.take 0++rowD xs),⟨.inr (.inl ⟨rfl,dT⟩),d9⟩,ze ?_⟩;rw[v1,Nat.zero_add,zu];rfl
 .refine vt ?_;refine⟨QO ys,by grind[yz,zu],by grind[zu],?_⟩;refine⟨(2,g.take xs.length++rowD ys),⟨.inr (.inr ⟨rfl,by grind[zu,avb]⟩),d9⟩,ze ?_⟩;rw[v2,zu,<-aE];rfl
 (conv=>whnf);subst j;exact o
theorem vH(xs ys:am Val)(g:xs.length<=100000)(j:ys.length<=100000):
 dY aaj [cvC xs ys] ⟨.w (.c (.own 0 3 (xs++ys).length)),[.arr 3 (rowD (xs++ys)) false]⟩:=by
 refine yA T8 ud.ok dU ?_;have p:aB.wrap ((0:Int)+((rowD xs).length:Nat))=((xs.length:Nat):Int):=by grind[zu,yf]
 have I:aB.wrap (((xs.length:Nat):Int)+((rowD ys).length:Nat))=((xs.length+ys.length:Nat):Int):=by grind[zu,yf]
 refine Uc T8 (ud.l 0) 2 (λi=>match i with|0=>cvS xs ys 0 0|1=>cvS xs ys xs.length 1|_=>cvS xs ys ((xs.length+ys.length:Nat):Int) 2) (λ_=>True) ?_
 intro i hi _;obtain rfl|rfl|rfl:i=0\/i=1\/i=2:=d8
 .refine vt ?_;rw[p];refine⟨d8,trivial,ze ?_⟩;rfl
 .refine vt ?_;rw[I];refine⟨d8,trivial,ze ?_⟩;rfl
 (conv=>whnf);refine zA.mono (ajT (xs.length+ys.length) d8) ?_;rintro r (⟨o,rfl⟩|⟨o,rfl⟩)
 ·(conv=>whnf);refine aqV g j [] ⟨_,ya 6 33 3 d8 d8 rfl,?_⟩ ?_
  .exact rfl
  exact rfl
 (conv=>whnf);refine aqV g j (aL (xs.length+ys.length) VQ) ⟨_,jK 6 600384 33 3 0 _ d8 rfl rfl,?_⟩ ?_
 .exact rfl
 exact rfl
theorem af0(s:S)(p:Nat):Za s (s.withPl (va s.pl p)):=λ_ _ ι _ _ hr=>⟨ι,hr.freeze p⟩
def oth(g:am ByteArray):Nat->am Col->am Int
 |_,[]=> []
 |i,c::r=>(bif !hasB g c.name then [(i:Int)]else [])++oth g (i+1) r
theorem aeY(g:am ByteArray):∀(l:am Col) (i:Nat),∀k∈oth g i l,(i:Int)<=k/\k<i+l.length
 |[],_,k,h=>by cases h
 |c::r,i,k,h=>by
  simp only[oth,List.mem_append]at h;rcases h with h|h
  .cases j:(!hasB g c.name)
   .grind
   rw[j,aK,bT]at h;simp;omega
  have:=aeY g r (i+1) k h<;>grind
def wD(x:am Val)(key:am Val)(right g:am Int)(ys:am (am Val)):am (am Val):=(ys.filter λy=>xp key (zn y right)).map λy=>x++zn y g
def kX(left right g:am Int)(ys:am (am Val))(x:am Val):am (am Val):=bif (zn x left).any (xf zw)then []else wD x (zn x left) right g ys
def xO(left right g:am Int)(xs ys:am (am Val)):am (am Val):=xs.flatMap (kX left right g ys)
theorem akQ(x key:am Val)(right g:am Int)(ys:am (am Val)):(wD x key right g ys).length<=ys.length:=by grind[wD]
theorem axf(left right g:am Int)(ys:am (am Val))(x:am Val):(kX left right g ys x).length<=ys.length:=by unfold kX;cases(zn x left).any (xf zw)<;>simp_all[akQ]
theorem adq(left right g:am Int)(ys:am (am Val)):∀xs,(xO left right g xs ys).length<=xs.length*ys.length
 |[]=>by simp[xO]
 |x::r=>by have j:=axf left right g ys x;have i:=adq left right g ys r;simp only[xO,List.flatMap_cons,aE,bL]at i⊢;rw[Nat.add_mul];omega
def UN(o:am Col)(br:am (am Val))(left right g:am Int)(l:am (am Val))(i:Nat)(x key:am Val)(j:Nat)(out:am (am Val)):S:=
 ⟨[(4,cV (.ptr 4 0)),(8,.w (.c (.d (.sl (zh left))))),(9,.w (.c (.d (.sl (zh right))))),(10,cV (.own 41 1 g.length)),(13,cV (.own 80 1 out.length)),(15,.w (yu x)),(16,.w (yu key)),(44,.w (.c (.d (.sl (zg l))))),(45,zm l.length),(46,zm i),(57,.w (.c (.d (.sl (zg br))))),(58,zm br.length),(59,zm j)],
 [(4,.box [.d (.sl (zl o)),.d (.sl (zg br))]),(41,.arr 1 (zh g) true),(80,.arr 1 (zg out) false)]⟩
theorem aCk{Q:E->S->Prop}{s:S}(bc:am Col)(br:am (am Val))(left right g:am Int)(ar:am (am Val))(i:Nat)(x key:am Val)(out:am (am Val))
 (ag:out.length+br.length<=20000) (aj:right.length<=100000) (ai:g.length<=100000) (af:x.length<=100000) (hr:∀y∈br,zS y.length right) (ho:∀y∈br,zS y.length g)
 (h0:y8 s [4,8,9,10,13,15,16,44,45,46,57,58,59] (· =UN bc br left right g ar i x key 0 out))
 (hQ:Q (.exit 4) (xM (UN bc br left right g ar i x key br.length (out++wD x key right g br)) 60 (zZ (decide ((br.length:Int)<br.length))))):
 zX (mwpR Pg T8.f (yQ.l 1)) [4,8,9,10,13,15,16,44,45,46,57,58,59] Q s:=by
 refine yy (P:=Pg) (f:=T8.f) (body:=(yQ.l 1)) br.length (λj=>UN bc br left right g ar i x key j (out++wD x key right g (br.take j))) (λ_=>True) ⟨trivial,?_⟩ ?_
 .grind[wD]
 intro j hj _;have ah:(out++wD x key right g (br.take j)).length<=out.length+j:=by grind[akQ]
 have p:∀h:j<br.length,out++wD x key right g (br.take (j+1))=(out++wD x key right g (br.take j))++(bif xp key (zn br[j] right)then [x++zn br[j] g]else []):=λh=>by grind[wD,ZP]
 have J:j=br.length->out++wD x key right g br=out++wD x key right g (br.take j):=λh=>d9
 show mwpR Pg T8.f (yQ.l 1) _ (UN bc br left right g ar i x key j (out++wD x key right g (br.take j)));generalize out++wD x key right g (br.take j)=T at*;have ad:(zg T).take T.length=zg T:=by grind[zy]
 have ae:(zh g).take g.length=zh g:=by grind[zE]
 unfold UN;refine rgE (λo=>?_) (λR=>?_)
 .have hg:=yS o;have p:=p o;have ab:=Qr br[j] right d8 (hr _ (aN o));have U:=Qr br[j] g d8 (ho _ (aN o));have heq:=Ye key (zn br[j] right);have aa:=vH x (zn br[j] g) af (by grind[zn]);have wi:=zB o d8;have I:((T.length:Int)==20000)=false:=dX
  rw[<-ae]at U;generalize br[j]=y at*;generalize xp key (zn y right)=b at*;refine yb hg ?_;refine aH ab ?_;refine aH heq ?_;cases b with
  |true=>
   have ac:(rowD (x++zn y g)).take (x++zn y g).length=rowD (x++zn y g):=by grind[zu]
   refine zj (λr=>?_) (λr=>?_)
   .have r:((T.length:Int)==20000)=true:=r;rw[I]at r;cases r
   refine aH U ?_;refine aH aa ?_;refine qr ?_;refine yW o trivial ?_;rw[wi,ad,ac,p,xy,aE];rfl
  |false=>
   rw[aG,aT]at p;refine yW o trivial ?_;rw[wi,p];rfl
 rw[J R]at hQ;subst R;exact hQ
def jnA(l:am Col)(o:am (am Val))(p:am ByteArray)(j:am Col)(br:am (am Val))(left right:am Int)(i:Nat)(g:am Int):S:=
 ⟨[(2,.w (.c (.d (.sl (zp p))))),(3,cV (.ptr 3 0)),(4,cV (.ptr 4 0)),(8,.w (.c (.d (.sl (zh left))))),(9,.w (.c (.d (.sl (zh right))))),(10,cV (.own 41 1 g.length)),(26,.w (.c (.d (.sl (zl j))))),(27,zm j.length),(28,zm i)],
 [(3,.box [.d (.sl (zl l)),.d (.sl (zg o))]),(4,.box [.d (.sl (zl j)),.d (.sl (zg br))]),(41,.arr 1 (zh g) false)]⟩
def jnB(l:am Col)(br:am (am Val))(left right g:am Int)(j:am (am Val))(i:Nat)(out:am (am Val)):S:=
 ⟨[(4,cV (.ptr 4 0)),(8,.w (.c (.d (.sl (zh left))))),(9,.w (.c (.d (.sl (zh right))))),(10,cV (.own 41 1 g.length)),(13,cV (.own 80 1 out.length)),(44,.w (.c (.d (.sl (zg j))))),(45,zm j.length),(46,zm i)],
 [(4,.box [.d (.sl (zl l)),.d (.sl (zg br))]),(41,.arr 1 (zh g) true),(80,.arr 1 (zg out) false)]⟩
theorem aqt(R:am Col)(g:am (am Val))(j:am Col)(br:am (am Val))(o:am ByteArray)(a2:o.length<=100000)(az:j.length<=100000)
 (aw:g.length*br.length<=20000) (ay:g.length<=1000000) (ai:∀x∈g,x.length=R.length) (av:R.length<=100000) (aj:∀y∈br,y.length=j.length) (a0:zS R.length (zi R o)) (a3:zS j.length (zi j o)):
 Sat Pg Y7 [.agg [.d (.sl (zl R)),.d (.sl (zg g))],.agg [.d (.sl (zl j)),.d (.sl (zg br))],.c (.d (.sl (zp o)))]
  (λr=>r=⟨.tup [.c (.d (.sl (zg (xO (zi R o) (zi j o) (oth o 0 j) g br)))),.c (bool true)],[]⟩):=by
 have al:=Wy R (.sl (zg g)) o d8;have an:=Wy j (.sl (zg br)) o d8;have a1:(zi R o).length=o.length:=by simp[zi]
 have a4:(zi j o).length=o.length:=by simp[zi]
 have ah:=aeY o j 0;have ae:(oth o 0 j).length<=j.length:=by
  have gen:∀(l:am Col) (i:Nat),(oth o i l).length<=l.length:=by
   intro l;induction l with
   |nil=>intro i;exact aA _
   |cons c r ih=>
    grind[oth]
  grind
 generalize zi R o=left at*;generalize zi j o=right at*;refine zC ?_;refine yQ.s T8 ?_;refine aH al ?_;refine aH an ?_;rw[z8];refine yq (P:=Pg) (f:=T8.f) (body:=(yQ.l 0)) (λx:Nat×am Int=>jnA R g o j br left right x.1 x.2) (λx=>j.length-x.1) (λx=>x.1<=j.length/\x.2.length<=x.1/\oth o 0 j=x.2++oth o x.1 (j.drop x.1)) ⟨(0,[]),⟨aR _,aA _,rfl⟩,⟨_,ya 10 41 1 d8 d8 rfl,?_⟩⟩ ?_
 .exact rfl
 rintro⟨i,T⟩ hx;obtain⟨hi,ax,J⟩:i<=j.length/\T.length<=i/\oth o 0 j=T++oth o i (j.drop i):=hx;show mwpR Pg T8.f (yQ.l 0) _ (jnA R g o j br left right i T);have aq:(zh T).take T.length=zh T:=by grind[zE]
 unfold jnA;refine uT (λp=>?_) (λad=>?_)
 .rw[zt p]at J;simp only[oth]at J;have hg:=xJ p;have wi:=zB p d8;have af:=yk o j[i].name;generalize j[i]=c at*;obtain⟨c1,c2⟩:=c;simp only at J af;generalize hasB o c1=b at*;refine yb hg ?_;refine aH af ?_;cases b with
  |false=>
   have J:oth o 0 j=T++([(i:Int)]++oth o (i+1) (j.drop (i+1))):=J;refine qr ?_;refine⟨(i+1,T++[(i:Int)]),⟨⟨p,d9,d9⟩,d9⟩,ze ?_⟩;(conv=>whnf);rw[wi,aq,aE,<-vV];rfl
  |true=>
   have J:oth o 0 j=T++oth o (i+1) (j.drop (i+1)):=J;(conv=>whnf);refine⟨(i+1,T),⟨⟨p,d9,J⟩,d9⟩,ze ?_⟩;(conv=>whnf);rw[wi];rfl
 rw[aD ad]at J;have J:oth o 0 j=T:=by rw[J];exact aT _
 rw[J]at ah ae⊢;(conv=>whnf);rw[zy];refine yy (P:=Pg) (f:=T8.f) (body:=(yQ.l 2)) g.length (λk=>jnB j br left right T g k (xO left right T (g.take k) br)) (λ_=>True) ⟨trivial,⟨_,(af0 _ 41).trans (ya 13 80 1 d8 d8 rfl),?_⟩⟩ ?_
 .exact rfl
 intro k hk _;have I:∀h:k<g.length,xO left right T (g.take (k+1)) br=xO left right T (g.take k) br++kX left right T br g[k]:=λh=>by grind[xO,zJ]
 have ag:g.length<=k->xO left right T g br=xO left right T (g.take k) br:=λh=>d9
 have ab:k<g.length->(xO left right T (g.take k) br).length+br.length<=20000:=λh=>by
  have h1:=adq left right T br (g.take k);rw[bC,bB d8]at h1;have h2:(k+1)*br.length<=g.length*br.length:=aP _ h
  grind
 have aa:=λ(Q':E->S->Prop) (s':S) (x key:am Val)=>aCk (Q:=Q') (s:=s') j br left right T g k x key (xO left right T (g.take k) br)
 show mwpR Pg T8.f (yQ.l 2) _ (jnB j br left right T g k (xO left right T (g.take k) br));generalize xO left right T (g.take k) br=U at*;have au:(zg U).take U.length=zg U:=by grind[zy]
 refine uT (λp=>?_) (λad=>?_)
 .have hg:=yS p;have I:=I p;have ab:=ab p;have a5:=ai _ (aN p);have wi:=zB p d8;have ao:=Qr g[k] left d8 d9;have ak:=YK (zn g[k] left) zw;generalize g[k]=x at*;unfold kX at I;generalize zn x left=key at*;have aa:=λQ' s'=>aa Q' s' x key ab d8 d8 d8 (λy hy=>d9) (λy hy=>by rw[aj y hy];intro z hz;grind)
  generalize key.any (xf zw)=b at*;refine yb hg ?_;refine aH ao ?_;refine aH ak ?_;cases b with
  |true=>
   have I:xO left right T (g.take (k+1)) br=U:=by rw[I];exact aT _
   refine yW p trivial ?_;rw[wi,I];rfl
  |false=>
   have I:xO left right T (g.take (k+1)) br=U++wD x key right T br:=I;(conv=>whnf);refine aa _ _ (ze ?_) ?_
   ·(conv=>whnf);unfold UN;rw[zy];rfl
   refine yW p trivial ?_;rw[wi,I];rfl
 rw[ag ad];refine gJ ?_;show Res.mk (.tup [.c (.d (.sl ((zg U).take U.length))),.c (bool true)]) []=_;rw[au]
theorem ao3(d:am Nmd)(cols:am Col)(st:Stp)(i:st.op=5)(hs:st.sorts.length<=1000000)(g:cols.length<=1000000):dY zQ [.c (.d (.sl (zq d))),.c (.d (.sl (zl cols))),st.w] (bif st.err !=0 then Uf st.err else rCs cols):=by
 have I:=uV st hs;have hC:=vG cols g;generalize st.err=e at*;refine zC ?_;obtain⟨op,⟨P,R,⟨vk,vn,vs⟩,ks⟩,j,J,l,o,U,tb⟩:=st;subst i;cases p:(e !=0)with
 |true=>
  refine xq.s T8 ?_;refine aH I ?_;rw[p];exact⟨rfl,rfl⟩
 |false=>
  refine xq.s T8 ?_;refine aH I ?_;rw[p];refine aH hC ?_;exact⟨rfl,rfl⟩
theorem azp(a b:Int):zI false a b=min a b:=by show(if b<a then b else a)=_;omega
def rRT(l:am (am Val)):Res:=⟨.tup [.c (.d (.sl (zg l))),.c (bool true)],[]⟩
theorem aaF(d:am Nmd)(t:Tbl)(st:Stp)(g:st.op=3)(gs:am Gr)(o:dY K6 [.agg [.d (.sl (zl t.cols)),.d (.sl (zg t.rows))],.agg st.cs] (rC (.d (.sl (zg (gs.map (qy t.cols st.aggs))))))):dY vX [.c (.d (.sl (zq d))),t.w,.agg st.cs] (rRT (gs.map (qy t.cols st.aggs))):=by refine zC ?_;obtain⟨op,⟨I,J,⟨R,U,vs⟩,ks⟩,i,p,j,l,P,tb⟩:=st;subst g;refine xS.s T8 ?_;refine aH o ?_;exact⟨rfl,rfl⟩
theorem aaG(d:am Nmd)(t:Tbl)(st:Stp)(j:st.op=5)(U:0<=st.n):dY vX [.c (.d (.sl (zq d))),t.w,.agg st.cs] (rRT (t.rows.take (zI false st.n t.rows.length).toNat)):=by
 refine zC ?_;obtain⟨tc,g⟩:=t;obtain⟨op,⟨P,nm,⟨vk,vn,vs⟩,ks⟩,o,J,p,I,i,tb⟩:=st;simp only at*;subst j;refine xS.s T8 ?_;rw[zy];have R:=azp i g.length;have l:zg (g.take (zI false i g.length).toNat)=((zg g).drop 0).take ((zI false i g.length).toNat-0):=by grind[zg,bF]
 refine qa ?_ (hA:=by show(0:Int)<=zI false i g.length;omega) (hB:=by show zI false i g.length<=(g.length:Int);omega);exact⟨rfl,by unfold rRT;rw[l];rfl⟩
theorem acA(d:am Nmd)(t:Tbl)(st:Stp)(g:st.op=6)(b:Tbl)(p:zU st.table d=some b)(R:am (am Val))(I:dY Y7 [.agg [.d (.sl (zl t.cols)),.d (.sl (zg t.rows))],.agg [.d (.sl (zl b.cols)),.d (.sl (zg b.rows))],.c (.d (.sl (zp st.cols)))] (rRT R)):dY vX [.c (.d (.sl (zq d))),t.w,.agg st.cs] (rRT (R)):=by have o:=y4 d st.table;rw[p]at o;refine zC ?_;obtain⟨op,⟨P,U,⟨vk,vn,vs⟩,ks⟩,i,J,j,l,sn,tb⟩:=st;subst g;refine xS.s T8 ?_;refine aH o ?_;refine aH I ?_;exact⟨rfl,rfl⟩
theorem aqo(d:am Nmd)(t:Tbl)(st:Stp)(g:am Col)(R:Tbl)(p:yH d=0)(I:zH t=0)(P:dY zQ [.c (.d (.sl (zq d))),.c (.d (.sl (zl t.cols))),st.w] (rCs g))
 (J:dY wg [.c (.d (.sl (zq d))),t.w,.agg st.cs,.c (.d (.sl (zl g)))] (qY R 0)):
 dY vW [.c (.d (.sl (zq d))),t.w,st.w] (qY R 0):=by have o:=wt d;have hk:=qk t;rw[p]at o;rw[I]at hk;obtain⟨op,⟨eo,nm,⟨vk,vn,vs⟩,ks⟩,i,U,j,l,sn,tb⟩:=st;refine Yn.s T8 ?_;refine aH o ?_;refine aH hk ?_;refine aH P ?_;refine aH J ?_;rfl
theorem ad5(d:am Nmd)(t:Tbl)(st:Stp)(e:Int)(p:yH d=0)(I:zH t=0)(o:e≠0)(J:dY zQ [.c (.d (.sl (zq d))),.c (.d (.sl (zl t.cols))),st.w] (Uf e)):
 dY vW [.c (.d (.sl (zq d))),t.w,st.w] (rNT e):=by
 have l:=wt d;have hk:=qk t;rw[p]at l;rw[I]at hk;have o:(e !=0)=true:=d9
 obtain⟨op,⟨R,U,⟨vk,vn,vs⟩,ks⟩,g,P,i,j,sn,tb⟩:=st;refine Yn.s T8 ?_;refine aH l ?_;refine aH hk ?_;refine aH J ?_;rw[o];exact rfl
theorem Qu{s:S}(d:Nat)(c:C)(x:D)(i:am (Nat×Pl))(h:aget s.sl d=some (cV c))(r:toD s.pl c=some (x,i)):Za s ((s.withPl i).put (some d) (cV (.d x))):=by
 intro F N ι a w hr;obtain⟨y,j,l⟩:=hr.slots d _ h;obtain⟨g,p,o⟩:=Um hr (c:=c) (v:=y) l r;refine⟨ι,{g with slots:=λk v hv=>?_}⟩;have hv:aget (yN d (cV (.d x)) s.sl) k=some v:=hv;rw[yG]at hv;by_cases e:d=k
 .rw[aM e]at hv;cases hv;subst e;exact⟨y,j,o⟩
 rw[aI e]at hv;exact g.slots k v hv
def y9:ACode->ACode
 |.seq _ b=>b
 |x=>x
def sFrom:ByteArray:=⟨#[102,114,111,109]⟩
def sTo:ByteArray:=⟨#[116,111]⟩
theorem abR(g:FuncId)(cap:am D)(p:ByteArray->Bool)(hp:∀x:ByteArray,dY g [.c (str x),.c (.fp cap)] (rB (p x)))(l:am ByteArray)(R:l.length<=1000000):
 dY Z9 [.c (.d (.sl (zp l))),.c (.d (.fn g [cap]))] (rI (yp p 0 l)):=by
 refine yA T8 wR.ok dU ?_
 refine yy (P:=Pg) (f:=T8.f) (body:=(wR.l 0)) l.length (λi=>⟨[(0,.w (.c (.d (.sl (zp l))))),(1,.w (.c (.d (.fn g [cap])))),(7,zm (zp l).length),(8,zm i)],[]⟩)
  (λi=>yp p 0 l=yp p i (l.drop i)) ⟨rfl,ze ?_⟩ ?_
 .exact rfl
 intro i hi o;refine zj (λU=>?_) (λU=>?_)
 .have j:i<l.length:=by simp_all[zP]
  refine⟨d8,_,vh j,rfl,?_⟩;refine Sat.cal (hp l[i]) ?_;rw[zt j]at o;refine zj (λI=>?_) (λI=>?_)
  .simp only[yp,I,aK]at o;exact aZ rI o.symm
  simp only[yp,I,aG]at o;refine yW j o ?_;rw[zB j d8];rfl
 have J:l.length<=i:=by grind[zP]
 rw[aD J]at o;exact aZ rI o.symm
theorem Xp(g:FuncId)(cap:am D)(p:ByteArray->Bool)(j:∀x:ByteArray,dY g [.c (str x),.c (.fp cap)] (rB (p x)))(l:am ByteArray)(i:l.length<=1000000):
 dY Zm [.c (.d (.sl (zp l))),.c (.d (.fn g [cap]))] (rB (l.any p)):=by refine Ze.s T8 ?_;refine aH (abR g cap p j l i) ?_;exact aZ rB (Qf _ l 0)
theorem aec(x:ByteArray)(i j l o p I J P:D)(g:am ByteArray)(rest:am D):dY UR [.c (str x),.c (.fp (i::j::l::o::p::I::J::P:: .sl (zp g)::rest))] (rB (hasB g x)):=by refine aff.s T8 ?_;refine aH (yk g x) ?_;rfl
def colInt(cols:am Col)(s:ByteArray):Int:=bif decide (zf cols s<0)then 16 else bif (q9 cols (zf cols s)).t !=2 then 14 else 0
theorem VL(cols:am Col)(s:ByteArray):dY agz [.c (.d (.sl (zl cols))),.c (str s)] (rI (colInt cols s)):=by
 have p:=xQ cols s;have i:=wI cols s;have l:=λh=>QC (i h).1 (i h).2
 unfold colInt;generalize zf cols s=k at*;refine agi.s T8 ?_;refine aH p ?_;refine zx (b:=decide (k<0)) (λg=>?_) (λg=>?_)
 .rw[g];exact rfl
 rw[g];have l:=l (aC g);have i:=i (aC g);generalize q9 cols k=c at*;obtain⟨I,o⟩:=c;refine yb l ?_ (hA:=i.1);refine zj (b:=o !=2) (λj=>?_) (λj=>?_)
 .simp only[j];exact rfl
 simp only[j];exact rfl
def intErr(cols:am Col):am ByteArray->Int
 |[]=>0
 |s::r=>bif colInt cols s !=0 then colInt cols s else intErr cols r
def keepS(g cs:am ByteArray)(l:am Col):am Col:=l.filter λc=>!hasB cs c.name&&!hasB g c.name
def asC(i:am ByteArray)(cols g:am Col)(cs:am ByteArray):Res:=
 bif jnErr cols g cs !=0 then Uf (jnErr cols g cs)else bif intErr cols i !=0 then Uf (intErr cols i)else bif intErr g i !=0 then Uf (intErr g i)else
 bif dupL [] (cols++keepS i cs g)then Uf 4 else bif decide (((cols++keepS i cs g).length:Int)>32)then Uf 7 else rCs (cols++keepS i cs g)
def asB(i:am ByteArray)(cols g:am Col)(cs:am ByteArray):Res:=bif i.any (hasB cs)then Uf 4 else asC i cols g cs
def ajn(g:am ByteArray)(d:am Nmd)(cols:am Col)(cs:am ByteArray)(tb:ByteArray):Res:=match zU tb d with
 |none=>Uf 17
 |some t=>asB g cols t.cols cs
def Uy(op:Int)(o:Int)(p:ByteArray)(v1 v2:Int)(v3:ByteArray)(ks:am Ex)(g:am Itm)(l:am ByteArray)(i:am Agg)(j:am Srt)(r:Int)(tb:ByteArray):Pl:=
 .fbox [.lit (.int .i64 op),.lit (.int .i64 o),.lit (.string p),.lit (.int .i64 v1),.lit (.int .i64 v2),.lit (.string v3),.sl (exsD ks),.sl (yP g),.sl (zp l),.sl (qv i),.sl (xz j),.lit (.int .i64 r),.lit (.string tb)]
def ab0(op:Int)(P:am ByteArray)(r:Int)(I:ByteArray)(v1 v2:Int)(v3:ByteArray)(ks:am Ex)(g:am Itm)(p:am ByteArray)(j:am Agg)(l:am Srt)(J:Int)(tb:ByteArray)(tc:am Col)(i:Nat)(o:am Col):S:=
 ⟨[(5,cV (.ptr 5 0)),(10,.w (.c (.d (.sl (zp P))))),(20,cV (.own 128 2 o.length)),(106,.w (.c (.d (.sl (zl tc))))),(107,zm tc.length),(108,zm i)],[(5,Uy op r I v1 v2 v3 ks g p j l J tb),(128,.arr 2 (zl o) false)]⟩
theorem av4{Q:E->S->Prop}{s:S}(op:Int)(I:am ByteArray)(eo:Int)(nm:ByteArray)(v1 v2:Int)(v3:ByteArray)(ks:am Ex)(o:am Itm)(g:am ByteArray)(p:am Agg)(r:am Srt)(sn:Int)(tb:ByteArray)(cols tc:am Col)(ae:cols.length<=1000000)(af:tc.length<=1000000)
 (h0:y8 s [5,10,20,106,107,108] (· =ab0 op I eo nm v1 v2 v3 ks o g p r sn tb tc 0 cols))
 (hQ:Q (.exit 8) (xM (ab0 op I eo nm v1 v2 v3 ks o g p r sn tb tc tc.length (cols++keepS I g tc)) 109 (zZ (decide ((tc.length:Int)<tc.length))))):
 zX (mwpR Pg T8.f (zL.l 3)) [5,10,20,106,107,108] Q s:=by
 refine yy (P:=Pg) (f:=T8.f) (body:=(zL.l 3)) tc.length (λi=>ab0 op I eo nm v1 v2 v3 ks o g p r sn tb tc i (cols++keepS I g (tc.take i))) (λ_=>True) ⟨trivial,?_⟩ ?_
 .grind[keepS]
 intro i hi _;have ad:(cols++keepS I g (tc.take i)).length<=1000000+i:=by grind[keepS]
 have j:∀h:i<tc.length,cols++keepS I g (tc.take (i+1))=(cols++keepS I g (tc.take i))++(bif !hasB g tc[i].name&&!hasB I tc[i].name then [tc[i]]else []):=λh=>by grind[keepS,ZP]
 have R:i=tc.length->cols++keepS I g tc=cols++keepS I g (tc.take i):=λh=>d9
 show mwpR Pg T8.f (zL.l 3) _ (ab0 op I eo nm v1 v2 v3 ks o g p r sn tb tc i (cols++keepS I g (tc.take i)));generalize cols++keepS I g (tc.take i)=T at*;have ac:(zl T).take T.length=zl T:=by grind[z8]
 unfold ab0 Uy;refine rgE (λJ=>?_) (λU=>?_)
 .have hg:=xJ J;have j:=j J;have ab:=yk g tc[i].name;have aa:=yk I tc[i].name;have wi:=zB J d8;generalize tc[i]=c at*;obtain⟨c1,c2⟩:=c;simp only at j ab aa;generalize hasB g c1=b at*;generalize hasB I c1=b2 at*;refine yb hg ?_;refine aH ab ?_;refine zx (b:=!b) (λh2=>?_) (λh2=>?_)
  .rw[h2,bG]at j;refine aH aa ?_;refine zx (b:=!b2) (λh3=>?_) (λh3=>?_)
   .rw[h3,aK]at j;refine qr ?_;refine yW J trivial ?_;rw[wi,ac,j,aE];simp only[zl,aX];rfl
   rw[h3,aG,aT]at j;refine yW J trivial ?_;rw[wi,j];rfl
  rw[h2,bS,aG,aT]at j;refine yW J trivial ?_;rw[wi,j];rfl
 rw[R U]at hQ;subst U;exact hQ
noncomputable def tjRest:ACode:=y9 (y9 (y9 (y9 (y9 (y9 (y9 zL.A.code))))))
def aBO(op:Int)(J:am ByteArray)(p:Int)(r:ByteArray)(v1 v2:Int)(v3:ByteArray)(ks:am Ex)(g:am Itm)(o:am ByteArray)(j:am Agg)(l:am Srt)(I:Int)(tb:ByteArray)(cols tc:am Col)(P:am (am Val))(i:Nat):S:=
 ⟨[(1,.w (.c (.d (.sl (zl cols))))),(5,cV (.ptr 5 0)),(8,cV (.ptr 8 0)),(10,.w (.c (.d (.sl (zp J))))),(83,.w (.c (.d (.sl [[.sl (zl cols)],[.sl (zl tc)]])))),(84,zm 2),(85,zm i)],[(5,Uy op p r v1 v2 v3 ks g o j l I tb),(8,.box [.d (.sl (zl tc)),.d (.sl (zg P))])]⟩
def atu(op:Int)(I:am ByteArray)(J:Int)(P:ByteArray)(v1 v2:Int)(v3:ByteArray)(ks:am Ex)(g:am Itm)(r:am ByteArray)(l:am Agg)(o:am Srt)(R:Int)(tb:ByteArray)(cols tc:am Col)(U:am (am Val))(p:am Col)(i j:Nat):S:=
 ⟨[(1,.w (.c (.d (.sl (zl cols))))),(5,cV (.ptr 5 0)),(8,cV (.ptr 8 0)),(10,.w (.c (.d (.sl (zp I))))),(16,.w (.c (.d (.sl (zl p))))),(83,.w (.c (.d (.sl [[.sl (zl cols)],[.sl (zl tc)]])))),(84,zm 2),(85,zm i),(89,.w (.c (.d (.sl (zp I))))),(90,zm I.length),(91,zm j)],[(5,Uy op J P v1 v2 v3 ks g r l o R tb),(8,.box [.d (.sl (zl tc)),.d (.sl (zg U))])]⟩
theorem arK{s:S}(op:Int)(I:am ByteArray)(ay:I.length<=1000)(eo:Int)(nm:ByteArray)(v1 v2:Int)(v3:ByteArray)(ks:am Ex)(R:am Itm)(p:am ByteArray)(U:am Agg)(aa:am Srt)(sn:Int)(tb:ByteArray)(cols tc:am Col)(tr:am (am Val))(ax:p.length<=1000000)(af:cols.length<=1000000)(ah:tc.length<=1000000)
 (h0:y8 s [1,5,8,10,46,47,48] (· =⟨[(1,.w (.c (.d (.sl (zl cols))))),(5,cV (.ptr 5 0)),(8,cV (.ptr 8 0)),(10,.w (.c (.d (.sl (zp I))))),(46,.w (.c (.d (.sl (zp p))))),(47,zm p.length),(48,zm (0:Nat))],[(5,Uy op eo nm v1 v2 v3 ks R p U aa sn tb),(8,.box [.d (.sl (zl tc)),.d (.sl (zg tr))])]⟩)):
 zX (mwpR Pg T8.f (zL.l 0)) [1,5,8,10,46,47,48] (ZF 1 (Wz (mwpR Pg T8.f tjRest) (ZZ zL.A.res [] (DQ (asC I cols tc p))))) s:=by
 unfold asC;refine yy (P:=Pg) (f:=T8.f) (body:=(zL.l 0)) p.length (λi=>⟨[(1,.w (.c (.d (.sl (zl cols))))),(5,cV (.ptr 5 0)),(8,cV (.ptr 8 0)),(10,.w (.c (.d (.sl (zp I))))),(46,.w (.c (.d (.sl (zp p))))),(47,zm p.length),(48,zm i)],[(5,Uy op eo nm v1 v2 v3 ks R p U aa sn tb),(8,.box [.d (.sl (zl tc)),.d (.sl (zg tr))])]⟩) (λi=>jnErr cols tc p=jnErr cols tc (p.drop i)) ⟨rfl,h0⟩ ?_
 intro i hi g;unfold Uy;refine uT (λo=>?_) (λab=>?_)
 .rw[zt o]at g;simp only[jnErr]at g;have hg:=vh o;have wi:=zB o d8;have aq:=xQ cols p[i];have ar:=xQ tc p[i];have ad:=wI cols p[i];have ae:=wI tc p[i];have aj:=λh=>QC (ad h).1 (ad h).2
  have ak:=λh=>QC (ae h).1 (ae h).2
  generalize p[i]=x at*;generalize zf cols x=k1 at*;generalize zf tc x=k2 at*;refine yb hg ?_;refine aH aq ?_;refine aH ar ?_;refine zx (b:=decide (k1<0)||decide (k2<0)) (λJ=>?_) (λJ=>?_)
  .rw[J]at g;have g:jnErr cols tc p=16:=g;simp only[g];exact⟨rfl,rfl⟩
  rw[J,aG]at g;rw[bO]at J;have n1:=aC J.1;have n2:=aC J.2;have ad:=ad n1;have ae:=ae n2;have aj:=aj n1;have ak:=ak n2;generalize q9 cols k1=c1 at*;generalize q9 tc k2=c2 at*;obtain⟨av,al⟩:=c1;obtain⟨aw,an⟩:=c2;simp only at g;refine yb aj ?_ (hA:=ad.1);refine yb ak ?_ (hA:=ae.1);refine zj (b:=al !=an) (λh3=>?_) (λh3=>?_)
  .rw[h3]at g;have g:jnErr cols tc p=14:=g;simp only[g];exact⟨rfl,rfl⟩
  rw[h3,aG]at g;refine yW o g ?_;rw[wi];rfl
 rw[aD ab]at g;have g:jnErr cols tc p=0:=g;simp only[g];clear g;(conv=>whnf);refine yy (P:=Pg) (f:=T8.f) (body:=(zL.l 2)) 2 (λi=>aBO op I eo nm v1 v2 v3 ks R p U aa sn tb cols tc tr i) (λi=>(1<=i->intErr cols I=0)/\(2<=i->intErr tc I=0)) ⟨⟨λh=>d8,λh=>d8⟩,⟨_,Qu 83 _ _ _ rfl rfl,?_⟩⟩ ?_
 .exact rfl
 intro i hi g;obtain⟨ac,ag⟩:(1<=i->intErr cols I=0)/\(2<=i->intErr tc I=0):=g;unfold aBO Uy
 match i,hi with
 |0,_=>
  (conv=>whnf);refine⟨dV,_,rfl,rfl,?_⟩;(conv=>whnf);rw[zP];refine yy (P:=Pg) (f:=T8.f) (body:=(zL.l 1)) I.length (λj=>atu op I eo nm v1 v2 v3 ks R p U aa sn tb cols tc tr cols 0 j) (λj=>intErr cols I=intErr cols (I.drop j)) ⟨rfl,ze ?_⟩ ?_
  .exact rfl
  intro j hj g;have g:intErr cols I=intErr cols (I.drop j):=g;unfold atu Uy;refine zj (λh1=>?_) (λh1=>?_)
  .have o:j<I.length:=dW
   rw[zt o]at g;simp only[intErr]at g;have hg:=vh o;have wj:=zB o d8;have hint:=VL cols I[j];generalize I[j]=x at*;generalize colInt cols x=c at*;(conv=>whnf);refine⟨d8,_,hg,rfl,?_⟩;refine aH hint ?_;refine zx (b:=c !=0) (λJ=>?_) (λJ=>?_)
   .rw[J,aK]at g;simp only[g,J];exact⟨rfl,rfl⟩
   rw[J,aG]at g;(conv=>whnf);refine⟨o,g,ze ?_⟩;(conv=>whnf);rw[wj];rfl
  have ab:I.length<=j:=d9
  rw[aD ab]at g;have g:intErr cols I=0:=g;(conv=>whnf);refine⟨dV,?_,ze ?_⟩
  .grind
  exact rfl
 |1,_=>
  have ac:=ac (aA _);(conv=>whnf);refine⟨dV,_,rfl,rfl,?_⟩;(conv=>whnf);rw[zP];refine yy (P:=Pg) (f:=T8.f) (body:=(zL.l 1)) I.length (λj=>atu op I eo nm v1 v2 v3 ks R p U aa sn tb cols tc tr tc 1 j) (λj=>intErr tc I=intErr tc (I.drop j)) ⟨rfl,ze ?_⟩ ?_
  .exact rfl
  intro j hj g;have g:intErr tc I=intErr tc (I.drop j):=g;unfold atu Uy;refine zj (λh1=>?_) (λh1=>?_)
  .have o:j<I.length:=dW
   rw[zt o]at g;simp only[intErr]at g;have hg:=vh o;have wj:=zB o d8;have hint:=VL tc I[j];generalize I[j]=x at*;generalize colInt tc x=c at*;(conv=>whnf);refine⟨d8,_,hg,rfl,?_⟩;refine aH hint ?_;refine zx (b:=c !=0) (λJ=>?_) (λJ=>?_)
   .rw[J,aK]at g;simp only[ac,g,J];exact⟨rfl,rfl⟩
   rw[J,aG]at g;(conv=>whnf);refine⟨o,g,ze ?_⟩;(conv=>whnf);rw[wj];rfl
  have ab:I.length<=j:=d9
  rw[aD ab]at g;have g:intErr tc I=0:=g;(conv=>whnf);refine⟨dV,?_,ze ?_⟩
  .grind
  exact rfl
 |2,_=>
  have ac:=ac d8;have ag:=ag d8;rw[ac,ag];clear ac ag;(conv=>whnf);refine aS (UV cols af) ?_;rintro _ (⟨au,rfl⟩|rfl)
  ·(conv=>whnf);refine av4 op I eo nm v1 v2 v3 ks R p U aa sn tb cols tc af ah ⟨_,ya 20 128 2 d8 d8 rfl,?_⟩ ?_
   ·(conv=>whnf);unfold ab0;rw[z8,au];rfl
   unfold xM ab0 Uy;have ao:(cols++keepS I p tc).length<=2000000:=by grind[keepS]
   clear ah af;generalize cols++keepS I p tc=O at*;(conv=>whnf);refine yy (P:=Pg) (f:=T8.f) (body:=(zL.l 4)) O.length (λi=>⟨[(20,cV (.own 128 2 O.length)),(130,cV (.own 128 2 O.length)),(131,zm O.length),(132,zm i)],[(128,.arr 2 (zl O) false)]⟩) (λi=>dupL [] O=dupL (O.take i) (O.drop i)) ⟨rfl,ze ?_⟩ ?_
   .exact rfl
   intro i hi g;cases i with
   |zero=>
    refine zj (b:=decide ((0:Nat)<(O.length:Int))) (λh1=>?_) (λh1=>?_)
    .have o:0<O.length:=dW
     rw[zt o]at g;simp only[dupL]at g;rw[<-zJ o]at g;have hg:=xJ o;have wi:=zB o d8;have r:=xQ (O.take (0)) O[0].name;have ht:zl (O.take (0))=(zl O).take (0):=by grind[zl]
     rw[ht]at r;generalize ai:dupL (O.take (0+1)) (O.drop (0+1))=rest at*;generalize O[0]=c at*;obtain⟨c1,c2⟩:=c;simp only at g r;generalize zf (O.take (0)) c1=k at*;(conv=>whnf);refine⟨d8,d8,?_⟩;(conv=>whnf);refine⟨_,hg,?_⟩;(conv=>whnf);refine⟨by show(0:Int)<=((0:Nat):Int);omega,by show((0:Nat):Int)<=(O.length:Int);omega,?_⟩;refine aH r ?_;refine zx (b:=decide (k>=0)) (λJ=>?_) (λJ=>?_)
     .rw[J]at g;have g:dupL [] O=true:=g;rw[g];exact⟨rfl,rfl⟩
     rw[J]at g;have g:dupL [] O=rest:=g;(conv=>whnf);refine⟨o,g,ze ?_⟩;(conv=>whnf);rw[wi];rfl
    have ab:O.length<=0:=d9
    rw[aD ab]at g;have g:dupL [] O=false:=g;rw[g];refine zj (b:=decide ((O.length:Int)>32)) (λh5=>?_) (λh5=>?_)
    .grind
    rw[h5];(conv=>whnf);refine⟨rfl,?_⟩;show Res.mk (.tup [.c (.d (.sl ((zl O).take O.length))),.c (int 0)]) []=_;rw[<-z8,aO];rfl
   |succ i=>
    refine zj (b:=decide ((i+1:Nat)<(O.length:Int))) (λh1=>?_) (λh1=>?_)
    .have o:i+1<O.length:=by have:=aF h1;omega
     rw[zt o]at g;simp only[dupL]at g;rw[<-zJ o]at g;have hg:=xJ o;have wi:=zB o d8;have r:=xQ (O.take (i+1)) O[i+1].name;have ht:zl (O.take (i+1))=(zl O).take (i+1):=by grind[zl,bF]
     rw[ht]at r;generalize ai:dupL (O.take (i+1+1)) (O.drop (i+1+1))=rest at*;generalize O[i+1]=c at*;obtain⟨c1,c2⟩:=c;simp only at g r;generalize zf (O.take (i+1)) c1=k at*;(conv=>whnf);refine⟨d8,d8,?_⟩;(conv=>whnf);refine⟨_,hg,?_⟩;(conv=>whnf);refine⟨by show(0:Int)<=((i+1:Nat):Int);omega,by show((i+1:Nat):Int)<=(O.length:Int);omega,?_⟩;refine aH r ?_;refine zx (b:=decide (k>=0)) (λJ=>?_) (λJ=>?_)
     .rw[J]at g;have g:dupL [] O=true:=g;rw[g];exact⟨rfl,rfl⟩
     rw[J]at g;have g:dupL [] O=rest:=g;(conv=>whnf);refine⟨o,g,ze ?_⟩;(conv=>whnf);rw[wi];rfl
    have ab:O.length<=i+1:=d9
    rw[aD ab]at g;have g:dupL [] O=false:=g;rw[g];refine zj (b:=decide ((O.length:Int)>32)) (λh5=>?_) (λh5=>?_)
    .rw[h5];exact⟨rfl,rfl⟩
    rw[h5];(conv=>whnf);refine⟨rfl,?_⟩;show Res.mk (.tup [.c (.d (.sl ((zl O).take O.length))),.c (int 0)]) []=_;rw[<-z8,aO];rfl
  (conv=>whnf);refine av4 op I eo nm v1 v2 v3 ks R p U aa sn tb cols tc af ah ⟨_,jK 20 601664 128 2 _ _ d8 rfl rfl,?_⟩ ?_
  ·(conv=>whnf);unfold ab0;rw[z8,z8];rfl
  unfold xM ab0 Uy;have ao:(cols++keepS I p tc).length<=2000000:=by grind[keepS]
  clear ah af;generalize cols++keepS I p tc=O at*;(conv=>whnf);refine yy (P:=Pg) (f:=T8.f) (body:=(zL.l 4)) O.length (λi=>⟨[(20,cV (.own 128 2 O.length)),(130,cV (.own 128 2 O.length)),(131,zm O.length),(132,zm i)],[(128,.arr 2 (zl O) false)]⟩) (λi=>dupL [] O=dupL (O.take i) (O.drop i)) ⟨rfl,ze ?_⟩ ?_
  .exact rfl
  intro i hi g;cases i with
  |zero=>
   refine zj (b:=decide ((0:Nat)<(O.length:Int))) (λh1=>?_) (λh1=>?_)
   .have o:0<O.length:=dW
    rw[zt o]at g;simp only[dupL]at g;rw[<-zJ o]at g;have hg:=xJ o;have wi:=zB o d8;have r:=xQ (O.take (0)) O[0].name;have ht:zl (O.take (0))=(zl O).take (0):=by grind[zl]
    rw[ht]at r;generalize ai:dupL (O.take (0+1)) (O.drop (0+1))=rest at*;generalize O[0]=c at*;obtain⟨c1,c2⟩:=c;simp only at g r;generalize zf (O.take (0)) c1=k at*;(conv=>whnf);refine⟨d8,d8,?_⟩;(conv=>whnf);refine⟨_,hg,?_⟩;(conv=>whnf);refine⟨by show(0:Int)<=((0:Nat):Int);omega,by show((0:Nat):Int)<=(O.length:Int);omega,?_⟩;refine aH r ?_;refine zx (b:=decide (k>=0)) (λJ=>?_) (λJ=>?_)
    .rw[J]at g;have g:dupL [] O=true:=g;rw[g];exact⟨rfl,rfl⟩
    rw[J]at g;have g:dupL [] O=rest:=g;(conv=>whnf);refine⟨o,g,ze ?_⟩;(conv=>whnf);rw[wi];rfl
   have ab:O.length<=0:=d9
   rw[aD ab]at g;have g:dupL [] O=false:=g;rw[g];refine zj (b:=decide ((O.length:Int)>32)) (λh5=>?_) (λh5=>?_)
   .grind
   rw[h5];(conv=>whnf);refine⟨rfl,?_⟩;show Res.mk (.tup [.c (.d (.sl ((zl O).take O.length))),.c (int 0)]) []=_;rw[<-z8,aO];rfl
  |succ i=>
   refine zj (b:=decide ((i+1:Nat)<(O.length:Int))) (λh1=>?_) (λh1=>?_)
   .have o:i+1<O.length:=by have:=aF h1;omega
    rw[zt o]at g;simp only[dupL]at g;rw[<-zJ o]at g;have hg:=xJ o;have wi:=zB o d8;have r:=xQ (O.take (i+1)) O[i+1].name;have ht:zl (O.take (i+1))=(zl O).take (i+1):=by grind[zl,bF]
    rw[ht]at r;generalize ai:dupL (O.take (i+1+1)) (O.drop (i+1+1))=rest at*;generalize O[i+1]=c at*;obtain⟨c1,c2⟩:=c;simp only at g r;generalize zf (O.take (i+1)) c1=k at*;(conv=>whnf);refine⟨d8,d8,?_⟩;(conv=>whnf);refine⟨_,hg,?_⟩;(conv=>whnf);refine⟨by show(0:Int)<=((i+1:Nat):Int);omega,by show((i+1:Nat):Int)<=(O.length:Int);omega,?_⟩;refine aH r ?_;refine zx (b:=decide (k>=0)) (λJ=>?_) (λJ=>?_)
    .rw[J]at g;have g:dupL [] O=true:=g;rw[g];exact⟨rfl,rfl⟩
    rw[J]at g;have g:dupL [] O=rest:=g;(conv=>whnf);refine⟨o,g,ze ?_⟩;(conv=>whnf);rw[wi];rfl
   have ab:O.length<=i+1:=d9
   rw[aD ab]at g;have g:dupL [] O=false:=g;rw[g];refine zj (b:=decide ((O.length:Int)>32)) (λh5=>?_) (λh5=>?_)
   .rw[h5];exact⟨rfl,rfl⟩
   rw[h5];(conv=>whnf);refine⟨rfl,?_⟩;show Res.mk (.tup [.c (.d (.sl ((zl O).take O.length))),.c (int 0)]) []=_;rw[<-z8,aO];rfl
theorem ao1(d:am Nmd)(cols:am Col)(st:Stp)(P:st.op=7)(J:st.cols.length<=1000000)(U:cols.length<=1000000)(j:∀t,zU st.table d=some t->t.cols.length<=1000000):
 dY uf [.c (.d (.sl (zq d))),.c (.d (.sl (zl cols))),.agg st.cs] (ajn [sFrom,sTo] d cols st.cols st.table):=by
 have i:=y4 d st.table;unfold ajn;obtain⟨op,⟨eo,nm,⟨v1,v2,v3⟩,ks⟩,o,l,p,I,sn,tb⟩:=st;simp only at P J j i;subst P;refine zC ?_;unfold Stp.cs v8;simp only;cases hf:zU tb d with
 |none=>
  rw[hf]at i;refine zL.s T8 ?_;refine aH i ?_;exact⟨rfl,rfl⟩
 |some t=>
  rw[hf]at i;have j:=j t hf;obtain⟨tc,tr⟩:=t;simp only at j;unfold asB;have R:=λg cap hp=>Xp g cap (hasB l) hp [sFrom,sTo] dT
  generalize aa:([sFrom,sTo]:am ByteArray).any (hasB l)=any at*;refine zL.s T8 ?_;refine aH i ?_;refine aH (R _ _ (λx=>aec x _ _ _ _ _ _ _ _ l _)) ?_;cases any with
  |true=>
   exact⟨rfl,rfl⟩
  |false=>
   (conv=>whnf);rw[zP];refine arK 7 [sFrom,sTo] dT eo nm v1 v2 v3 ks o l p I sn tb cols tc tr J U j ⟨_,Qu 10 _ _ _ rfl rfl,?_⟩;exact rfl
theorem ao2(d:am Nmd)(cols:am Col)(st:Stp)(P:st.op=8)(J:st.cols.length<=1000000)(U:cols.length<=1000000)(j:∀t,zU st.table d=some t->t.cols.length<=1000000):
 dY uf [.c (.d (.sl (zq d))),.c (.d (.sl (zl cols))),.agg st.cs] (ajn [sFrom] d cols st.cols st.table):=by
 have i:=y4 d st.table;unfold ajn;obtain⟨op,⟨eo,nm,⟨v1,v2,v3⟩,ks⟩,o,l,p,I,sn,tb⟩:=st;simp only at P J j i;subst P;refine zC ?_;unfold Stp.cs v8;simp only;cases hf:zU tb d with
 |none=>
  rw[hf]at i;refine zL.s T8 ?_;refine aH i ?_;exact⟨rfl,rfl⟩
 |some t=>
  rw[hf]at i;have j:=j t hf;obtain⟨tc,tr⟩:=t;simp only at j;unfold asB;have R:=λg cap hp=>Xp g cap (hasB l) hp [sFrom] dT
  generalize aa:([sFrom]:am ByteArray).any (hasB l)=any at*;refine zL.s T8 ?_;refine aH i ?_;refine aH (R _ _ (λx=>aec x _ _ _ _ _ _ _ _ l _)) ?_;cases any with
  |true=>
   exact⟨rfl,rfl⟩
  |false=>
   (conv=>whnf);rw[zP];refine arK 8 [sFrom] dT eo nm v1 v2 v3 ks o l p I sn tb cols tc tr J U j ⟨_,Qu 10 _ _ _ rfl rfl,?_⟩;exact rfl
def xH(x:Int×am Col):Res:=⟨.tup [.c (.d (.sl (zl x.2))),.c (int x.1)],[]⟩
def coT(cols:am Col)(cs:am ByteArray):Int×am Col:=
 bif hasB cs sFrom||hasB cs sTo then(4,[])else bif takeErr cols cs then(16,[])else bif colInt cols sFrom !=0 then(colInt cols sFrom,[])else bif colInt cols sTo !=0 then(colInt cols sTo,[])else(0,takeC cols cs++[⟨sFrom,2⟩,⟨sTo,2⟩])
theorem al6(cols:am Col)(st:Stp)(J:st.cols.length<=1000000):dY Ub [.c (.d (.sl (zl cols))),.agg st.cs] (xH (coT cols st.cols)):=by
 have g:=aei cols st.cols J;have ab:(takeC cols st.cols).length=st.cols.length:=by simp[takeC]
 have j:=yk st.cols sFrom;have o:=yk st.cols sTo;have I:=VL cols sFrom;have h4:=VL cols sTo;unfold coT;obtain⟨op,⟨eo,nm,⟨v1,v2,v3⟩,ks⟩,R,i,U,aa,sn,tb⟩:=st;simp only at*;generalize hasB i sFrom=b1 at*;generalize hasB i sTo=b2 at*;generalize colInt cols sFrom=c1 at*;generalize colInt cols sTo=c2 at*;generalize takeC cols i=T at*;generalize takeErr cols i=te at*;refine zC ?_;unfold Stp.cs v8;simp only;cases b1 with
 |true=>
  refine xF.s T8 ?_;refine aH j ?_;exact⟨rfl,rfl⟩
 |false=>
  cases b2 with
  |true=>
   refine xF.s T8 ?_;refine aH j ?_;refine aH o ?_;exact⟨rfl,rfl⟩
  |false=>
   cases te with
   |true=>
    refine xF.s T8 ?_;refine aH j ?_;refine aH o ?_;refine aH g ?_;exact⟨rfl,rfl⟩
   |false=>
    have ac:(zl T).take T.length=zl T:=by grind[z8]
    cases p:(c1 !=0)with
    |true=>
     refine xF.s T8 ?_;refine aH j ?_;refine aH o ?_;refine aH g ?_;refine wZ (P:=Pg) (f:=T8.f) (body:=(xF.l 0)) 3 ?_;refine qa ?_ (hA:=d8) (hB:=d9);refine⟨_,rfl,?_⟩;refine aH I ?_;rw[p];exact⟨rfl,rfl⟩
    |false=>
     cases e2:(c2 !=0)with
     |true=>
      refine xF.s T8 ?_;refine aH j ?_;refine aH o ?_;refine aH g ?_;refine wZ (P:=Pg) (f:=T8.f) (body:=(xF.l 0)) 3 ?_;refine qa ?_ (hA:=d8) (hB:=d9);refine⟨_,rfl,?_⟩;refine aH I ?_;rw[p];refine qr ?_;refine qa ?_ (hA:=dV) (hB:=by show(1:Int)<((2:Nat):Int);omega);refine⟨_,rfl,?_⟩;refine aH h4 ?_;rw[e2];exact⟨rfl,rfl⟩
     |false=>
      refine xF.s T8 ?_;refine aH j ?_;refine aH o ?_;refine aH g ?_;refine wZ (P:=Pg) (f:=T8.f) (body:=(xF.l 0)) 3 ?_;refine qa ?_ (hA:=d8) (hB:=d9);refine⟨_,rfl,?_⟩;refine aH I ?_;rw[p];refine qr ?_;refine qa ?_ (hA:=dV) (hB:=by show(1:Int)<((2:Nat):Int);omega);refine⟨_,rfl,?_⟩;refine aH h4 ?_;rw[e2];refine qr ?_;refine gJ ?_;refine Eq.trans (b:=⟨.tup [.c (.d (.sl ((((((zl T).take T.length)++[Col.ds ⟨sFrom,2⟩]).take (T.length+1))++[Col.ds ⟨sTo,2⟩]).take (T.length+1+1)))),.c (int 0)],[]⟩) rfl ?_;simp_all[zl,bA,xH]
def uF(cols:am Col):am Itm->Int×am Col
 |[]=>(0,[])
 |x::r=>bif (x.e.ty cols).2 !=0 then((x.e.ty cols).2,[])else bif (x.e.ty cols).1==0 then(14,[])else bif (uF cols r).1 !=0 then((uF cols r).1,[])else(0,⟨x.nm,(x.e.ty cols).1⟩::(uF cols r).2)
theorem ao5(cols:am Col):∀l:am Itm,uF cols l=bif (uF cols l).1 !=0 then((uF cols l).1,[])else(0,(uF cols l).2)
 |[]=>rfl
 |x::r=>by
  simp only[uF];cases g:((x.e.ty cols).2 !=0)
  .cases j:((x.e.ty cols).1==0)
   .cases i:((uF cols r).1 !=0)
    .rfl
    simp only[aG,aK,i]
   rfl
  simp only[aK,g]
def seS(cols:am Col)(l:am Itm)(i:Nat)(g:am Col):S:=⟨[(0,.w (.c (.d (.sl (zl cols))))),(6,cV (.own 35 2 g.length)),(11,.w (.c (.d (.sl (yP l))))),(12,zm l.length),(13,zm i)],[(35,.arr 2 (zl g) false)]⟩
theorem aoX(cols:am Col)(l:am Itm)(he:∀x∈l,x.e.err=0)(hl:l.length<=1000000):dY US [.c (.d (.sl (zl cols))),.c (.d (.sl (yP l)))] (xH (uF cols l)):=by
 refine zC ?_;refine Xt.s T8 ?_;rw[vg];refine yq (P:=Pg) (f:=T8.f) (body:=(Xt.l 0)) (λx:Nat×am Col=>seS cols l x.1 x.2) (λx=>l.length-x.1) (λx=>x.1<=l.length/\x.2.length=x.1/\xH (uF cols l)=xH (bif (uF cols (l.drop x.1)).1 !=0 then((uF cols (l.drop x.1)).1,[])else(0,x.2++(uF cols (l.drop x.1)).2))) ⟨(0,[]),⟨aR _,rfl,?_⟩,⟨_,ya 6 35 2 d8 d8 rfl,?_⟩⟩ ?_
 .grind[ao5]
 .exact rfl
 rintro⟨i,A⟩ hx;obtain⟨hi,hA,g⟩:i<=l.length/\A.length=i/\xH (uF cols l)=xH (bif (uF cols (l.drop i)).1 !=0 then((uF cols (l.drop i)).1,[])else(0,A++(uF cols (l.drop i)).2)):=hx;have o:(zl A).take A.length=zl A:=by grind[z8]
 show mwpR Pg T8.f (Xt.l 0) _ (seS cols l i A);refine uT (λj=>?_) (λJ=>?_)
 .rw[zt j]at g;simp only[uF]at g;have hg:=V7 j;have wi:=zB j d8;have hN:=kE cols l[i].e (he _ (aN j));generalize l[i]=x at*;obtain⟨⟨U,nm,⟨vk,vn,vs⟩,ks⟩,s⟩:=x;generalize Ex.ty cols ⟨U,nm,⟨vk,vn,vs⟩,ks⟩=t at*;obtain⟨R,t2⟩:=t;refine yb hg ?_;refine aH hN ?_;refine zx (b:=t2 !=0) (λp=>?_) (λp=>?_)
  .rw[p]at g;simp only[aK,p]at g;rw[g];exact⟨rfl,rfl⟩
  rw[p,aG]at g;refine zj (b:=R==0) (λI=>?_) (λI=>?_)
  .rw[I]at g;rw[g];exact⟨rfl,rfl⟩
  rw[I,aG]at g;refine qr ?_;refine⟨(i+1,A++[⟨s,R⟩]),⟨⟨j,by simp[hA],?_⟩,d9⟩,ze ?_⟩
  .rw[g];cases h4:((uF cols (l.drop (i+1))).1 !=0)
   .simp_all
   simp only[h4,aK]
  (conv=>whnf);rw[wi,o];show _=seS cols l (i+1) (A++[⟨s,R⟩]);unfold seS;rw[aE];simp only[zl,aX];rfl
 rw[aD J]at g;have g:xH (uF cols l)=xH (0,A++[]):=g;rw[g,aT];refine gJ ?_;show Res.mk (.tup [.c (.d (.sl ((zl A).take A.length))),.c (int 0)]) []=_;rw[o];rfl
end
section
structure CmpOK{α:Type}(c:α->α->Int):Prop where
 refl:∀x,c x x=0
 anti:∀x y,c x y<0↔0<c y x
 trans:∀x y z,c x y<=0->c y z<=0->c x z<=0
namespace CmpOK
variable {α:Type}{c:α->α->Int}
theorem ge(h:CmpOK c){x y:α}:0<=c x y↔c y x<=0:=by have:=h.anti x y;omega
theorem zero(h:CmpOK c){x y:α}:c x y=0↔c y x=0:=by have:=h.anti x y;have:=h.anti y x;omega
theorem swo(h:CmpOK c):Go.Sort.SWO (λx y=>decide (c x y<0)):=by
 refine⟨λx=>by simp[h.refl],λx y z g i=>?_,λx y z g i=>?_⟩
 .have g:=aF g;have i:=aF i;refine cd ?_;have j:=h.trans x y z d8 d8;by_cases l:c x z=0
  .have o:=h.zero.1 l;have p:=h.trans y z x d8 d8;have:=(h.anti x y).1 g;omega
  omega
 have g:=aC g;have i:=aC i;refine bN ?_;have j:=h.trans z y x (h.ge.1 d8) (h.ge.1 d8);have:=h.ge.2 j;omega
theorem lt_of(h:CmpOK c){x y z:α}(i:c x y<0)(g:c y z<=0):c x z<0:=by
 have l:=h.trans x y z d8 g;by_cases j:c x z=0
 .have o:=h.zero.1 j;have p:=h.trans y z x g d8;have:=(h.anti x y).1 i;omega
 omega
theorem lt_of2(h:CmpOK c){x y z:α}(g:c x y<=0)(i:c y z<0):c x z<0:=by
 have l:=h.trans x y z g d8;by_cases j:c x z=0
 .have o:=h.zero.1 j;have p:=h.trans z x y d8 g;have:=(h.anti y z).1 i;omega
 omega
end CmpOK
theorem CmpOK.lex{α:Type}{c:α->α->Int}(h:CmpOK c):CmpOK (Zj c):=by
 refine⟨λx=>?_,λx y=>?_,λx y z=>?_⟩
 .induction x with
  |nil=>rfl
  |cons a r I=>simp only[Zj,h.refl];exact I
 .induction x generalizing y with
  |nil=>cases y<;>grind[Zj]
  |cons a r I=>
   cases y with
   |nil=>simp[Zj]
   |cons b s=>
    simp only[Zj];by_cases g:c a b=0
    .have i:=h.zero.1 g<;>simp_all
    have i:¬c b a=0:=λe=>g (h.zero.1 e)
    have l:(c a b !=0)=true:=d9
    have j:(c b a !=0)=true:=d9
    simp only[l,j,aK];exact h.anti a b
 induction x generalizing y z with
 |nil=>intro _ _;cases z<;>grind[Zj]
 |cons a r I=>
  intro g i;cases y with
  |nil=>grind[Zj]
  |cons b s=>
   cases z with
   |nil=>grind[Zj]
   |cons d t=>
    simp only[Zj]at g i⊢;by_cases g1:c a b=0
    .by_cases g2:c b d=0
     .simp only[g1,g2,cz,aG]at g i;have g3:c a d=0:=by have J:=h.trans a b d d8 d8;have i2:=h.trans d b a (by rw[h.zero.1 g2];simp_all) (by rw[h.zero.1 g1];simp_all);have:=h.ge.2 i2<;>grind
      simp only[g3,cz,aG]
      grind
     have j:(c b d !=0)=true:=d9
     simp only[j,aK]at i;have J:=h.lt_of2 (x:=a) (y:=b) (z:=d) d8 d8;have o:(c a d !=0)=true:=dX
     simp only[o,aK];omega
    have l:(c a b !=0)=true:=d9
    simp only[l,aK]at g;have p:c b d<=0:=by
     by_cases g2:c b d=0
     .omega
     have j:(c b d !=0)=true:=d9
     simp_all
    have J:=h.lt_of (x:=a) (y:=b) (z:=d) d8 p;have o:(c a d !=0)=true:=dX
    simp only[o,aK];omega
theorem aqR(a b:Int):yw a b=if a<b then-1 else if b<a then 1 else 0:=by grind[yw]
theorem W7:CmpOK yw:=by
 refine⟨λx=>?_,λx y=>?_,λx y z=>?_⟩<;>simp only[aqR]
 .simp
 .grind
 grind
theorem azQ:CmpOK kV:=by
 have key:∀x y,(QK x y=true/\QK y x=false/\zo x y=false/\kV x y= -1)\/(x=y/\kV x y=0)\/(QK x y=false/\QK y x=true/\zo x y=false/\kV x y=1):=by grind[az3,kV,beqS_false,auP]
 refine⟨λx=>?_,λx y=>?_,λx y z g i=>?_⟩
 .grind
 .grind
 grind[akK]
theorem CmpOK.by_key{α:Type}(key:α->Int)(c:Int->α->α->Int)(h:∀k,CmpOK (c k)):CmpOK (λx y=>bif key x !=key y then yw (key x) (key y)else c (key x) x y):=by
 have j:∀x y,(key x=key y/\(bif key x !=key y then yw (key x) (key y)else c (key x) x y)=c (key x) x y)\/(key x<key y/\(bif key x !=key y then yw (key x) (key y)else c (key x) x y)= -1)\/(key y<key x/\(bif key x !=key y then yw (key x) (key y)else c (key x) x y)=1):=by grind[aqR]
 refine⟨λx=>?_,λx y=>?_,λx y z o l=>?_⟩
 .rcases j x x with⟨_,e⟩|⟨e,_⟩|⟨e,_⟩
  .show(bif key x !=key x then yw (key x) (key x)else c (key x) x x)=0;rw[e,(h _).refl]
  .omega
  omega
 .show(bif key x !=key y then yw (key x) (key y)else c (key x) x y)<0↔0<(bif key y !=key x then yw (key y) (key x)else c (key y) y x);rcases j x y with⟨e,e'⟩|⟨e,e'⟩|⟨e,e'⟩<;>rcases j y x with⟨f,i⟩|⟨f,i⟩|⟨f,i⟩<;>rw[e',i]<;>try omega
  rw[<-e];exact(h _).anti x y
 show(bif key x !=key z then yw (key x) (key z)else c (key x) x z)<=0;have o:(bif key x !=key y then yw (key x) (key y)else c (key x) x y)<=0:=o;have l:(bif key y !=key z then yw (key y) (key z)else c (key y) y z)<=0:=l;rcases j x y with⟨e,e'⟩|⟨e,e'⟩|⟨e,e'⟩<;>rcases j y z with⟨f,i⟩|⟨f,i⟩|⟨f,i⟩<;>rcases j x z with⟨g,p⟩|⟨g,p⟩|⟨g,p⟩<;>rw[e']at o<;>rw[i]at l<;>rw[p]<;>try omega
 rw[<-e]at l;exact(h _).trans x y z o l
def ax2(k:Int)(a b:Val):Int:=bif k==3 then kV a.s b.s else bif k==1||k==2 then yw a.n b.n else 0
theorem CmpOK.on{α β:Type}{c:β->β->Int}(h:CmpOK c)(f:α->β):CmpOK (λx y=>c (f x) (f y)):=⟨λx=>h.refl _,λx y=>h.anti _ _,λx y z=>h.trans _ _ _⟩
theorem aAa(k:Int):CmpOK (ax2 k):=by
 unfold ax2;cases k==3
 .cases k==1||k==2
  .exact⟨λ_=>rfl,λ_ _=>dT,λ_ _ _ _ _=>dT⟩
  exact W7.on Val.n
 exact azQ.on Val.s
theorem ajF:CmpOK xV:=CmpOK.by_key Val.k ax2 aAa
theorem arp:CmpOK aCI:=ajF.lex
end
section
variable {α:Type}
structure PermW(a b:Nat)(l l':am α):Prop where
 len:l'.length=l.length
 perm:l'.Perm l
 out:∀i,i<a\/b<=i->l'[i]?=l[i]?
 mem:∀i x,a<=i->i<b->l'[i]?=some x->∃j,a<=j/\j<b/\l[j]?=some x
namespace PermW
theorem refl(a b:Nat)(l:am α):PermW a b l l:=⟨rfl,ck _,λ_ _=>rfl,λi _ g j o=>⟨i,g,j,o⟩⟩
theorem trans{a b:Nat}{l l' g:am α}(h:PermW a b l l')(k:PermW a b l' g):PermW a b l g:=
 ⟨k.len.trans h.len,k.perm.trans h.perm,λi hi=>(k.out i hi).trans (h.out i hi),λi x o p r=>by obtain⟨j,I,J,P⟩:=k.mem i x o p r;exact h.mem j x I J P⟩
theorem mono{a b g o:Nat}{l l':am α}(h:PermW a b l l')(J:g<=a)(P:b<=o):PermW g o l l':=
 ⟨h.len,h.perm,λi hi=>h.out i d8,λi x r I p=>by
  by_cases hi:i<a\/b<=i
  .exact⟨i,r,I,by rw[<-h.out i hi];exact p⟩
  obtain⟨j,R,U,j3⟩:=h.mem i x d8 d8 p
  grind⟩
end PermW
def WQ(l:am α)(i j:Nat)(x y:α):am α:=(l.set i y).set j x
theorem aAB(l:am α)(i j:Nat)(x y:α):(WQ l i j x y).length=l.length:=by simp[WQ]
theorem Jt{l:am α}{i j:Nat}{x y:α}(hi:l[i]?=some x)(o:l[j]?=some y)(k:Nat):
 (WQ l i j x y)[k]?=if k=j then some x else if k=i then some y else l[k]? :=by
 have g:i<l.length:=(am.getElem?_eq_some_iff.1 hi).1;have p:j<l.length:=(am.getElem?_eq_some_iff.1 o).1;simp only[WQ,am.getElem?_set,List.length_set];by_cases r:k=j
 .grind
 by_cases I:k=i<;>simp_all[Ne.symm]
theorem ay4{l:am α}{i j:Nat}{x y:α}(hi:l[i]?=some x)(p:l[j]?=some y):(WQ l i j x y).Perm l:=by obtain⟨g,rfl⟩:=am.getElem?_eq_some_iff.1 hi;obtain⟨o,rfl⟩:=am.getElem?_eq_some_iff.1 p;exact List.set_set_perm g o
theorem ats{l:am α}{i j a b:Nat}{x y:α}(hi:l[i]?=some x)(g:l[j]?=some y)(o:a<=i)(p:i<b)(r:a<=j)(I:j<b):PermW a b l (WQ l i j x y):=by
 refine⟨aAB ..,ay4 hi g,λk hk=>?_,λk z J P R=>?_⟩
 .rw[Jt hi g,aI d8,aI d8]
 grind[Jt]
variable (c:α->α->Int)
def yx(a b:Nat)(l:am α):Prop:=∀i j x y,a<=i->i<j->j<b->l[i]?=some x->l[j]?=some y->c x y<=0
def LeW(a b g o:Nat)(l:am α):Prop:=∀i j x y,a<=i->i<b->g<=j->j<o->l[i]?=some x->l[j]?=some y->c x y<=0
variable {c}
theorem yx.mono{a b g o:Nat}{l:am α}(h:yx c a b l)(p:a<=g)(r:o<=b):yx c g o l:=λi j x y I i2 i3=>h i j x y d8 i2 d8
theorem yx.same{a b:Nat}{l l':am α}(h:yx c a b l)(o:∀i,a<=i->i<b->l'[i]?=l[i]?):yx c a b l':=λi j x y g i2 i3 i4 i5=>h i j x y g i2 i3 d9 d9
theorem yx.glue{a m b:Nat}{l:am α}(p:yx c a m l)(r:yx c m b l)(I:LeW c a m m b l):yx c a b l:=by
 intro i j x y g i2 i3 i4 i5;by_cases h:j<m
 .exact p i j x y g i2 h i4 i5
 by_cases o:m<=i
 .exact r i j x y o i2 i3 i4 i5
 exact I i j x y g d8 d8 i3 i4 i5
theorem yx.one(a b:Nat)(l:am α)(h:b<=a+1):yx c a b l:=λi j x y g i2 i3=>d8
theorem LeW.perm{a m b:Nat}{l l':am α}(h:LeW c a m m b l)(g:PermW a m l l'):LeW c a m m b l':=by intro i j x y p i2 i3 i4 i5 o;obtain⟨k,r,I,J⟩:=g.mem i x p i2 i5;rw[g.out j d8]at o;exact h k j x y r I i3 i4 J o
theorem LeW.perm2{a m b:Nat}{l l':am α}(h:LeW c a m m b l)(g:PermW m b l l'):LeW c a m m b l':=by intro i j x y o i2 i3 i4 i5 p;obtain⟨k,r,I,J⟩:=g.mem j y i3 i4 p;rw[g.out i d8]at i5;exact h i k x y o i2 r I i5 J
theorem yx.le{a b i j:Nat}{l:am α}{x y:α}(r:CmpOK c)(h:yx c a b l)(I:a<=i)(i2:i<=j)(i3:j<b)(p:l[i]?=some x)(g:l[j]?=some y):c x y<=0:=by
 rcases b9 i j with o|o
 .exact h i j x y I o i3 p g
 obtain rfl:i=j:=d8
 rw[p]at g;cases g;rw[r.refl];simp_all
def kL(c:α->α->Int)(a i j:Nat)(l:am α):Prop:=∀p q x y,a<=p->p<q->q<=i->q≠j->l[p]?=some x->l[q]?=some y->c x y<=0
theorem kL.start{a i:Nat}{l:am α}(h:yx c a i l):kL c a i i l:=λp q x y g j o r=>h p q x y g j d8
theorem kL.step{a i j:Nat}{l:am α}{x y:α}(hc:CmpOK c)(h:kL c a i j l)(aa:a<j)(ab:j<=i)(J:l[j-1]?=some x)(R:l[j]?=some y)(ac:c y x<0):kL c a i (j-1) (WQ l j (j-1) y x):=by
 intro p q u v P h2 I h4 g o;rw[Jt R J]at g o;by_cases r:q=j
 .subst r;rw[aI d8,aM rfl]at o;cases o;split at g
  .grind
  rw[aI d8]at g;exact h p (q-1) u x P d8 d8 d8 g J
 rw[aI h4,aI r]at o;split at g
 .rename_i U;cases g;exact h j q y v d8 d8 I r R o
 split at g
 .rename_i U e3;cases g;exact h (j-1) q x v d8 d8 I r J o
 exact h p q u v P h2 I r g o
theorem kL.stop{a i j:Nat}{l:am α}(I:CmpOK c)(h:kL c a i j l)(aa:j<=i)(hs:j<=a\/∃x y,l[j-1]?=some x/\l[j]?=some y/\0<=c y x):yx c a (i+1) l:=by
 intro p q u v J U h3 o r;by_cases e:q=j
 .subst e;rcases hs with h'|⟨x,y,P,hy,g⟩
  .omega
  rw[hy]at r;cases r;by_cases R:p=q-1
  .subst R;rw[P]at o;cases o;exact I.ge.1 g
  exact I.trans _ _ _ (h p (q-1) u x J d8 d8 d8 o P) (I.ge.1 g)
 exact h p q u v J U d8 e o r
end
section
attribute [local irreducible] Sat zA zX
theorem uh{α:Type}{l:am α}{i:Nat}(h:i<l.length):∃x,l[i]?=some x:=⟨l[i],am.getElem?_eq_getElem h⟩
theorem amD{j:Nat}(h:0<j)(g:j<=9223372036854775807):aB.wrap ((j:Int)-1)=((j-1:Nat):Int):=by grind[yf]
section
variable {α:Type}
theorem azI(P R:am α)(x:α):(P++x::R)[P.length]?=some x:=dT
theorem azJ(P Q R:am α)(x y:α):(P++x::(Q++y::R))[P.length+1+Q.length]?=some y:=by
 have h:P++x::(Q++y::R)=(P++x::Q)++y::R:=dT
 have e:P.length+1+Q.length=(P++x::Q).length:=dX
 grind
theorem aAA(P Q R:am α)(x y:α):WQ (P++x::(Q++y::R)) P.length (P.length+1+Q.length) x y=P++y::(Q++x::R):=by grind[WQ]
def UZ(P X M Y S:am α)(i:Nat):am α:=P++(Y.take i++X.drop i)++M++(X.take i++Y.drop i)++S
theorem ay3(P X M Y S:am α):UZ P X M Y S 0=P++X++M++Y++S:=by simp[UZ]
theorem aAy(P X M Y S:am α)(h:X.length=Y.length):UZ P X M Y S X.length=P++Y++M++X++S:=by grind[UZ]
theorem aAz(P X M Y S:am α)(i:Nat)(h:X.length=Y.length)(hi:i<=X.length):(UZ P X M Y S i).length=(P++X++M++Y++S).length:=by simp[UZ];omega
theorem ay2(P X M Y S:am α)(i:Nat)(h:X.length=Y.length)(hi:i<X.length):∃x y,(UZ P X M Y S i)[P.length+i]?=some x/\(UZ P X M Y S i)[P.length+X.length+M.length+i]?=some y/\
 WQ (UZ P X M Y S i) (P.length+i) (P.length+X.length+M.length+i) x y=UZ P X M Y S (i+1):=by
 have g:i<Y.length:=d8
 have j:UZ P X M Y S i=(P++Y.take i)++X[i]::((X.drop (i+1)++M++X.take i)++Y[i]::(Y.drop (i+1)++S)):=by grind[UZ,zt]
 have l:(P++Y.take i).length=P.length+i:=dX
 have o:(P++Y.take i).length+1+(X.drop (i+1)++M++X.take i).length=P.length+X.length+M.length+i:=dX
 refine⟨X[i],Y[i],?_,?_,?_⟩
 .grind[azI]
 .grind[azJ]
 rw[j,<-o,<-l,aAA];unfold UZ;rw[bJ hi,bJ g];grind
end
end
section
variable {α:Type}{c:α->α->Int}
theorem aAs(r:CmpOK c){l l':am α}{a i b:Nat}{x:α}(hx:l[a]?=some x)(h1:a<i)(h2:i<=b)(hs:yx c (a+1) b l)
 (o:∀p,l'[p]?=if a<=p/\p<i-1 then l[p+1]? else if p=i-1 then l[a]? else l[p]?)
 (g1:i=a+1\/∃u,l[i-1]?=some u/\c u x<=0) (g2:i=b\/∃u,l[i]?=some u/\c x u<=0):yx c a b l':=by
 intro p q u v p1 p2 I g hv;rw[o]at g hv;by_cases R:a<=p/\p<i-1
 .rw[aM R]at g;by_cases U:a<=q/\q<i-1
  .rw[aM U]at hv;exact hs (p+1) (q+1) u v d8 d8 d8 g hv
  rw[aI U]at hv;by_cases j:q=i-1
  .rw[aM j,hx]at hv;cases hv;rcases g1 with g1|⟨w,J,P⟩
   .omega
   exact r.trans _ _ _ (hs.le r d8 (show p+1<=i-1 by omega) d8 g J) P
  rw[aI j]at hv;exact hs (p+1) q u v d8 d8 I g hv
 rw[aI R]at g;rw[aI d8]at hv;by_cases j:p=i-1
 .rw[aM j,hx]at g;cases g;rw[aI d8]at hv;rcases g2 with g2|⟨w,J,P⟩
  .omega
  exact r.trans _ _ _ P (hs.le r d8 (show i<=q by omega) I J hv)
 rw[aI j]at g;rw[aI d8]at hv;exact hs p q u v d8 p2 I g hv
theorem avG(o:CmpOK c){l l':am α}{a i m:Nat}{x:α}(hx:l[m]?=some x)(h1:a<=i)(h2:i<=m)(hs:yx c a m l)
 (j:∀p,l'[p]?=if i<p/\p<=m then l[p-1]? else if p=i then l[m]? else l[p]?)
 (g1:i=a\/∃u,l[i-1]?=some u/\c u x<=0) (g2:i=m\/∃u,l[i]?=some u/\c x u<=0):yx c a (m+1) l':=by
 intro p q u v p1 p2 p3 g hv;rw[j]at g hv;by_cases J:i<p/\p<=m
 .rw[aM J]at g;rw[aM d8]at hv;exact hs (p-1) (q-1) u v d8 d8 d8 g hv
 rw[aI J]at g;by_cases R:p=i
 .rw[aM R,hx]at g;cases g;rw[aM d8]at hv;rcases g2 with g2|⟨w,r,I⟩
  .omega
  exact o.trans _ _ _ I (hs.le o d8 (show i<=q-1 by omega) d8 r hv)
 rw[aI R]at g;by_cases P:i<q/\q<=m
 .rw[aM P]at hv;exact hs p (q-1) u v d8 d8 d8 g hv
 rw[aI P]at hv;by_cases U:q=i
 .rw[aM U,hx]at hv;cases hv;rcases g1 with g1|⟨w,r,I⟩
  .omega
  exact o.trans _ _ _ (hs.le o p1 (show p<=i-1 by omega) d8 g r) I
 rw[aI U]at hv;exact hs p q u v p1 p2 d8 g hv
def X8(s m e:Nat)(l g:am α):Prop:=∀p,g[p]?=if s<=p/\p<s+(e-m)then l[p+(m-s)]? else if s+(e-m)<=p/\p<e then l[p-(e-m)]? else l[p]?
theorem X8.same{s m e:Nat}{l:am α}(g:s<=m)(i:m<=e)(h:s=m\/m=e):X8 s m e l l:=by
 intro p;rcases h with rfl|rfl
 .split
  .simp_all
  simp_all[aI]
 rw[aI d8];split
 .simp_all
 rfl
theorem akX(o:CmpOK c){l J:am α}{a s m e b:Nat}(a1:a<=s)(a2:s<=m)(a3:m<=e)(a4:e<=b)(R:X8 s m e l J)(i:yx c a m l)(j:yx c m b l)
 (aa:s=a\/e=b\/∃x y,l[s-1]?=some x/\l[e]?=some y/\c x y<=0) (ab:s=m\/e=m\/∃x y,l[e-1]?=some x/\l[s]?=some y/\c x y<=0):
 yx c a s J/\yx c s (s+(e-m)) J/\yx c (s+(e-m)) e J/\yx c e b J/\LeW c a (s+(e-m)) (s+(e-m)) b J:=by
 refine⟨?_,?_,?_,?_,?_⟩
 .intro p q u v I P U g hv;rw[R,aI d8,aI d8]at g hv;exact i p q u v I P d8 g hv
 .intro p q u v I P U g hv;rw[R,aM d8]at g hv;exact j _ _ u v d8 d8 d8 g hv
 .intro p q u v I P U g hv;rw[R,aI d8,aM d8]at g hv;exact i _ _ u v d8 d8 d8 g hv
 .intro p q u v I P U g hv;rw[R,aI d8,aI d8]at g hv;exact j p q u v d8 P U g hv
 intro p q u v I P U p4 g hv;rw[R]at g hv;rw[aI d8]at hv;by_cases e1:p<s
 .rw[aI d8,aI d8]at g;by_cases e2:q<e
  .rw[aM d8]at hv;exact i p _ u v I d8 d8 g hv
  rw[aI d8]at hv;rcases aa with h|h|⟨x,y,hx,hy,r⟩
  .omega
  .omega
  exact o.trans _ _ _ (i.le o I (show p<=s-1 by omega) d8 g hx) (o.trans _ _ _ r (j.le o d8 (show e<=q by omega) p4 hy hv))
 rw[aM d8]at g;by_cases e2:q<e
 .rw[aM d8]at hv;rcases ab with h|h|⟨x,y,hx,hy,r⟩
  .omega
  .omega
  exact o.trans _ _ _ (j.le o d8 (show p+(m-s)<=e-1 by omega) d8 g hx) (o.trans _ _ _ r (i.le o d8 (show s<=q-(e-m)by omega) d8 hy hv))
 rw[aI d8]at hv;exact j _ q u v d8 d8 p4 g hv
theorem acD{l:am α}{s m e:Nat}(g:s<=m)(o:m<=e)(p:e<=l.length):l.take s++(l.drop s).take (m-s)++(l.drop m).take (e-m)++l.drop e=l:=by
 have r:l.take s++(l.drop s).take (m-s)=l.take m:=by have:=List.take_add (l:=l) (i:=s) (j:=m-s);rw[<-this];congr 1;omega
 have I:l.take m++(l.drop m).take (e-m)=l.take e:=by have:=List.take_add (l:=l) (i:=m) (j:=e-m);rw[<-this];congr 1;omega
 grind[aU]
theorem ajQ{l:am α}{s m e:Nat}(o:s<=m)(r:m<=e)(I:e<=l.length):X8 s m e l (l.take s++(l.drop m).take (e-m)++(l.drop s).take (m-s)++l.drop e):=by
 intro p;simp only[am.getElem?_append,aE,bC,bM,am.getElem?_take,am.getElem?_drop];split
 .split
  .rename_i g i;split
   .rename_i j;rw[aM d8,aI d8,aI d8]
   rename_i j;rw[aM d8,aM d8];congr 1;omega
  rename_i g i;rw[aM d8,aI d8,aM d8];congr 1;omega
 rename_i g;rw[aI d8,aI d8];congr 1;omega
theorem azt{l:am α}{s m e:Nat}(i:s<=m)(j:m<=e)(o:e<=l.length):PermW s e l (l.take s++(l.drop m).take (e-m)++(l.drop s).take (m-s)++l.drop e):=by
 have r:=ajQ i j o;refine⟨?_,?_,λp I=>?_,λp x J P g=>?_⟩
 .simp;omega
 .have:=acD i j o<;>grind[List.Perm.append_right,List.Perm.append_left,List.perm_append_comm]
 .rw[r,aI d8,aI d8]
 rw[r]at g;split at g
 .grind
 rw[aM d8]at g
 grind
end
section
variable {α:Type}{R:α->α->Prop}{c:α->α->Int}
def aaX(R:α->α->Prop)(a b g o:Nat)(l:am α):Prop:=∀i j x y,a<=i->i<b->g<=j->j<o->l[i]?=some x->l[j]?=some y->R x y
def QX(R:α->α->Prop)(a b:Nat)(l:am α):Prop:=∀i j x y,a<=i->i<j->j<b->l[i]?=some x->l[j]?=some y->R x y
def acN(R:α->α->Prop)(a j:Nat)(l:am α):Prop:=∀p x y,a<=p->p<j->l[p]?=some x->l[j]?=some y->R x y
theorem aaX.same{a b g o:Nat}{l l':am α}(h:aaX R a b g o l)(r:∀i,(a<=i/\i<b)\/(g<=i/\i<o)->l'[i]?=l[i]?):aaX R a b g o l':=
 λi j x y p i2 i3 i4 i5 I=>h i j x y p i2 i3 i4 d9 d9
theorem aaX.rot{l j:am α}{a s m e b:Nat}(P:a<=s)(a2:s<=m)(a3:m<=e)(a4:e<=b)(i:X8 s m e l j)(h:aaX R a m m b l):aaX R a s s (s+(e-m)) j/\aaX R (s+(e-m)) e e b j:=by
 refine⟨?_,?_⟩
 .intro p q u v o I J r g hv;rw[i,aI d8,aI d8]at g;rw[i,aM d8]at hv;exact h p _ u v o d8 d8 d8 g hv
 intro p q u v o I J r g hv;rw[i,aI d8,aM d8]at g;rw[i,aI d8,aI d8]at hv;exact h _ q u v d8 d8 d8 r g hv
theorem QX.mono{a b g o:Nat}{l:am α}(h:QX R a b l)(p:a<=g)(r:o<=b):QX R g o l:=λi j x y I i2 i3=>h i j x y d8 i2 d8
theorem acN.start{a b i:Nat}{l o:am α}(h:QX R a b l)(g:PermW a i l o)(hi:i<b):acN R a i o:=by intro p x y I J r j;obtain⟨q,P,U,q3⟩:=g.mem p x I J r;rw[g.out i (.inr (aA _))]at j;exact h q i x y P U hi q3 j
theorem acN.step{a j:Nat}{l:am α}{x y:α}(h:acN R a j l)(o:a<j)(r:l[j-1]?=some x)(i:l[j]?=some y):acN R a (j-1) (WQ l j (j-1) y x):=by intro p u v I J g hv;rw[Jt i r]at g hv;rw[aI d8,aI d8]at g;rw[aM rfl]at hv;cases hv;exact h p u y I d8 g i
def Cut(g i j:Nat):Prop:=∃k,i<k*g/\k*g<=j
def aiU(R:α->α->Prop)(g:Nat)(l:am α):Prop:=∀i j x y,Cut g i j->l[i]?=some x->l[j]?=some y->R x y
def XT(R:α->α->Prop)(g a:Nat)(l:am α):Prop:=∀i j x y,Cut (2*g) i j\/(a<=i/\Cut g i j)->l[i]?=some x->l[j]?=some y->R x y
theorem aiU.pass{g:Nat}{l:am α}(h:aiU R g l):XT R g 0 l:=by
 rintro i j x y (⟨k,p,r⟩|⟨_,o⟩)
 .exact h i j x y ⟨k*2,d9,d9⟩
 exact h i j x y o
theorem XT.blk{g a:Nat}{l:am α}(h:XT R g a l):aiU R (2*g) l:=λi j x y o=>h i j x y (.inl o)
theorem XT.rel{g q e:Nat}{l:am α}(h:XT R g (q*(2*g)) l):aaX R (q*(2*g)) (q*(2*g)+g) (q*(2*g)+g) e l:=by
 intro i j x y o i2 i3 i4;refine h i j x y (.inr ⟨o,2*q+1,?_,?_⟩)
 .grind
 grind
theorem XT.next{g q e n:Nat}{l l':am α}(h:XT R g (q*(2*g)) l)(J:PermW (q*(2*g)) e l l')(h2:e<=(q+1)*(2*g))(hn:e=(q+1)*(2*g)\/(e=n/\l.length=n)):XT R g ((q+1)*(2*g)) l':=by
 intro i j x y U hx hy;have key:∀i0 o:Nat,(q*(2*g)<=i0/\i0<e/\q*(2*g)<=i/\i<e)\/i0=i->(q*(2*g)<=o/\o<e/\q*(2*g)<=j/\j<e)\/o=j->Cut (2*g) i0 o\/(q*(2*g)<=i0/\Cut g i0 o):=by
  intro i0 o hi I;rcases U with⟨k,k1,k2⟩|⟨ha,U⟩
  .left
   refine⟨k,?_,?_⟩
   .rcases hi with⟨P,i2,i3,i4⟩|rfl
    .have:q<k:=by
      rcases b9 q k with p|p
      .exact p
      have:=aP (2*g) p;omega
     have:=aP (2*g) (show q+1<=k from this);omega
    exact k1
   rcases I with⟨P,i2,i3,i4⟩|rfl
   .have:k<=q:=by
     rcases b9 q k with p|p
     .have:=aP (2*g) (show q+1<=k from p);omega
     exact p
    have:=aP (2*g) this;omega
   exact k2
  right
  have e0:(q+1)*(2*g)=q*(2*g)+2*g:=aY _ _;obtain⟨k,k1,k2⟩:=U;rcases hi with⟨P,i2,i3,i4⟩|rfl
  .omega
  rcases I with⟨j1,j2,j3,j4⟩|rfl
  .omega
  exact⟨d8,k,k1,k2⟩
 have hi:∃i0,((q*(2*g)<=i0/\i0<e/\q*(2*g)<=i/\i<e)\/i0=i)/\l[i0]?=some x:=by
  by_cases r:q*(2*g)<=i/\i<e
  .obtain⟨i0,P,i2,i3⟩:=J.mem i x r.1 r.2 hx
   grind
  rw[J.out i d8]at hx
  grind
 have I:∃o,((q*(2*g)<=o/\o<e/\q*(2*g)<=j/\j<e)\/o=j)/\l[o]?=some y:=by
  by_cases r:q*(2*g)<=j/\j<e
  .obtain⟨i0,P,i2,i3⟩:=J.mem j y r.1 r.2 hy
   grind
  rw[J.out j d8]at hy
  grind
 obtain⟨i0,aa,ab⟩:=hi;obtain⟨o,ac,ad⟩:=I;exact h i0 o x y (key i0 o aa ac) ab ad
def uJ(R:α->α->Prop)(g e:Nat)(l:am α):Prop:=∀i j x y,i<j->(Cut g i j\/e<=j)->l[i]?=some x->l[j]?=some y->R x y
theorem uJ.start{g n:Nat}{l:am α}(h:QX R 0 n l)(I:l.length=n):uJ R g 0 l:=by intro i j x y o _ p r;exact h i j x y (aR _) o d9 p r
theorem uJ.pair{g e n:Nat}{l:am α}(h:uJ R g e l):QX R e n l:=λi j x y o i2 _=>h i j x y i2 (.inr d8)
theorem uJ.next{g q e:Nat}{l l':am α}(h:uJ R g (q*g) l)(o:PermW (q*g) e l l')(h0:q*g<=e)(h2:e<=(q+1)*g):uJ R g e l':=by
 intro i j x y J P p r;by_cases U:q*g<=j/\j<e
 .obtain⟨j0,j1,j2,j3⟩:=o.mem j y U.1 U.2 r;rcases P with⟨k,k1,k2⟩|P
  .have hk:k<=q:=by
    rcases b9 q k with I|I
    .have:=aP g (show q+1<=k from I);omega
    exact I
   have aa:=aP g hk;rw[o.out i (.inl d8)]at p;exact h i j0 x y d8 (.inr j1) p j3
  omega
 rw[o.out j d8]at r;by_cases hi:q*g<=i/\i<e
 .obtain⟨i0,i1,i2,i3⟩:=o.mem i x hi.1 hi.2 p;exact h i0 j x y d8 (.inr d8) i3 r
 rw[o.out i d8]at p;refine h i j x y J ?_ p r<;>grind
theorem uJ.blk{g e:Nat}{l:am α}(h:uJ R g e l):aiU R g l:=λi j x y o=>h i j x y (by obtain⟨k,p,r⟩:=o;omega) (.inl o)
end
section
variable {α:Type}
def wc(c:α->α->Int)(x:α):am α->am α
 |[]=> [x]
 |y::r=>if c x y<0 then x::y::r else y::wc c x r
def yM(c:α->α->Int)(l:am α):am α:=l.foldl (λg x=>wc c x g) []
def Z1(c:α->α->Int)(l:am α):Prop:=List.Pairwise (λx y=>c x y<=0) l
theorem QF(c:α->α->Int)(x:α):∀l:am α,(wc c x l).Perm (x::l)
 |[]=>ck _
 |y::r=>by
  unfold wc;split
  .exact ck _
  exact((QF c x r).cons y).trans (List.Perm.swap x y r)
theorem K3{c:α->α->Int}(i:CmpOK c)(x:α):∀{l:am α},Z1 c l->Z1 c (wc c x l)
 |[],_=>bY _ _
 |y::r,h=>by
  unfold wc;have j:∀z∈r,c y z<=0:=λz g=>bE h g
  have o:=bK h;split
  .rename_i I;refine cw (λz g=>?_) h;simp only[aV]at g;rcases g with rfl|g
   .omega
   exact i.trans _ _ _ (by omega:c x y<=0) (j z g)
  rename_i p;refine cw (λz g=>?_) (K3 i x o);have g:=(QF c x r).mem_iff.1 g;simp only[aV]at g;rcases g with rfl|g
  .exact i.ge.1 d8
  grind
theorem atk(c:α->α->Int)(l:am α)(x:α):yM c (l++[x])=wc c x (yM c l):=by simp[yM]
theorem aiB(c:α->α->Int){l:am α}{i:Nat}{x:α}(h:l[i]?=some x):yM c (l.take (i+1))=wc c x (yM c (l.take i)):=by grind[List.take_add_one,atk]
theorem KX(c:α->α->Int)(i:CmpOK c):∀(l g:am α),Z1 c g->(l.foldl (λg x=>wc c x g) g).Perm (g++l)/\Z1 c (l.foldl (λg x=>wc c x g) g)
 |[],g,h=>⟨dT,h⟩
 |x::r,g,h=>by obtain⟨j,o⟩:=KX c i r (wc c x g) (K3 i x h);refine⟨j.trans ?_,o⟩;exact((QF c x g).append_right r).trans (List.perm_middle.symm)
theorem jH{c:α->α->Int}(g:CmpOK c)(l:am α):(yM c l).Perm l:=(KX c g l [] bW).1
theorem abX{c:α->α->Int}(g:CmpOK c)(l:am α):Z1 c (yM c l):=(KX c g l [] bW).2
def jh(c:α->α->Int)(x y:α×Nat):Int:=if c x.1 y.1=0 then(if x.2<y.2 then-1 else if y.2<x.2 then 1 else 0)else c x.1 y.1
theorem aaM{c:α->α->Int}(g:CmpOK c):CmpOK (jh c):=by
 refine⟨λx=>?_,λx y=>?_,λx y z j l=>?_⟩
 .simp[jh,g.refl]
 .have h0:=g.zero (x:=x.1) (y:=y.1);have j:=g.anti x.1 y.1;unfold jh;omega
 have h0:=g.zero (x:=x.1) (y:=y.1);have r:=g.zero (x:=y.1) (y:=z.1);have I:=g.trans x.1 y.1 z.1;unfold jh at j l⊢;by_cases p:c x.1 y.1=0
 .by_cases i:c y.1 z.1=0
  .omega
  rw[aI i]at l;have o:=g.lt_of2 (x:=x.1) (y:=y.1) (z:=z.1) d8 d8;omega
 rw[aI p]at j;by_cases i:c y.1 z.1=0
 .have o:=g.lt_of (x:=x.1) (y:=y.1) (z:=z.1) d8 d8;omega
 rw[aI i]at l;have o:=g.lt_of (x:=x.1) (y:=y.1) (z:=z.1) d8 d8;omega
theorem aka{c:α->α->Int}(g:CmpOK c){x y:α×Nat}(h:x.2<y.2):c y.1 x.1<0↔jh c y x<0:=by unfold jh;omega
theorem anQ(c:α->α->Int)(x:α)(n:Nat):∀l:am (α×Nat),(∀y∈l,y.2<n)->(wc (jh c) (x,n) l).map bU=wc c x (l.map bU)
 |[],_=>rfl
 |y::r,h=>by
  have g:=h y (bH ..);have o:=anQ c x n r (λz i=>h z (bP _ i));have e:jh c (x,n) y<0↔c x y.1<0:=by
   unfold jh;by_cases e:c x y.1=0
   .rw[aM e,aI d9,aM (show y.2<n from g)];omega
   simp_all
  simp only[wc,List.map_cons];by_cases j:c x y.1<0
  .simp_all
  simp_all[aI]
def qN(l:am α):am (α×Nat):=l.zipIdx
theorem avF{c:α->α->Int}(r:CmpOK c)(l:am α):(yM (jh c) (qN l)).map bU=yM c l:=by
 have h:∀n,n<=l.length->(yM (jh c) ((qN l).take n)).map bU=yM c (l.take n)/\∀y∈yM (jh c) ((qN l).take n),y.2<n:=by
  intro n;induction n with
  |zero=>grind[yM]
  |succ n p=>
   intro I;obtain⟨i,j⟩:=p d8;have g:(qN l)[n]?=some (l[n],n):=by grind[qN]
   rw[aiB _ g,aiB c (am.getElem?_eq_getElem (by omega:n<l.length)),anQ c _ _ _ j,i];refine⟨rfl,λy o=>?_⟩;have:=(QF _ _ _).mem_iff.1 o;simp only[aV]at this;rcases this with rfl|h
   .simp_all
   grind
 have:=(h l.length (aA _)).1<;>simp_all[bA,qN]
theorem aAr{c:α->α->Int}{l:am α}{n:Nat}(h:yx c 0 n l)(p:l.length=n):Z1 c l:=by
 refine bV.2 λi j hi o g=>?_
 exact h i j _ _ (aR _) g d8 (am.getElem?_eq_getElem hi) (am.getElem?_eq_getElem o)
theorem gz(l:am α)(n:Nat):QX (λx y:α×Nat=>x.2<y.2) 0 n (qN l):=by intro i j x y _ g _ o p<;>grind[qN]
theorem Jk(l:am α):(qN l).length=l.length:=by simp[qN]
theorem WD(l:am α):(qN l).map bU=l:=by simp_all[qN]
theorem av2{c:α->α->Int}(j:CmpOK c){x y:α×Nat}(i:jh c x y<=0)(g:jh c y x<=0):x.2=y.2:=by
 have h0:=j.zero (x:=x.1) (y:=y.1);unfold jh at i g;by_cases e:c x.1 y.1=0
 .omega
 rw[aI e]at i;rw[aI (λe'=>e (h0.2 e'))]at g;have:=j.ge.2 g;omega
theorem aen{c:α->α->Int}(o:CmpOK c){l:am α}{l':am (α×Nat)}{n:Nat}(hn:l.length=n)(j:PermW 0 n (qN l) l')(hs:yx (jh c) 0 n l'):l'.map bU=yM c l:=by
 have ab:l'.length=n:=by rw[j.len,Jk,hn]
 rw[<-avF o l];congr 1
 have p:l'.Perm (yM (jh c) (qN l)):=j.perm.trans (jH (aaM o) _).symm;have aa:∀x∈l',∀y∈l',x.2=y.2->x=y:=by intro x g y i e;have g:=j.perm.mem_iff.1 g;have i:=j.perm.mem_iff.1 i;have g:=List.mem_zipIdx g;have i:=List.mem_zipIdx i<;>grind
 have gen:∀{u v:am (α×Nat)},Z1 (jh c) u->Z1 (jh c) v->u.Perm v->(∀x∈u,∀y∈u,x.2=y.2->x=y)->u=v:=by
  intro u;induction u with
  |nil=>grind[List.Perm.nil_eq]
  |cons x r ih=>
   intro v P R j U;cases v with
   |nil=>exact absurd j.length_eq dT
   |cons y r'=>
    have I:x=y:=by
     have g:x∈y::r':=j.mem_iff.1 (bH ..);have i:y∈x::r:=j.mem_iff.2 (bH ..);have J:=i;simp only[aV]at g i;rcases g with g|g
     .exact g
     rcases i with i|i
     .grind
     exact U _ (bH ..) _ J (av2 o (bE P i) (bE R g))
    subst I;rw[ih (bK P) (bK R) (List.Perm.cons_inv j) (λa ha b hb=>U a (bP _ ha) b (bP _ hb))]
 grind[aAr,abX,aaM]
end
section
attribute [local irreducible] Sat zA zX
theorem anK(i j:Nat)(h:i+j<=4611686018427387904):aB.wrap (kG false IntKind.u64 (IntKind.u64.wrap (aB.wrap ((i:Int)+(j:Int)))) 1)=(((i+j)/2:Nat):Int):=by grind[yf,IntKind.wrap,IntKind.bits,kG]
theorem Z3{a b c d:Nat}(h:(decide ((a:Int)<(b:Int))&&decide ((c:Int)<(d:Int)))=true):a<b/\c<d:=dW
theorem Z2{a b c d:Nat}(h:(decide ((a:Int)<(b:Int))&&decide ((c:Int)<(d:Int)))=false):b<=a\/d<=c:=d9
section
variable {α:Type}{c:α->α->Int}
def je(c:α->α->Int)(g e:Nat)(l:am α):Prop:=∀k,yx c (k*g) (min ((k+1)*g) e) l
def Uo(c:α->α->Int)(g a n:Nat)(l:am α):Prop:=∀k,a<=k*g->yx c (k*g) (min ((k+1)*g) n) l
theorem je.zero(g:Nat)(l:am α):je c g 0 l:=λk=>yx.one _ _ _ d8
theorem je.ext{g q e:Nat}{l l':am α}(h:je c g (q*g) l)(p:PermW (q*g) e l l')(hs:yx c (q*g) e l')(o:q*g<=e)(r:e<=(q+1)*g):je c g e l':=by
 intro k;rcases Nat.lt_trichotomy k q with hk|hk|hk
 .have j:(k+1)*g<=q*g:=aP _ hk;have:=h k;rw[bB j]at this;rw[bB (bQ j o)];exact this.same λi _ i2=>p.out i (.inl d8)
 .grind
 have j:(q+1)*g<=k*g:=aP _ hk
 grind[yx.one]
theorem je.blkF{g n:Nat}{l:am α}(h:je c g n l):Uo c g 0 n l:=λk _=>h k
theorem Uo.next{g a e n:Nat}{l l':am α}(h:Uo c g a n l)(j:PermW a e l l')(o:a<=e):Uo c g e n l':=λk hk=>(h k d8).same λi p _=>j.out i (.inr d8)
theorem Uo.at0{g q n:Nat}{l:am α}(h:Uo c g (q*(2*g)) n l):yx c (q*(2*g)) (min (q*(2*g)+g) n) l:=by
 have i:q*(2*g)=(2*q)*g:=d9
 have j:(2*q+1)*g=2*q*g+g:=aY (2*q) g;have:=h (2*q) d8 <;>grind
theorem Uo.at1{g q n:Nat}{l:am α}(h:Uo c g (q*(2*g)) n l):yx c (q*(2*g)+g) (min (q*(2*g)+g+g) n) l:=by
 have i:q*(2*g)=(2*q)*g:=d9
 have j:(2*q+1)*g=2*q*g+g:=aY (2*q) g;have o:(2*q+1+1)*g=2*q*g+g+g:=d9
 have:=h (2*q+1) d9
 grind
end
namespace So
def eL{α:Type}(en:α->am D)(l:am α):am (am D):=l.map en
section
variable {α:Type}(en:α->am D)
theorem wW{l:am α}{i:Nat}{x:α}(h:l[i]?=some x):(eL en l)[i]?=some (en x):=by simp[eL,h]
theorem JN(l:am α)(i:Nat)(x:α):(eL en l).set i (en x)=eL en (l.set i x):=by simp[eL]
theorem ahE{l:am α}{i j:Nat}{x y:α}(h:l[j]?=some y):∃z:α,((eL en l).set i (en x))[j]?=some (en z):=by have g:j<l.length:=(am.getElem?_eq_some_iff.1 h).1;rw[JN];exact⟨(l.set i x)[j]'(by simpa using g),wW en (am.getElem?_eq_getElem _)⟩
theorem apv{l:am α}{i j:Nat}(x y:α):((eL en l).set i (en y)).set j (en x)=eL en (WQ l i j x y):=by rw[JN,JN];rfl
end
structure Rt(α:Type) where
 P:am α
 A:am α
 B:am α
 S:am α
def Rt.l{α:Type}(x:Rt α):am α:=x.P++x.A++x.B++x.S
def Rt.t{α:Type}(x:Rt α):am α:=x.P++x.B++x.A++x.S
def aCH(sz:Nat)(f:W)(n a b i:Nat)(g:am (am D)):S:=⟨[(0,cV (.own 100000 sz n)),(1,zm a),(2,zm b),(3,.w f),(8,zm i)],[(100000,.arr sz g false)]⟩
def aBm(sz:Nat)(f:W)(n a b i j:Nat)(g:am (am D)):S:=⟨[(0,cV (.own 100000 sz n)),(1,zm a),(2,zm b),(3,.w f),(8,zm i),(9,zm j)],[(100000,.arr sz g false)]⟩
def swS(sz n a b k i:Nat)(g:am (am D)):S:=⟨[(0,cV (.own 100000 sz n)),(1,zm a),(2,zm b),(3,zm k),(10,zm i)],[(100000,.arr sz g false)]⟩
def aoB(sz:Nat)(f:W)(n m i j:Nat)(g:am (am D)):S:=⟨[(0,cV (.own 100000 sz n)),(2,zm m),(4,.w f),(10,zm i),(11,zm j)],[(100000,.arr sz g false)]⟩
def aCK(sz:Nat)(f:W)(n a i j:Nat)(g:am (am D)):S:=⟨[(0,cV (.own 100000 sz n)),(1,zm a),(4,.w f),(10,zm i),(11,zm j)],[(100000,.arr sz g false)]⟩
def aBL(sz n i k:Nat)(g:am (am D)):S:=⟨[(0,cV (.own 100000 sz n)),(10,zm i),(13,zm k)],[(100000,.arr sz g false)]⟩
def aCL(sz:Nat)(f:W)(n m i j:Nat)(g:am (am D)):S:=⟨[(0,cV (.own 100000 sz n)),(2,zm m),(4,.w f),(14,zm i),(15,zm j)],[(100000,.arr sz g false)]⟩
def aBM(sz n i k:Nat)(g:am (am D)):S:=⟨[(0,cV (.own 100000 sz n)),(14,zm i),(17,zm k)],[(100000,.arr sz g false)]⟩
def aBN(sz:Nat)(f:W)(N a m b i n s r p:Nat)(g:am (am D)):S:=⟨[(0,cV (.own 100000 sz N)),(1,zm a),(2,zm m),(3,zm b),(4,.w f),(18,zm i),(19,zm n),(20,zm s),(21,zm r),(22,zm p)],[(100000,.arr sz g false)]⟩
def stS(sz:Nat)(f:W)(N n i a b:Nat)(g:am (am D)):S:=⟨[(0,cV (.own 100000 sz N)),(1,zm n),(2,.w f),(6,zm i),(7,zm a),(8,zm b)],[(100000,.arr sz g false)]⟩
def stT(sz:Nat)(f:W)(N n i:Nat)(g:am (am D)):S:=⟨[(0,cV (.own 100000 sz N)),(1,zm n),(2,.w f),(6,zm i)],[(100000,.arr sz g false)]⟩
section
variable {α:Type}(k sz:Nat) (en:α->am D) (cal:α->α->am W) (clo:FuncId->W)
def ahe(g:FuncId)(c:α->α->Int)(R:α->α->Prop):Prop:=∀x y:α,R x y->Sat Pg g (cal y x) (λr=>∃z,r=rI z/\(z<0↔c y x<0))
def amI(c:α->α->Int)(a b:Nat)(l:am α)(r:Res):Prop:=∃l':am α,PermW a b l l'/\yx c a b l'/\r=⟨.tup [],[.arr sz (eL en l') false]⟩
def gH:Prop:=∀(g:FuncId) (c:α->α->Int) (_:CmpOK c) (R:α->α->Prop) (_:ahe cal g c R) (l:am α) (a b:Nat) (_:a<=b) (_:b<=l.length) (_:l.length<=1000000) (_:QX R a b l),
    zA Pg k [.c (.own 0 sz l.length),.c (int a),.c (int b),clo g] [.arr sz (eL en l) false] (amI sz en c a b l)
def VU:Prop:=∀(g:FuncId) (P X M Y S:am α) (_:X.length=Y.length) (N a b n:Nat) (_:N=(P++X++M++Y++S).length) (_:a=P.length) (_:n=X.length) (_:b=P.length+X.length+M.length) (_:N<=1000000),
    zA Pg k [.c (.own 0 sz N),.c (int a),.c (int b),.c (int n),clo g] [.arr sz (eL en (P++X++M++Y++S)) false] (λr=>r=⟨.tup [],[.arr sz (eL en (P++Y++M++X++S)) false]⟩)
def acP:Prop:=∀(g:FuncId) (i:Rt α) (N a m b:Nat) (_:N=i.l.length) (_:a=i.P.length) (_:m=a+i.A.length) (_:b=m+i.B.length) (_:0<i.A.length) (_:0<i.B.length) (_:N<=1000000),
    zA Pg k [.c (.own 0 sz N),.c (int a),.c (int m),.c (int b),clo g] [.arr sz (eL en i.l) false] (λr=>r=⟨.tup [],[.arr sz (eL en i.t) false]⟩)
def aCA(g:FuncId)(c:α->α->Int)(R:α->α->Prop)(N n:Nat):Prop:=∀(l:am α) (a m b:Nat),b-a<=n->a<m->m<b->b<=l.length->l.length=N->yx c a m l->yx c m b l->aaX R a m m b l->
    zA Pg k [.c (.own 0 sz N),.c (int a),.c (int m),.c (int b),clo g] [.arr sz (eL en l) false] (amI sz en c a b l)
def af4:Prop:=∀(g:FuncId) (c:α->α->Int) (_:CmpOK c) (R:α->α->Prop) (_:ahe cal g c R) (N:Nat) (_:N<=1000000) (n:Nat),aCA k sz en clo g c R N n
def amJ:Prop:=∀(g:FuncId) (c:α->α->Int) (_:CmpOK c) (R:α->α->Prop) (_:ahe cal g c R) (l:am α) (n:Nat) (_:l.length=n) (_:n<=1000000) (_:QX R 0 n l),
    zA Pg k [.c (.own 0 sz n),.c (int n),clo g] [.arr sz (eL en l) false] (amI sz en c 0 n l)
def SortStable:Prop:=∀(g:FuncId) (c:α->α->Int) (_:CmpOK c) (R:α->α->Prop) (_:ahe cal g c R) (l:am α) (n:Nat) (_:l.length=n) (_:n<=1000000) (_:QX R 0 n l),
    zA Pg k [.c (.own 0 sz n),clo g] [.arr sz (eL en l) false] (amI sz en c 0 n l)
variable {k sz en cal clo}
theorem gH.p(r:gH k sz en cal clo)(g:FuncId)(c:α->α->Int)(j:CmpOK c)(R:α->α->Prop)(P:ahe cal g c R)(N:Nat)(l:am α)(a b:Nat)(I:l.length=N)(i:a<=b)(J:b<=N)(U:N<=1000000)(o:QX R a b l):
 zA Pg k [.c (.own 0 sz N),.c (int a),.c (int b),clo g] [.arr sz (eL en l) false] (amI sz en c a b l):=by subst I;exact r g c j R P l a b i J U o
theorem VU.p(o:VU k sz en clo)(g:FuncId)(P X M Y S l l':am α)(i:l=P++X++M++Y++S)(j:l'=P++Y++M++X++S)(h:X.length=Y.length)(N a b n:Nat)(I:N=l.length)(J:a=P.length)(hn:n=X.length)(R:b=P.length+X.length+M.length)(U:N<=1000000):
 zA Pg k [.c (.own 0 sz N),.c (int a),.c (int b),.c (int n),clo g] [.arr sz (eL en l) false] (λr=>r=⟨.tup [],[.arr sz (eL en l') false]⟩):=by subst i j;exact o g P X M Y S h N a b n I J hn R U
def Up(c:α->α->Int)(l:am α)(i j:Nat):Prop:=∃u v,l[i]?=some u/\l[j]?=some v/\c u v<=0
def agN(s m e:Nat)(l:am α):am α:=l.take s++(l.drop m).take (e-m)++(l.drop s).take (m-s)++l.drop e
theorem acP.p(I:acP k sz en clo)(g:FuncId)(l:am α)(N s m e:Nat)(i:s<m)(j:m<e)(o:e<=l.length)(J:l.length=N)(P:N<=1000000):
 zA Pg k [.c (.own 0 sz N),.c (int s),.c (int m),.c (int e),clo g] [.arr sz (eL en l) false] (λr=>r=⟨.tup [],[.arr sz (eL en (agN s m e l)) false]⟩):=by have h:=I g ⟨l.take s,(l.drop s).take (m-s),(l.drop m).take (e-m),l.drop e⟩ N s m e;simp only[Rt.l,Rt.t,acD (Nat.le_of_lt i) (Nat.le_of_lt j) o]at h;refine h J.symm ?_ ?_ ?_ ?_ ?_ P<;>simp<;>omega
theorem ve{c:α->α->Int}{l o p j:am α}{a r g e b:Nat}(hw:PermW r e l o)(P:a<=r)(R:e<=b)(J:PermW a g o p)(I:PermW g b p j)(U:a<=g)(h4:g<=b)
 (t2:yx c a g p) (t3:yx c g b j) (s5:LeW c a g g b o):PermW a b l j/\yx c a b j:=
 ⟨(hw.mono P R).trans ((J.mono (aA _) h4).trans (I.mono U (aA _))),yx.glue (t2.same λi _ i2=>I.out i (.inl i2)) t3 ((s5.perm J).perm2 I)⟩
end
end So
namespace So
theorem aeu{p:Prop}(h:p:=by
 intro g c aa R hg l a b ae hb hl ac;have wa:Go.IntKind.i64.wrap ((a:Int)+1)=((a+1:Nat):Int):=zB (n:=1000001) d8 d8;refine qe T8 cI_ok dU dT ?_
 conv=>whnf
 refine yq (P:=Pg) (f:=T8.f) (body:=cI_L1) (λx:Nat×List α=>aCH sz (clo E g) l.length a b x.1 (eL (en E) x.2)) (λx=>b-x.1)
  (λx=>a<x.1/\(x.1<=b\/(x.1=a+1/\x.2=l))/\PermW a x.1 l x.2/\yx c a x.1 x.2)
  ⟨(a+1,l),⟨by show a<a+1;omega,.inr ⟨rfl,rfl⟩,PermW.refl _ _ _,yx.one _ _ _ (Nat.le_refl _)⟩,ze ?_⟩ ?_
 ·(conv=>whnf);rw[wa];rfl
 rintro⟨i,l1⟩ hR;have hS:a<i/\(i<=b\/(i=a+1/\l1=l))/\PermW a i l l1/\yx c a i l1:=hR;clear hR;obtain⟨g1,g2,g3,g4⟩:=hS;refine zj (λh1=>?_) (λh1=>?_)
 .have r:i<b:=by have h1:decide ((i:Int)<(b:Int))=true:=h1;have:=of_decide_eq_true h1;omega
  have wi:Go.IntKind.i64.wrap ((i:Int)+1)=((i+1:Nat):Int):=zB r d8;(conv=>whnf)
  refine yq (P:=Pg) (f:=T8.f) (body:=cI_L0) (λx:Nat×List α=>aBm sz (clo E g) l.length a b i x.1 (eL (en E) x.2)) (λx=>x.1)
   (λx=>a<=x.1/\x.1<=i/\PermW a (i+1) l x.2/\kL c a i x.1 x.2/\acN R a x.1 x.2)
   ⟨(i,l1),⟨by show a<=i;omega,Nat.le_refl _,g3.mono (Nat.le_refl _) d8,kL.start g4,acN.start ac g3 r⟩,ze ?_⟩ ?_
  .exact rfl
  rintro⟨j,o⟩ hR;have hS:a<=j/\j<=i/\PermW a (i+1) l o/\kL c a i j o/\acN R a j o:=hR;clear hR;obtain⟨k1,k2,k3,k4,k6⟩:=hS;have k5:=k3.len;refine zj (λh2=>?_) (λh2=>?_)
  .have I:a<j:=by have h2:decide ((j:Int)>(a:Int))=true:=h2;have:=of_decide_eq_true h2;omega
   have wj:Go.IntKind.i64.wrap ((j:Int)-1)=((j-1:Nat):Int):=amD d8 d8;obtain⟨x,J⟩:=uh (l:=o) (i:=j-1) d8;obtain⟨y,U⟩:=uh (l:=o) (i:=j) d8;refine qa ?_ (hA:=by show(0:Int)<=(j:Int);omega) (hB:=by show(j:Int)<(l.length:Int);omega);refine⟨_,wW (en E) U,?_⟩;(conv=>whnf);rw[wj];refine qa ?_ (hA:=d8) (hB:=d8);refine⟨_,wW (en E) J,?_⟩;(conv=>whnf);refine Go.AM.Sat.mono (hg x y (k6 (j-1) x y d8 d8 J U)) ?_;rintro _ ⟨z,rfl,hz⟩;refine zj (λh3=>?_) (λh3=>?_)
   .have ab:c y x<0:=hz.1 (of_decide_eq_true h3);(conv=>whnf);rw[wj];refine qa ?_ (hA:=d8) (hB:=d8);refine⟨_,wW (en E) J,?_⟩;(conv=>whnf);refine qa ?_ (hA:=by show(0:Int)<=(j:Int);omega) (hB:=by show(j:Int)<(l.length:Int);omega);refine⟨_,wW (en E) U,?_⟩;(conv=>whnf);refine qa ?_ (hA:=by show(0:Int)<=(j:Int);omega) (hB:=by show(j:Int)<(l.length:Int);omega);refine⟨_,wW (en E) U,Nat.le_refl _,?_⟩;refine qa ?_ (hA:=d8) (hB:=d8);obtain⟨z1,ad⟩:=ahE (en E) (i:=j) (x:=x) J;(conv=>whnf);refine⟨_,ad,Nat.le_refl _,?_⟩;(conv=>whnf);refine⟨(j-1,WQ o j (j-1) y x),⟨⟨by show a<=j-1;omega,by show j-1<=i;omega,k3.trans (ats U J d8 d8 d8 d8),k4.step aa I k2 J U ab,k6.step I J U⟩,by show j-1<j;omega⟩,ze ?_⟩;(conv=>whnf);rw[wj];have e:((eL (en E) o).set j (en E x)).set (j-1) (en E y)=eL (en E) (WQ o j (j-1) y x):=by rw[JN,JN];rfl
    exact congrArg (aBm sz (clo E g) l.length a b i (j-1)) e
   have af:¬c y x<0:=λh=>(of_decide_eq_false h3:¬z<0) (hz.2 h)
   (conv=>whnf);refine⟨(i+1,o),⟨⟨by show a<i+1;omega,.inl (by show i+1<=b;omega),k3,?_⟩,by show b-(i+1)<b-i;omega⟩,ze ?_⟩
   .exact k4.stop aa k2 (.inr ⟨x,y,J,U,d8⟩)
   (conv=>whnf);rw[wi];rfl
  have I:j<=a:=by have h2:decide ((j:Int)>(a:Int))=false:=h2;have:=of_decide_eq_false h2;omega
  (conv=>whnf);refine⟨(i+1,o),⟨⟨by show a<i+1;omega,.inl (by show i+1<=b;omega),k3,?_⟩,by show b-(i+1)<b-i;omega⟩,ze ?_⟩
  .exact k4.stop aa k2 (.inl I)
  (conv=>whnf);rw[wi];rfl
 have r:b<=i:=by have h1:decide ((i:Int)<(b:Int))=false:=h1;have:=of_decide_eq_false h1;omega
 (conv=>whnf);refine⟨l1,?_,g4.mono (Nat.le_refl _) r,rfl⟩;rcases g2 with g2|⟨_,g2⟩
 .exact g3.mono (Nat.le_refl _) g2
 rw[g2];exact PermW.refl _ _ _):p:=h
theorem gF{p:Prop}(h:p:=by
 intro g P X M Y S h N a b n hN ha hn hb hl;have ab:P.length+X.length+M.length+Y.length+S.length=N:=by rw[hN];simp;omega
 obtain⟨l0,o⟩:∃l0,l0=P++X++M++Y++S:=⟨_,rfl⟩;rw[<-o];refine qe T8 cW_ok dU dT ?_
 conv=>whnf
 refine yy (P:=Pg) (f:=T8.f) (body:=cW_L0) n (λi=>swS sz N a b n i (eL (en E) (UZ P X M Y S i))) (λ_=>True) ⟨trivial,ze ?_⟩ ?_
 ·(conv=>whnf);rw[o,<-ay3];rfl
 intro i hi _;have r:=aAz P X M Y S i h d8;rw[<-hN]at r;refine zj (λj=>?_) (λj=>?_)
 .have I:i<n:=by have j:decide ((i:Int)<(n:Int))=true:=j;have:=of_decide_eq_true j;omega
  obtain⟨x,y,J,R,hs⟩:=ay2 P X M Y S i h d8;rw[<-hb]at R hs;rw[<-ha]at J hs;have wi:Go.IntKind.i64.wrap ((i:Int)+1)=((i+1:Nat):Int):=zB I d8;have wa:Go.IntKind.i64.wrap ((a:Int)+(i:Int))=((a+i:Nat):Int):=by rw[yf d8 d8];omega
  have wb:Go.IntKind.i64.wrap ((b:Int)+(i:Int))=((b+i:Nat):Int):=by rw[yf d8 d8];omega
  (conv=>whnf);rw[wb];refine qa ?_ (hA:=d8) (hB:=d8);refine⟨_,wW (en E) R,?_⟩;(conv=>whnf);rw[wa];refine qa ?_ (hA:=d8) (hB:=d8);refine⟨_,wW (en E) J,?_⟩;(conv=>whnf);refine qa ?_ (hA:=d8) (hB:=d8);refine⟨_,wW (en E) J,Nat.le_refl _,?_⟩;refine qa ?_ (hA:=d8) (hB:=d8);obtain⟨z1,U⟩:=ahE (en E) (i:=a+i) (x:=y) R;(conv=>whnf);refine⟨_,U,Nat.le_refl _,?_⟩;refine yW I trivial ?_;rw[wi];have e:((eL (en E) (UZ P X M Y S i)).set (a+i) (en E y)).set (b+i) (en E x)=eL (en E) (UZ P X M Y S (i+1)):=by rw[JN,JN,<-hs];rfl
  exact congrArg (swS sz N a b n (i+1)) e
 have aa:n<=i:=by have j:decide ((i:Int)<(n:Int))=false:=j;have:=of_decide_eq_false j;omega
 obtain rfl:i=n:=d8
 (conv=>whnf);have e:=aAy P X M Y S h;rw[<-hn]at e;exact congrArg (λl=>(⟨.tup [],[.arr sz (eL (en E) l) false]⟩:Res)) e):p:=h
theorem ahc{p:Prop}(h:p:=by
 intro g j N a m b hN ha hm hb hA hB hl;have ag:j.P.length+j.A.length+j.B.length+j.S.length=N:=by rw[hN];simp[Rt.l];omega
 have w1:Go.IntKind.i64.wrap ((m:Int)-(a:Int))=((j.A.length:Nat):Int):=by rw[yf d8 d8];omega
 have w2:Go.IntKind.i64.wrap ((b:Int)-(m:Int))=((j.B.length:Nat):Int):=by rw[yf d8 d8];omega
 refine qe T8 cO_ok dU dT ?_
 conv=>whnf
 refine yq (P:=Pg) (f:=T8.f) (body:=cO_L0) (λx:Rt α=>aoB sz (clo E g) N m x.A.length x.B.length (eL (en E) x.l)) (λx=>x.A.length+x.B.length)
  (λx=>x.P.length+x.A.length=m/\0<x.A.length/\0<x.B.length/\x.l.length=N/\x.t=j.t)
  ⟨j,⟨d8,hA,hB,hN.symm,rfl⟩,ze ?_⟩ ?_
 ·(conv=>whnf);rw[w1,w2];rfl
 rintro⟨P,A,B,S⟩ hR;have hS:P.length+A.length=m/\0<A.length/\0<B.length/\(P++A++B++S).length=N/\P++B++A++S=j.t:=hR;clear hR;obtain⟨g1,g2,g3,g4,g5⟩:=hS;have g6:P.length+A.length+B.length+S.length=N:=by rw[<-g4];simp;omega
 have J:Go.IntKind.i64.wrap ((m:Int)-(A.length:Int))=((P.length:Nat):Int):=by rw[yf d8 d8];omega
 refine zj (λo=>?_) (λo=>?_)
 .have af:A.length≠B.length:=by intro e;have o:(((A.length:Nat):Int) !=((B.length:Nat):Int))=true:=o;rw[e]at o;simp at o
  refine zj (λI=>?_) (λI=>?_)
  .have ad:B.length<A.length:=by have I:decide ((A.length:Int)>(B.length:Int))=true:=I;have:=of_decide_eq_true I;omega
   have aa:Go.IntKind.i64.wrap ((A.length:Int)-(B.length:Int))=(((A.drop B.length).length:Nat):Int):=by rw[yf d8 d8,List.length_drop];omega
   have r:(A.take B.length).length=B.length:=by rw[List.length_take];omega
   have R:(A.drop B.length).length=A.length-B.length:=List.length_drop;have U:A.take B.length++A.drop B.length=A:=List.take_append_drop _ _;(conv=>whnf);rw[J];obtain⟨l',i⟩:∃l',l'=(P++B)++A.drop B.length++A.take B.length++S:=⟨_,rfl⟩;refine zA.mono (swapRange' E g P (A.take B.length) (A.drop B.length) B S (P++A++B++S) l' ?_ i r N P.length m B.length g4.symm rfl r.symm d8 hl) ?_
   .rw[List.append_assoc P (A.take _),U]
   rintro _ rfl;(conv=>whnf);refine⟨⟨P++B,A.drop B.length,A.take B.length,S⟩,⟨⟨?_,?_,?_,?_,?_⟩,?_⟩,ze ?_⟩
   .show(P++B).length+(A.drop B.length).length=m;rw[R,List.length_append];omega
   .show 0<(A.drop B.length).length;omega
   .show 0<(A.take B.length).length;omega
   .show((P++B)++A.drop B.length++A.take B.length++S).length=N;simp only[List.length_append,r,R];omega
   .show(P++B)++A.take B.length++A.drop B.length++S=j.t;rw[<-g5,List.append_assoc (P++B) (A.take _),U]
   .show(A.drop B.length).length+(A.take B.length).length<A.length+B.length;omega
   (conv=>whnf);rw[aa];show aoB sz (clo E g) N m (A.drop B.length).length B.length (eL (en E) l')=aoB sz (clo E g) N m (A.drop B.length).length (A.take B.length).length (eL (en E) ((P++B)++A.drop B.length++A.take B.length++S));rw[r,i]
  have ae:A.length<B.length:=by have I:decide ((A.length:Int)>(B.length:Int))=false:=I;have:=of_decide_eq_false I;omega
  have r:(B.take (B.length-A.length)).length=B.length-A.length:=by rw[List.length_take];omega
  have R:(B.drop (B.length-A.length)).length=A.length:=by rw[List.length_drop];omega
  have U:B.take (B.length-A.length)++B.drop (B.length-A.length)=B:=List.take_append_drop _ _;have ab:Go.IntKind.i64.wrap ((B.length:Int)-(A.length:Int))=(((B.take (B.length-A.length)).length:Nat):Int):=by rw[yf d8 d8,r];omega
  have ac:Go.IntKind.i64.wrap ((m:Int)+(B.length:Int))=((m+B.length:Nat):Int):=by rw[yf d8 d8];omega
  have wk:Go.IntKind.i64.wrap (((m+B.length:Nat):Int)-(A.length:Int))=((m+B.length-A.length:Nat):Int):=by rw[yf d8 d8];omega
  (conv=>whnf);rw[J,ac,wk];obtain⟨l',i⟩:∃l',l'=P++B.drop (B.length-A.length)++B.take (B.length-A.length)++(A++S):=⟨_,rfl⟩;refine zA.mono (swapRange' E g P A (B.take (B.length-A.length)) (B.drop (B.length-A.length)) S (P++A++B++S) l' ?_ ?_ R.symm N P.length (m+B.length-A.length) A.length g4.symm rfl rfl d8 hl) ?_
  .rw[List.append_assoc (P++A) (B.take _),U]
  .rw[i];simp only[List.append_assoc]
  rintro _ rfl;(conv=>whnf);refine⟨⟨P,B.drop (B.length-A.length),B.take (B.length-A.length),A++S⟩,⟨⟨?_,?_,?_,?_,?_⟩,?_⟩,ze ?_⟩
  .show P.length+(B.drop (B.length-A.length)).length=m;omega
  .show 0<(B.drop (B.length-A.length)).length;omega
  .show 0<(B.take (B.length-A.length)).length;omega
  .show(P++B.drop (B.length-A.length)++B.take (B.length-A.length)++(A++S)).length=N;simp only[List.length_append,r,R];omega
  .show P++B.take (B.length-A.length)++B.drop (B.length-A.length)++(A++S)=j.t;rw[<-g5,List.append_assoc P (B.take _),U];simp only[List.append_assoc]
  .show(B.drop (B.length-A.length)).length+(B.take (B.length-A.length)).length<A.length+B.length;omega
  (conv=>whnf);rw[ab];show aoB sz (clo E g) N m A.length (B.take (B.length-A.length)).length (eL (en E) l')=aoB sz (clo E g) N m (B.drop (B.length-A.length)).length (B.take (B.length-A.length)).length (eL (en E) (P++B.drop (B.length-A.length)++B.take (B.length-A.length)++(A++S)));rw[R,i]
 have heq:A.length=B.length:=by have o:(((A.length:Nat):Int) !=((B.length:Nat):Int))=false:=o;rw[bne_eq_false_iff_eq]at o;omega
 (conv=>whnf);rw[J];refine zA.mono (swapRange' E g P A [] B S (P++A++B++S) (P++B++A++S) dT dT heq N P.length m A.length g4.symm rfl rfl dX hl) ?_;rintro _ rfl;(conv=>whnf);exact congrArg (λl=>(⟨.tup [],[.arr sz (eL (en E) l) false]⟩:Res)) g5):p:=h
theorem aca{p:Prop}(h:p:=by
 intro g c ac R hg N hl;intro k;induction k with
 |zero=>intro l a m b h0 h1 h2;omega
 |succ k ih=>
 intro l a m b h0 h1 h2 hb hN ar au ae;refine qe T8 cM_ok dU dT ?_;refine zj (λe1=>?_) (λe1=>?_)
 .have hm:m=a+1:=by have e1:(Go.IntKind.i64.wrap ((m:Int)-(a:Int))==1)=true:=e1;rw[yf d8 d8]at e1;have:=eq_of_beq e1;omega
  obtain⟨x,hx⟩:=uh (l:=l) (i:=a) d8;(conv=>whnf)
  refine yq (P:=Pg) (f:=T8.f) (body:=cM_L0) (λz:Nat×Nat=>aCK sz (clo E g) N a z.1 z.2 (eL (en E) l)) (λz=>z.2-z.1)
   (λz=>m<=z.1/\z.1<=z.2/\z.2<=b/\(z.1=m\/∃u,l[z.1-1]?=some u/\c u x<=0)/\(z.2=b\/∃u,l[z.2]?=some u/\c x u<=0))
   ⟨(m,b),⟨d8,d8,d8,.inl rfl,.inl rfl⟩,ze ?_⟩ ?_
  .exact rfl
  rintro⟨i,j⟩ hR;have hS:m<=i/\i<=j/\j<=b/\(i=m\/∃u,l[i-1]?=some u/\c u x<=0)/\(j=b\/∃u,l[j]?=some u/\c x u<=0):=hR;clear hR;obtain⟨g1,g2,g3,g4,g5⟩:=hS;refine zj (λk1=>?_) (λk1=>?_)
  .have aa:i<j:=by have k1:decide ((i:Int)<(j:Int))=true:=k1;have:=of_decide_eq_true k1;omega
   have wh:=anK i j d8;obtain⟨h,hh⟩:∃h,h=(i+j)/2:=⟨_,rfl⟩;rw[<-hh]at wh;obtain⟨u,hu⟩:=uh (l:=l) (i:=h) d8;have w1:Go.IntKind.i64.wrap ((h:Int)+1)=((h+1:Nat):Int):=zB (n:=b) d8 d8;(conv=>whnf);refine⟨dV,?_⟩;(conv=>whnf);rw[wh];refine qa ?_ (hA:=d8) (hB:=d8);refine⟨_,wW (en E) hu,?_⟩;(conv=>whnf);refine qa ?_ (hA:=d8) (hB:=d8);refine⟨_,wW (en E) hx,?_⟩;(conv=>whnf);refine Go.AM.Sat.mono (hg x u (ae a h x u (Nat.le_refl _) d8 d8 d8 hx hu)) ?_;rintro _ ⟨z,rfl,hz⟩;refine zj (λk2=>?_) (λk2=>?_)
   .have an:c u x<0:=hz.1 (of_decide_eq_true k2);(conv=>whnf);refine⟨(h+1,j),⟨⟨by show m<=h+1;omega,by show h+1<=j;omega,g3,.inr ⟨u,hu,d8⟩,g5⟩,by show j-(h+1)<j-i;omega⟩,ze ?_⟩;(conv=>whnf);rw[w1];rfl
   have ak:¬c u x<0:=λh=>(of_decide_eq_false k2:¬z<0) (hz.2 h)
   (conv=>whnf);refine⟨(i,h),⟨⟨g1,by show i<=h;omega,by show h<=b;omega,g4,.inr ⟨u,hu,ac.ge.1 d8⟩⟩,by show h-i<j-i;omega⟩,ze ?_⟩;exact rfl
  have aa:j=i:=by have k1:decide ((i:Int)<(j:Int))=false:=k1;have:=of_decide_eq_false k1;omega
  subst aa;have wi:Go.IntKind.i64.wrap ((j:Int)-1)=((j-1:Nat):Int):=amD d8 d8;(conv=>whnf)
  refine yq (P:=Pg) (f:=T8.f) (body:=cM_L1) (λz:Nat×List α=>aBL sz N j z.1 (eL (en E) z.2)) (λz=>j-z.1)
   (λz=>a<=z.1/\z.1<=j-1/\PermW a b l z.2/\∀p,z.2[p]?=if a<=p/\p<z.1 then l[p+1]? else if p=z.1 then l[a]? else l[p]?)
   ⟨(a,l),⟨Nat.le_refl _,d8,PermW.refl _ _ _,λp=>?_⟩,ze ?_⟩ ?_
  .rw[if_neg d8];split
   .rename_i e;rw[e]
   rfl
  .exact rfl
  rintro⟨q,l1⟩ hR;have hS:a<=q/\q<=j-1/\PermW a b l l1/\∀p,l1[p]?=if a<=p/\p<q then l[p+1]? else if p=q then l[a]? else l[p]? :=hR
  clear hR;obtain⟨r1,r2,r3,r4⟩:=hS;have r5:=r3.len;refine zj (λk3=>?_) (λk3=>?_)
  .have hq:q<j-1:=by have k3:decide ((q:Int)<Go.IntKind.i64.wrap ((j:Int)-1))=true:=k3;rw[wi]at k3;have:=of_decide_eq_true k3;omega
   have wq:Go.IntKind.i64.wrap ((q:Int)+1)=((q+1:Nat):Int):=zB (n:=b) d8 d8;obtain⟨u,hu⟩:=uh (l:=l1) (i:=q) d8;obtain⟨v,hv⟩:=uh (l:=l1) (i:=q+1) d8;obtain⟨z,hz⟩:=ahE (en E) (i:=q) (x:=v) hv;(conv=>whnf);rw[wq];refine qa ?_ (hA:=d8) (hB:=d8);refine⟨_,wW (en E) hv,?_⟩;(conv=>whnf);refine qa ?_ (hA:=by show(0:Int)<=(q:Int);omega) (hB:=by show(q:Int)<(N:Int);omega);refine⟨_,wW (en E) hu,?_⟩;(conv=>whnf);refine qa ?_ (hA:=by show(0:Int)<=(q:Int);omega) (hB:=by show(q:Int)<(N:Int);omega);refine⟨_,wW (en E) hu,Nat.le_refl _,?_⟩;refine qa ?_ (hA:=d8) (hB:=d8);refine⟨_,hz,Nat.le_refl _,?_⟩;(conv=>whnf);refine⟨(q+1,WQ l1 q (q+1) u v),⟨⟨by show a<=q+1;omega,by show q+1<=j-1;omega,r3.trans (ats hu hv d8 d8 d8 d8),λp=>?_⟩,by show j-(q+1)<j-q;omega⟩,ze ?_⟩
   .rw[r4]at hu hv;rw[if_neg d8,if_pos rfl]at hu;rw[if_neg d8,if_neg d8]at hv;show(WQ l1 q (q+1) u v)[p]?=if a<=p/\p<q+1 then l[p+1]? else if p=q+1 then l[a]? else l[p]?
    have av:l1[q]?=some u:=by rw[r4,if_neg d8,if_pos rfl];exact hu
    have aw:l1[q+1]?=some v:=by rw[r4,if_neg d8,if_neg d8];exact hv
    rw[Jt av aw,r4 p];by_cases p1:p=q+1
    .rw[if_pos p1,if_neg d8,if_pos p1,hu]
    rw[if_neg p1];by_cases J:p=q
    .rw[if_pos J,if_pos d8,J,hv]
    rw[if_neg J];by_cases p3:a<=p/\p<q
    .rw[if_pos p3,if_pos d8]
    rw[if_neg p3,if_neg J,if_neg d8,if_neg p1]
   (conv=>whnf);rw[wq];exact congrArg (aBL sz N j (q+1)) (apv (en E) u v)
  have hq:q=j-1:=by have k3:decide ((q:Int)<Go.IntKind.i64.wrap ((j:Int)-1))=false:=k3;rw[wi]at k3;have:=of_decide_eq_false k3;omega
  subst hq;(conv=>whnf);exact⟨l1,r3,aAs ac hx d8 g3 (au.mono d8 (Nat.le_refl _)) r4 (by rcases g4 with g4|g4;exact .inl d8;exact .inr g4) g5,rfl⟩
 have hm:a+1<m:=by have e1:(Go.IntKind.i64.wrap ((m:Int)-(a:Int))==1)=false:=e1;rw[yf d8 d8,beq_eq_false_iff_ne]at e1;omega
 refine zj (λe2=>?_) (λe2=>?_)
 .have ax:b=m+1:=by have e2:(Go.IntKind.i64.wrap ((b:Int)-(m:Int))==1)=true:=e2;rw[yf d8 d8]at e2;have:=eq_of_beq e2;omega
  obtain⟨x,hx⟩:=uh (l:=l) (i:=m) d8;(conv=>whnf)
  refine yq (P:=Pg) (f:=T8.f) (body:=cM_L2) (λz:Nat×Nat=>aCL sz (clo E g) N m z.1 z.2 (eL (en E) l)) (λz=>z.2-z.1)
   (λz=>a<=z.1/\z.1<=z.2/\z.2<=m/\(z.1=a\/∃u,l[z.1-1]?=some u/\c u x<=0)/\(z.2=m\/∃u,l[z.2]?=some u/\c x u<=0))
   ⟨(a,m),⟨d8,d8,d8,.inl rfl,.inl rfl⟩,ze ?_⟩ ?_
  .exact rfl
  rintro⟨i,j⟩ hR;have hS:a<=i/\i<=j/\j<=m/\(i=a\/∃u,l[i-1]?=some u/\c u x<=0)/\(j=m\/∃u,l[j]?=some u/\c x u<=0):=hR;clear hR;obtain⟨g1,g2,g3,g4,g5⟩:=hS;refine zj (λk1=>?_) (λk1=>?_)
  .have aa:i<j:=by have k1:decide ((i:Int)<(j:Int))=true:=k1;have:=of_decide_eq_true k1;omega
   have wh:=anK i j d8;obtain⟨h,hh⟩:∃h,h=(i+j)/2:=⟨_,rfl⟩;rw[<-hh]at wh;obtain⟨u,hu⟩:=uh (l:=l) (i:=h) d8;have w1:Go.IntKind.i64.wrap ((h:Int)+1)=((h+1:Nat):Int):=zB (n:=b) d8 d8;(conv=>whnf);refine⟨dV,?_⟩;refine qa ?_ (hA:=d8) (hB:=d8);refine⟨_,wW (en E) hx,?_⟩;(conv=>whnf);rw[wh];refine qa ?_ (hA:=d8) (hB:=d8);refine⟨_,wW (en E) hu,?_⟩;(conv=>whnf);refine Go.AM.Sat.mono (hg u x (ae h m u x d8 d8 (Nat.le_refl _) d8 hu hx)) ?_;rintro _ ⟨z,rfl,hz⟩;refine zj (λk2=>?_) (λk2=>?_)
   .have ak:¬c x u<0:=by have k2:(!decide (z<0))=true:=k2;rw[<-hz];simpa using k2
    (conv=>whnf);refine⟨(h+1,j),⟨⟨by show a<=h+1;omega,by show h+1<=j;omega,g3,.inr ⟨u,hu,ac.ge.1 d8⟩,g5⟩,by show j-(h+1)<j-i;omega⟩,ze ?_⟩;(conv=>whnf);rw[w1];rfl
   have an:c x u<0:=by have k2:(!decide (z<0))=false:=k2;rw[<-hz];simpa using k2
   (conv=>whnf);refine⟨(i,h),⟨⟨g1,by show i<=h;omega,by show h<=m;omega,g4,.inr ⟨u,hu,d8⟩⟩,by show h-i<j-i;omega⟩,ze ?_⟩;exact rfl
  have aa:j=i:=by have k1:decide ((i:Int)<(j:Int))=false:=k1;have:=of_decide_eq_false k1;omega
  subst aa;(conv=>whnf)
  refine yq (P:=Pg) (f:=T8.f) (body:=cM_L3) (λz:Nat×List α=>aBM sz N j z.1 (eL (en E) z.2)) (λz=>z.1)
   (λz=>j<=z.1/\z.1<=m/\PermW a b l z.2/\∀p,z.2[p]?=if z.1<p/\p<=m then l[p-1]? else if p=z.1 then l[m]? else l[p]?)
   ⟨(m,l),⟨g3,Nat.le_refl _,PermW.refl _ _ _,λp=>?_⟩,ze ?_⟩ ?_
  .rw[if_neg d8];split
   .rename_i e;rw[e]
   rfl
  .exact rfl
  rintro⟨q,l1⟩ hR;have hS:j<=q/\q<=m/\PermW a b l l1/\∀p,l1[p]?=if q<p/\p<=m then l[p-1]? else if p=q then l[m]? else l[p]? :=hR
  clear hR;obtain⟨r1,r2,r3,r4⟩:=hS;have r5:=r3.len;refine zj (λk3=>?_) (λk3=>?_)
  .have hq:j<q:=by have k3:decide ((q:Int)>(j:Int))=true:=k3;have:=of_decide_eq_true k3;omega
   have wq:Go.IntKind.i64.wrap ((q:Int)-1)=((q-1:Nat):Int):=amD d8 d8;obtain⟨u,hu⟩:=uh (l:=l1) (i:=q) d8;obtain⟨v,hv⟩:=uh (l:=l1) (i:=q-1) d8;obtain⟨z,hz⟩:=ahE (en E) (i:=q) (x:=v) hv;(conv=>whnf);rw[wq];refine qa ?_ (hA:=d8) (hB:=d8);refine⟨_,wW (en E) hv,?_⟩;(conv=>whnf);refine qa ?_ (hA:=by show(0:Int)<=(q:Int);omega) (hB:=by show(q:Int)<(N:Int);omega);refine⟨_,wW (en E) hu,?_⟩;(conv=>whnf);refine qa ?_ (hA:=by show(0:Int)<=(q:Int);omega) (hB:=by show(q:Int)<(N:Int);omega);refine⟨_,wW (en E) hu,Nat.le_refl _,?_⟩;refine qa ?_ (hA:=d8) (hB:=d8);refine⟨_,hz,Nat.le_refl _,?_⟩;(conv=>whnf);refine⟨(q-1,WQ l1 q (q-1) u v),⟨⟨by show j<=q-1;omega,by show q-1<=m;omega,r3.trans (ats hu hv d8 d8 d8 d8),λp=>?_⟩,by show q-1<q;omega⟩,ze ?_⟩
   .rw[r4]at hu hv;rw[if_neg d8,if_pos rfl]at hu;rw[if_neg d8,if_neg d8]at hv;show(WQ l1 q (q-1) u v)[p]?=if q-1<p/\p<=m then l[p-1]? else if p=q-1 then l[m]? else l[p]?
    have av:l1[q]?=some u:=by rw[r4,if_neg d8,if_pos rfl];exact hu
    have aw:l1[q-1]?=some v:=by rw[r4,if_neg d8,if_neg d8];exact hv
    rw[Jt av aw,r4 p];by_cases p1:p=q-1
    .rw[if_pos p1,if_neg d8,if_pos p1,hu]
    rw[if_neg p1];by_cases J:p=q
    .rw[if_pos J,if_pos d8,J,hv]
    rw[if_neg J];by_cases p3:q<p/\p<=m
    .rw[if_pos p3,if_pos d8]
    rw[if_neg p3,if_neg J,if_neg d8,if_neg p1]
   (conv=>whnf);rw[wq];exact congrArg (aBM sz N j (q-1)) (apv (en E) u v)
  have hq:q=j:=by have k3:decide ((q:Int)>(j:Int))=false:=k3;have:=of_decide_eq_false k3;omega
  subst hq;(conv=>whnf);exact⟨l1,r3,by rw[ax];exact avG ac hx g1 g3 ar r4 g4 g5,rfl⟩
 have ax:m+1<b:=by have e2:(Go.IntKind.i64.wrap ((b:Int)-(m:Int))==1)=false:=e2;rw[yf d8 d8,beq_eq_false_iff_ne]at e2;omega
 have wh:=anK a b d8;obtain⟨o,ay⟩:∃o,o=(a+b)/2:=⟨_,rfl⟩;rw[<-ay]at wh;have wn:Go.IntKind.i64.wrap ((o:Int)+(m:Int))=((o+m:Nat):Int):=by rw[yf d8 d8];omega
 have a0:Go.IntKind.i64.wrap (((o+m:Nat):Int)-(b:Int))=((o+m-b:Nat):Int)\/m<=o:=by
  by_cases h:m<=o
  .exact .inr h
  exact .inl (by rw[yf d8 d8];omega)
 have wp:Go.IntKind.i64.wrap (((o+m:Nat):Int)-1)=((o+m-1:Nat):Int):=amD d8 d8;(conv=>whnf);refine⟨dV,?_⟩;(conv=>whnf);rw[wh];refine zx (λe3=>?_) (λe3=>?_)
 .have az:o<m:=by have e3:decide ((m:Int)>(o:Int))=true:=e3;have:=of_decide_eq_true e3;omega
  (conv=>whnf);rw[wn]
  refine yq (P:=Pg) (f:=T8.f) (body:=cM_L4) (λz:Nat×Nat=>aBN sz (clo E g) N a m b o (o+m) z.1 z.2 (o+m-1) (eL (en E) l)) (λz=>z.2-z.1)
   (λz=>o+m-b<=z.1/\z.1<=z.2/\z.2<=o/\(z.1=o+m-b\/Up c l (z.1-1) (o+m-z.1))/\(z.2=o\/Up c l (o+m-1-z.2) z.2))
   ⟨(o+m-b,o),⟨Nat.le_refl _,by show o+m-b<=o;omega,Nat.le_refl _,.inl rfl,.inl rfl⟩,ze ?_⟩ ?_
  ·(conv=>whnf);rw[wp,a0.resolve_right d8];rfl
  rintro⟨s,r⟩ hR;have hS:o+m-b<=s/\s<=r/\r<=o/\(s=o+m-b\/Up c l (s-1) (o+m-s))/\(r=o\/Up c l (o+m-1-r) r):=hR;clear hR;obtain⟨g1,g2,g3,g4,g5⟩:=hS;refine zj (λk1=>?_) (λk1=>?_)
  .have aa:s<r:=by have k1:decide ((s:Int)<(r:Int))=true:=k1;have:=of_decide_eq_true k1;omega
   have wq:=anK s r d8;obtain⟨h,hh⟩:∃h,h=(s+r)/2:=⟨_,rfl⟩;rw[<-hh]at wq;obtain⟨u,hu⟩:=uh (l:=l) (i:=h) d8;obtain⟨v,hv⟩:=uh (l:=l) (i:=o+m-1-h) d8;have w1:Go.IntKind.i64.wrap ((h:Int)+1)=((h+1:Nat):Int):=zB (n:=b) d8 d8;have wv:Go.IntKind.i64.wrap (((o+m-1:Nat):Int)-(h:Int))=((o+m-1-h:Nat):Int):=by rw[yf d8 d8];omega
   (conv=>whnf);refine⟨dV,?_⟩;(conv=>whnf);rw[wq,wv];refine qa ?_ (hA:=d8) (hB:=d8);refine⟨_,wW (en E) hv,?_⟩;(conv=>whnf);refine qa ?_ (hA:=d8) (hB:=d8);refine⟨_,wW (en E) hu,?_⟩;(conv=>whnf);refine Go.AM.Sat.mono (hg u v (ae h (o+m-1-h) u v d8 d8 d8 d8 hu hv)) ?_;rintro _ ⟨z,rfl,hz⟩;refine zj (λk2=>?_) (λk2=>?_)
   .have ak:¬c v u<0:=by have k2:(!decide (z<0))=true:=k2;rw[<-hz];simpa using k2
    (conv=>whnf);refine⟨(h+1,r),⟨⟨by show o+m-b<=h+1;omega,by show h+1<=r;omega,g3,.inr ⟨u,v,hu,?_,ac.ge.1 d8⟩,g5⟩,by show r-(h+1)<r-s;omega⟩,ze ?_⟩
    .rw[<-hv];congr 1;show o+m-(h+1)=_;omega
    (conv=>whnf);rw[w1];rfl
   have an:c v u<0:=by have k2:(!decide (z<0))=false:=k2;rw[<-hz];simpa using k2
   (conv=>whnf);refine⟨(s,h),⟨⟨g1,by show s<=h;omega,by show h<=o;omega,g4,.inr ⟨v,u,hv,hu,d8⟩⟩,by show h-s<r-s;omega⟩,ze ?_⟩;exact rfl
  have aa:r=s:=by have k1:decide ((s:Int)<(r:Int))=false:=k1;have:=of_decide_eq_false k1;omega
  subst aa;obtain⟨e,he⟩:∃e,e=o+m-r:=⟨_,rfl⟩;have we:Go.IntKind.i64.wrap (((o+m:Nat):Int)-(r:Int))=(e:Int):=by rw[yf d8 d8];omega
  have ai:r=a\/e=b\/Up c l (r-1) e:=by
   rcases g4 with g4|⟨u,v,q1,q2,q3⟩
   .right;left;omega
   exact .inr (.inr ⟨u,v,q1,by rw[he];exact q2,q3⟩)
  have aj:r=m\/e=m\/Up c l (e-1) r:=by
   rcases g5 with g5|⟨u,v,q1,q2,q3⟩
   .right;left;omega
   refine .inr (.inr ⟨u,v,?_,q2,q3⟩);rw[<-q1];congr 1;omega
  have ab:=λ(l1:List α) (hr:X8 r m e l l1)=>akX ac (show a<=r by omega) (show r<=m by omega) (show m<=e by omega) (show e<=b by omega) hr ar au ai aj
  have af:r+(e-m)=o:=d8
  simp only[af]at ab;have ad:=λ(l1:List α) (hr:X8 r m e l l1)=>ae.rot (show a<=r by omega) (show r<=m by omega) (show m<=e by omega) (show e<=b by omega) hr
  simp only[af]at ad;(conv=>whnf);rw[we];refine zx (λf1=>?_) (λf1=>?_)
  .have f1:r<m/\m<e:=Z3 f1;(conv=>whnf);refine zA.mono (rotate' E g l N r m e f1.1 f1.2 d8 hN hl) ?_;rintro _ rfl;have ag:X8 r m e l (agN r m e l):=ajQ d8 d8 d8;have ah:PermW r e l (agN r m e l):=azt d8 d8 d8;obtain⟨l1,al⟩:∃l1,l1=agN r m e l:=⟨_,rfl⟩;rw[<-al]at ag ah⊢;have hr:=ag;have hw:=ah;have hrel:=ad l1 hr;obtain⟨s1,s2,s3,s4,s5⟩:=ab l1 hr;have ao:=hw.len;refine zj (λf2=>?_) (λf2=>?_)
   .have f2:a<r/\r<o:=Z3 f2;(conv=>whnf);refine zA.mono (ih l1 a r o d8 f2.1 f2.2 d8 d8 s1 s2 hrel.1) ?_;rintro _ ⟨l2,J,t2,rfl⟩;have aq:=J.len;refine zj (λI=>?_) (λI=>?_)
    .have I:o<e/\e<b:=Z3 I;(conv=>whnf);refine zA.mono (ih l2 o e b d8 I.1 I.2 d8 d8 (s3.same λi U _=>J.out i (.inr U)) (s4.same λi U _=>J.out i (.inr d8)) (hrel.2.same λi hi=>J.out i (.inr d8))) ?_;rintro _ ⟨l3,p3,t3,rfl⟩;have fin:=ve hw (show a<=r by omega) (show e<=b by omega) J p3 d8 d8 t2 t3 s5;(conv=>whnf);exact⟨l3,fin.1,fin.2,rfl⟩
    have I:e<=o\/b<=e:=Z2 I;have t3:yx c o b l2:=by
     rcases I with I|I
     .exact(s4.mono (show e<=o by omega) (Nat.le_refl _)).same λi U _=>J.out i (.inr U)
     exact(s3.mono (Nat.le_refl _) (show b<=e by omega)).same λi U _=>J.out i (.inr U)
    have fin:=ve hw (show a<=r by omega) (show e<=b by omega) J (PermW.refl o b l2) d8 d8 t2 t3 s5;(conv=>whnf);exact⟨l2,fin.1,fin.2,rfl⟩
   have f2:r<=a\/o<=r:=Z2 f2;have J:PermW a o l1 l1:=PermW.refl _ _ _;have t2:yx c a o l1:=by
    rcases f2 with f2|f2
    .exact s2.mono (show r<=a by omega) (Nat.le_refl _)
    exact s1.mono (Nat.le_refl _) (show o<=r by omega)
   refine zj (λI=>?_) (λI=>?_)
   .have I:o<e/\e<b:=Z3 I;(conv=>whnf);refine zA.mono (ih l1 o e b d8 I.1 I.2 d8 d8 (s3.same λi U _=>J.out i (.inr U)) (s4.same λi U _=>J.out i (.inr d8)) (hrel.2.same λi hi=>J.out i (.inr d8))) ?_;rintro _ ⟨l3,p3,t3,rfl⟩;have fin:=ve hw (show a<=r by omega) (show e<=b by omega) J p3 d8 d8 t2 t3 s5;(conv=>whnf);exact⟨l3,fin.1,fin.2,rfl⟩
   have I:e<=o\/b<=e:=Z2 I;have t3:yx c o b l1:=by
    rcases I with I|I
    .exact(s4.mono (show e<=o by omega) (Nat.le_refl _)).same λi U _=>J.out i (.inr U)
    exact(s3.mono (Nat.le_refl _) (show b<=e by omega)).same λi U _=>J.out i (.inr U)
   have fin:=ve hw (show a<=r by omega) (show e<=b by omega) J (PermW.refl o b l1) d8 d8 t2 t3 s5;(conv=>whnf);exact⟨l1,fin.1,fin.2,rfl⟩
  have f1:m<=r\/e<=m:=Z2 f1;have hr:X8 r m e l l:=X8.same d8 d8 d8;have hw:PermW r e l l:=PermW.refl _ _ _;have hrel:=ad l hr;obtain⟨s1,s2,s3,s4,s5⟩:=ab l hr;have ao:=hw.len;refine zj (λf2=>?_) (λf2=>?_)
  .have f2:a<r/\r<o:=Z3 f2;(conv=>whnf);refine zA.mono (ih l a r o d8 f2.1 f2.2 d8 d8 s1 s2 hrel.1) ?_;rintro _ ⟨l2,J,t2,rfl⟩;have aq:=J.len;refine zj (λI=>?_) (λI=>?_)
   .have I:o<e/\e<b:=Z3 I;(conv=>whnf);refine zA.mono (ih l2 o e b d8 I.1 I.2 d8 d8 (s3.same λi U _=>J.out i (.inr U)) (s4.same λi U _=>J.out i (.inr d8)) (hrel.2.same λi hi=>J.out i (.inr d8))) ?_;rintro _ ⟨l3,p3,t3,rfl⟩;have fin:=ve hw (show a<=r by omega) (show e<=b by omega) J p3 d8 d8 t2 t3 s5;(conv=>whnf);exact⟨l3,fin.1,fin.2,rfl⟩
   have I:e<=o\/b<=e:=Z2 I;have t3:yx c o b l2:=by
    rcases I with I|I
    .exact(s4.mono (show e<=o by omega) (Nat.le_refl _)).same λi U _=>J.out i (.inr U)
    exact(s3.mono (Nat.le_refl _) (show b<=e by omega)).same λi U _=>J.out i (.inr U)
   have fin:=ve hw (show a<=r by omega) (show e<=b by omega) J (PermW.refl o b l2) d8 d8 t2 t3 s5;(conv=>whnf);exact⟨l2,fin.1,fin.2,rfl⟩
  have f2:r<=a\/o<=r:=Z2 f2;have J:PermW a o l l:=PermW.refl _ _ _;have t2:yx c a o l:=by
   rcases f2 with f2|f2
   .exact s2.mono (show r<=a by omega) (Nat.le_refl _)
   exact s1.mono (Nat.le_refl _) (show o<=r by omega)
  refine zj (λI=>?_) (λI=>?_)
  .have I:o<e/\e<b:=Z3 I;(conv=>whnf);refine zA.mono (ih l o e b d8 I.1 I.2 d8 d8 (s3.same λi U _=>J.out i (.inr U)) (s4.same λi U _=>J.out i (.inr d8)) (hrel.2.same λi hi=>J.out i (.inr d8))) ?_;rintro _ ⟨l3,p3,t3,rfl⟩;have fin:=ve hw (show a<=r by omega) (show e<=b by omega) J p3 d8 d8 t2 t3 s5;(conv=>whnf);exact⟨l3,fin.1,fin.2,rfl⟩
  have I:e<=o\/b<=e:=Z2 I;have t3:yx c o b l:=by
   rcases I with I|I
   .exact(s4.mono (show e<=o by omega) (Nat.le_refl _)).same λi U _=>J.out i (.inr U)
   exact(s3.mono (Nat.le_refl _) (show b<=e by omega)).same λi U _=>J.out i (.inr U)
  have fin:=ve hw (show a<=r by omega) (show e<=b by omega) J (PermW.refl o b l) d8 d8 t2 t3 s5;(conv=>whnf);exact⟨l,fin.1,fin.2,rfl⟩
 have az:m<=o:=by have e3:decide ((m:Int)>(o:Int))=false:=e3;have:=of_decide_eq_false e3;omega
 (conv=>whnf);rw[wn]
 refine yq (P:=Pg) (f:=T8.f) (body:=cM_L4) (λz:Nat×Nat=>aBN sz (clo E g) N a m b o (o+m) z.1 z.2 (o+m-1) (eL (en E) l)) (λz=>z.2-z.1)
  (λz=>a<=z.1/\z.1<=z.2/\z.2<=m/\(z.1=a\/Up c l (z.1-1) (o+m-z.1))/\(z.2=m\/Up c l (o+m-1-z.2) z.2))
  ⟨(a,m),⟨Nat.le_refl _,by show a<=m;omega,Nat.le_refl _,.inl rfl,.inl rfl⟩,ze ?_⟩ ?_
 ·(conv=>whnf);rw[wp];rfl
 rintro⟨s,r⟩ hR;have hS:a<=s/\s<=r/\r<=m/\(s=a\/Up c l (s-1) (o+m-s))/\(r=m\/Up c l (o+m-1-r) r):=hR;clear hR;obtain⟨g1,g2,g3,g4,g5⟩:=hS;refine zj (λk1=>?_) (λk1=>?_)
 .have aa:s<r:=by have k1:decide ((s:Int)<(r:Int))=true:=k1;have:=of_decide_eq_true k1;omega
  have wq:=anK s r d8;obtain⟨h,hh⟩:∃h,h=(s+r)/2:=⟨_,rfl⟩;rw[<-hh]at wq;obtain⟨u,hu⟩:=uh (l:=l) (i:=h) d8;obtain⟨v,hv⟩:=uh (l:=l) (i:=o+m-1-h) d8;have w1:Go.IntKind.i64.wrap ((h:Int)+1)=((h+1:Nat):Int):=zB (n:=b) d8 d8;have wv:Go.IntKind.i64.wrap (((o+m-1:Nat):Int)-(h:Int))=((o+m-1-h:Nat):Int):=by rw[yf d8 d8];omega
  (conv=>whnf);refine⟨dV,?_⟩;(conv=>whnf);rw[wq,wv];refine⟨d8,d8,?_⟩;(conv=>whnf);refine⟨_,wW (en E) hv,?_⟩;(conv=>whnf);refine qa ?_ (hA:=d8) (hB:=d8);refine⟨_,wW (en E) hu,?_⟩;(conv=>whnf);refine Go.AM.Sat.mono (hg u v (ae h (o+m-1-h) u v d8 d8 d8 d8 hu hv)) ?_;rintro _ ⟨z,rfl,hz⟩;refine zj (λk2=>?_) (λk2=>?_)
  .have ak:¬c v u<0:=by have k2:(!decide (z<0))=true:=k2;rw[<-hz];simpa using k2
   (conv=>whnf);refine⟨(h+1,r),⟨⟨by show a<=h+1;omega,by show h+1<=r;omega,g3,.inr ⟨u,v,hu,?_,ac.ge.1 d8⟩,g5⟩,by show r-(h+1)<r-s;omega⟩,ze ?_⟩
   .rw[<-hv];congr 1;show o+m-(h+1)=_;omega
   (conv=>whnf);rw[w1];rfl
  have an:c v u<0:=by have k2:(!decide (z<0))=false:=k2;rw[<-hz];simpa using k2
  (conv=>whnf);refine⟨(s,h),⟨⟨g1,by show s<=h;omega,by show h<=m;omega,g4,.inr ⟨v,u,hv,hu,d8⟩⟩,by show h-s<r-s;omega⟩,ze ?_⟩;exact rfl
 have aa:r=s:=by have k1:decide ((s:Int)<(r:Int))=false:=k1;have:=of_decide_eq_false k1;omega
 subst aa;obtain⟨e,he⟩:∃e,e=o+m-r:=⟨_,rfl⟩;have we:Go.IntKind.i64.wrap (((o+m:Nat):Int)-(r:Int))=(e:Int):=by rw[yf d8 d8];omega
 have ai:r=a\/e=b\/Up c l (r-1) e:=by
  rcases g4 with g4|⟨u,v,q1,q2,q3⟩
  .left;exact g4
  exact .inr (.inr ⟨u,v,q1,by rw[he];exact q2,q3⟩)
 have aj:r=m\/e=m\/Up c l (e-1) r:=by
  rcases g5 with g5|⟨u,v,q1,q2,q3⟩
  .left;exact g5
  refine .inr (.inr ⟨u,v,?_,q2,q3⟩);rw[<-q1];congr 1;omega
 have ab:=λ(l1:List α) (hr:X8 r m e l l1)=>akX ac (show a<=r by omega) (show r<=m by omega) (show m<=e by omega) (show e<=b by omega) hr ar au ai aj
 have af:r+(e-m)=o:=d8
 simp only[af]at ab;have ad:=λ(l1:List α) (hr:X8 r m e l l1)=>ae.rot (show a<=r by omega) (show r<=m by omega) (show m<=e by omega) (show e<=b by omega) hr
 simp only[af]at ad;(conv=>whnf);rw[we];refine zx (λf1=>?_) (λf1=>?_)
 .have f1:r<m/\m<e:=Z3 f1;(conv=>whnf);refine zA.mono (rotate' E g l N r m e f1.1 f1.2 d8 hN hl) ?_;rintro _ rfl;have ag:X8 r m e l (agN r m e l):=ajQ d8 d8 d8;have ah:PermW r e l (agN r m e l):=azt d8 d8 d8;obtain⟨l1,al⟩:∃l1,l1=agN r m e l:=⟨_,rfl⟩;rw[<-al]at ag ah⊢;have hr:=ag;have hw:=ah;have hrel:=ad l1 hr;obtain⟨s1,s2,s3,s4,s5⟩:=ab l1 hr;have ao:=hw.len;refine zj (λf2=>?_) (λf2=>?_)
  .have f2:a<r/\r<o:=Z3 f2;(conv=>whnf);refine zA.mono (ih l1 a r o d8 f2.1 f2.2 d8 d8 s1 s2 hrel.1) ?_;rintro _ ⟨l2,J,t2,rfl⟩;have aq:=J.len;refine zj (λI=>?_) (λI=>?_)
   .have I:o<e/\e<b:=Z3 I;(conv=>whnf);refine zA.mono (ih l2 o e b d8 I.1 I.2 d8 d8 (s3.same λi U _=>J.out i (.inr U)) (s4.same λi U _=>J.out i (.inr d8)) (hrel.2.same λi hi=>J.out i (.inr d8))) ?_;rintro _ ⟨l3,p3,t3,rfl⟩;have fin:=ve hw (show a<=r by omega) (show e<=b by omega) J p3 d8 d8 t2 t3 s5;(conv=>whnf);exact⟨l3,fin.1,fin.2,rfl⟩
   have I:e<=o\/b<=e:=Z2 I;have t3:yx c o b l2:=by
    rcases I with I|I
    .exact(s4.mono (show e<=o by omega) (Nat.le_refl _)).same λi U _=>J.out i (.inr U)
    exact(s3.mono (Nat.le_refl _) (show b<=e by omega)).same λi U _=>J.out i (.inr U)
   have fin:=ve hw (show a<=r by omega) (show e<=b by omega) J (PermW.refl o b l2) d8 d8 t2 t3 s5;(conv=>whnf);exact⟨l2,fin.1,fin.2,rfl⟩
  have f2:r<=a\/o<=r:=Z2 f2;have J:PermW a o l1 l1:=PermW.refl _ _ _;have t2:yx c a o l1:=by
   rcases f2 with f2|f2
   .exact s2.mono (show r<=a by omega) (Nat.le_refl _)
   exact s1.mono (Nat.le_refl _) (show o<=r by omega)
  refine zj (λI=>?_) (λI=>?_)
  .have I:o<e/\e<b:=Z3 I;(conv=>whnf);refine zA.mono (ih l1 o e b d8 I.1 I.2 d8 d8 (s3.same λi U _=>J.out i (.inr U)) (s4.same λi U _=>J.out i (.inr d8)) (hrel.2.same λi hi=>J.out i (.inr d8))) ?_;rintro _ ⟨l3,p3,t3,rfl⟩;have fin:=ve hw (show a<=r by omega) (show e<=b by omega) J p3 d8 d8 t2 t3 s5;(conv=>whnf);exact⟨l3,fin.1,fin.2,rfl⟩
  have I:e<=o\/b<=e:=Z2 I;have t3:yx c o b l1:=by
   rcases I with I|I
   .exact(s4.mono (show e<=o by omega) (Nat.le_refl _)).same λi U _=>J.out i (.inr U)
   exact(s3.mono (Nat.le_refl _) (show b<=e by omega)).same λi U _=>J.out i (.inr U)
  have fin:=ve hw (show a<=r by omega) (show e<=b by omega) J (PermW.refl o b l1) d8 d8 t2 t3 s5;(conv=>whnf);exact⟨l1,fin.1,fin.2,rfl⟩
 have f1:m<=r\/e<=m:=Z2 f1;have hr:X8 r m e l l:=X8.same d8 d8 d8;have hw:PermW r e l l:=PermW.refl _ _ _;have hrel:=ad l hr;obtain⟨s1,s2,s3,s4,s5⟩:=ab l hr;have ao:=hw.len;refine zj (λf2=>?_) (λf2=>?_)
 .have f2:a<r/\r<o:=Z3 f2;(conv=>whnf);refine zA.mono (ih l a r o d8 f2.1 f2.2 d8 d8 s1 s2 hrel.1) ?_;rintro _ ⟨l2,J,t2,rfl⟩;have aq:=J.len;refine zj (λI=>?_) (λI=>?_)
  .have I:o<e/\e<b:=Z3 I;(conv=>whnf);refine zA.mono (ih l2 o e b d8 I.1 I.2 d8 d8 (s3.same λi U _=>J.out i (.inr U)) (s4.same λi U _=>J.out i (.inr d8)) (hrel.2.same λi hi=>J.out i (.inr d8))) ?_;rintro _ ⟨l3,p3,t3,rfl⟩;have fin:=ve hw (show a<=r by omega) (show e<=b by omega) J p3 d8 d8 t2 t3 s5;(conv=>whnf);exact⟨l3,fin.1,fin.2,rfl⟩
  have I:e<=o\/b<=e:=Z2 I;have t3:yx c o b l2:=by
   rcases I with I|I
   .exact(s4.mono (show e<=o by omega) (Nat.le_refl _)).same λi U _=>J.out i (.inr U)
   exact(s3.mono (Nat.le_refl _) (show b<=e by omega)).same λi U _=>J.out i (.inr U)
  have fin:=ve hw (show a<=r by omega) (show e<=b by omega) J (PermW.refl o b l2) d8 d8 t2 t3 s5;(conv=>whnf);exact⟨l2,fin.1,fin.2,rfl⟩
 have f2:r<=a\/o<=r:=Z2 f2;have J:PermW a o l l:=PermW.refl _ _ _;have t2:yx c a o l:=by
  rcases f2 with f2|f2
  .exact s2.mono (show r<=a by omega) (Nat.le_refl _)
  exact s1.mono (Nat.le_refl _) (show o<=r by omega)
 refine zj (λI=>?_) (λI=>?_)
 .have I:o<e/\e<b:=Z3 I;(conv=>whnf);refine zA.mono (ih l o e b d8 I.1 I.2 d8 d8 (s3.same λi U _=>J.out i (.inr U)) (s4.same λi U _=>J.out i (.inr d8)) (hrel.2.same λi hi=>J.out i (.inr d8))) ?_;rintro _ ⟨l3,p3,t3,rfl⟩;have fin:=ve hw (show a<=r by omega) (show e<=b by omega) J p3 d8 d8 t2 t3 s5;(conv=>whnf);exact⟨l3,fin.1,fin.2,rfl⟩
 have I:e<=o\/b<=e:=Z2 I;have t3:yx c o b l:=by
  rcases I with I|I
  .exact(s4.mono (show e<=o by omega) (Nat.le_refl _)).same λi U _=>J.out i (.inr U)
  exact(s3.mono (Nat.le_refl _) (show b<=e by omega)).same λi U _=>J.out i (.inr U)
 have fin:=ve hw (show a<=r by omega) (show e<=b by omega) J (PermW.refl o b l) d8 d8 t2 t3 s5;(conv=>whnf);exact⟨l,fin.1,fin.2,rfl⟩):p:=h
theorem ahd{p:Prop}(h:p:=by
 intro g c aa R hg l n hn hl ad;refine qe T8 cS_ok dU dT ?_
 conv=>whnf
 refine yq (P:=Pg) (f:=T8.f) (body:=cS_L0) (λz:Nat×List α=>stS sz (clo E g) n n 20 (z.1*20) (z.1*20+20) (eL (en E) z.2)) (λz=>n-z.1*20)
  (λz=>z.1*20<=n/\PermW 0 n l z.2/\je c 20 (z.1*20) z.2/\uJ R 20 (z.1*20) z.2)
  ⟨(0,l),⟨by show 0*20<=n;omega,PermW.refl _ _ _,by show je c 20 (0*20) l;rw[Nat.zero_mul];exact je.zero _ _,by show uJ R 20 (0*20) l;rw[Nat.zero_mul];exact uJ.start ad hn⟩,ze ?_⟩ ?_
 .exact rfl
 rintro⟨q,l1⟩ hR;have hS:q*20<=n/\PermW 0 n l l1/\je c 20 (q*20) l1/\uJ R 20 (q*20) l1:=hR;clear hR;obtain⟨g1,g2,g3,g6⟩:=hS;have g7:=g6.pair (n:=n);have g4:=g2.len;obtain⟨a,j⟩:∃a,a=q*20:=⟨_,rfl⟩;show mwpR Pg T8.f cS_L0 _ (stS sz (clo E g) n n 20 (q*20) (q*20+20) (eL (en E) l1));rw[<-j]at g1 g3 g6 g7⊢;refine zj (λk1=>?_) (λk1=>?_)
 .have I:a+20<=n:=by have k1:decide (((a+20:Nat):Int)<=(n:Int))=true:=k1;have:=of_decide_eq_true k1;omega
  have wb:Go.IntKind.i64.wrap (((a+20:Nat):Int)+((20:Nat):Int))=((a+20+20:Nat):Int):=by rw[yf d8 d8];omega
  (conv=>whnf);refine zA.mono (insSort' E g c aa R hg n l1 a (a+20) d8 d8 I hl (g7.mono (Nat.le_refl _) I)) ?_;rintro _ ⟨U,o,r,rfl⟩;(conv=>whnf);have e1:(q+1)*20=a+20:=d8
  refine⟨(q+1,U),⟨⟨by show(q+1)*20<=n;omega,g2.trans (o.mono (Nat.zero_le _) I),?_,?_⟩,by show n-(q+1)*20<n-a;omega⟩,ze ?_⟩
  .show je c 20 ((q+1)*20) U;rw[j]at g3 o r;exact g3.ext (e:=(q+1)*20) (by rw[Nat.succ_mul];exact o) (by rw[Nat.succ_mul];exact r) d8 (Nat.le_refl _)
  .show uJ R 20 ((q+1)*20) U;rw[j]at g6 o;exact g6.next (e:=(q+1)*20) (by rw[Nat.succ_mul];exact o) d8 (Nat.le_refl _)
  (conv=>whnf);rw[wb];show stS sz (clo E g) n n 20 (a+20) (a+20+20) (eL (en E) U)=stS sz (clo E g) n n 20 ((q+1)*20) ((q+1)*20+20) (eL (en E) U);rw[e1]
 have ac:n<a+20:=by have k1:decide (((a+20:Nat):Int)<=(n:Int))=false:=k1;have:=of_decide_eq_false k1;omega
 (conv=>whnf);refine zA.mono (insSort' E g c aa R hg n l1 a n d8 g1 (Nat.le_refl _) hl g7) ?_;rintro _ ⟨U,o,r,rfl⟩;have b2:je c 20 n U:=by rw[j]at g3 o r;exact g3.ext o r d8 (by rw[Nat.succ_mul];omega)
 have b3:uJ R 20 n U:=by rw[j]at g6 o g1;exact g6.next o g1 d8
 have q2:PermW 0 n l U:=g2.trans (o.mono (Nat.zero_le _) (Nat.le_refl _));have b4:=b3.blk;clear o r g3 g2 g4 g6 g7 b3;(conv=>whnf)
 refine yq (P:=Pg) (f:=T8.f) (body:=cS_L2) (λz:Nat×List α=>stT sz (clo E g) n n z.1 (eL (en E) z.2)) (λz=>n-z.1)
  (λz=>0<z.1/\z.1<=2000000/\PermW 0 n l z.2/\je c z.1 n z.2/\aiU R z.1 z.2)
  ⟨(20,U),⟨by show 0<20;omega,by show 20<=2000000;omega,q2,b2,b4⟩,ze ?_⟩ ?_
 .exact rfl
 rintro⟨i,l3⟩ hR;have hS:0<i/\i<=2000000/\PermW 0 n l l3/\je c i n l3/\aiU R i l3:=hR;clear hR;obtain⟨g1,g2,g3,g4,g6⟩:=hS;refine zj (λk2=>?_) (λk2=>?_)
 .have ab:i<n:=by have k2:decide ((i:Int)<(n:Int))=true:=k2;have:=of_decide_eq_true k2;omega
  have w2:Go.IntKind.i64.wrap (2*(i:Int))=((2*i:Nat):Int):=by rw[yf d8 d8];omega
  have w3:Go.IntKind.i64.wrap ((i:Int)*2)=((2*i:Nat):Int):=by rw[yf d8 d8];omega
  conv=>whnf
  refine yq (P:=Pg) (f:=T8.f) (body:=cS_L1) (λz:Nat×List α=>stS sz (clo E g) n n i (z.1*(2*i)) (z.1*(2*i)+2*i) (eL (en E) z.2)) (λz=>n-z.1*(2*i))
   (λz=>z.1*(2*i)<=n/\PermW 0 n l z.2/\je c (2*i) (z.1*(2*i)) z.2/\Uo c i (z.1*(2*i)) n z.2/\XT R i (z.1*(2*i)) z.2)
   ⟨(0,l3),⟨by show 0*(2*i)<=n;omega,g3,by show je c (2*i) (0*(2*i)) l3;rw[Nat.zero_mul];exact je.zero _ _,by show Uo c i (0*(2*i)) n l3;rw[Nat.zero_mul];exact g4.blkF,by show XT R i (0*(2*i)) l3;rw[Nat.zero_mul];exact g6.pass⟩,ze ?_⟩ ?_
  ·(conv=>whnf);rw[w2];show stS sz (clo E g) n n i 0 (2*i) (eL (en E) l3)=stS sz (clo E g) n n i (0*(2*i)) (0*(2*i)+2*i) (eL (en E) l3);rw[Nat.zero_mul,Nat.zero_add]
  rintro⟨q,l4⟩ hR;have hS:q*(2*i)<=n/\PermW 0 n l l4/\je c (2*i) (q*(2*i)) l4/\Uo c i (q*(2*i)) n l4/\XT R i (q*(2*i)) l4:=hR;clear hR;obtain⟨r1,r2,r3,r4,r6⟩:=hS;have r7:=λe=>r6.rel (e:=e)
  have r8:=r6.blk;have r9:=λe J=>r6.next (e:=e) (n:=n) (l':=J)
  have r5:=r2.len;have s1:=r4.at0;have r:=r4.at1;obtain⟨a,j⟩:∃a,a=q*(2*i):=⟨_,rfl⟩;show mwpR Pg T8.f cS_L1 _ (stS sz (clo E g) n n i (q*(2*i)) (q*(2*i)+2*i) (eL (en E) l4));have ae:(q+1)*(2*i)=a+2*i:=by rw[Nat.succ_mul,j]
  rw[<-j]at r1 r3 r4 s1 r r7 r9⊢;rw[ae]at r9;have w4:Go.IntKind.i64.wrap ((a:Int)+(i:Int))=((a+i:Nat):Int):=by rw[yf d8 d8];omega
  refine zj (λk3=>?_) (λk3=>?_)
  .have I:a+2*i<=n:=by have k3:decide (((a+2*i:Nat):Int)<=(n:Int))=true:=k3;have:=of_decide_eq_true k3;omega
   have w5:Go.IntKind.i64.wrap (((a+2*i:Nat):Int)+((2*i:Nat):Int))=((a+2*i+2*i:Nat):Int):=by rw[yf d8 d8];omega
   rw[Nat.min_eq_left d8]at s1 r;(conv=>whnf);rw[w4];refine zA.mono (symMerge E g c aa R hg n hl _ l4 a (a+i) (a+2*i) (Nat.le_refl _) d8 d8 d8 d8 s1 (r.mono (Nat.le_refl _) d8) (r7 _)) ?_;rintro _ ⟨J,p5,t5,rfl⟩;have e1:(q+1)*(2*i)=a+2*i:=by rw[Nat.succ_mul,j]
   (conv=>whnf);refine⟨(q+1,J),⟨⟨by show(q+1)*(2*i)<=n;omega,r2.trans (p5.mono (Nat.zero_le _) I),?_,?_,?_⟩,by show n-(q+1)*(2*i)<n-a;rw[e1];omega⟩,ze ?_⟩
   .show je c (2*i) ((q+1)*(2*i)) J;rw[e1];have e2:=e1;subst j;exact r3.ext p5 t5 d8 d8
   .show Uo c i ((q+1)*(2*i)) n J;rw[e1];exact r4.next p5 d8
   .show XT R i ((q+1)*(2*i)) J;rw[e1];exact r9 _ _ p5 (Nat.le_refl _) (.inl rfl)
   (conv=>whnf);rw[w2,w5];show stS sz (clo E g) n n i (a+2*i) (a+2*i+2*i) (eL (en E) J)=stS sz (clo E g) n n i ((q+1)*(2*i)) ((q+1)*(2*i)+2*i) (eL (en E) J);rw[e1]
  have ac:n<a+2*i:=by have k3:decide (((a+2*i:Nat):Int)<=(n:Int))=false:=k3;have:=of_decide_eq_false k3;omega
  have e1:(q+1)*(2*i)=a+2*i:=by rw[Nat.succ_mul,j]
  (conv=>whnf);rw[w4];refine zx (λk4=>?_) (λk4=>?_)
  .have hm:a+i<n:=by have k4:decide (((a+i:Nat):Int)<(n:Int))=true:=k4;have:=of_decide_eq_true k4;omega
   rw[Nat.min_eq_left d8]at s1;rw[Nat.min_eq_right d8]at r;(conv=>whnf);refine zA.mono (symMerge E g c aa R hg n hl _ l4 a (a+i) n (Nat.le_refl _) d8 d8 d8 d8 s1 r (r7 _)) ?_;rintro _ ⟨J,p5,t5,rfl⟩;(conv=>whnf);refine⟨(2*i,J),⟨⟨by show 0<2*i;omega,by show 2*i<=2000000;omega,r2.trans (p5.mono (Nat.zero_le _) (Nat.le_refl _)),?_,(r9 _ _ p5 d8 (.inr ⟨rfl,by rw[r5];exact hn⟩)).blk⟩,by show n-2*i<n-i;omega⟩,ze ?_⟩
   .show je c (2*i) n J;subst j;exact r3.ext p5 t5 r1 d8
   (conv=>whnf);rw[w3];rfl
  have hm:n<=a+i:=by have k4:decide (((a+i:Nat):Int)<(n:Int))=false:=k4;have:=of_decide_eq_false k4;omega
  rw[Nat.min_eq_right d8]at s1;(conv=>whnf);refine⟨(2*i,l4),⟨⟨by show 0<2*i;omega,by show 2*i<=2000000;omega,r2,?_,r8⟩,by show n-2*i<n-i;omega⟩,ze ?_⟩
  .show je c (2*i) n l4;subst j;exact r3.ext (PermW.refl _ _ _) s1 r1 d8
  (conv=>whnf);rw[w3];rfl
 have ab:n<=i:=by have k2:decide ((i:Int)<(n:Int))=false:=k2;have:=of_decide_eq_false k2;omega
 have s0:=g4 0;rw[Nat.zero_mul,Nat.zero_add,Nat.one_mul,Nat.min_eq_right ab]at s0;(conv=>whnf);exact⟨l3,g3,s0,rfl⟩):p:=h
theorem KA{p:Prop}(h:p:=by
 intro g c i R I l n P J j;refine qe T8 cT_ok dU dT ?_
 conv=>whnf
 refine zA.mono (stable E g c i R I l n P J j) ?_;rintro _ ⟨l',o,r,rfl⟩
 conv=>whnf
 exact⟨l',o,r,rfl⟩):p:=h
end So
namespace So.R
structure En(α:Type) where
 d:α->D
 c0:am D
 c1:am D
abbrev en{α:Type}(E:En α)(x:α):am D:=[E.d x]
abbrev sz:Nat:=1
abbrev cal{α:Type}(E:En α)(x y:α):am W:=[.c (.d (E.d x)),.c (.d (E.d y)),.c (.fp E.c0),.c (.fp E.c1)]
abbrev clo{α:Type}(E:En α)(g:FuncId):W:=.c (.d (.fn g [E.c0,E.c1]))
noncomputable abbrev cI_L0:=(yY.l 0)
noncomputable abbrev cI_L1:=(yY.l 1)
abbrev cI_ok:=yY.ok
noncomputable abbrev cM_L0:=(yX.l 0)
noncomputable abbrev cM_L1:=(yX.l 1)
noncomputable abbrev cM_L2:=(yX.l 2)
noncomputable abbrev cM_L3:=(yX.l 3)
noncomputable abbrev cM_L4:=(yX.l 4)
abbrev cM_ok:=yX.ok
noncomputable abbrev cO_L0:=(jW.l 0)
abbrev cO_ok:=jW.ok
noncomputable abbrev cS_L0:=(yT.l 0)
noncomputable abbrev cS_L1:=(yT.l 1)
noncomputable abbrev cS_L2:=(yT.l 2)
abbrev cS_ok:=yT.ok
abbrev cT_ok:=jt.ok
noncomputable abbrev cW_L0:=(uM.l 0)
abbrev cW_ok:=uM.ok
theorem g8{α:Type}(E:En α):gH vY sz (en E) (cal E) (clo E):=aeu
abbrev insSort'{α:Type}(E:En α):=(g8 E).p
theorem Ul{α:Type}(E:En α):VU Qm sz (en E) (clo E):=gF
abbrev swapRange'{α:Type}(E:En α):=(Ul E).p
theorem adU{α:Type}(E:En α):acP WI sz (en E) (clo E):=ahc
abbrev rotate'{α:Type}(E:En α):=(adU E).p
theorem symMerge{α:Type}(E:En α):af4 QW sz (en E) (cal E) (clo E):=aca
theorem stable{α:Type}(E:En α):amJ jZ sz (en E) (cal E) (clo E):=ahd
theorem SortStable{α:Type}(E:En α):SortStable wX sz (en E) (cal E) (clo E):=KA
end So.R
abbrev aBc{α:Type}(d:α->D)(l:am α):am (am D):=l.map λx=> [d x]
abbrev agW{α:Type}(d:α->D)(g i:am D):=So.R.SortStable ⟨d,g,i⟩
def ajg(s:Srt)(x y:Val):Int:=bif s.desc then xV y x else xV x y
def kU:am Srt->am Val->am Val->Int
 |s::r,x::xs,y::ys=>bif ajg s x y !=0 then ajg s x y else kU r xs ys
 |_,_,_=>0
theorem aAv{l:am Srt}{i:Nat}(h:i<l.length):(xz l)[((i:Nat):Int).toNat]?=some l[i].ds:=by grind[xz]
theorem ajU(l:am Srt)(i:Nat)(hi:i<l.length)(x y:Val):dY Yy [.c (int i),x.w,y.w,.c (.fp [.sl (xz l)])] (rI (ajg l[i] x y)):=by
 have g:=aAv hi;obtain⟨p,I,J⟩:=x;obtain⟨P,R,U⟩:=y;unfold ajg;generalize l[i]=s at*;obtain⟨o,j⟩:=s;refine ac4.s T8 ?_;refine yb g ?_;cases j
 .exact rfl
 exact rfl
def cpS(l:am Srt)(xs ys:am Val)(n i:Nat):S:=⟨[(0,.w (yu xs)),(1,.w (yu ys)),(2,.w (.c (.d (.fn Yy [[.sl (xz l)]])))),(13,zm n),(14,zm i)],[]⟩
theorem aoN(l:am Srt)(xs ys:am Val)(U:xs.length=l.length)(hy:ys.length=l.length)(hl:l.length<=1000000):
 dY gf [yu xs,yu ys,.c (.d (.fn Yy [[.sl (xz l)]]))] (rI (kU l xs ys)):=by
 have R:zI false (rowD xs).length (rowD ys).length=(l.length:Int):=by grind[zu,azp]
 have hC:yw (l.length:Int) l.length=0:=by simp[yw]
 refine jQ.s T8 ?_;rw[R];refine Uc T8 (jQ.l 0) l.length (λi=>cpS l xs ys l.length i) (λi=>kU l xs ys=kU (l.drop i) (xs.drop i) (ys.drop i)) ?_
 intro i hi g;have g:kU l xs ys=kU (l.drop i) (xs.drop i) (ys.drop i):=g;show mwpR Pg T8.f (jQ.l 0) _ (cpS l xs ys l.length i);unfold cpS;refine uT (λj=>?_) (λp=>?_)
 .have P:=ajU l i j xs[i] ys[i];have I:=xw (r:=xs) (i:=i) d8;have J:=xw (r:=ys) (i:=i) d8;rw[zt j,zt (show i<xs.length by omega),zt (show i<ys.length by omega)]at g;simp only[kU]at g;generalize ajg l[i] xs[i] ys[i]=c at*;generalize xs[i]=x at*;generalize ys[i]=y at*;obtain⟨x1,x2,x3⟩:=x;obtain⟨y1,y2,y3⟩:=y;refine yb I ?_;refine yb J ?_;refine aH P ?_;refine zx (λo=>?_) (λo=>?_)
  .rw[show(c !=0)=true from o]at g;(conv=>whnf);exact aZ rI g.symm
  rw[show(c !=0)=false from o]at g;refine yW j g ?_;rw[zB j d8];rfl
 rw[aD p]at g;have g:kU l xs ys=0:=g;rw[g];(conv=>whnf);rw[zu,zu,U,hy];rw[hC];rfl
def kyS(row:am Val)(at_:am Int)(i:Nat)(g:am Val):S:=⟨[(0,.w (yu row)),(4,cV (.own 19 3 g.length)),(7,.w (.c (.d (.sl (zh at_))))),(8,zm (zh at_).length),(9,zm i)],
 [(19,.arr 3 (rowD g) false)]⟩
theorem aoS(row:am Val)(at_:am Int)(hn:at_.length<=1000000)(R:zS row.length at_):dY Zv [yu row,.c (.fp [.sl (zh at_)])] (rC (.d (.sl (rowD (zn row at_))))):=by
 refine zC ?_;refine Qc.s T8 ?_;refine yy (P:=Pg) (f:=T8.f) (body:=(Qc.l 0)) at_.length (λi=>kyS row at_ i (zn row (at_.take i))) (λ_=>True) ⟨trivial,⟨_,ya 4 19 3 d8 d8 rfl,?_⟩⟩ ?_
 .exact rfl
 intro i hi _;have aa:(zn row (at_.take i)).length=i:=by grind[zn]
 have j:∀h:i<at_.length,zn row (at_.take (i+1))=zn row (at_.take i)++[at0 row (at_[i]).toNat]:=λh=>by grind[zn,zJ]
 have o:at_.length<=i->zn row at_=zn row (at_.take i):=λh=>d9
 show mwpR Pg T8.f (Qc.l 0) _ (kyS row at_ i (zn row (at_.take i)));generalize zn row (at_.take i)=T at*;have p:(rowD T).take T.length=rowD T:=by grind[zu]
 unfold kyS;refine zj (λU=>?_) (λU=>?_)
 .have g:i<at_.length:=by simp_all[zE]
  have hg:=xg g;have j:=j g;have hk:=R _ (aN g);generalize at_[i]=k at*;have J:(rowD row)[k.toNat]?=some (at0 row k.toNat).ds:=by grind[at0,rowD]
  generalize at0 row k.toNat=v at*;obtain⟨v1,v2,v3⟩:=v;refine yb hg ?_;refine yb J ?_ (hA:=hk.1);refine qr ?_;refine yW g trivial ?_;rw[zB g d8,p,j,<-uu,aE];rfl
 have I:at_.length<=i:=by grind[zE]
 rw[o I];refine gJ ?_;show Res.mk (.w (.c (.d (.sl ((rowD T).take T.length))))) []=_;rw[p];rfl
def Zi(at_:am Int)(l:am Srt)(a b:am Val):Int:=kU l (zn a at_) (zn b at_)
theorem aoH(at_:am Int)(l:am Srt)(a b:am Val)(o:zS a.length at_)(p:zS b.length at_)(J:at_.length=l.length)(I:l.length<=1000000):
 dY Qn [yu a,yu b,.c (.fp [.fn Zv [[.sl (zh at_)]]]),.c (.fp [.sl (xz l)])] (rI (Zi at_ l a b)):=by
 have g:=aoS a at_ d8 o;have i:=aoS b at_ d8 p;have j:=aoN l (zn a at_) (zn b at_) (by grind[zn]) (by grind[zn]) I;unfold Zi;generalize kU l (zn a at_) (zn b at_)=c at*;generalize zn a at_=x at*;generalize zn b at_=y at*;refine agh.s T8 ?_
 repeat' (first
  |(refine bI ?_ ?_<;>conv=>whnf)
  |(refine aS g ?_;rintro _ rfl;conv=>whnf)
  |(refine aS i ?_;rintro _ rfl;conv=>whnf)
  |(refine aS j ?_;rintro _ rfl;conv=>whnf))
 all_goals rfl
theorem CmpOK.both{α:Type}{c d:α->α->Int}(h:CmpOK c)(k:CmpOK d):CmpOK (λx y=>bif c x y !=0 then c x y else d x y):=by
 have e:∀x y,(bif c x y !=0 then c x y else d x y)=if c x y=0 then d x y else c x y:=λx y=>dW
 refine⟨λx=>?_,λx y=>?_,λx y z j i=>?_⟩
 .simp only[e];rw[aM (h.refl x)];exact k.refl x
 .simp only[e];have p:=h.anti x y;have a2:=h.anti y x;have a3:=k.anti x y;omega
 simp only[e]at j i⊢;by_cases l:c x y=0
 .rw[aM l]at j;by_cases g:c y z=0
  .rw[aM g]at i;have r:=h.trans x y z d8 d8;have o:=h.trans z y x (by have:=h.zero.1 g;omega) (by have:=h.zero.1 l;omega);have I:=h.ge.2 o;rw[aM d8];exact k.trans _ _ _ j i
  rw[aI g]at i;have:=h.lt_of2 (x:=x) (y:=y) (z:=z) d8 d8;omega
 rw[aI l]at j;by_cases g:c y z=0
 .have:=h.lt_of (x:=x) (y:=y) (z:=z) d8 d8;omega
 rw[aI g]at i;have:=h.lt_of (x:=x) (y:=y) (z:=z) d8 d8;omega
theorem CmpOK.onF{α β:Type}{c:α->α->Int}(h:CmpOK c)(f:β->α):CmpOK (λx y=>c (f x) (f y)):=⟨λx=>h.refl _,λx y=>h.anti _ _,λx y z=>h.trans _ _ _⟩
theorem CmpOK.flip{α:Type}{c:α->α->Int}(h:CmpOK c):CmpOK (λx y=>c y x):=⟨λx=>h.refl _,λx y=>h.anti _ _,λx y z g i=>h.trans _ _ _ i g⟩
theorem azO(s:Srt):CmpOK (ajg s):=by
 obtain⟨i,g⟩:=s;cases g
 .exact ajF
 exact ajF.flip
theorem W8:∀(at_:am Int) (l:am Srt),CmpOK (Zi at_ l)
 |[],l=>by
   have e:Zi [] l= λ_ _=>0:=by funext a b;cases l<;>rfl
   rw[e];exact⟨λ_=>rfl,λ_ _=>d8,λ_ _ _ _ _=>cj _⟩
 |k::at_,[]=>by
  have e:Zi (k::at_) []= λ_ _=>0:=by funext a b;rfl
  rw[e];exact⟨λ_=>rfl,λ_ _=>d8,λ_ _ _ _ _=>cj _⟩
 |k::at_,s::l=>((azO s).onF (λrow=>at0 row k.toNat)).both (W8 at_ l)
theorem avc(l:am (am Val)):∀x∈zg l,x.length=1:=by grind[zg]
theorem UW(l:am (am Val))(g:l.length<=1000000):Sat Pg aah [.c (.d (.sl (zg l)))] (λr=>(l=[]/\r=rC .nil)\/r=adR 1 (zg l)):=by
 refine gN.s T8 ?_;refine⟨λh=>?_,?_⟩
 .conv=>whnf
  left
  refine⟨?_,rfl⟩;cases l with
  |nil=>rfl
  |cons a r=>cases h
 (conv=>whnf);refine⟨avc l,by grind[yz,zy],by grind[zy],?_⟩;(conv=>whnf)
 right
 show Res.mk (.w (.c (.own 0 1 (([]:am (am D)).length+(zg l).length)))) [.arr 1 (([]:am (am D)).take ([]:am (am D)).length++zg l) false]=_;simp_all[adR]
theorem aqs(g:FuncId)(cp:am (am D)):zA Pg vY [.c .nil,.c (int 0),.c (int 0),.c (.d (.fn g cp))] [] (λr=>r=⟨.tup [],[]⟩):=by
 refine qe T8 yY.ok dU dT ?_
 conv=>whnf
 refine yq (P:=Pg) (f:=T8.f) (body:=(yY.l 1)) (λ_:Unit=>⟨[(0,cV .nil),(1,zm 0),(2,zm 0),(3,.w (.c (.d (.fn g cp)))),(8,zm 1)],[]⟩) (λ_=>0) (λ_=>True) ⟨(),trivial,ze ?_⟩ ?_
 .exact rfl
 rintro _ _;exact rfl
theorem aj4(g:FuncId)(cp:am (am D)):zA Pg jZ [.c .nil,.c (int 0),.c (.d (.fn g cp))] [] (λr=>r=⟨.tup [],[]⟩):=by
 refine qe T8 yT.ok dU dT ?_
 conv=>whnf
 refine yq (P:=Pg) (f:=T8.f) (body:=(yT.l 0)) (λ_:Unit=>⟨[(0,cV .nil),(1,zm 0),(2,.w (.c (.d (.fn g cp)))),(6,zm 20),(7,zm 0),(8,zm 20)],[]⟩) (λ_=>0) (λ_=>True) ⟨(),trivial,ze ?_⟩ ?_
 .exact rfl
 rintro _ _;(conv=>whnf);refine zA.mono (aqs g cp) ?_;rintro _ rfl;(conv=>whnf);refine yq (P:=Pg) (f:=T8.f) (body:=(yT.l 2)) (λ_:Unit=>⟨[(0,cV .nil),(1,zm 0),(2,.w (.c (.d (.fn g cp)))),(6,zm 20)],[]⟩) (λ_=>0) (λ_=>True) ⟨(),trivial,ze ?_⟩ ?_
 .exact rfl
 rintro _ _;exact rfl
theorem Ui(g:FuncId)(cp:am (am D)):zA Pg wX [.c .nil,.c (.d (.fn g cp))] [] (λr=>r=⟨.tup [],[]⟩):=by
 refine qe T8 jt.ok dU dT ?_
 conv=>whnf
 refine zA.mono (aj4 g cp) ?_;rintro _ rfl;exact rfl
end
theorem qQ(a b:ByteArray):zo a b=decide (a.data=b.data):=by
 by_cases h:a=b
 .grind[AM.beqS_self]
 have g:zo a b=false:=by grind[AM.beqS_iff]
 rw[g];have:a.data≠b.data:=λe=>h (by cases a;simp_all)
 grind
def xn(n:Int):Val:=⟨2,n,⟨#[]⟩⟩
def sA:ByteArray:=⟨#[97]⟩
def sN:ByteArray:=⟨#[110]⟩
def ex0:Ex:=⟨0,⟨#[]⟩,⟨0,0,⟨#[]⟩⟩,[]⟩
section
attribute [local irreducible] Sat zA zX zo
theorem aa3{α:Type}{e:α->α->Bool}(h:∀x,e x x=true):∀l:am α,wQ e l l=true
 |[]=>rfl
 |x::r=>by simp only[wQ,h,Bool.not_true,aG];exact aa3 h r
theorem awR(v:Val):xf v v=true:=by grind[xf,AM.beqS_self]
theorem awQ(v:Col):eqC v v=true:=by grind[eqC,AM.beqS_self]
theorem aoG(r:am Val):xp r r=true:=by grind[xp,aa3,awR]
theorem abP(t:Tbl):aip t t=true:=by grind[aip,aa3,awQ,aoG]
end
theorem ajw:CmpOK uS:=arp
def SortG(gs:am Gr):Prop:=gs.Pairwise λa b=>uS a.key b.key<0
theorem aa9(p:Nat->Bool)(n:Nat)(J:∀a b,a<=b->b<n->p b=true->p a=true):∀(f i j:Nat),(∀a,a<i->p a=true)->(∀a,j<=a->a<n->p a=false)->j-i<=f->i<=j->j<=n->
 (∀a,a<vS p f i j->p a=true)/\(∀a,vS p f i j<=a->a<n->p a=false)
 |0,i,j,o,r,R,I,g=>by
  have e:i=j:=d8
  subst e;exact⟨o,r⟩
 |f+1,i,j,o,r,R,I,g=>by
  simp only[vS];by_cases l:i<j
  .rw[cd l,aK];cases U:p ((i+j)/2)
   .exact aa9 p n J f i ((i+j)/2) o (λa P hn=>d9) d8 d8 d8
   exact aa9 p n J f ((i+j)/2+1) j (λa P=>J a ((i+j)/2) d8 d8 U) r d8 d8 g
  rw[bN l,aG]
  grind
theorem K8{gs:am Gr}(k:am Val){a:Nat}(h:a<gs.length):wo (gs.map Gr.gp) k a=decide (uS gs[a].key k<0):=by unfold wo;rw[am.getElem?_map,am.getElem?_eq_getElem h];rfl
theorem arI{gs:am Gr}(hs:SortG gs){a b:Nat}(g:a<b)(i:b<gs.length):uS (gs[a]' d8).key gs[b].key<0:=by grind[SortG,bV]
theorem au6{gs:am Gr}(hs:SortG gs)(k:am Val):(∀a (h:a<gs.length),a<qI gs k->uS gs[a].key k<0)/\(∀a (h:a<gs.length),qI gs k<=a->¬uS gs[a].key k<0):=by
 have J:(gs.map Gr.gp).length=gs.length:=List.length_map _;have h:=aa9 (wo (gs.map Gr.gp) k) gs.length (λa b p l i=>by
  rw[K8 k l]at i;rw[K8 k d8];have i:=aF i;by_cases e:a=b
  .grind
  exact cd (ajw.lt_of (arI hs d8 l) d8)) gs.length 0 gs.length (λa h=>absurd h (Nat.not_lt_zero a)) (λa I o=>absurd o d8) d8 (aR _) (aA _)
 have e:qI gs k=vS (wo (gs.map Gr.gp) k) gs.length 0 gs.length:=by grind[qI,Xa]
 rw[<-e]at h;refine⟨λa j g=>?_,λa j r=>?_⟩
 .have:=h.1 a g;rw[K8 k j]at this;exact aF this
 grind[K8]
theorem azV{gs:am Gr}{k:am Val}(h:qI gs k<gs.length):Xv gs k=(uS gs[qI gs k].key k==0):=by unfold Xv XZ;rw[am.getElem?_map,am.getElem?_eq_getElem h];rfl
theorem auA{gs:am Gr}(hs:SortG gs)(k:am Val):SortG (Yt gs k):=by
 obtain⟨U,o⟩:=au6 hs k;unfold Yt;cases hh:Xv gs k with
 |true=>exact hs
 |false=>
  simp only[aG];have P:=aav gs k;have I:∀a (h:a<gs.length),qI gs k<=a->uS k gs[a].key<0:=λa l r=>by
   have R:qI gs k<gs.length:=d8
   have h3:=o _ R (aA _);have h4:uS gs[qI gs k].key k≠0:=λe=>by grind[azV]
   have p:uS k gs[qI gs k].key<0:=(ajw.anti _ _).2 d8;by_cases e:qI gs k=a
   .grind
   exact ajw.lt_of p (by have:=arI hs (show qI gs k<a by omega) l;omega)
  have e:gs.take (qI gs k)++gs.drop (qI gs k)=gs:=aU ..;have g:SortG (gs.take (qI gs k)++gs.drop (qI gs k)):=d9
  unfold SortG at g⊢;rw[cm]at g;rw[aW,cm,List.singleton_append,List.pairwise_cons];refine⟨g.1,⟨λb i=>?_,g.2.1⟩,λa l b i=>?_⟩
  .obtain⟨j,J,rfl⟩:=cr i;simp_all
  rcases aV.1 i with rfl|i
  .obtain⟨j,J,rfl⟩:=cr l
   grind
  grind
theorem arY(gs:am Gr)(p:Nat)(row:am Val):(YX gs p row).map Gr.key=gs.map Gr.key:=by
 unfold YX;split
 .rename_i g i;obtain⟨h,rfl⟩:=am.getElem?_eq_some_iff.1 i;rw[List.map_set];apply List.ext_getElem
  .simp
  grind
 rfl
theorem avH{gs g:am Gr}(h:gs.map Gr.key=g.map Gr.key)(hs:SortG gs):SortG g:=by
 have e:∀l:am Gr,SortG l↔(l.map Gr.key).Pairwise λa b=>uS a b<0:=λl=>by grind[SortG]
 grind
def sumG(gs:am Gr):Nat:=(gs.map λg=>g.rows.length).sum
theorem aAx(a b:am Gr):sumG (a++b)=sumG a+sumG b:=by simp[sumG]
theorem aw9(gs:am Gr)(k:am Val):sumG (Yt gs k)=sumG gs:=by
 unfold Yt;cases Xv gs k
 .simp only[aG,aAx]
  grind[aU,sumG]
 rfl
theorem atW(gs:am Gr)(p:Nat)(g:p<gs.length)(row:am Val):sumG (YX gs p row)=sumG gs+1:=by
 unfold YX;rw[am.getElem?_eq_getElem g];simp only;rw[List.set_eq_take_append_cons_drop,aM g]
 grind[List.drop_eq_getElem_cons,aU,sumG]
theorem aq9(at_:am Int)(rows:am (am Val)):∀i,i<=rows.length->SortG (uo at_ (rows.take i))/\sumG (uo at_ (rows.take i))=i/\(∀g∈uo at_ (rows.take i),g.key.length=at_.length/\∀r∈g.rows,r∈rows)
 |0,_=>⟨bW,rfl,λg j=>by cases j⟩
 |i+1,h=>by
  obtain⟨o,I,p⟩:=aq9 at_ rows i d8;rw[abl at_ d8];unfold V5;have hk:(zn rows[i] at_).length=at_.length:=by simp[zn]
  have hi:=anR (uo at_ (rows.take i)) (zn rows[i] at_);refine⟨avH (arY ..).symm (auA o _),by grind[atW,aw9],?_⟩;have l:∀g∈Yt (uo at_ (rows.take i)) (zn rows[i] at_),g.key.length=at_.length/\∀r∈g.rows,r∈rows:=by
   unfold Yt;cases Xv (uo at_ (rows.take i)) (zn rows[i] at_)
   .intro g j;simp only[aG,List.mem_append,bT]at j
    grind
   exact p
  grind[YX]
section
attribute [local irreducible] Sat zA zX zo
theorem acy(d:am Nmd)(t:Tbl)(st:Stp)(p:yH d=0)(l:zH t≠0):dY vW [.c (.d (.sl (zq d))),t.w,st.w] (rNT (zH t)):=by
 have o:=wt d;have hk:=qk t;rw[p]at o;have l:(zH t !=0)=true:=d9
 generalize zH t=e at*;obtain⟨tc,U⟩:=t;obtain⟨op,⟨J,P,⟨vk,vn,vs⟩,ks⟩,g,I,i,j,R,tb⟩:=st;refine Yn.s T8 ?_;refine aH o ?_;refine aH hk ?_;rw[l];exact rfl
def Zn(m:Int):Stp:=⟨5,ex0,[],[],[],[],m,⟨#[]⟩⟩
theorem akZ{cols:am Col}:∀{rows:am (am Val)},X2 cols rows=0->∀r∈rows,r.length=cols.length
 |[],_,r,hr=>by cases hr
 |x::j,h,r,hr=>by
  simp only[X2]at h;cases g:(((x.length:Int)) !=cols.length)
  .rw[g,aG]at h;cases i:(uI cols x !=0)
   .rw[i,aG]at h;rcases aV.1 hr with rfl|hr
    .have:((r.length:Int))=cols.length:=by simpa using g
     omega
    exact akZ h r hr
   simp_all
  grind
theorem wP{t:Tbl}(h:zH t=0):∀r∈t.rows,r.length=t.cols.length:=by
 unfold zH at h;obtain⟨_,h⟩:=yt d8 h;cases g:(Y0 t.cols 0 t.cols !=0)
 .rw[g,aG]at h;exact akZ h
 simp_all
theorem akb{cols:am Col}{g:am ByteArray}(h:takeErr cols g=false):zS cols.length (zi cols g):=by intro k hk<;>grind[zi,takeErr,wI]
structure GOK(rows:am (am Val))(n:Nat)(G:am Gr):Prop where
 srt:SortG G
 sum:sumG G=rows.length
 key:∀g∈G,g.key.length=n
 mem:∀g∈G,∀r∈g.rows,r∈rows
 few:G.length<=rows.length+1
 cnt:∀g∈G,g.rows.length<=rows.length
theorem adh(at_:am Int)(rows:am (am Val)):GOK rows at_.length (vC at_ rows):=by
 unfold vC;by_cases h:at_=[]
 .subst h;rw[aM rfl];refine⟨bY _ _,by simp[sumG],λg i=>?_,λg i=>?_,dT,λg i=>?_⟩;all_goals rw[bT.1 i]
  .rfl
  .grind
  simp_all
 rw[aI h];obtain⟨l,o,j⟩:=aq9 at_ rows rows.length (aA _);have r:=Vc at_ rows rows.length;have p:=abk at_ rows rows.length;rw[aO]at l o j r p;exact⟨l,o,λg i=>(j g i).1,λg i=>(j g i).2,d8,p⟩
theorem arj{m:Int}(h0:0<=m)(j:m<=50):(Zn m).err=0:=by
 have g:(Zn m).uses=true:=by
  show X6 5 ex0.zero 0 0 0 0 m ⟨#[]⟩=true;have i:ex0.zero=true:=by grind[ex0,Ex.zero,VP,xf,AM.beqS_self]
  unfold X6;rw[AM.beqS_self,i];rfl
 unfold Stp.err;rw[g];show(bif decide (m<0)||decide (m>20000)then(2:Int)else 0)=0
 grind
end
section
attribute [local irreducible] Sat zA zX
def jJ(cols:am Col)(l:am Srt):am Int:=l.map λs=>zf cols s.col
def vx(cols:am Col)(l:am Srt):Bool:=l.any λs=>decide (zf cols s.col<0)
def amz(t:Tbl)(l:am Srt):Res:=bif zH t !=0 then qY ⟨[],[]⟩ (zH t)else bif vx t.cols l then qY ⟨[],[]⟩ 16 else qY ⟨t.cols,yM (Zi (jJ t.cols l) l) t.rows⟩ 0
def soS(cols:am Col)(rows:D)(l:am Srt)(i:Nat):am Int->S
 |[]=>⟨[(2,cV (.ptr 2 0)),(3,cV (.ptr 3 0)),(4,cV (.ptr 4 0)),(7,cV (.ptr 7 0)),(19,.w (.c (.d (.sl (xz l))))),(20,zm l.length),(21,zm i)],
  [(2,.box [.d (.sl (zl cols)),.d rows]),(3,.box [.d (.sl (xz l))]),(4,.box [.nil,.nil]),(7,.box [.nil])]⟩
 |a::r=>⟨[(2,cV (.ptr 2 0)),(3,cV (.ptr 3 0)),(4,cV (.ptr 4 0)),(7,cV (.ptr 7 0)),(19,.w (.c (.d (.sl (xz l))))),(20,zm l.length),(21,zm i)],
   [(2,.box [.d (.sl (zl cols)),.d rows]),(3,.box [.d (.sl (xz l))]),(4,.box [.nil,.nil]),(7,.box [.own 35 1 (a::r).length]),(35,.arr 1 (zh (a::r)) false)]⟩
theorem aeh(at_:am Int)(l:am Srt)(rows:am (am Val))(n:Nat)(hn:rows.length=n)(p:n<=1000000)(o:∀r∈rows,zS r.length at_)(I:at_.length=l.length)(J:l.length<=1000000):
 zA Pg wX [.c (.own 0 1 n),.c (.d (.fn Qn [[.fn Zv [[.sl (zh at_)]]],[.sl (xz l)]]))] [.arr 1 (zg rows) false]
  (λr=>r=⟨.tup [],[.arr 1 (zg (yM (Zi at_ l) rows)) false]⟩):=by
 have aa:∀L:am (am Val×Nat),aBc (λx:am Val×Nat=>D.sl (rowD x.1)) L=zg (L.map bU):=λL=>by simp_all[zg]
 have e:zg rows=aBc (λx:am Val×Nat=>D.sl (rowD x.1)) (qN rows):=by grind[WD]
 rw[e];refine zA.mono (agW (λx:am Val×Nat=>D.sl (rowD x.1)) [.fn Zv [[.sl (zh at_)]]] [.sl (xz l)] Qn (jh (Zi at_ l)) (aaM (W8 at_ l)) (λx y=>x.2<y.2/\zS x.1.length at_/\zS y.1.length at_) (λx y g=>?_) (qN rows) n (by grind[Jk]) p ?_) ?_
 .refine(aoH at_ l y.1 x.1 g.2.2 g.2.1 I J).mono ?_;rintro _ rfl;exact⟨_,rfl,aka (W8 at_ l) g.1⟩
 .intro i j x y P R h3 hx hy;have U:∀(k:Nat) (z:am Val×Nat),(qN rows)[k]?=some z->z.1∈rows:=λk z hz=>by
   have:=List.mem_of_getElem? hz;have h:=List.mem_map_of_mem (f:=bU) this
   grind[WD]
  exact⟨gz rows n i j x y P R h3 hx hy,o _ (U i x hx),o _ (U j y hy)⟩
 rintro _ ⟨l',P,R,rfl⟩<;>grind[So.eL,aen,W8]
theorem ais(t:Tbl)(l:am Srt)(hl:l.length<=1000000)(hr:t.rows.length<=1000000)(U:t.cols.length<=1000000):dY aap [t.w,.c (.d (.sl (xz l)))] (amz t l):=by
 have hk:=qk t;have hw:=@wP t;unfold amz;generalize zH t=e at*;obtain⟨tc,g⟩:=t;refine zC ?_;refine W6.s T8 ?_;refine aH hk ?_;refine zx (λh1=>?_) (λh1=>?_)
 .rw[show(e !=0)=true from h1];exact⟨rfl,rfl⟩
 rw[show(e !=0)=false from h1];have hw:∀r∈g,r.length=tc.length:=hw d9;have hr:g.length<=1000000:=hr;have U:tc.length<=1000000:=U;(conv=>whnf);rw[YP];refine Uc T8 (W6.l 0) l.length (λi=>soS tc (.sl (zg g)) l i (jJ tc (l.take i))) (λi=>vx tc (l.take i)=false) ?_
 intro i hi hR;have hR:vx tc (l.take i)=false:=hR;have ag:(jJ tc (l.take i)).length=i:=by grind[jJ]
 have J:∀h:i<l.length,jJ tc (l.take (i+1))=jJ tc (l.take i)++[zf tc l[i].col]:=λh=>by grind[jJ,zJ]
 have p:∀h:i<l.length,vx tc (l.take (i+1))=decide (zf tc l[i].col<0):=λh=>by grind[vx,zJ]
 have I:∀h:i<l.length,decide (zf tc l[i].col<0)=true->vx tc l=true:=λh hb=>by grind[vx]
 have aa:l.length<=i->jJ tc l=jJ tc (l.take i)/\vx tc l=false:=λh=>d9
 show mwpR Pg T8.f (W6.l 0) _ (soS tc (.sl (zg g)) l i (jJ tc (l.take i)));generalize jJ tc (l.take i)=A at*;have ae:(zh A).take A.length=zh A:=by grind[zE]
 cases A with
 |nil=>
  unfold soS;refine uT (λj=>?_) (λac=>?_)
  .have hg:=Kt j;have J:=J j;have p:=p j;have I:=I j;have o:=λs=>xC tc (.d (.sl (zg g))) s ⟨_,rfl⟩
   generalize l[i]=s at*;obtain⟨sc,sd⟩:=s;have o:=o sc;generalize hc:zf tc sc=c at*;refine yb hg ?_;refine aH o ?_;refine zx (λh3=>?_) (λh3=>?_)
   .rw[I (show decide (c<0)=true from h3)];exact⟨rfl,rfl⟩
   have p:vx tc (l.take (i+1))=false:=p.trans h3;refine qr ?_ (hA:=dT) (hB:=by grind[yz]) (hC:=dT);refine yW j p ?_;rw[zB j d8,J];rfl
  obtain⟨e1,e2⟩:=aa ac;rw[e2,e1];have ad:=λhz=>aeh [] l g (zg g).length (zy g).symm (by grind[zy]) (λr hr k hk=>by cases hk) d9 hz
  have hS:(zg (yM (Zi [] l) g)).take (zg g).length=zg (yM (Zi [] l) g):=by rw[zy,<-(jH (W8 [] l) g).length_eq,<-zy,aO]
  have ab:g=[]->yM (Zi [] l) g=[]:=λh=>by rw[h];rfl
  generalize yM (Zi [] l) g=S at*;have P:=vG tc U;(conv=>whnf);refine aS (UW g hr) ?_;rintro _ (⟨R,rfl⟩|rfl)
  .rw[ab R];(conv=>whnf);refine zA.mono (Ui _ _) ?_;rintro _ rfl;refine aH P ?_;exact⟨rfl,rfl⟩
  (conv=>whnf);refine zA.mono (ad hl) ?_;rintro _ rfl;refine aH P ?_;refine⟨rfl,?_⟩;refine Eq.trans (b:=⟨.tup [.agg [.d (.sl (zl tc)),.d (.sl ((zg S).take (zg g).length))],.c (int 0)],[]⟩) rfl ?_;rw[hS];rfl
 |cons a A=>
  unfold soS;refine uT (λj=>?_) (λac=>?_)
  .have hg:=Kt j;have J:=J j;have p:=p j;have I:=I j;have o:=λs=>xC tc (.d (.sl (zg g))) s ⟨_,rfl⟩
   generalize l[i]=s at*;obtain⟨sc,sd⟩:=s;have o:=o sc;generalize hc:zf tc sc=c at*;generalize hA:(a::A)=B at*;refine yb hg ?_;refine aH o ?_;refine zx (λh3=>?_) (λh3=>?_)
   .rw[I (show decide (c<0)=true from h3)];exact⟨rfl,rfl⟩
   have p:vx tc (l.take (i+1))=false:=p.trans h3;refine qr ?_;refine yW j p ?_;have e5:zh B++aQ [[D.lit (Value.int aB c)]].length [[D.lit (Value.int aB c)]]=zh (B++[c]):=by simp[zh]
   have e6:B.length+(aQ [[D.lit (Value.int aB c)]].length [[D.lit (Value.int aB c)]]).length=(B++[c]).length:=dT
   rw[zB j d8,ae,J,e5,e6];subst hA;rfl
  obtain⟨e1,e2⟩:=aa ac;have af:zS tc.length (jJ tc l):=by
   intro k hk;unfold jJ at hk;obtain⟨s,hs,rfl⟩:=List.mem_map.1 hk
   grind[vx,wI]
  rw[e2,e1];rw[e1]at af;generalize hA:(a::A)=B at*;have ad:=λhz=>aeh B l g (zg g).length (zy g).symm (by grind[zy]) (λr hr=>d9) d9 hz
  have hS:(zg (yM (Zi B l) g)).take (zg g).length=zg (yM (Zi B l) g):=by rw[zy,<-(jH (W8 B l) g).length_eq,<-zy,aO]
  have ab:g=[]->yM (Zi B l) g=[]:=λh=>by rw[h];rfl
  generalize yM (Zi B l) g=S at*;have P:=vG tc U;(conv=>whnf);refine aS (UW g hr) ?_;rintro _ (⟨R,rfl⟩|rfl)
  .rw[ab R];(conv=>whnf);refine zA.mono (Ui _ _) ?_;rintro _ rfl;refine aH P ?_;exact⟨rfl,rfl⟩
  rw[ae];(conv=>whnf);refine zA.mono (ad hl) ?_;rintro _ rfl;refine aH P ?_;refine⟨rfl,?_⟩;refine Eq.trans (b:=⟨.tup [.agg [.d (.sl (zl tc)),.d (.sl ((zg S).take (zg g).length))],.c (int 0)],[]⟩) rfl ?_;rw[hS];rfl
structure Stp.OK(st:Stp):Prop where
 sorts:st.sorts.length<=1000000
 cols:st.cols.length<=1000000
 aggs:st.aggs.length<=100000
 items:st.items.length<=1000000
def Vx(op:Int):am ByteArray:=bif op==7 then [sFrom,sTo]else bif op==8 then [sFrom]else []
def whT(cols:am Col)(e:Ex):Int×am Col:=bif ab6 cols e !=0 then(ab6 cols e,[])else(0,cols)
def soT(cols:am Col)(l:am Srt):Int×am Col:=bif vx cols l then(16,[])else(0,cols)
def grT(cols:am Col)(i:am ByteArray)(g:am Agg):Int×am Col:=
 bif takeErr cols i then(16,[])else bif (xB cols g).1 !=0 then((xB cols g).1,[])else(0,takeC cols i++(xB cols g).2)
def asD(i:am ByteArray)(cols g:am Col)(cs:am ByteArray):Int×am Col:=
 bif jnErr cols g cs !=0 then(jnErr cols g cs,[])else bif intErr cols i !=0 then(intErr cols i,[])else bif intErr g i !=0 then(intErr g i,[])else
 bif dupL [] (cols++keepS i cs g)then(4,[])else bif decide (((cols++keepS i cs g).length:Int)>32)then(7,[])else(0,cols++keepS i cs g)
def Vg(g:am ByteArray)(d:am Nmd)(cols:am Col)(cs:am ByteArray)(tb:ByteArray):Int×am Col:=match zU tb d with
 |none=>(17,[])
 |some t=>bif g.any (hasB cs)then(4,[])else asD g cols t.cols cs
theorem ai6{b:Bool}{x y:Int×am Col}:(bif b then xH x else xH y)=xH (bif b then x else y):=d9
theorem arf(g:am ByteArray)(d:am Nmd)(cols:am Col)(cs:am ByteArray)(tb:ByteArray):ajn g d cols cs tb=xH (Vg g d cols cs tb):=by
 unfold ajn Vg;cases zU tb d with
 |none=>rfl
 |some t=>
  simp only[asB,asC,asD,<-ai6];rfl
theorem auI(cs:am ByteArray)(l:am Col):keepS [] cs l=wY cs l:=by
 unfold keepS wY;congr 1
 funext c;simp_all[hasB]
theorem aBp(d:am Nmd)(cols:am Col)(cs:am ByteArray)(tb:ByteArray):jnT d cols cs tb=xH (Vg [] d cols cs tb):=by
 unfold jnT Vg;cases zU tb d with
 |none=>rfl
 |some t=>
  simp only[jnQ,asD,auI,<-ai6];rfl
theorem aBi(cols:am Col)(i:am ByteArray)(g:am Agg):asu cols i g=xH (grT cols i g):=by unfold asu grT;simp only[<-ai6];rfl
def zT(d:am Nmd)(cols:am Col)(st:Stp):Int×am Col:=
 bif st.err !=0 then(st.err,[])else bif st.op==1 then whT cols st.cond else bif st.op==2 then uF cols st.items else bif st.op==3 then grT cols st.cols st.aggs else
 bif st.op==4 then soT cols st.sorts else bif st.op==5 then(0,cols)else bif st.op==9 then coT cols st.cols else Vg (Vx st.op) d cols st.cols st.table
theorem ate(d:am Nmd)(cols:am Col)(st:Stp)(hs:st.sorts.length<=1000000)(l:(st.err !=0)=true):dY zQ [.c (.d (.sl (zq d))),.c (.d (.sl (zl cols))),st.w] (xH (st.err,[])):=by have o:=uV st hs;refine zC ?_;obtain⟨op,⟨I,J,⟨R,U,vs⟩,ks⟩,g,p,i,j,P,tb⟩:=st;refine xq.s T8 ?_;refine aH o ?_;rw[l];exact⟨rfl,rfl⟩
theorem ayC(d:am Nmd)(cols:am Col)(st:Stp)(g:st.op=2)(hs:st.sorts.length<=1000000)(o:(st.err !=0)=false)(x:Int×am Col)(p:dY US [.c (.d (.sl (zl cols))),.c (.d (.sl (yP st.items)))] (xH x)):dY zQ [.c (.d (.sl (zq d))),.c (.d (.sl (zl cols))),st.w] (xH x):=by have I:=uV st hs;refine zC ?_;obtain⟨op,⟨P,R,⟨vk,vn,vs⟩,ks⟩,i,J,j,l,U,tb⟩:=st;subst g;refine xq.s T8 ?_;refine aH I ?_;rw[o];refine aH p ?_;exact⟨rfl,rfl⟩
theorem ayD(d:am Nmd)(cols:am Col)(st:Stp)(g:st.op=3)(hs:st.sorts.length<=1000000)(o:(st.err !=0)=false)(x:Int×am Col)(p:dY J4 [.c (.d (.sl (zl cols))),.agg st.cs] (xH x)):dY zQ [.c (.d (.sl (zq d))),.c (.d (.sl (zl cols))),st.w] (xH x):=by have I:=uV st hs;refine zC ?_;obtain⟨op,⟨P,R,⟨vk,vn,vs⟩,ks⟩,i,J,j,l,U,tb⟩:=st;subst g;refine xq.s T8 ?_;refine aH I ?_;rw[o];refine aH p ?_;exact⟨rfl,rfl⟩
theorem ayJ(d:am Nmd)(cols:am Col)(st:Stp)(g:st.op=9)(hs:st.sorts.length<=1000000)(o:(st.err !=0)=false)(x:Int×am Col)(p:dY Ub [.c (.d (.sl (zl cols))),.agg st.cs] (xH x)):dY zQ [.c (.d (.sl (zq d))),.c (.d (.sl (zl cols))),st.w] (xH x):=by have I:=uV st hs;refine zC ?_;obtain⟨op,⟨P,R,⟨vk,vn,vs⟩,ks⟩,i,J,j,l,U,tb⟩:=st;subst g;refine xq.s T8 ?_;refine aH I ?_;rw[o];refine aH p ?_;exact⟨rfl,rfl⟩
theorem ayG(d:am Nmd)(cols:am Col)(st:Stp)(g:st.op=6)(hs:st.sorts.length<=1000000)(o:(st.err !=0)=false)(x:Int×am Col)(p:dY uf [.c (.d (.sl (zq d))),.c (.d (.sl (zl cols))),.agg st.cs] (xH x)):dY zQ [.c (.d (.sl (zq d))),.c (.d (.sl (zl cols))),st.w] (xH x):=by have I:=uV st hs;refine zC ?_;obtain⟨op,⟨P,R,⟨vk,vn,vs⟩,ks⟩,i,J,j,l,U,tb⟩:=st;subst g;refine xq.s T8 ?_;refine aH I ?_;rw[o];refine aH p ?_;exact⟨rfl,rfl⟩
theorem ayH(d:am Nmd)(cols:am Col)(st:Stp)(g:st.op=7)(hs:st.sorts.length<=1000000)(o:(st.err !=0)=false)(x:Int×am Col)(p:dY uf [.c (.d (.sl (zq d))),.c (.d (.sl (zl cols))),.agg st.cs] (xH x)):dY zQ [.c (.d (.sl (zq d))),.c (.d (.sl (zl cols))),st.w] (xH x):=by have I:=uV st hs;refine zC ?_;obtain⟨op,⟨P,R,⟨vk,vn,vs⟩,ks⟩,i,J,j,l,U,tb⟩:=st;subst g;refine xq.s T8 ?_;refine aH I ?_;rw[o];refine aH p ?_;exact⟨rfl,rfl⟩
theorem ayI(d:am Nmd)(cols:am Col)(st:Stp)(g:st.op=8)(hs:st.sorts.length<=1000000)(o:(st.err !=0)=false)(x:Int×am Col)(p:dY uf [.c (.d (.sl (zq d))),.c (.d (.sl (zl cols))),.agg st.cs] (xH x)):dY zQ [.c (.d (.sl (zq d))),.c (.d (.sl (zl cols))),st.w] (xH x):=by have I:=uV st hs;refine zC ?_;obtain⟨op,⟨P,R,⟨vk,vn,vs⟩,ks⟩,i,J,j,l,U,tb⟩:=st;subst g;refine xq.s T8 ?_;refine aH I ?_;rw[o];refine aH p ?_;exact⟨rfl,rfl⟩
theorem ayB(d:am Nmd)(cols:am Col)(st:Stp)(p:st.op=1)(hs:st.sorts.length<=1000000)(g:(st.err !=0)=false)(hl:cols.length<=1000000)(he:st.cond.err=0):dY zQ [.c (.d (.sl (zq d))),.c (.d (.sl (zl cols))),st.w] (xH (whT cols st.cond)):=by
 have o:=uV st hs;have l:=kE cols st.cond he;have hK:=vG cols hl;unfold whT ab6;generalize Ex.ty cols st.cond=t at*;obtain⟨U,t2⟩:=t;refine zC ?_;obtain⟨op,⟨eo,nm,⟨vk,vn,vs⟩,ks⟩,I,aa,J,P,sn,tb⟩:=st;subst p;have R:=Vu U 1;generalize qp U 1=f at*;cases h2:(t2 !=0)with
 |true=>
  have i:(t2==0)=false:=d9
  simp only[aK,h2];refine xq.s T8 ?_;refine aH o ?_;rw[g];refine aH l ?_;refine zx (λc=>?_) (λc=>?_)
  .have c:(t2==0)=true:=c;rw[i]at c;cases c
  refine zj (λd=>?_) (λd=>?_)
  .exact⟨rfl,rfl⟩
  grind
 |false=>
  have j:t2=0:=d9
  subst j;cases f with
  |true=>
   refine xq.s T8 ?_;refine aH o ?_;rw[g];refine aH l ?_;refine aH R ?_;refine aH hK ?_;exact⟨rfl,rfl⟩
  |false=>
   refine xq.s T8 ?_;refine aH o ?_;rw[g];refine aH l ?_;refine aH R ?_;exact⟨rfl,rfl⟩
theorem ayF(d:am Nmd)(cols:am Col)(st:Stp)(g:st.op=5)(hs:st.sorts.length<=1000000)(i:(st.err !=0)=false)(j:cols.length<=1000000):dY zQ [.c (.d (.sl (zq d))),.c (.d (.sl (zl cols))),st.w] (xH (0,cols)):=by have h:=ao3 d cols st g hs j;rw[i]at h;exact h
theorem ayE(d:am Nmd)(cols:am Col)(st:Stp)(R:st.op=4)(hs:st.sorts.length<=1000000)(h1:(st.err !=0)=false)(hl:cols.length<=1000000):dY zQ [.c (.d (.sl (zq d))),.c (.d (.sl (zl cols))),st.w] (xH (soT cols st.sorts)):=by
 have hS:=uV st hs;have hK:=vG cols hl;unfold soT;refine zC ?_;obtain⟨op,⟨eo,nm,⟨vk,vn,vs⟩,ks⟩,U,ab,aa,g,sn,tb⟩:=st;simp only at*;subst R;refine xq.s T8 ?_;refine aH hS ?_;rw[h1];refine Uc T8 (xq.l 0) g.length (λi=>⟨[(1,.w (.c (.d (.sl (zl cols))))),(57,.w (.c (.d (.sl (xz g))))),(58,zm (xz g).length),(59,zm i)],[]⟩) (λi=>vx cols (g.take i)=false) ?_
 intro i hi hR;have p:∀h:i<g.length,vx cols (g.take (i+1))=decide (zf cols g[i].col<0):=λh=>by grind[vx,zJ]
 have j:∀h:i<g.length,decide (zf cols g[i].col<0)=true->vx cols g=true:=λh hb=>by exact List.any_eq_true.2 ⟨g[i],aN h,hb⟩
 refine zj (λh2=>?_) (λh2=>?_)
 .have o:i<g.length:=by simp_all[YP]
  have hg:=Kt o;have p:=p o;have j:=j o;have I:=xQ cols g[i].col;have wi:=zB o d8;generalize g[i]=s at*;obtain⟨sc,sd⟩:=s;generalize zf cols sc=c at*;refine yb hg ?_;refine aH I ?_;refine zx (λJ=>?_) (λJ=>?_)
  .rw[j (show decide (c<0)=true from J)];exact⟨rfl,rfl⟩
  have p:vx cols (g.take (i+1))=false:=p.trans J;refine yW o p ?_;rw[wi];rfl
 have P:g.length<=i:=by grind[YP]
 rw[bA P]at hR;rw[hR];refine aH hK ?_;exact⟨rfl,rfl⟩
theorem awT{st:Stp}(h:st.err=0):st.uses=true:=by unfold Stp.err at h;have:=(yt d8 h).1<;>simp_all
theorem ac9{st:Stp}(h:st.err=0):1<=st.op/\st.op<=9:=by have g:=awT h<;>grind[Stp.uses,X6]
theorem aCf{st:Stp}(h:st.err=0)(g:st.op=1):st.cond.err=0:=by unfold Stp.err at h;have h:=(yt d8 h).2<;>simp_all[ji]
theorem adp:∀(l:am Itm) (g:am ByteArray),qg g l=0->∀x∈l,x.e.chk=0
 |[],_,_,x,i=>by cases i
 |y::r,g,h,x,i=>by
  simp only[qg]at h;cases j:(y.e.chk !=0)
  .rw[j,aG]at h;cases o:(yv g y.nm !=0)
   .rw[o,aG]at h;rcases aV.1 i with rfl|i
    .simpa using j
    exact adp r _ h x i
   simp_all
  simp_all
theorem aCg{st:Stp}(h:st.err=0)(g:st.op=2):∀x∈st.items,x.e.chk=0:=by
 unfold Stp.err at h;have h:=(yt d8 h).2;rw[g]at h;have h:(bif ja st.items.length 1 !=0 then ja st.items.length 1 else qg [] st.items)=0:=h;cases i:(ja st.items.length 1 !=0)
 .rw[i,aG]at h
  grind[adp]
 simp_all
theorem Zz(d:am Nmd)(cols:am Col)(st:Stp)(hk:st.OK)(o:cols.length<=1000000)(l:∀t,zU st.table d=some t->t.cols.length<=1000000):dY zQ [.c (.d (.sl (zq d))),.c (.d (.sl (zl cols))),st.w] (xH (zT d cols st)):=by
 unfold zT;cases j:(st.err !=0)with
 |true=>exact ate d cols st hk.sorts j
 |false=>
  have h0:st.err=0:=d9
  have g:=ac9 h0;have g:st.op=1\/st.op=2\/st.op=3\/st.op=4\/st.op=5\/st.op=6\/st.op=7\/st.op=8\/st.op=9:=d8
  rcases g with g|g|g|g|g|g|g|g|g
  .have:=ayB d cols st g hk.sorts j o (aCf h0 g)
   grind
  .have:=ayC d cols st g hk.sorts j _ (aoX cols st.items (λx p=>ji (aCg h0 g x p)) hk.items)
   grind
  .have i:=ao0 cols st hk.cols hk.aggs;rw[aBi]at i;have:=ayD d cols st g hk.sorts j _ i
   grind
  .have:=ayE d cols st g hk.sorts j o
   grind
  .have:=ayF d cols st g hk.sorts j o
   grind
  .have i:=aqw d cols st g hk.cols o l;rw[aBp]at i;have:=ayG d cols st g hk.sorts j _ i;rw[g];exact this
  .have i:=ao1 d cols st g hk.cols o l;rw[arf]at i;have:=ayH d cols st g hk.sorts j _ i;rw[g];exact this
  .have i:=ao2 d cols st g hk.cols o l;rw[arf]at i;have:=ayI d cols st g hk.sorts j _ i;rw[g];exact this
  have:=ayJ d cols st g hk.sorts j _ (al6 cols st hk.cols)
  grind
def jV(d:am Nmd)(cols:am Col):am Stp->Int×am Col
 |[]=>(0,cols)
 |s::r=>bif (zT d cols s).1 !=0 then((zT d cols s).1,[])else jV d (zT d cols s).2 r
def vi(d:am Nmd)(q:Qry):Int×am Col:=
 bif yH d !=0 then(yH d,[])else bif q.err !=0 then(q.err,[])else match zU q.src d with
 |none=>(17,[])
 |some t=>jV d t.cols q.steps
def ae7(cols:am Col)(rows:D)(j:am ByteArray)(i:Nat)(g:am Int):S:=⟨[(2,cV (.ptr 2 0)),(5,cV (.own 19 1 g.length)),(8,.w (.c (.d (.sl (zp j))))),(9,zm (zp j).length),(10,zm i)],
 [(2,.box [.d (.sl (zl cols)),.d rows]),(19,.arr 1 (zh g) false)]⟩
theorem qE(cols:am Col)(rows:D)(g:am ByteArray)(hn:g.length<=1000000):dY afo [.agg [.d (.sl (zl cols)),.d rows],.c (.d (.sl (zp g)))] (rC (.d (.sl (zh (zi cols g))))):=by
 refine zC ?_;refine Xs.s T8 ?_;refine yy (P:=Pg) (f:=T8.f) (body:=(Xs.l 0)) g.length (λi=>ae7 cols rows g i (zi cols (g.take i))) (λ_=>True) ⟨trivial,⟨_,ya 5 19 1 d8 d8 rfl,?_⟩⟩ ?_
 .exact rfl
 intro i hi _;have aa:(zi cols (g.take i)).length=i:=by grind[zi]
 have R:∀h:i<g.length,zi cols (g.take (i+1))=zi cols (g.take i)++[zf cols g[i]]:=λh=>by grind[zi,zJ]
 have p:g.length<=i->zi cols g=zi cols (g.take i):=λh=>d9
 show mwpR Pg T8.f (Xs.l 0) _ (ae7 cols rows g i (zi cols (g.take i)));generalize zi cols (g.take i)=T at*;have I:(zh T).take T.length=zh T:=by grind[zE]
 unfold ae7;refine zj (λU=>?_) (λU=>?_)
 .have j:i<g.length:=by simp_all[zP]
  have hg:=vh j;have o:=xC cols (.d rows) g[i] ⟨rows,rfl⟩;refine yb hg ?_;refine aH o ?_;refine qr ?_;refine yW j trivial ?_;rw[zB j d8,I,R,<-vV,aE];rfl
 have J:g.length<=i:=by grind[zP]
 rw[p J];refine⟨rfl,?_⟩;show Res.mk (.w (.c (.d (.sl ((zh T).take T.length))))) []=_;rw[I];rfl
def aaO(row:am Val)(at_:am Int)(i:Nat)(g:am Val):S:=⟨[(0,.w (yu row)),(5,cV (.own 20 3 g.length)),(8,.w (.c (.d (.sl (zh at_))))),(9,zm (zh at_).length),(10,zm i)],
 [(20,.arr 3 (rowD g) false)]⟩
theorem uE(row:am Val)(at_:am Int)(hn:at_.length<=1000000)(R:zS row.length at_):dY ah1 [yu row,.c (.d (.sl (zh at_)))] (rC (.d (.sl (rowD (zn row at_))))):=by
 refine zC ?_;refine yA T8 Wc.ok dU ?_;refine yy (P:=Pg) (f:=T8.f) (body:=(Wc.l 0)) at_.length (λi=>aaO row at_ i (zn row (at_.take i))) (λ_=>True) ⟨trivial,⟨_,ya 5 20 3 d8 d8 rfl,?_⟩⟩ ?_
 .exact rfl
 intro i hi _;have aa:(zn row (at_.take i)).length=i:=by grind[zn]
 have j:∀h:i<at_.length,zn row (at_.take (i+1))=zn row (at_.take i)++[at0 row (at_[i]).toNat]:=λh=>by grind[zn,zJ]
 have o:at_.length<=i->zn row at_=zn row (at_.take i):=λh=>d9
 show mwpR Pg T8.f (Wc.l 0) _ (aaO row at_ i (zn row (at_.take i)));generalize zn row (at_.take i)=T at*;have p:(rowD T).take T.length=rowD T:=by grind[zu]
 unfold aaO;refine zj (λU=>?_) (λU=>?_)
 .have g:i<at_.length:=by simp_all[zE]
  have hg:=xg g;have j:=j g;have hk:=R _ (aN g);generalize at_[i]=k at*;have J:(rowD row)[k.toNat]?=some (at0 row k.toNat).ds:=by grind[at0,rowD]
  refine yb hg ?_;refine yb J ?_ (hA:=hk.1);refine qr ?_;refine yW g trivial ?_;rw[zB g d8,p,j,<-uu,aE];rfl
 have I:at_.length<=i:=by grind[zE]
 rw[o I];refine⟨rfl,?_⟩;show Res.mk (.w (.c (.d (.sl ((rowD T).take T.length))))) []=_;rw[p];rfl
def trS(cols:am Col)(j:am ByteArray)(i:Nat)(g:am Int):S:=⟨[(1,.w (.c (.d (.sl (zp j))))),(5,cV (.own 24 1 g.length)),(9,.w (.c (.d (.sl (zl cols))))),(10,zm cols.length),(11,zm i)],[(24,.arr 1 (zh g) false)]⟩
theorem ag5(cols:am Col)(rows:D)(g:am ByteArray)(aa:cols.length<=1000000):dY Ya [.agg [.d (.sl (zl cols)),.d rows],.c (.d (.sl (zp g)))] (rC (.d (.sl (zh (oth g 0 cols))))):=by
 refine zC ?_;refine Wd.s T8 ?_;rw[z8];refine yq (P:=Pg) (f:=T8.f) (body:=(Wd.l 0)) (λx:Nat×am Int=>trS cols g x.1 x.2) (λx=>cols.length-x.1) (λx=>x.1<=cols.length/\x.2.length<=x.1/\oth g 0 cols=x.2++oth g x.1 (cols.drop x.1)) ⟨(0,[]),⟨aR _,aA _,rfl⟩,⟨_,ya 5 24 1 d8 d8 rfl,?_⟩⟩ ?_
 .exact rfl
 rintro⟨i,A⟩ hx;obtain⟨hi,hA,o⟩:i<=cols.length/\A.length<=i/\oth g 0 cols=A++oth g i (cols.drop i):=hx;show mwpR Pg T8.f (Wd.l 0) _ (trS cols g i A);have p:(zh A).take A.length=zh A:=by grind[zE]
 unfold trS;refine uT (λj=>?_) (λJ=>?_)
 .rw[zt j]at o;simp only[oth]at o;have hg:=xJ j;have U:=zB j d8;have R:=yk g cols[i].name;generalize cols[i]=c at*;obtain⟨c1,c2⟩:=c;generalize hasB g c1=b at*;refine yb hg ?_;refine aH R ?_;refine zx (b:=!b) (λI=>?_) (λI=>?_)
  .rw[I,aK]at o;refine qr ?_;refine⟨(i+1,A++[(i:Int)]),⟨⟨j,dX,?_⟩,d9⟩,ze ?_⟩
   .grind
   (conv=>whnf);rw[U,p];show _=trS cols g (i+1) (A++[(i:Int)]);unfold trS;rw[aE,<-vV];rfl
  rw[I,aG,List.nil_append]at o;refine⟨(i+1,A),⟨⟨j,d9,o⟩,d9⟩,ze ?_⟩;rw[U];rfl
 rw[aD J]at o;have o:oth g 0 cols=A:=by grind[oth]
 rw[o];refine⟨rfl,?_⟩;show Res.mk (.w (.c (.d (.sl ((zh A).take A.length))))) []=_;rw[p];rfl
def uv(a b:am Val):Bool:=xp a b&&!a.any (xf zw)
theorem ad6(a b:am Val):dY agy [yu a,yu b] (rB (uv a b)):=by
 have g:=Ye a b;have i:=YK a zw;unfold uv;generalize xp a b=s at*;cases s
 .refine JJ.s T8 ?_;refine aH g ?_;rfl
 refine JJ.s T8 ?_;refine aH g ?_;refine aH i ?_;rfl
theorem uy(l:am ByteArray)(g:l.length<=1000000):Sat Pg aai [.c (.d (.sl (zp l)))] (λr=>(l=[]/\r=rC .nil)\/r=adR 1 (zp l)):=by
 refine yA T8 gO.ok dU ?_;refine⟨λh=>?_,?_⟩
 .conv=>whnf
  left
  refine⟨?_,rfl⟩;cases l with
  |nil=>rfl
  |cons a r=>cases h
 (conv=>whnf);refine⟨ay1 l,by grind[yz,zP],by grind[zP],?_⟩
 right
 show Res.mk (.w (.c (.own 0 1 (([]:am (am D)).length+(zp l).length)))) [.arr 1 (([]:am (am D)).take ([]:am (am D)).length++zp l) false]=_;simp_all[adR]
def xx(a b:Val):Bool:=a.k==2&&b.k==2&&decide (a.n<b.n)
def WC(a b:Val):Res:=⟨.tup [.agg [int a.n,int b.n],.c (bool (xx a b))],[]⟩
theorem Ko(row:am Val)(p q:Int)(l:0<=p/\p<row.length)(o:0<=q/\q<row.length):dY ah2 [yu row,.c (.d (.sl (zh [p,q])))] (WC (at0 row p.toNat) (at0 row q.toNat)):=by
 have g:∀k:Int,0<=k/\k<row.length->(rowD row)[k.toNat]?=some (at0 row k.toNat).ds:=λk hk=>by grind[at0,rowD]
 have i:=g p l;have j:=g q o;generalize at0 row p.toNat=a at*;generalize at0 row q.toNat=b at*;obtain⟨I,a2,a3⟩:=a;obtain⟨J,P,R⟩:=b;refine ahz.s T8 ?_
 repeat' (first
  |(refine⟨d8,[.lit (.int .i64 p)],rfl,rfl,?_⟩;conv=>whnf)
  |(refine⟨d8,[.lit (.int .i64 q)],rfl,rfl,?_⟩;conv=>whnf)
  |(refine⟨l.1,_,i,rfl,?_⟩;conv=>whnf)
  |(refine⟨o.1,_,j,rfl,?_⟩;conv=>whnf)
  |(refine bI ?_ ?_<;>conv=>whnf))
 all_goals refine zx (λh=>?_) (λh=>?_)
 all_goals conv=>whnf
 all_goals repeat' (first
  |(refine bI ?_ ?_<;>conv=>whnf))
 all_goals have h:(I==2&&J==2)=_:=h
 all_goals simp only[WC,xx,h,bG,bS]
 all_goals rfl
def Uh:ByteArray:=⟨#[98]⟩
def ZB(op:Int)(g:am ByteArray)(tb:ByteArray):Stp:=⟨op,.mk 0 ⟨#[]⟩ ⟨0,0,⟨#[]⟩⟩ [],[],g,[],[],0,tb⟩
def Kv(op:Int)(g:am ByteArray)(a:Tbl):Int×am Col:=bif zH a !=0 then(zH a,[])else zT [] a.cols (ZB op g ⟨#[]⟩)
def ZA(op:Int)(g:am ByteArray)(a b:Tbl):Int×am Col:=bif zH a !=0 then(zH a,[])else bif zH b !=0 then(zH b,[])else zT [⟨Uh,b⟩] a.cols (ZB op g Uh)
theorem apy(op:Int)(g:am ByteArray)(tb:ByteArray)(h:g.length<=1000000):(ZB op g tb).OK:=⟨aR _,h,aR _,aR _⟩
theorem atd(op:Int)(g:am ByteArray)(a:Tbl)(o:g.length<=1000000)(j:a.cols.length<=1000000):dY Ua [.c (int op),.c (.d (.sl (zp g))),.c (.d (.sl [a.ds]))] (xH (Kv op g a)):=by
 have hk:=qk a;have p:=Zz [] a.cols (ZB op g ⟨#[]⟩) (apy op g _ o) j (λt I=>by cases I);unfold Kv;generalize zH a=e at*;generalize zT [] a.cols (ZB op g ⟨#[]⟩)=x at*;obtain⟨U,x2⟩:=x;obtain⟨J,R⟩:=a;refine zC ?_;refine ju.s T8 ?_;refine wZ (P:=Pg) (f:=T8.f) (body:=(ju.l 0)) 2 ?_;refine vt ?_;refine aH hk ?_;refine zx (λi=>?_) (λi=>?_)
 .rw[show(e !=0)=true from i];exact⟨rfl,rfl⟩
 rw[show(e !=0)=false from i];refine vt ?_;refine aH p ?_;exact⟨rfl,rfl⟩
theorem abU(op:Int)(g:am ByteArray)(a b:Tbl)(I:g.length<=1000000)(o:a.cols.length<=1000000)(aa:b.cols.length<=1000000):dY Ua [.c (int op),.c (.d (.sl (zp g))),.c (.d (.sl [a.ds,b.ds]))] (xH (ZA op g a b)):=by
 have hk:=qk a;have p:=qk b;have hT:=Zz [⟨Uh,b⟩] a.cols (ZB op g Uh) (apy op g _ I) o (λt ht=>by grind[zU])
 unfold ZA;generalize zH a=e at*;generalize zH b=J at*;generalize zT [⟨Uh,b⟩] a.cols (ZB op g Uh)=x at*;obtain⟨x1,x2⟩:=x;obtain⟨R,U⟩:=a;obtain⟨bc,br⟩:=b;refine zC ?_;refine ju.s T8 ?_;refine wZ (P:=Pg) (f:=T8.f) (body:=(ju.l 0)) 3 ?_;refine vt ?_;refine aH hk ?_;refine zx (λi=>?_) (λi=>?_)
 .rw[show(e !=0)=true from i];exact⟨rfl,rfl⟩
 rw[show(e !=0)=false from i];(conv=>whnf);refine⟨dV,_,rfl,rfl,?_⟩;refine aH p ?_;refine zx (λj=>?_) (λj=>?_)
 .rw[show(J !=0)=true from j];exact⟨rfl,rfl⟩
 rw[show(J !=0)=false from j];(conv=>whnf)
 repeat' (first
  |(refine⟨dV,[.sl (zl bc),.sl (zg br)],rfl,rfl,?_⟩;conv=>whnf)
  |(refine⟨dV,[.sl (zl R),.sl (zg U)],rfl,rfl,?_⟩;conv=>whnf)
  |(refine bI ?_ ?_<;>conv=>whnf))
 all_goals refine aS hT ?_
 all_goals rintro _ rfl
 all_goals conv=>whnf
 all_goals exact⟨rfl,rfl⟩
end
theorem amG{ι:Nat->Gh}{pl:am (Nat×Pl)}{q:Nat}{cs i:am C}(h:aget pl q=some (.box cs))(b:Nat):Owns ι (yN q (.box i) pl) b↔Owns ι pl b:=by
 constructor
 .rintro⟨p,x,g,l,j⟩;rw[yG]at g;split at g
  .rename_i e;subst e;cases g;exact⟨q,_,h,rfl,j⟩
  exact⟨p,x,g,l,j⟩
 rintro⟨p,x,g,l,j⟩;by_cases e:q=p
 .subst e;rw[h]at g;cases g;exact⟨q,.box i,by rw[yG,aM rfl],rfl,j⟩
 exact⟨p,x,by rw[yG,aI e];exact g,l,j⟩
theorem akV{F:Fr}{N:Nat}{ι:Nat->Gh}{s:S}{a:Act}{w:World}(hr:Rel F N ι s a w){q:Nat}{cs i:am C}(h:aget s.pl q=some (.box cs))
 (hc:∀vs,CRs ι w (F.ok ι s.pl w) cs vs->CRs ι w (F.ok ι s.pl w) i vs):Rel F N ι (s.withPl (yN q (.box i) s.pl)) a w:=by
 have o:F.ok ι (yN q (.box i) s.pl) w=F.ok ι s.pl w:=by funext b;unfold Fr.ok;rw[propext (amG h b)]
 refine⟨hr.room,λk v hv=>?_,λp x l=>?_,λp r x y b l hy ab hl hb=>?_,λb hb=>hr.mine b ((amG h b).1 hb),hr.defers,hr.grows,hr.foreign,hr.handed,hr.few,hr.hdom,λp x g l hg=>?_⟩
 .show∃x,a.tmps[k]?=some x/\VR ι w (F.ok ι (yN q (.box i) s.pl) w) v x;rw[o];exact hr.slots k v hv
 .show PR ι w (F.ok ι (yN q (.box i) s.pl) w) p x;rw[o];have j:aget (yN q (.box i) s.pl) p=some x:=l;clear l;rw[yG]at j;split at j
  .rename_i e;subst e;cases j;obtain⟨b,J,P,R,U⟩:=hr.places q _ h;exact⟨b,J,P,R,hc _ U⟩
  exact hr.places p x j
 .have get:∀{p:Nat}{x:Pl},aget (s.withPl (yN q (.box i) s.pl)).pl p=some x->∃I,aget s.pl p=some I/\I.live=x.live/\∀b,foot ι p x b->foot ι p I b:=fun{p x} l=>by
   have j:aget (yN q (.box i) s.pl) p=some x:=l;clear l;rw[yG]at j;split at j
   .rename_i e;subst e;cases j;exact⟨_,h,rfl,λ_ h=>h⟩
   exact⟨x,j,rfl,λ_ h=>h⟩
  obtain⟨I,P,R,h4⟩:=get l;obtain⟨y',U,_,h5⟩:=get hy;exact λaa=>hr.inj p r I y' b P U ab (R.trans hl) (h4 b hb) (h5 b aa)
 have l:aget (yN q (.box i) s.pl) p=some x:=l;rw[yG]at l;split at l
 .rename_i e;subst e;exact hr.hkeep q _ g h hg
 exact hr.hkeep p x g l hg
theorem aqG{ι:Nat->Gh}{w:World}{ok:Nat->Prop}{j:C}(l:∀v,CR ι w ok .nil v->CR ι w ok j v):∀(cs:am C) (vs:am Value) (i:Nat),cs[i]?=some .nil->CRs ι w ok cs vs->CRs ι w ok (cs.set i j) vs
 |[],_,i,h,_=>by cases i<;>cases h
 |c::r,[],_,_,h=>h.elim
 |c::r,v::vs,0,h,g=>by
  have h:c=.nil:=by simpa using h
  subst h;exact⟨l v g.1,g.2⟩
 |c::r,v::vs,i+1,h,g=>⟨g.1,aqG l r vs i (by simpa using h) g.2⟩
def Jn(pl:am (Nat×Pl))(q i:Nat):bR C:=match aget pl q with
 |some (.box cs)=>cs[i]?
 |_=>none
def aiz(pl:am (Nat×Pl))(q i:Nat)(c:C):am (Nat×Pl):=match aget pl q with
 |some (.box cs)=>yN q (.box (cs.set i c)) pl
 |_=>pl
def S.boxNil(s:S)(q i p sz:Nat):S:=(s.redo [p] [(p,.arr sz [] false)]).withPl (aiz (s.redo [p] [(p,.arr sz [] false)]).pl q i (.own p sz 0))
theorem uG{s:S}(q i p sz:Nat)(j:0<sz)(I:p<100000)(h:Jn (s.redo [p] [(p,.arr sz [] false)]).pl q i=some .nil):Za s (S.boxNil s q i p sz):=by
 intro F N ι a w hr;have r:F.h p=none:=by
  cases e:F.h p with
  |none=>rfl
  |some g=>have:=hr.hdom p g e;omega
 have hrel:=hr.noRow (d:=p) [p] (by simp[isin]) j r;unfold S.boxNil;generalize s.redo [p] [(p,.arr sz [] false)]=t at*;unfold Jn at h;unfold aiz;cases l:aget t.pl q with
 |none=>rw[l]at h;cases h
 |some x=>
  rw[l]at h;cases x with
  |box cs=>
   refine⟨_,akV hrel l λvs o=>aqG (λv hv=>?_) cs vs i h o⟩;have hv:v=.slice none 0 0:=hv;exact .inl ⟨by rw[zO],rfl,hv⟩
  |arr a b c=>cases h
  |fbox a=>cases h
  |deep a=>cases h
  |gone=>cases h
section
attribute [local irreducible] Sat zA zX
def setN(r:am Val)(k:Int)(n:Int):am Val:=r.set k.toNat ⟨(at0 r k.toNat).k,n,(at0 r k.toNat).s⟩
theorem Xc{R:am Val}{k:Int}(h:k.toNat<R.length):(rowD R)[k.toNat]?=some (at0 R k.toNat).ds:=by grind[at0,rowD]
theorem QN(R:am Val)(k n:Int):(rowD R).set k.toNat [.lit (.int .i64 (at0 R k.toNat).k),.lit (.int .i64 n),.lit (.string (at0 R k.toNat).s)]=rowD (setN R k n):=by unfold setN rowD;rw[List.map_set];rfl
theorem Vv(R:am Val)(k n:Int):(setN R k n).length=R.length:=by simp[setN]
def Je(p q:Int)(g:am Int)(x y:am Val)(lo hi:Int):am Val:=setN (setN (x++zn y g) p lo) q hi
def Yb(g i:Int)(left right:am Int)(j l:Int)(x y:am Val):Bool:=
 xx (at0 y g.toNat) (at0 y i.toNat)&&(!decide (zI true j (at0 y g.toNat).n>=zI false l (at0 y i.toNat).n)&&uv (zn x left) (zn y right))
def wF(p q i j:Int)(left right g:am Int)(x:am Val)(l o:Int)(ys:am (am Val)):am (am Val):=
 ys.flatMap λy=>bif Yb i j left right l o x y then [Je p q g x y (zI true l (at0 y i.toNat).n) (zI false o (at0 y j.toNat).n)]else []
theorem agJ(p q i j:Int)(left right g:am Int)(x:am Val)(l o:Int):∀ys,(wF p q i j left right g x l o ys).length<=ys.length
 |[]=>aA _
 |y::r=>by
  have:=agJ p q i j left right g x l o r;have e:wF p q i j left right g x l o (y::r)=(bif Yb i j left right l o x y then [Je p q g x y (zI true l (at0 y i.toNat).n) (zI false o (at0 y j.toNat).n)]else [])++wF p q i j left right g x l o r:=by simp[wF]
  rw[e,aE,bL];cases Yb i j left right l o x y
  .show 0+_<=_;omega
  show 1+_<=_;omega
def Ke(cols o:am Col)(br:am (am Val))(left right:am Int)(p q r I:Int)(g:am Int)(l:am (am Val))(i:Nat)(x:am Val)(J P:Int)(j:Nat)(out:am (am Val)):S:=
 ⟨[(4,cV (.ptr 4 0)),(6,cV (.ptr 6 0)),(10,.w (.c (.d (.sl (zh left))))),(11,.w (.c (.d (.sl (zh right))))),(12,.w (.c (.d (.sl (zh [p,q]))))),(13,.w (.c (.d (.sl (zh [r,I]))))),(14,.w (.c (.d (.sl (zh g))))),(15,cV (.ptr 15 0)),(17,.w (yu x)),(18,cV (.ptr 18 0)),(60,.w (.c (.d (.sl (zg l))))),(61,zm l.length),(62,zm i),(75,.w (.c (.d (.sl (zg br))))),(76,zm br.length),(77,zm j)],
 [(4,.box [.d (.sl (zl o)),.d (.sl (zg br))]),(6,.box [.nil,.nil]),(15,.box [.d (.sl (zl cols)),.own 143 1 out.length]),(18,.box [int J,int P]),(143,.arr 1 (zg out) false)]⟩
theorem aCr{Q:E->S->Prop}{s:S}(cols bc:am Col)(br:am (am Val))(left right:am Int)(p q J U:Int)(g:am Int)(ar:am (am Val))(i:Nat)(x:am Val)(r I:Int)(out:am (am Val))
 (aw:out.length+br.length<=20000) (a0:left.length<=100000) (a2:right.length<=100000) (a1:g.length<=100000) (a3:x.length<=100000) (hx:zS x.length left) (hp:0<=p/\p<x.length) (hq:0<=q/\q<x.length)
 (hy:∀y∈br,zS y.length right/\zS y.length g/\zS y.length [J,U])
 (h0:y8 s [4,6,10,11,12,13,14,15,17,18,60,61,62,75,76,77] (· =Ke cols bc br left right p q J U g ar i x r I 0 out))
 (hQ:Q (.exit 2) (xM (Ke cols bc br left right p q J U g ar i x r I br.length (out++wF p q J U left right g x r I br)) 78 (zZ (decide ((br.length:Int)<br.length))))):
 zX (mwpR Pg T8.f (yi.l 0)) [4,6,10,11,12,13,14,15,17,18,60,61,62,75,76,77] Q s:=by
 refine yy (P:=Pg) (f:=T8.f) (body:=(yi.l 0)) br.length (λj=>Ke cols bc br left right p q J U g ar i x r I j (out++wF p q J U left right g x r I (br.take j))) (λ_=>True) ⟨trivial,?_⟩ ?_
 .grind[wF]
 clear h0;intro j hj _;have ae:j<br.length->(out++wF p q J U left right g x r I (br.take j)).length<20000:=λh=>by grind[agJ]
 have o:∀h:j<br.length,out++wF p q J U left right g x r I (br.take (j+1))=(out++wF p q J U left right g x r I (br.take j))++(bif Yb J U left right r I x br[j]then [Je p q g x br[j] (zI true r (at0 br[j] J.toNat).n) (zI false I (at0 br[j] U.toNat).n)]else []):=λh=>by grind[wF,zJ]
 have ab:j=br.length->out++wF p q J U left right g x r I br=out++wF p q J U left right g x r I (br.take j):=λh=>d9
 show mwpR Pg T8.f (yi.l 0) _ (Ke cols bc br left right p q J U g ar i x r I j (out++wF p q J U left right g x r I (br.take j)));generalize out++wF p q J U left right g x r I (br.take j)=T at*;have ao:(zg T).take T.length=zg T:=by grind[zy]
 unfold Ke;refine rgE (λaa=>?_) (λaf=>?_)
 .have hg:=yS aa;have o:=o aa;obtain⟨au,av,ai⟩:=hy _ (aN aa);have wi:=zB aa d8;have ac:=Ko br[j] J U (ai _ dT) (ai _ dT);have ak:=uE x left d8 hx;have an:=uE br[j] right d8 au;have al:=uE br[j] g d8 av;have aj:=ad6 (zn x left) (zn br[j] right);have ae:=ae aa;have ad:((T.length:Int)==20000)=false:=dX
  clear hQ ab hy;unfold Yb at o;generalize br[j]=y at*;generalize at0 y J.toNat=u1 at*;generalize at0 y U.toNat=u2 at*;generalize uv (zn x left) (zn y right)=ag at*;unfold WC at ac;generalize xx u1 u2=b at*;obtain⟨_,u1,_⟩:=u1;obtain⟨_,u2,_⟩:=u2;simp only at ac o;refine yb hg ?_;refine aH ac ?_;cases b with
  |false=>
   have o:out++wF p q J U left right g x r I (br.take (j+1))=T:=dW
   refine yW aa trivial ?_;rw[wi,o];rfl
  |true=>
   rw[bG]at o;refine zj (b:=false||decide (zI true r u1>=zI false I u2)) (λh2=>?_) (λh2=>?_)
   .rw[Bool.false_or]at h2;have o:out++wF p q J U left right g x r I (br.take (j+1))=T:=dW
    refine yW aa trivial ?_;rw[wi,o];rfl
   rw[Bool.false_or]at h2;rw[h2,Bool.not_false,bG]at o;refine aH ak ?_;refine aH an ?_;refine aH aj ?_;cases ag with
   |false=>
    have o:out++wF p q J U left right g x r I (br.take (j+1))=T:=dW
    refine yW aa trivial ?_;rw[wi,o];rfl
   |true=>
    rw[aK]at o;refine zj (λh3=>?_) (λh3=>?_)
    .have h3:((T.length:Int)==20000)=true:=h3;rw[ad]at h3;cases h3
    (conv=>whnf);refine aS (uU x d8) ?_;rintro _ (⟨ah,rfl⟩|rfl)
    .subst ah;simp at hp;omega
    refine aH al ?_;refine⟨QO _,by grind[yz,zu,zn],by grind[zu,zn],?_⟩;(conv=>whnf);rw[show aQ (rowD x).length (rowD x)++rowD (zn y g)=rowD (x++zn y g)by grind[rowD],show(rowD x).length+(rowD (zn y g)).length=(x++zn y g).length by simp[zu]];have az:x.length<=(x++zn y g).length:=dT
    unfold Je at o;generalize x++zn y g=R at*;refine vt ?_;refine vt ?_;refine⟨hp.1,d8,?_⟩;(conv=>whnf);refine⟨(at0 R p.toNat).ds,Xc d8,cg rfl,?_⟩;(conv=>whnf);rw[show(rowD R).set p.toNat (ye (at0 R p.toNat).ds 1 [.lit (.int .i64 (zI true r u1))])=rowD (setN R p (zI true r u1))from QN _ _ _];generalize zI true r u1=lo at*;have ax:=Vv R p lo;generalize setN R p lo=R1 at*;refine⟨hq.1,d8,?_⟩;(conv=>whnf);refine⟨(at0 R1 q.toNat).ds,Xc d8,cg rfl,?_⟩;(conv=>whnf);rw[show(rowD R1).set q.toNat (ye (at0 R1 q.toNat).ds (0+1) [.lit (.int .i64 (zI false I u2))])=rowD (setN R1 q (zI false I u2))from QN _ _ _];generalize zI false I u2=hi at*;have ay:=Vv R1 q hi;generalize setN R1 q hi=R2 at*;have aq:aQ R.length (rowD R2)=rowD R2:=by grind[zu]
    rw[aq];refine qr ?_;refine yW aa trivial ?_;rw[wi,ao,o,xy,aE];rfl
 rw[ab af]at hQ;subst af;(conv=>whnf);exact hQ
def XO(p q i j:Int)(left right g:am Int)(br:am (am Val))(x:am Val):am (am Val):=
 bif xx (at0 x p.toNat) (at0 x q.toNat)then wF p q i j left right g x (at0 x p.toNat).n (at0 x q.toNat).n br else []
def xL(p q j l:Int)(left right g:am Int)(i br:am (am Val)):am (am Val):=i.flatMap (XO p q j l left right g br)
theorem asT(p q i j:Int)(left right g:am Int)(br:am (am Val))(x:am Val):(XO p q i j left right g br x).length<=br.length:=by
 unfold XO;cases xx (at0 x p.toNat) (at0 x q.toNat)
 .simp_all
 grind[agJ]
theorem akO(p q i j:Int)(left right g:am Int)(br:am (am Val)):∀xs,(xL p q i j left right g xs br).length<=xs.length*br.length
 |[]=>by simp[xL]
 |x::r=>by have o:=asT p q i j left right g br x;have l:=akO p q i j left right g br r;simp only[xL,List.flatMap_cons,aE,bL]at l⊢;rw[Nat.add_mul];omega
def agK(cols l:am Col)(br:am (am Val))(left right:am Int)(p q o r:Int)(g:am Int)(j:am (am Val))(i:Nat)(out:am (am Val)):S:=
 ⟨[(4,cV (.ptr 4 0)),(6,cV (.ptr 6 0)),(10,.w (.c (.d (.sl (zh left))))),(11,.w (.c (.d (.sl (zh right))))),(12,.w (.c (.d (.sl (zh [p,q]))))),(13,.w (.c (.d (.sl (zh [o,r]))))),(14,.w (.c (.d (.sl (zh g))))),(15,cV (.ptr 15 0)),(60,.w (.c (.d (.sl (zg j))))),(61,zm j.length),(62,zm i)],
 [(4,.box [.d (.sl (zl l)),.d (.sl (zg br))]),(6,.box [.nil,.nil]),(15,.box [.d (.sl (zl cols)),.own 143 1 out.length]),(143,.arr 1 (zg out) false)]⟩
noncomputable def ovRest:ACode:=y9 (y9 (y9 (y9 (y9 (y9 (y9 (y9 yi.A.code)))))))
theorem aCs{s:S}(cols bc:am Col)(br:am (am Val))(left right:am Int)(p q o r:Int)(g:am Int)(j:am (am Val))
 (ai:j.length*br.length<=20000) (aj:j.length<=1000000) (ak:left.length<=100000) (an:right.length<=100000) (al:g.length<=100000)
 (hx:∀x∈j,x.length<=100000/\zS x.length left/\zS x.length [p,q])
 (hy:∀y∈br,zS y.length right/\zS y.length g/\zS y.length [o,r])
 (h0:y8 s [4,6,10,11,12,13,14,15,60,61,62] (· =agK cols bc br left right p q o r g j 0 [])):
 zX (mwpR Pg T8.f (yi.l 1)) [4,6,10,11,12,13,14,15,60,61,62] (ZF 0 (Wz (mwpR Pg T8.f ovRest) (ZZ yi.A.res [] (DQ (qY ⟨cols,xL p q o r left right g j br⟩ 0))))) s:=by
 refine yy (P:=Pg) (f:=T8.f) (body:=(yi.l 1)) j.length (λi=>agK cols bc br left right p q o r g j i (xL p q o r left right g (j.take i) br)) (λ_=>True) ⟨trivial,h0⟩ ?_
 clear h0;intro i hi _;have J:∀h:i<j.length,xL p q o r left right g (j.take (i+1)) br=xL p q o r left right g (j.take i) br++XO p q o r left right g br j[i]:=λh=>by grind[xL,zJ]
 have ac:j.length<=i->xL p q o r left right g j br=xL p q o r left right g (j.take i) br:=λh=>d9
 have ab:i<j.length->(xL p q o r left right g (j.take i) br).length+br.length<=20000:=λh=>by
  have h1:=akO p q o r left right g br (j.take i);rw[bC,bB d8]at h1;have h2:(i+1)*br.length<=j.length*br.length:=aP _ h
  grind
 have aa:=λ(Q':E->S->Prop) (s':S) (x:am Val) (s1 s2:Int)=>aCr (Q:=Q') (s:=s') cols bc br left right p q o r g j i x s1 s2 (xL p q o r left right g (j.take i) br)
 show mwpR Pg T8.f (yi.l 1) _ (agK cols bc br left right p q o r g j i (xL p q o r left right g (j.take i) br));generalize xL p q o r left right g (j.take i) br=U at*;have af:(zg U).take U.length=zg U:=by grind[zy]
 refine uT (λI=>?_) (λae=>?_)
 .have hg:=yS I;have J:=J I;have ab:=ab I;obtain⟨ag,ah,R⟩:=hx _ (aN I);have wi:=zB I d8;have ad:=Ko j[i] p q (R _ dT) (R _ dT);have aa:=λQ' s' s1 s2=>aa Q' s' j[i] s1 s2 ab d8 d8 d8 ag ah (R _ dT) (R _ dT) hy
  unfold XO at J;generalize j[i]=x at*;generalize at0 x p.toNat=u1 at*;generalize at0 x q.toNat=u2 at*;unfold WC at ad;generalize xx u1 u2=b at*;obtain⟨_,u1,_⟩:=u1;obtain⟨_,u2,_⟩:=u2;refine yb hg ?_;refine aH ad ?_;cases b with
  |false=>
   have J:xL p q o r left right g (j.take (i+1)) br=U:=by rw[J,aG,aT]
   refine yW I trivial ?_;rw[wi,J];rfl
  |true=>
   refine aa _ _ u1 u2 (ze ?_) ?_
   ·(conv=>whnf);rw[zy];rfl
   refine yW I trivial ?_;rw[wi,J];rfl
 rw[ac ae];refine⟨rfl,?_⟩;refine Eq.trans (b:=⟨.tup [.agg [.d (.sl (zl cols)),.d (.sl ((zg U).take U.length))],.c (int 0)],[]⟩) rfl ?_;rw[af];rfl
theorem xT{t:Tbl}(h:zH t=0):t.cols.length<=32/\t.rows.length<=20000:=by
 obtain⟨g,_⟩:=yt d8 h
 grind
theorem qt{b:Bool}{e:Int}{y:Int×am Col}(g:b=true->e≠0)(h:(bif b then(e,([]:am Col))else y).1=0):b=false/\(bif b then(e,([]:am Col))else y)=y:=d9
theorem Zt{cols tc:am Col}:∀{cs:am ByteArray},jnErr cols tc cs=0->zS cols.length (zi cols cs)/\zS tc.length (zi tc cs)
 |[],_=>bI (λk hk=>(by cases hk)) (λk hk=>(by cases hk))
 |s::r,h=>by
  obtain⟨g,h⟩:=yt d8 h;obtain⟨_,h⟩:=yt d8 h;obtain⟨i,i2⟩:=Zt h;simp only[bO,bX]at g;refine⟨λk hk=>?_,λk hk=>?_⟩
  .rcases aV.1 hk with rfl|hk
   .grind[wI]
   exact i k hk
  rcases aV.1 hk with rfl|hk
  .grind[wI]
  exact i2 k hk
theorem ac7{cols:am Col}{s:ByteArray}(h:colInt cols s=0):0<=zf cols s/\zf cols s<cols.length:=by obtain⟨g,_⟩:=yt d8 h<;>simp_all[wI]
theorem vU{cols:am Col}:∀{i:am ByteArray},intErr cols i=0->zS cols.length (zi cols i)
 |[],_=>λk hk=>(by cases hk)
 |s::r,h=>by
  simp only[intErr]at h;cases g:(colInt cols s !=0)
  .rw[g,aG]at h;intro k hk;rcases aV.1 hk with rfl|hk
   .exact ac7 (by simpa using g)
   exact vU h k hk
  rw[g,aK]at h;rw[h]at g;cases g
structure JnOK(sp:am ByteArray)(cols tc:am Col)(cs:am ByteArray)(R:am Col):Prop where
 jn:jnErr cols tc cs=0
 i1:intErr cols sp=0
 i2:intErr tc sp=0
 dup:dupL [] (cols++keepS sp cs tc)=false
 few:(cols++keepS sp cs tc).length<=32
 two:sp.any (hasB cs)=false
 eq:R=cols++keepS sp cs tc
theorem vd{g:am ByteArray}{d:am Nmd}{cols:am Col}{cs:am ByteArray}{tb:ByteArray}(h:(Vg g d cols cs tb).1=0):∃t,zU tb d=some t/\JnOK g cols t.cols cs (Vg g d cols cs tb).2:=by
 unfold Vg at h⊢;cases hf:zU tb d with
 |none=>grind
 |some t=>
  rw[hf]at h;simp only at h⊢;obtain⟨I,i⟩:=qt d9 h;rw[i]at h⊢;unfold asD at h⊢;obtain⟨J,j⟩:=qt dT h;rw[j]at h⊢;obtain⟨P,l⟩:=qt dT h;rw[l]at h⊢;obtain⟨R,o⟩:=qt dT h;rw[o]at h⊢;obtain⟨U,p⟩:=qt d9 h;rw[p]at h⊢;obtain⟨h6,r⟩:=qt (by intro _;omega) h;rw[r];exact⟨t,rfl,by simpa using J,by simpa using P,by simpa using R,U,by simp only[bX]at h6;omega,I,rfl⟩
theorem QR{d:am Nmd}{cols:am Col}{st:Stp}(h:(zT d cols st).1=0):st.err=0:=by have:=(qt dT h).1<;>simp_all
theorem qV{d:am Nmd}{cols:am Col}{st:Stp}(g:st.op=6\/st.op=7\/st.op=8)(h:(zT d cols st).1=0):zT d cols st=Vg (Vx st.op) d cols st.cols st.table:=by grind[zT]
theorem akc{op:Int}{g:am ByteArray}{a b:Tbl}(i:op=6\/op=7\/op=8)(h:(ZA op g a b).1=0):zH a=0/\zH b=0/\JnOK (Vx op) a.cols b.cols g (ZA op g a b).2:=by
 unfold ZA at h⊢;obtain⟨J,l⟩:=qt dT h;rw[l]at h⊢;obtain⟨P,o⟩:=qt dT h;rw[o]at h⊢;have p:=qV (st:=ZB op g Uh) i h;rw[p]at h⊢;obtain⟨t,j,I⟩:=vd h;have r:zU (ZB op g Uh).table [⟨Uh,b⟩]=some b:=by
  show(bif zo Uh Uh then some b else none)=some b
  grind[AM.beqS_self]
 rw[r]at j;cases j;exact⟨d9,d9,I⟩
theorem av1(a b:am ByteArray):zp a++zp b=zp (a++b):=by simp[zp]
def ovQ(a b:Tbl)(g:am ByteArray):Res:=bif (ZA 7 g a b).1 !=0 then qY ⟨[],[]⟩ (ZA 7 g a b).1 else
 qY ⟨(ZA 7 g a b).2,xL (zf a.cols sFrom) (zf a.cols sTo) (zf b.cols sFrom) (zf b.cols sTo) (zi a.cols g) (zi b.cols g) (oth (g++[sFrom,sTo]) 0 b.cols) a.rows b.rows⟩ 0
theorem Vp(g:am ByteArray):∀(l:am Col) (i:Nat),(oth g i l).length<=l.length
 |[],_=>aA _
 |c::r,i=>by have:=Vp g r (i+1);simp only[oth,aE,bL];cases(!hasB g c.name)<;>simp<;>omega
theorem aat(g:am ByteArray)(l:am Col):zS l.length (oth g 0 l):=λk hk=>by have:=aeY g l 0 k hk;omega
theorem aqg(a b:Tbl)(g:am ByteArray)(ak:g.length<=100000)(af:a.cols.length<=1000000)(J:b.cols.length<=1000000)(P:a.rows.length*b.rows.length<=20000):dY wJ [a.w,b.w,.c (.d (.sl (zp g)))] (ovQ a b g):=by
 have hc:=abU 7 g a b d8 af J;have l:=@akc 7 g a b d8;have ah:=qE a.cols (.sl (zg a.rows)) g d8;have ai:=qE b.cols (.sl (zg b.rows)) g d8;have ab:=qE a.cols (.sl (zg a.rows)) [sFrom,sTo] dT;have ad:=qE b.cols (.sl (zg b.rows)) [sFrom,sTo] dT;have U:=ag5 b.cols (.sl (zg b.rows)) (g++[sFrom,sTo]) J;have ag:=uy g d8;have aa:dY Ya [b.w,.c (.d (.sl (aQ ((zp g).length+(aQ 2 (zp [sFrom,sTo])).length) (aQ (zp g).length (zp g)++aQ 2 (zp [sFrom,sTo])))))] (rC (.d (.sl (zh (oth (g++[sFrom,sTo]) 0 b.cols))))):=by
  rw[show aQ ((zp g).length+(aQ 2 (zp [sFrom,sTo])).length) (aQ (zp g).length (zp g)++aQ 2 (zp [sFrom,sTo]))=zp (g++[sFrom,sTo])by grind[zp]]
  exact U
 unfold ovQ;generalize ZA 7 g a b=c at*;obtain⟨c1,c2⟩:=c;simp only at l⊢;refine zC ?_;obtain⟨j,ar⟩:=a;obtain⟨i,br⟩:=b;simp only at*;refine yi.s T8 ?_;refine aH hc ?_;refine zx (λo=>?_) (λo=>?_)
 .rw[show(c1 !=0)=true from o];exact⟨rfl,rfl⟩
 have o:(c1 !=0)=false:=o;rw[o];have ae:c1=0:=d9
 subst ae;obtain⟨ka,kb,hj⟩:=l rfl;obtain⟨i1,i2⟩:=Zt hj.jn;have i3:=vU hj.i1;have i4:=vU hj.i2;have wa:=wP ka;have wb:=wP kb;have fa:=xT ka;have fb:=xT kb;have ol:=Vp (g++[sFrom,sTo]) i 0;have oi:=aat (g++[sFrom,sTo]) i;have p1:zi j [sFrom,sTo]=[zf j sFrom,zf j sTo]:=rfl;have p2:zi i [sFrom,sTo]=[zf i sFrom,zf i sTo]:=rfl;have l1:(zi j g).length=g.length:=by simp[zi]
 have l2:(zi i g).length=g.length:=by simp[zi]
 have hm:=λ(s:S)=>aCs (s:=s) c2 i br (zi j g) (zi i g) (zf j sFrom) (zf j sTo) (zf i sFrom) (zf i sTo) (oth (g++[sFrom,sTo]) 0 i) ar P d9 d8 d8 d9
  (λx hx=>by have I:=wa x hx;have:=fa.1;simp only at this I;exact⟨d8,d9,by rw[I];exact i3⟩)
  (λy hy=>by have I:=wb y hy;simp only at I;exact⟨d9,d9,by rw[I];exact i4⟩)
 rw[p1]at ab;rw[p2]at ad;clear i1 i2 i3 i4 wa wb fa fb ol oi p1 p2 l1 l2 hj ka kb l o;generalize zf j sFrom=p at*;generalize zf j sTo=q at*;generalize zf i sFrom=p2 at*;generalize zf i sTo=q2 at*;generalize zi j g=left at*;generalize zi i g=right at*;generalize oth (g++[sFrom,sTo]) 0 i=aj at*;refine aH ah ?_;refine aH ai ?_
 repeat' (first
  |(refine aS ab ?_;rintro _ rfl;conv=>whnf)
  |(refine aS ad ?_;rintro _ rfl;conv=>whnf)
  |(refine aS ag ?_;rintro _ (⟨R,rfl⟩|rfl)<;>conv=>whnf)
  |(refine⟨dT,by unfold yz;simp only[zP];simp;omega,by simp only[zP];simp;omega,?_⟩;conv=>whnf)
  |(refine⟨dT,by unfold yz;simp,dT,?_⟩;conv=>whnf)
  |(refine aS aa ?_;rintro _ rfl;conv=>whnf)
  |(subst R;refine aS U ?_;rintro _ rfl;conv=>whnf)
  |(refine bI ?_ ?_<;>conv=>whnf))
 all_goals rw[zy]
 all_goals refine hm _ ⟨_,uG 15 1 143 1 d8 d8 rfl,?_⟩
 all_goals conv=>whnf
 all_goals rfl
def VJ(u v:Val)(ag:Bool):Bool:=!((u.k==0||v.k==0)||decide (v.n>u.n))&&ag
def gm(g:Int)(y:am Val):bR (am Val)->bR (am Val)
 |none=>some y
 |some z=>bif decide ((at0 y g.toNat).n>=(at0 z g.toNat).n)then some y else some z
def UT(p g:Int)(left right:am Int)(x:am Val)(ys:am (am Val)):bR (am Val):=
 ys.foldl (λb y=>bif VJ (at0 x p.toNat) (at0 y g.toNat) (uv (zn x left) (zn y right))then gm g y b else b) none
def nrS(cols o:am Col)(br:am (am Val))(left right:am Int)(p r:Int)(g:am Int)(l:am (am Val))(i:Nat)(out:am (am Val))(x:am Val)(b:Int)(j:Nat):S:=
 ⟨[(4,cV (.ptr 4 0)),(6,cV (.ptr 6 0)),(10,.w (.c (.d (.sl (zh left))))),(11,.w (.c (.d (.sl (zh right))))),(12,zm p),(13,zm r),(14,.w (.c (.d (.sl (zh g))))),(15,cV (.ptr 15 0)),(17,.w (yu x)),(18,zm b),(55,.w (.c (.d (.sl (zg l))))),(56,zm l.length),(57,zm i),(62,.w (.c (.d (.sl (zg br))))),(63,zm br.length),(64,zm j)],
 [(4,.box [.d (.sl (zl o)),.d (.sl (zg br))]),(6,.box [.nil,.nil]),(15,.box [.d (.sl (zl cols)),.own 139 1 out.length]),(139,.arr 1 (zg out) false)]⟩
def nrR(br:am (am Val))(B:bR (am Val))(b:Int):Prop:=(b= -1/\B=none)\/(0<=b/\∃h:b.toNat<br.length,B=some br[b.toNat])
theorem aCp{Q:E->S->Prop}{s:S}(cols bc:am Col)(br:am (am Val))(left right:am Int)(p o:Int)(I:am Int)(ar:am (am Val))(i:Nat)(out:am (am Val))(x:am Val)
 (aq:br.length<=1000000) (au:left.length<=100000) (av:right.length<=100000) (hx:zS x.length left) (hp:0<=p/\p<x.length)
 (hy:∀y∈br,zS y.length right/\(0<=o/\o<y.length))
 (h0:y8 s [4,6,10,11,12,13,14,15,17,18,55,56,57,62,63,64] (· =nrS cols bc br left right p o I ar i out x (-1) 0))
 (hQ:∀b,nrR br (UT p o left right x br) b->Q (.exit 2) (xM (nrS cols bc br left right p o I ar i out x b br.length) 65 (zZ (decide ((br.length:Int)<br.length))))):
 zX (mwpR Pg T8.f (xE.l 0)) [4,6,10,11,12,13,14,15,17,18,55,56,57,62,63,64] Q s:=by
 refine yq (P:=Pg) (f:=T8.f) (body:=(xE.l 0)) (λz:Nat×Int=>nrS cols bc br left right p o I ar i out x z.2 z.1) (λz=>br.length-z.1) (λz=>z.1<=br.length/\nrR br (UT p o left right x (br.take z.1)) z.2) ⟨(0, -1),⟨aR _,.inl ⟨rfl,rfl⟩⟩,h0⟩ ?_
 clear h0;rintro⟨j,b⟩ hz;obtain⟨hj,J⟩:j<=br.length/\nrR br (UT p o left right x (br.take j)) b:=hz;have g:∀h:j<br.length,UT p o left right x (br.take (j+1))=bif VJ (at0 x p.toNat) (at0 br[j] o.toNat) (uv (zn x left) (zn br[j] right))then gm o br[j] (UT p o left right x (br.take j))else UT p o left right x (br.take j):=λh=>by grind[UT,zJ]
 have U:j=br.length->UT p o left right x br=UT p o left right x (br.take j):=λh=>d9
 show mwpR Pg T8.f (xE.l 0) _ (nrS cols bc br left right p o I ar i out x b j);generalize UT p o left right x (br.take j)=B at*;unfold nrS;refine rgE (λr=>?_) (λab=>?_)
 .have hg:=yS r;have g:=g r;obtain⟨an,ao⟩:=hy _ (aN r);have wi:=zB r d8;have ak:=uE x left d8 hx;have al:=uE br[j] right d8 an;have ad:=ad6 (zn x left) (zn br[j] right);have af:=Xc (R:=x) (k:=p) d8;have ah:=Xc (R:=br[j]) (k:=o) d8;have ac:nrR br (some br[j]) j:=.inr ⟨d8,d9,dT⟩;clear U;clear hQ;generalize br[j]=y at*;unfold VJ at g;generalize uv (zn x left) (zn y right)=ag at*;generalize hu:at0 x p.toNat=u at*;generalize hv:at0 y o.toNat=v at*;obtain⟨u1,u2,u3⟩:=u;obtain⟨v1,v2,v3⟩:=v;simp only at g;refine yb hg ?_
  repeat' (first
   |(refine⟨hp.1,_,af,rfl,?_⟩;conv=>whnf)
   |(refine⟨ao.1,_,ah,rfl,?_⟩;conv=>whnf)
   |(refine bI ?_ ?_<;>conv=>whnf))
  all_goals (
   refine zx (b:=(u1==0||v1==0)||decide (v2>u2)) (λh=>?_) (λh=>?_)
   .rw[h,Bool.not_true,bS,aG]at g;(conv=>whnf);refine⟨(j+1,b),⟨⟨r,by rw[g];exact J⟩,by show br.length-(j+1)<br.length-j;omega⟩,ze ?_⟩;(conv=>whnf);rw[wi];rfl
   rw[h,Bool.not_false,bG]at g;refine aH ak ?_;refine aH al ?_;refine aH ad ?_;cases ag with
   |false=>
    rw[aG]at g;(conv=>whnf);refine⟨(j+1,b),⟨⟨r,by rw[g];exact J⟩,by show br.length-(j+1)<br.length-j;omega⟩,ze ?_⟩;(conv=>whnf);rw[wi];rfl
   |true=>
    rw[aK]at g;refine zj (λh2=>?_) (λh2=>?_)
    .have h2:b<0:=aF h2;obtain⟨rfl,rfl⟩:b= -1/\B=none:=by
      rcases J with J|⟨J,_⟩
      .exact J
      omega
     (conv=>whnf);refine⟨(j+1,(j:Int)),⟨⟨r,by rw[g];exact ac⟩,by show br.length-(j+1)<br.length-j;omega⟩,ze ?_⟩;(conv=>whnf);rw[wi];rfl
    have h2:¬b<0:=aC h2;obtain⟨ae,aa,rfl⟩:0<=b/\∃h:b.toNat<br.length,B=some br[b.toNat]:=by
     rcases J with⟨rfl,_⟩|J
     .omega
     exact J
    have aj:(zg br)[b.toNat]?=some [.sl (rowD br[b.toNat])]:=by simp[zg,am.getElem?_eq_getElem aa]
    have hz:=(hy _ (aN aa)).2;simp only[gm,hv]at g;generalize br[b.toNat]=z at*;have ai:=Xc (R:=z) (k:=o) d8;generalize at0 z o.toNat=w at*;obtain⟨w1,w2,w3⟩:=w;simp only at g;(conv=>whnf);refine⟨ae,_,aj,rfl,?_⟩;(conv=>whnf);refine⟨hz.1,_,ai,rfl,?_⟩;refine zj (b:=decide (v2>=w2)) (λh3=>?_) (λh3=>?_)
    .rw[h3,aK]at g;(conv=>whnf);refine⟨(j+1,(j:Int)),⟨⟨r,by rw[g];exact ac⟩,by show br.length-(j+1)<br.length-j;omega⟩,ze ?_⟩;(conv=>whnf);rw[wi];rfl
    rw[h3,aG]at g;(conv=>whnf);refine⟨(j+1,b),⟨⟨r,by rw[g];exact J⟩,by show br.length-(j+1)<br.length-j;omega⟩,ze ?_⟩;(conv=>whnf);rw[wi];rfl)
 rw[<-U ab]at J;subst ab;(conv=>whnf);exact hQ b J
def aeU(g:am Int):bR (am Val)->am Val
 |none=>aL g.length zw
 |some z=>zn z g
def w7(p i:Int)(left right g:am Int)(br:am (am Val))(x:am Val):am Val:=x++aeU g (UT p i left right x br)
def asO(cols l:am Col)(br:am (am Val))(left right:am Int)(p o:Int)(g:am Int)(j:am (am Val))(i:Nat)(out:am (am Val)):S:=
 ⟨[(4,cV (.ptr 4 0)),(6,cV (.ptr 6 0)),(10,.w (.c (.d (.sl (zh left))))),(11,.w (.c (.d (.sl (zh right))))),(12,zm p),(13,zm o),(14,.w (.c (.d (.sl (zh g))))),(15,cV (.ptr 15 0)),(55,.w (.c (.d (.sl (zg j))))),(56,zm j.length),(57,zm i)],
 [(4,.box [.d (.sl (zl l)),.d (.sl (zg br))]),(6,.box [.nil,.nil]),(15,.box [.d (.sl (zl cols)),.own 139 1 out.length]),(139,.arr 1 (zg out) false)]⟩
noncomputable def nrRest:ACode:=y9 (y9 (y9 (y9 (y9 (y9 (y9 (y9 xE.A.code)))))))
theorem aCq{s:S}(cols bc:am Col)(br:am (am Val))(left right:am Int)(p o:Int)(g:am Int)(j:am (am Val))
 (ay:j.length<=100000) (ak:br.length<=1000000) (ao:left.length<=100000) (au:right.length<=100000) (az:g.length<=100000)
 (hx:∀x∈j,x.length<=100000/\zS x.length left/\(0<=p/\p<x.length))
 (hy:∀y∈br,zS y.length right/\zS y.length g/\(0<=o/\o<y.length))
 (h0:y8 s [4,6,10,11,12,13,14,15,55,56,57] (· =asO cols bc br left right p o g j 0 [])):
 zX (mwpR Pg T8.f (xE.l 1)) [4,6,10,11,12,13,14,15,55,56,57] (ZF 0 (Wz (mwpR Pg T8.f nrRest) (ZZ xE.A.res [] (DQ (qY ⟨cols,j.map (w7 p o left right g br)⟩ 0))))) s:=by
 refine yy (P:=Pg) (f:=T8.f) (body:=(xE.l 1)) j.length (λi=>asO cols bc br left right p o g j i ((j.take i).map (w7 p o left right g br))) (λ_=>True) ⟨trivial,h0⟩ ?_
 clear h0;intro i hi _;have r:∀h:i<j.length,(j.take (i+1)).map (w7 p o left right g br)=(j.take i).map (w7 p o left right g br)++[w7 p o left right g br j[i]]:=λh=>by grind[zJ]
 have ac:j.length<=i->j.map (w7 p o left right g br)=(j.take i).map (w7 p o left right g br):=λh=>d9
 have ax:((j.take i).map (w7 p o left right g br)).length=i:=dX
 have aa:=λ(Q':E->S->Prop) (s':S) (x:am Val)=>aCp (Q:=Q') (s:=s') cols bc br left right p o g j i ((j.take i).map (w7 p o left right g br)) x ak ao au
 show mwpR Pg T8.f (xE.l 1) _ (asO cols bc br left right p o g j i ((j.take i).map (w7 p o left right g br)));generalize(j.take i).map (w7 p o left right g br)=U at*;have ae:(zg U).take U.length=zg U:=by grind[zy]
 unfold asO;refine uT (λI=>?_) (λal=>?_)
 .have hg:=yS I;have r:=r I;obtain⟨a1,av,af⟩:=hx _ (aN I);have wi:=zB I d8;have aa:=λQ' s'=>aa Q' s' j[i] av af (λy h=>⟨(hy y h).1,(hy y h).2.2⟩)
  have ai:=uU j[i] d8;clear ac hx;unfold w7 at r;generalize j[i]=x at*;generalize UT p o left right x br=B at*;refine yb hg ?_;refine aa _ _ (ze ?_) ?_
  ·(conv=>whnf);unfold nrS;rw[zy];rfl
  intro b hR;unfold xM nrS;rcases hR with⟨rfl,rfl⟩|⟨aj,ah,rfl⟩
  .have r:(j.take (i+1)).map (w7 p o left right g br)=U++[x++aL g.length zw]:=r;have aw:aL (((zh g).length:Int)).toNat VQ=rowD (aL g.length zw):=by rw[zE];simp[rowD];exact .inr rfl
   have ad:(((zh g).length:Int)).toNat=g.length:=by grind[zE]
   (conv=>whnf);refine⟨d8,d8,by grind[yz],d9,?_⟩;have ag:∀y∈aQ (((zh g).length:Int)).toNat (aL (((zh g).length:Int)).toNat VQ),y.length=3:=by grind[QO]
   have R:(rowD x).length+(aQ (((zh g).length:Int)).toNat (aL (((zh g).length:Int)).toNat VQ)).length<=1000000:=by grind[zu]
   have ab:aQ ((rowD x).length+(aQ (((zh g).length:Int)).toNat (aL (((zh g).length:Int)).toNat VQ)).length) (aQ (rowD x).length (rowD x)++aQ (((zh g).length:Int)).toNat (aL (((zh g).length:Int)).toNat VQ))=rowD (x++aL g.length zw):=by rw[aw,ad,show aQ g.length (rowD (aL g.length zw))=rowD (aL g.length zw)by rw[show g.length=(rowD (aL g.length zw)).length by grind];simp[rowD],aO,uu,show(rowD x).length+(rowD (aL g.length zw)).length=(rowD (x++aL g.length zw)).length by simp[zu],aO]
   unfold VQ at ab;(conv=>whnf)
   repeat' (first
    |(refine aS ai ?_;rintro _ (⟨J,rfl⟩|rfl);(subst J;simp at af;omega);(conv=>whnf))
    |(refine⟨ag,by unfold yz;have:=R;exact bQ (aP _ this) d8,bQ R d8,?_⟩;conv=>whnf)
    |(refine⟨dT,by unfold yz;simp;omega,dX,?_⟩;conv=>whnf)
    |(refine⟨I,trivial,ze ?_⟩;(conv=>whnf);rw[wi,ae,r,ab,xy,aE];rfl)
    |(refine bI ?_ ?_<;>conv=>whnf))
  have r:(j.take (i+1)).map (w7 p o left right g br)=U++[x++zn br[b.toNat] g]:=r;have an:(zg br)[b.toNat]?=some [.sl (rowD br[b.toNat])]:=by simp[zg,am.getElem?_eq_getElem ah]
  have aq:=uE br[b.toNat] g d8 (hy _ (aN ah)).2.1;have a0:(zn br[b.toNat] g).length=g.length:=by simp[zn]
  generalize br[b.toNat]=z at*;generalize zn z g=F at*;have ad:(((zh g).length:Int)).toNat=g.length:=by grind[zE]
  have ag:∀y∈rowD F,y.length=3:=QO _;have R:(rowD x).length+(rowD F).length<=1000000:=by simp only[zu];omega
  have ab:aQ ((rowD x).length+(rowD F).length) (aQ (rowD x).length (rowD x)++rowD F)=rowD (x++F):=by rw[aO,uu,show(rowD x).length+(rowD F).length=(rowD (x++F)).length by simp[zu],aO]
  (conv=>whnf);refine⟨d8,d8,by unfold yz;rw[ad];omega,by rw[zE];omega,?_⟩;refine zj (λh2=>?_) (λh2=>?_)
  .refine yb an ?_ (hA:=aj);refine aH aq ?_
   repeat' (first
    |(refine aS ai ?_;rintro _ (⟨J,rfl⟩|rfl);(subst J;simp at af;omega);(conv=>whnf))
    |(refine⟨ag,by unfold yz;have:=R;exact bQ (aP _ this) d8,bQ R d8,?_⟩;conv=>whnf)
    |(refine⟨dT,by unfold yz;simp;omega,dX,?_⟩;conv=>whnf)
    |(refine⟨I,trivial,ze ?_⟩;(conv=>whnf);rw[wi,ae,r,ab,xy,aE];rfl)
    |(refine bI ?_ ?_<;>conv=>whnf))
  have h2:¬b>=0:=aC h2;omega
 rw[ac al];clear aa;(conv=>whnf);refine⟨rfl,?_⟩;refine Eq.trans (b:=⟨.tup [.agg [.d (.sl (zl cols)),.d (.sl ((zg U).take U.length))],.c (int 0)],[]⟩) rfl ?_;rw[ae];rfl
end
end Go.Proofs.YtkdijaiaplkliaaGreatDoor
