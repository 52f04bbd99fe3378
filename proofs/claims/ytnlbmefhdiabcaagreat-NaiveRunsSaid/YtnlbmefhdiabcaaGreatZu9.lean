import Derived.ProofKit
import Derived.ChangeArms
import Derived.DataReads
import Derived.Carry
import Derived.Below
import Derived.ChangeSame
import Derived.WalkKit
import Derived.OpenShut
import Derived.JoinedOf
import Derived.Sort.Statements
import Derived.Test.YtnlbmefhdiabcaaGreatZu8
set_option linter.unusedSimpArgs false
set_option linter.unusedVariables false
set_option maxRecDepth 100000
set_option maxHeartbeats 4000000
namespace Go.Proofs.YtnlbmefhdiabcaaGreat
open Go Go.AM
section
attribute [local irreducible] Sat zQ yv
def Ks (h n:Int):Int:=IntKind.i64.wrap (h+VS false .i64 n 32)
def loI (l n:Int):Int:=IntKind.i64.wrap (l+Ji .and .i64 n 4294967295)
def JX:Int ->Int ->List Val ->Option (Int×Int)
 |h,l,[]=>some (h,l)
 |h,l,v::r=>bif v.k !=2 then none else JX (Ks h v.n) (loI l v.n) r
def akc (h l:Int):Val:=
 bif decide (Ks h l>1048576)||decide (Ks h l< -1048576)then zB else
 qc (IntKind.i64.wrap (VS true .i64 (Ks h l) 32+Ji .and .i64 l 4294967295)) (inB (IntKind.i64.wrap (VS true .i64 (Ks h l) 32+Ji .and .i64 l 4294967295)))
def Yd (l:List Val):Val:=match JX 0 0 l with
 |some (h,x)=>akc h x
 |none=>zB
theorem aAO (l:List Val):Sat Pg ahE [zC l] (λr=>r=rV (Yd l)):=by
 refine xF 0 (by kernel_rfl) rfl λo=>?_
 rw[zn]at o;refine ag5.s T8 ?_;refine yQ (P:=Pg) (f:=T8.f) (body:=(ag5.l 0)) (λx:Nat×Int×Int=>⟨[(2,cV (.ptr 2 0)),(3,zj x.2.1),(4,zj x.2.2),(8,.w (zC l)),(9,zj (rowD l).length),(10,zj x.1)],[(2,.box [int 0,int 0,str ⟨#[]⟩])]⟩) (λx=>l.length - x.1) (λx=>x.1<=l.length /\JX 0 0 l=JX x.2.1 x.2.2 (l.drop x.1)) ⟨(0,0,0),⟨Nat.zero_le _,rfl⟩,zf ?_⟩ ?_
 ·exact rfl
 ·rintro⟨i,h,I⟩ hx;obtain⟨hi,g⟩:i<=l.length /\JX 0 0 l=JX h I (l.drop i):=hx;refine zh (λJ=>?_) (λJ=>?_)
  ·have j:i<l.length:=by have J:decide ((i:Int)<((rowD l).length:Int))=true:=J;simp_all[zn]
   have U:=ym j;rw[zo j]at g;simp only[JX]at g;have wi:=zt j o;generalize l[i]=v at*;obtain⟨v1,T,v3⟩:=v;simp only at g;refine zI U ?_;refine zh (b:=v1 !=2) (λp=>?_) (λp=>?_)
   ·rw[p,cond_true]at g;have hs:Yd l=zB:=by grind[Yd]
    rw[hs];exact rfl
   ·rw[p,cond_false]at g;(conv=>whnf);refine⟨by omega,?_⟩;(conv=>whnf);refine⟨(i+1,Ks h T,loI I T),⟨⟨j,g⟩,by grind⟩,zf ?_⟩;(conv=>whnf);rw[wi];rfl
  ·have R:l.length<=i:=by grind[zn]
   rw[List.drop_eq_nil_of_le R]at g;have hs:Yd l=akc h I:=by unfold Yd;rw[g];rfl
   rw[hs];unfold akc;clear hs g;(conv=>whnf);refine⟨by omega,?_⟩;refine zh (b:=decide (Ks h I>1048576)||decide (Ks h I< -1048576)) (λp=>?_) (λp=>?_)
   ·rw[p];exact rfl
   ·rw[p];simp only[cond_false];(conv=>whnf);refine⟨by omega,?_⟩;(conv=>whnf);unfold Ks;generalize IntKind.i64.wrap (VS true .i64 (IntKind.i64.wrap (h+VS false .i64 I 32)) 32+Ji .and .i64 I 4294967295)=z;cases inB z<;>rfl
def vH (m:Val):List Val ->Val
 | []=>m
 |v::r=>vH (bif decide (zX v m<0)then v else m) r
def Zy (m:Val):List Val ->Val
 | []=>m
 |v::r=>Zy (bif decide (zX v m>0)then v else m) r
theorem aAL (l:List Val)(h0:0<l.length):Sat Pg jY [zC l,.c (.d (.fn qe []))] (λr=>r=rV (vH l[0] (l.drop 1))):=by
 refine xF 0 (by kernel_rfl) rfl λo=>?_
 rw[zn]at o;have p:=ym h0;have e0:decide (((rowD l).length:Int)<1)=false:=decide_eq_false (by grind);generalize l[0]=m0 at*;obtain⟨m1,m2,m3⟩:=m0;refine XD.s T8 ?_;rw[e0];refine zI p ?_;refine yQ (P:=Pg) (f:=T8.f) (body:=(XD.l 0)) (λx:Nat×Val=>⟨[(0,.w (zC l)),(1,.w (.c (.d (.fn qe [])))),(4,cV (.ptr 4 0)),(5,cV (.ptr 5 0)),(6,zj x.1)],[(4,.box [int 0,int 0,str ⟨#[]⟩]),(5,.box [int x.2.k,int x.2.n,str x.2.s])]⟩) (λx=>l.length - x.1) (λx=>x.1<=l.length /\vH ⟨m1,m2,m3⟩ (l.drop 1)=vH x.2 (l.drop x.1)) ⟨(1,⟨m1,m2,m3⟩),⟨h0,rfl⟩,zf ?_⟩ ?_
 ·exact rfl
 ·rintro⟨i,⟨I,J,R⟩⟩ hx;obtain⟨hi,j⟩:i<=l.length /\vH ⟨m1,m2,m3⟩ (l.drop 1)=vH ⟨I,J,R⟩ (l.drop i):=hx;clear e0 p;refine zh (λT=>?_) (λT=>?_)
  ·have g:i<l.length:=by have T:decide ((i:Int)<((rowD l).length:Int))=true:=T;simp_all[zn]
   have hg:=ym g;rw[zo g]at j;simp only[vH]at j;have wi:=zt g o;generalize l[i]=v at*;obtain⟨v1,v2,v3⟩:=v;have hc:=jJ ⟨v1,v2,v3⟩ ⟨I,J,R⟩;generalize zX ⟨v1,v2,v3⟩ ⟨I,J,R⟩=c at*;refine zI hg ?_;refine Sat.w hc ?_;refine zp (b:=decide (c<0)) (λU=>?_) (λU=>?_)
   ·rw[U,cond_true]at j;refine zI hg ?_;refine⟨(i+1,⟨v1,v2,v3⟩),⟨⟨g,j⟩,by grind⟩,zf ?_⟩;(conv=>whnf);rw[wi];rfl
   ·rw[U,cond_false]at j;(conv=>whnf);refine⟨(i+1,⟨I,J,R⟩),⟨⟨g,j⟩,by grind⟩,zf ?_⟩;(conv=>whnf);rw[wi];rfl
  ·have aa:l.length<=i:=by grind[zn]
   rw[List.drop_eq_nil_of_le aa]at j;simp only[vH]at j;rw[j];exact rfl
theorem aAK (l:List Val)(h0:0<l.length):Sat Pg jX [zC l,.c (.d (.fn qe []))] (λr=>r=rV (Zy l[0] (l.drop 1))):=by
 refine xF 0 (by kernel_rfl) rfl λo=>?_
 rw[zn]at o;have p:=ym h0;have e0:decide (((rowD l).length:Int)<1)=false:=decide_eq_false (by grind);generalize l[0]=m0 at*;obtain⟨m1,m2,m3⟩:=m0;refine XC.s T8 ?_;rw[e0];refine zI p ?_;refine yQ (P:=Pg) (f:=T8.f) (body:=(XC.l 0)) (λx:Nat×Val=>⟨[(0,.w (zC l)),(1,.w (.c (.d (.fn qe [])))),(4,cV (.ptr 4 0)),(5,cV (.ptr 5 0)),(6,zj x.1)],[(4,.box [int 0,int 0,str ⟨#[]⟩]),(5,.box [int x.2.k,int x.2.n,str x.2.s])]⟩) (λx=>l.length - x.1) (λx=>x.1<=l.length /\Zy ⟨m1,m2,m3⟩ (l.drop 1)=Zy x.2 (l.drop x.1)) ⟨(1,⟨m1,m2,m3⟩),⟨h0,rfl⟩,zf ?_⟩ ?_
 ·exact rfl
 ·rintro⟨i,⟨I,J,R⟩⟩ hx;obtain⟨hi,j⟩:i<=l.length /\Zy ⟨m1,m2,m3⟩ (l.drop 1)=Zy ⟨I,J,R⟩ (l.drop i):=hx;clear e0 p;refine zh (λT=>?_) (λT=>?_)
  ·have g:i<l.length:=by have T:decide ((i:Int)<((rowD l).length:Int))=true:=T;simp_all[zn]
   have hg:=ym g;rw[zo g]at j;simp only[Zy]at j;have wi:=zt g o;generalize l[i]=v at*;obtain⟨v1,v2,v3⟩:=v;have hc:=jJ ⟨v1,v2,v3⟩ ⟨I,J,R⟩;generalize zX ⟨v1,v2,v3⟩ ⟨I,J,R⟩=c at*;refine zI hg ?_;refine Sat.w hc ?_;refine zp (b:=decide (c>0)) (λU=>?_) (λU=>?_)
   ·rw[U,cond_true]at j;refine zI hg ?_;refine⟨(i+1,⟨v1,v2,v3⟩),⟨⟨g,j⟩,by grind⟩,zf ?_⟩;(conv=>whnf);rw[wi];rfl
   ·rw[U,cond_false]at j;(conv=>whnf);refine⟨(i+1,⟨I,J,R⟩),⟨⟨g,j⟩,by grind⟩,zf ?_⟩;(conv=>whnf);rw[wi];rfl
  ·have aa:l.length<=i:=by grind[zn]
   rw[List.drop_eq_nil_of_le aa]at j;simp only[Zy]at j;rw[j];exact rfl
def zD (l:List Val):List Val:=l.filter λv=>v.k !=0
def qI:ByteArray:=⟨#[99,111,117,110,116]⟩
def Wk:ByteArray:=⟨#[115,117,109]⟩
def aig:ByteArray:=⟨#[102,105,114,115,116]⟩
def ajR:ByteArray:=⟨#[109,105,110]⟩
def ajQ:ByteArray:=⟨#[109,97,120]⟩
def w6 (fn:ByteArray)(l:List Val):Val:=
 bif zl fn qI then⟨2,l.length,⟨#[]⟩⟩else bif zl fn Wk then Yd (zD l)else
 bif zl fn aig&&decide ((l.length:Int)>0)then at0 l 0 else
 bif zl fn ajR&&decide (((zD l).length:Int)>0)then vH (at0 (zD l) 0) ((zD l).drop 1)else
 bif zl fn ajQ&&decide (((zD l).length:Int)>0)then Zy (at0 (zD l) 0) ((zD l).drop 1)else zB
def agS (fn:ByteArray)(l:List Val)(i:Nat)(g:List Val):S:=⟨[(0,.w (.c (str fn))),(1,.w (zC l)),(4,cV (.ptr 4 0)),(5,cV (.own 20 3 g.length)),(8,.w (zC l)),(9,zj (rowD l).length),(10,zj i)],
 [(4,.box [int 0,int 0,str ⟨#[]⟩]),(20,.arr 3 (rowD g) false)]⟩
theorem U3 {l:List Val}{i:Nat}(h:i<l.length):at0 l i=l[i]:=by grind[at0]
theorem aAI (fn:ByteArray)(l:List Val)(ae:l.length<=1000000):Sat Pg aaP [.c (str fn),zC l] (λr=>r=rV (w6 fn l)):=by
 have U:=aAO (zD l);have J:=λh=>aAL (zD l) h
 have I:=λh=>aAK (zD l) h
 have hA: ∀h:0<(zD l).length,(zD l)[0]=at0 (zD l) 0:=λh=>(U3 h).symm
 have J:0<(zD l).length ->Sat Pg jY [zC (zD l),.c (.d (.fn qe []))] (λr=>r=rV (vH (at0 (zD l) 0) ((zD l).drop 1))):=λh=>by grind
 have I:0<(zD l).length ->Sat Pg jX [zC (zD l),.c (.d (.fn qe []))] (λr=>r=rV (Zy (at0 (zD l) 0) ((zD l).drop 1))):=λh=>by grind
 have o:decide ((l.length:Int)>0)=true ->(rowD l)[((0:Int)).toNat]? =some (at0 l 0).ds:=λh=>by
  have h:=of_decide_eq_true h;have:=ym (r:=l) (i:=0) (by omega)
  grind[U3]
 unfold w6;refine aat.s T8 ?_;refine zF (P:=Pg) (f:=T8.f) (body:=(aat.l 0)) l.length (λi=>agS fn l i (zD (l.take i))) (λ_=>True) ⟨trivial,⟨_,zu 5 20 3 (by omega) (by omega) rfl,?_⟩⟩ ?_
 ·exact rfl
 ·intro i hi _;have ac:(zD (l.take i)).length<=i:=by
   grind[zD]
  have g: ∀h:i<l.length,zD (l.take (i+1))=zD (l.take i)++(bif l[i].k !=0 then [l[i]]else []):=λh=>vL (λv:Val=>v.k !=0) h
  have j:l.length<=i ->zD l=zD (l.take i):=λh=>by grind
  show mwpR Pg T8.f (aat.l 0) _ (agS fn l i (zD (l.take i)));generalize zD (l.take i)=T at*;have R:(rowD T).take T.length=rowD T:=by grind[zn]
  unfold agS;refine zh (λh1=>?_) (λh1=>?_)
  ·have p:i<l.length:=by have h1:decide ((i:Int)<((rowD l).length:Int))=true:=h1;have:=of_decide_eq_true h1;grind[zn]
   have hg:=ym p;have g:=g p;have wi:=zt p (by omega);clear U J I hA o j;generalize l[i]=v at*;obtain⟨v1,v2,v3⟩:=v;simp only at g;refine zI hg ?_;refine zh (b:=v1 !=0) (λh2=>?_) (λh2=>?_)
   ·rw[h2,cond_true]at g;refine qN ?_;refine yt p trivial ?_;rw[wi,R,g,<- uW,List.length_append];rfl
   ·rw[h2,cond_false,List.append_nil]at g;refine yt p trivial ?_;rw[wi,g];rfl
  ·have ad:l.length<=i:=by grind[zn]
   have j:=j ad;subst j;clear g ac;refine zh (b:=zl fn qI) (λq1=>?_) (λq1=>?_)
   ·rw[q1];(conv=>whnf);rw[zn];rfl
   ·rw[q1];simp only[cond_false];refine zh (b:=zl fn Wk) (λq2=>?_) (λq2=>?_)
    ·rw[q2];simp only[cond_true];have ab:Sat Pg ahE [.c (.d (.sl ((rowD (zD l)).take (zD l).length)))] (λr=>r=rV (Yd (zD l))):=by rw[R];exact U
     generalize Yd (zD l)=u at*;obtain⟨u1,u2,u3⟩:=u;refine Sat.w ab ?_;rfl
    ·rw[q2];simp only[cond_false];refine zh (b:=zl fn aig&&decide (((rowD l).length:Int)>0)) (λq3=>?_) (λq3=>?_)
     ·rw[zn]at q3;rw[q3];simp only[cond_true];have hf:=o (by simp_all);generalize at0 l 0=u at*;obtain⟨u1,u2,u3⟩:=u;refine zI hf ?_;exact rfl
     ·rw[zn]at q3;rw[q3];simp only[cond_false];refine zh (b:=zl fn ajR&&decide (((zD l).length:Int)>0)) (λq4=>?_) (λq4=>?_)
      ·rw[q4];simp only[cond_true];have h0:0<(zD l).length:=by
        simp_all
       have aa:Sat Pg jY [.c (.d (.sl ((rowD (zD l)).take (zD l).length))),.c (.d (.fn qe []))] (λr=>r=rV (vH (at0 (zD l) 0) ((zD l).drop 1))):=by rw[R];exact J h0
       generalize vH (at0 (zD l) 0) ((zD l).drop 1)=u at*;obtain⟨u1,u2,u3⟩:=u;refine Sat.w aa ?_;rfl
      ·rw[q4];simp only[cond_false];refine zh (b:=zl fn ajQ&&decide (((zD l).length:Int)>0)) (λq5=>?_) (λq5=>?_)
       ·rw[q5];simp only[cond_true];have h0:0<(zD l).length:=by
         simp_all
        have aa:Sat Pg jX [.c (.d (.sl ((rowD (zD l)).take (zD l).length))),.c (.d (.fn qe []))] (λr=>r=rV (Zy (at0 (zD l) 0) ((zD l).drop 1))):=by rw[R];exact I h0
        generalize Zy (at0 (zD l) 0) ((zD l).drop 1)=u at*;obtain⟨u1,u2,u3⟩:=u;refine Sat.w aa ?_;rfl
       ·rw[q5];simp only[cond_false];exact rfl
theorem ZL (l:List Val)(g:l.length<=1000000):Sat Pg aaQ [zC l] (λr=>(l=[]/\r=rC .nil)\/r=ac7 3 (rowD l)):=by
 refine zY T3 aau.ok (by kernel_rfl) ?_;refine⟨λh=>?_,?_⟩
 ·conv=>whnf
  left
  refine⟨?_,rfl⟩;cases l with
  |nil=>rfl
  |cons a r=>cases h
 ·(conv=>whnf);refine⟨Vb l,by grind[zS,zn],by grind[zn],?_⟩
  right
  show Res.mk (.w (.c (.own 0 3 (([]:List (List D)).length+(rowD l).length)))) [.arr 3 (([]:List (List D)).take ([]:List (List D)).length++rowD l) false]=_;simp_all[ac7]
def w8 (cols:List Col)(rows:List (List Val))(a:Agg):List Val:=
 bif decide (ze cols a.col>=0)&& !zl a.fn qI then rows.map λr=>at0 r (ze cols a.col).toNat else List.replicate rows.length zB
def jm (cols:List Col)(rows:List (List Val))(g:List Agg):List Val:=g.map λa=>w6 a.fn (w8 cols rows a)
def xP (cols:List Col)(i:List Agg)(g:Gr):List Val:=g.key++jm cols g.rows i
def Stp.cs (s:Stp):List C:=match s.cond with| .mk g j v i=>qU s.op g j v i (yC s.items) (zm s.cols) (xX s.aggs) (yN s.sorts) s.n s.table
def gdA (cols:List Col)(rows:D)(st:Stp)(gs:List Gr)(i:Nat)(g:List (List Val)):S:=⟨[(2,cV (.ptr 2 0)),(3,cV (.ptr 3 0)),(5,cV (.own 78 1 g.length)),(20,.w (.c (.d (.sl (V7 gs))))),(21,zj gs.length),(22,zj i)],
 [(2,.box [.d (.sl (zi cols)),.d rows]),(3,.box st.cs),(78,.arr 1 (zd g) false)]⟩
def gdB (cols:List Col)(rows:D)(st:Stp)(gs:List Gr)(i:Nat)(o:List (List Val))(g:Gr)(l:List Agg)(j:Nat)(row:List Val):S:=⟨[(2,cV (.ptr 2 0)),(3,cV (.ptr 3 0)),(5,cV (.own 78 1 o.length)),(7,cV (.ptr 7 0)),(8,cV (.own 73 3 row.length)),(20,.w (.c (.d (.sl (V7 gs))))),(21,zj gs.length),(22,zj i),(30,.w (.c (.d (.sl (xX l))))),(31,zj l.length),(32,zj j)],
 [(2,.box [.d (.sl (zi cols)),.d rows]),(3,.box st.cs),(7,.box [.d (.sl (rowD g.key)),.d (.sl (zd g.rows))]),(73,.arr 3 (rowD row) false),(78,.arr 1 (zd o) false)]⟩
def gdC (cols:List Col)(rows:D)(st:Stp)(gs:List Gr)(i:Nat)(p:List (List Val))(g:Gr)(o:List Agg)(j:Nat)(row:List Val)(a:Agg)(k:Int)(m:Nat)(l:List Val):S:=⟨[(2,cV (.ptr 2 0)),(3,cV (.ptr 3 0)),(5,cV (.own 78 1 p.length)),(7,cV (.ptr 7 0)),(8,cV (.own 73 3 row.length)),(10,cV (.ptr 10 0)),(11,cV (.own 39 3 g.rows.length)),(12,zj k),(20,.w (.c (.d (.sl (V7 gs))))),(21,zj gs.length),(22,zj i),(30,.w (.c (.d (.sl (xX o))))),(31,zj o.length),(32,zj j),(52,.w (.c (.d (.sl (zd g.rows))))),(53,zj g.rows.length),(54,zj m)],
 [(2,.box [.d (.sl (zi cols)),.d rows]),(3,.box st.cs),(7,.box [.d (.sl (rowD g.key)),.d (.sl (zd g.rows))]),(10,.box [str a.fn,str a.col,str a.nm]),(39,.arr 3 (rowD l) false),(73,.arr 3 (rowD row) false),(78,.arr 1 (zd p) false)]⟩
def yT (s:S)(k:Nat)(v:V):S:=⟨s.sl++[(k,v)],s.pl⟩
theorem ayJ (l:List Val)(i:Nat)(v:Val):(rowD l).set i v.ds=rowD (l.set i v):=by grind[rowD,List.map_set]
def part (rows:List (List Val))(k:Int)(m:Nat):List Val:=(rows.take m).map (λr=>at0 r k.toNat)++List.replicate (rows.length - m) zB
theorem ayo (rows:List (List Val))(k:Int){m:Nat}(h:m<=rows.length):(part rows k m).length=rows.length:=by grind[part]
theorem ayp (rows:List (List Val))(k:Int){m:Nat}(h:m<rows.length):(part rows k m).set m (at0 rows[m] k.toNat)=part rows k (m+1):=by
 unfold part;have g:((rows.take m).map λr=>at0 r k.toNat).length=m:=by simp;omega
 rw[List.set_append_right _ _ (by omega),g,Nat.sub_self,zA h,List.map_append];obtain⟨n,i⟩: ∃n,rows.length - m=n+1:=⟨rows.length - m - 1,by omega⟩
 grind
theorem aCz {Q:E ->S ->Prop}{s:S}(cols:List Col)(rows:D)(st:Stp)(gs:List Gr)(i:Nat)(I:List (List Val))(g:Gr)(o:List Agg)(j:Nat)(row:List Val)(a:Agg)(k:Int)(hk:0<=k /\k<cols.length)(ac:g.rows.length<=500000)(hw: ∀r∈g.rows,r.length=cols.length)
 (h0:xL s [2,3,5,7,8,10,11,12,20,21,22,30,31,32,52,53,54] (· =gdC cols rows st gs i I g o j row a k 0 (List.replicate g.rows.length zB)))
 (hQ:Q (.exit 4) (yT (gdC cols rows st gs i I g o j row a k g.rows.length (g.rows.map λr=>at0 r k.toNat)) 55 (yd (decide ((g.rows.length:Int)<g.rows.length))))):
 yv (mwpR Pg T8.f (qH.l 0)) [2,3,5,7,8,10,11,12,20,21,22,30,31,32,52,53,54] Q s:=by
 refine zF (P:=Pg) (f:=T8.f) (body:=(qH.l 0)) g.rows.length (λm=>gdC cols rows st gs i I g o j row a k m (part g.rows k m)) (λ_=>True) ⟨trivial,?_⟩ ?_
 ·grind[part]
 ·intro m hm _;have J:=λh:m<g.rows.length=>ayp g.rows k h
  have ab:=ayo g.rows k hm;have T:m=g.rows.length ->part g.rows k m=g.rows.map λr=>at0 r k.toNat:=λh=>by simp_all[part]
  show mwpR Pg T8.f (qH.l 0) _ (gdC cols rows st gs i I g o j row a k m (part g.rows k m));generalize part g.rows k m=l at*;obtain⟨key,R⟩:=g;obtain⟨op,⟨eo,nm,⟨v1,v2,v3⟩,ks⟩,ad,ai,ae,af,sn,tb⟩:=st;simp only at J ab T hm ac hw hQ;unfold gdC Stp.cs qU;refine zh (λh1=>?_) (λh1=>?_)
  ·have p:m<R.length:=by have h1:decide ((m:Int)<(R.length:Int))=true:=h1;simp_all
   have hg:=ye p;have J:=J p;have ah:=hw _ (List.getElem_mem p);have wi:=zt p (by omega);generalize R[m]=r at*;have aa:(rowD r)[k.toNat]? =some (at0 r k.toNat).ds:=by
    grind[U3,rowD]
   generalize at0 r k.toNat=v at*;obtain⟨u1,u2,u3⟩:=v;have ag:(m:Int)<(rowD l).length:=by grind[zn]
   refine zI hg ?_;refine zI aa ?_ (hA:=hk.1);refine wD ?_ (hA:=by omega) (hB:=by grind);refine⟨_,ym (r:=l) (i:=m) (by omega),Nat.le_refl _,?_⟩;refine yt p trivial ?_;rw[wi,<- J,<- ayJ];rfl
  ·have U:m=R.length:=by grind
   have hf:=T U;subst U;subst hf;exact hQ
theorem anL (cols:List Col)(rows:List (List Val))(a:Agg):(w8 cols rows a).length=rows.length:=by
 grind[w8]
theorem aCA {Q:E ->S ->Prop}{s:S}(cols:List Col)(rows:List (List Val))(st:Stp)(gs:List Gr)(i:Nat)(J:List (List Val))(g:Gr)(R:st.aggs.length<=100000)(ao:g.key.length<=500000)(aj:g.rows.length<=500000)(hw: ∀r∈g.rows,r.length=cols.length)
 (h0:xL s [2,3,5,7,8,20,21,22,30,31,32] (· =gdB cols (.sl (zd rows)) st gs i J g st.aggs 0 g.key))
 (hQ:Q (.exit 2) (yT (gdB cols (.sl (zd rows)) st gs i J g st.aggs st.aggs.length (xP cols st.aggs g)) 33 (yd (decide ((st.aggs.length:Int)<st.aggs.length))))):
 yv (mwpR Pg T8.f (qH.l 1)) [2,3,5,7,8,20,21,22,30,31,32] Q s:=by
 refine zF (P:=Pg) (f:=T8.f) (body:=(qH.l 1)) st.aggs.length (λj=>gdB cols (.sl (zd rows)) st gs i J g st.aggs j (g.key++jm cols g.rows (st.aggs.take j))) (λ_=>True) ⟨trivial,?_⟩ ?_
 ·grind[jm]
 ·intro j hj _;have an:(g.key++jm cols g.rows (st.aggs.take j)).length=g.key.length+j:=by grind[jm]
  have I: ∀h:j<st.aggs.length,g.key++jm cols g.rows (st.aggs.take (j+1))=(g.key++jm cols g.rows (st.aggs.take j))++[w6 (st.aggs[j]).fn (w8 cols g.rows st.aggs[j])]:=λh=>by
   grind[jm,zA]
  have ad:j=st.aggs.length ->xP cols st.aggs g=g.key++jm cols g.rows (st.aggs.take j):=λh=>by rw[h,List.take_length];rfl
  show mwpR Pg T8.f (qH.l 1) _ (gdB cols (.sl (zd rows)) st gs i J g st.aggs j (g.key++jm cols g.rows (st.aggs.take j)));generalize au:g.key++jm cols g.rows (st.aggs.take j)=T at*;have ak:(rowD T).take T.length=rowD T:=by grind[zn]
  have al:=λ(Q':E ->S ->Prop) (s':S) (a:Agg) (k:Int) (hk:0<=k /\k<cols.length)=>aCz (Q:=Q') (s:=s') cols (.sl (zd rows)) st gs i J g st.aggs j T a k hk aj hw
  obtain⟨key,o⟩:=g;obtain⟨op,⟨eo,nm,⟨v1,v2,v3⟩,ks⟩,aq,aw,p,ar,sn,tb⟩:=st;simp only at I ad hj ao aj hw hQ an R;unfold gdB Stp.cs qU;refine zh (λh1=>?_) (λh1=>?_)
  ·have ab:j<p.length:=by have h1:decide ((j:Int)<(p.length:Int))=true:=h1;have:=of_decide_eq_true h1;omega
   have hg:=Yr ab;have I:=I ab;have wi:=zt ab (by omega);generalize p[j]=a at*;have ac:=vx cols (.d (.sl (zd rows))) a.col ⟨_,rfl⟩;have av:=anL cols o a;have R:=aAI a.fn (w8 cols o a) (by omega);have af:=Yw (λx=>zl x.name a.col) cols 0 (Int.le_refl _);have af:0<=ze cols a.col ->ze cols a.col<cols.length:=λh=>by grind[ze]
   have aa:w8 cols o a=bif decide (ze cols a.col>=0)&& !zl a.fn qI then o.map (λr=>at0 r (ze cols a.col).toNat)else List.replicate o.length zB:=rfl
   have ae:(rowD (w8 cols o a)).take o.length=rowD (w8 cols o a):=by grind[zn]
   have ag:rowD (List.replicate o.length zB)=List.replicate o.length zB.ds:=by simp[rowD]
   generalize w8 cols o a=l at*;obtain⟨a1,a2,a3⟩:=a;simp only at ac R af aa I;generalize ze cols a2=k at*;refine zI hg ?_;rw[show(zd (Gr.mk key o).rows).length=o.length from zq o];refine⟨by omega,by omega,by unfold zS;simp;omega,by omega,?_⟩;refine Sat.w ac ?_;refine zp (b:=decide (k>=0)&& !zl a1 qI) (λh2=>?_) (λh2=>?_)
   ·rw[h2,cond_true]at aa;(conv=>whnf);have ai:0<=k:=by
     simp_all
    refine al _ _ ⟨a1,a2,a3⟩ k ⟨ai,af ai⟩ (zf ?_) ?_
    ·(conv=>whnf);unfold gdC;rw[ag,zq];rfl
    simp only[];rw[<- aa];have U:Sat Pg aaP [.c (str a1),.c (.d (.sl ((rowD l).take o.length)))] (λr=>r=rV (w6 a1 l)):=by rw[ae];exact R
    generalize w6 a1 l=u at*;obtain⟨u1,u2,u3⟩:=u;refine Sat.w U ?_;refine qN ?_;refine yt ab trivial ?_;rw[wi,ak,I,<- uW,List.length_append];rfl
   ·rw[h2,cond_false]at aa;rw[<- aa]at ag;have U:Sat Pg aaP [.c (str a1),.c (.d (.sl ((List.replicate o.length zB.ds).take o.length)))] (λr=>r=rV (w6 a1 l)):=by rw[<- ag,ae];exact R
    refine Sat.w U ?_;refine qN ?_;refine yt ab trivial ?_;rw[wi,ak,I,<- uW,List.length_append];rfl
  ·have ah:j=p.length:=by grind
   rw[ad ah]at hQ;subst ah;exact hQ
theorem kF (cols:List Col)(rows:List (List Val))(st:Stp)(gs:List Gr)
 (ae:st.cols.length<=1000000) (ad:st.aggs.length<=100000) (au:gs.length<=1000000) (ab: ∀g∈gs,g.key.length<=500000) (ao: ∀g∈gs,g.rows.length<=500000) (hw: ∀g∈gs,∀r∈g.rows,r.length=cols.length)
 (af:Sat Pg Zt [.agg [.d (.sl (zi cols)),.d (.sl (zd rows))],.c (.d (.sl (zw (zg cols st.cols))))] (λr=>r=rC (.d (.sl (V7 gs))))):
 Sat Pg Kx [.agg [.d (.sl (zi cols)),.d (.sl (zd rows))],.agg st.cs] (λr=>r=rC (.d (.sl (zd (gs.map (xP cols st.aggs)))))):=by
 have ag:=abe cols (.sl (zd rows)) st.cols ae;have aa:=λ(Q:E ->S ->Prop) (s:S) (i:Nat) (aj:List (List Val)) (g:Gr) (h1:g.key.length<=500000) (h2:g.rows.length<=500000) (h3: ∀r∈g.rows,r.length=cols.length)=>aCA (Q:=Q) (s:=s) cols rows st gs i aj g ad h1 h2 h3
 have p: ∀i,∀h:i<gs.length,(gs.take (i+1)).map (xP cols st.aggs)=(gs.take i).map (xP cols st.aggs)++[xP cols st.aggs gs[i]]:=λi h=>by grind[zA]
 have I: ∀i,gs.length<=i ->gs.map (xP cols st.aggs)=(gs.take i).map (xP cols st.aggs):=λi h=>by rw[List.take_of_length_le h]
 refine zE ?_;obtain⟨op,⟨eo,nm,⟨v1,v2,v3⟩,ks⟩,J,ai,j,U,sn,tb⟩:=st;simp only at p I ae ad ag af;unfold Stp.cs qU;refine qH.s T8 ?_;refine Sat.w ag ?_;refine Sat.w af ?_;rw[axl];refine zF (P:=Pg) (f:=T8.f) (body:=(qH.l 2)) gs.length (λi=>gdA cols (.sl (zd rows)) ⟨op,⟨eo,nm,⟨v1,v2,v3⟩,ks⟩,J,ai,j,U,sn,tb⟩ gs i ((gs.take i).map (xP cols j))) (λ_=>True) ⟨trivial,⟨_,zu 5 78 1 (by omega) (by omega) rfl,?_⟩⟩ ?_
 ·exact rfl
 ·intro i hi _;show mwpR Pg T8.f (qH.l 2) _ (gdA cols (.sl (zd rows)) ⟨op,⟨eo,nm,⟨v1,v2,v3⟩,ks⟩,J,ai,j,U,sn,tb⟩ gs i ((gs.take i).map (xP cols j)));have ar:((gs.take i).map (xP cols j)).length=i:=by simp;omega
  have p:=p i;have I:=I i;generalize(gs.take i).map (xP cols j)=T at*;have ac:(zd T).take T.length=zd T:=by grind[zq]
  unfold gdA Stp.cs qU;refine vB (λo=>?_) (λal=>?_)
  ·have hg:=axk o;have p:=p o;have aa:=λQ s=>aa Q s i T gs[i] (ab _ (List.getElem_mem o)) (ao _ (List.getElem_mem o)) (hw _ (List.getElem_mem o))
   have ab:=ab _ (List.getElem_mem o);have wi:=zt o (by omega);generalize gs[i]=g at*;have ah:(rowD (xP cols j g)).take (xP cols j g).length=rowD (xP cols j g):=by rw[<- zn,List.take_length]
   obtain⟨key,aq⟩:=g;have ak:=ZL key (by simp only at ab;omega);refine zI hg ?_;refine Sat.mono ak ?_;rintro _ (⟨an,rfl⟩|rfl)
   ·(conv=>whnf);refine aa _ _ ⟨_,zu 8 73 3 (by omega) (by omega) rfl,?_⟩ ?_
    ·(conv=>whnf);unfold gdB;rw[wz];simp only[an];rfl
    simp only[];unfold yT gdB Stp.cs qU;generalize xP cols j ⟨key,aq⟩=R at*;refine qN ?_;refine yt o trivial ?_;rw[wi,ac,ah,p,qF,List.length_append];rfl
   ·(conv=>whnf);refine aa _ _ ⟨_,vR 8 600448 73 3 _ _ (by omega) rfl rfl,?_⟩ ?_
    ·(conv=>whnf);rw[wz,zn];rfl
    refine qN ?_;refine yt o trivial ?_;rw[wi,ac,ah,p,qF,List.length_append];rfl
  ·rw[I al];refine vT ?_;show Res.mk (.w (.c (.d (.sl ((zd T).take T.length))))) []=_;rw[ac];rfl
structure Nmd where
 nm:ByteArray
 t:Tbl
def Nmd.ds (x:Nmd):List D:=[.lit (.string x.nm),.sl (zi x.t.cols),.sl (zd x.t.rows)]
def zK (l:List Nmd):List (List D):=l.map Nmd.ds
theorem wP (l:List Nmd):(zK l).length=l.length:=by simp[zK]
theorem Qi {r:List Nmd}{i:Nat}(h:i<r.length):(zK r)[((i:Int)).toNat]? =some (r[i]).ds:=by grind[zK]
theorem avk (l:List Nmd)(i:Nat):(zK l).take i=zK (l.take i):=by grind[zK,List.map_take]
def zO (g:ByteArray):List Nmd ->Option Tbl
 | []=>none
 |x::r=>bif zl x.nm g then some x.t else zO g r
def rF (x:Option Tbl):Res:=match x with
 |some t=>⟨.tup [t.w,.c (bool true)],[]⟩
 |none=>⟨.tup [.agg [.nil,.nil],.c (bool false)],[]⟩
theorem qT (d:List Nmd)(p:ByteArray):Sat Pg aoy [.c (.d (.sl (zK d))),.c (str p)] (λr=>r=rF (zO p d)):=by
 refine xF 0 (by kernel_rfl) rfl λo=>?_
 rw[wP]at o;refine acm.s T8 ?_;rw[wP];refine vu T8 (acm.l 0) d.length (λi=>⟨[(1,.w (.c (str p))),(4,cV (.ptr 4 0)),(8,.w (.c (.d (.sl (zK d))))),(9,zj d.length),(10,zj i)],[(4,.box [.nil,.nil])]⟩) (λi=>zO p d=zO p (d.drop i)) ?_
 ·intro i T g;refine vB (λj=>?_) (λJ=>?_)
  ·rw[zo j]at g;simp only[zO]at g;have P:=Qi j;have R:=zt j o;generalize d[i]=x at*;obtain⟨xn,⟨U,xr⟩⟩:=x;simp only at g;refine zI P ?_;refine zh (b:=zl xn p) (λI=>?_) (λI=>?_)
   ·rw[I,cond_true]at g;(conv=>whnf);rw[g];rfl
   ·rw[I,cond_false]at g;refine yt j g ?_;rw[R];rfl
  ·rw[List.drop_eq_nil_of_le J]at g;(conv=>whnf);rw[g];rfl
def U7 (x:Option Tbl):Bool:=match x with|some _=>true|none=>false
def Zq (pre:List Nmd):List Nmd ->Int
 | []=>0
 |x::r=>bif qy x.nm !=0 then qy x.nm else bif U7 (zO x.nm pre)then 4 else bif zJ x.t !=0 then zJ x.t else Zq (pre++[x]) r
def xp (d:List Nmd):Int:=bif decide ((d.length:Int)>32)then 7 else Zq [] d
theorem uY (d:List Nmd):Sat Pg afU [.c (.d (.sl (zK d)))] (λr=>r=rI (xp d)):=by
 refine xF 0 (by kernel_rfl) rfl λo=>?_
 rw[wP]at o;unfold xp;refine Jw.s T8 ?_;rw[wP];refine zp (b:=decide ((d.length:Int)>32)) (λh0=>?_) (λh0=>?_)
 ·rw[h0];exact rfl
 ·rw[h0];simp only[cond_false];(conv=>whnf);rw[wP];refine vu T8 (Jw.l 0) d.length (λi=>⟨[(0,.w (.c (.d (.sl (zK d))))),(12,.w (.c (.d (.sl (zK d))))),(13,zj d.length),(14,zj i)],[]⟩) (λi=>Zq [] d=Zq (d.take i) (d.drop i)) ?_
  ·intro i hi g;refine vB (λj=>?_) (λR=>?_)
   ·rw[zo j]at g;simp only[Zq]at g;rw[<- zA j]at g;have hg:=Qi j;have wi:=zt j o;have I:=wB d[i].t;have p:=qT (d.take i) d[i].nm;have T:=KS d[i].nm;rw[<- avk]at p;generalize d[i]=x at*;obtain⟨xn,⟨xc,xr⟩⟩:=x;simp only at g I p T;generalize zO xn (d.take i)=f at*;generalize zJ ⟨xc,xr⟩=te at*;generalize aa:Zq (d.take (i+1)) (d.drop (i+1))=rest at*;refine zI hg ?_;refine zh (b:=qy xn !=0) (λJ=>?_) (λJ=>?_)
    ·rw[J,cond_true]at g;(conv=>whnf);rw[g];rfl
    ·rw[J,cond_false]at g;have ab:i<=(zK d).length:=by grind
     refine wD ?_ (hA:=by show(0:Int)<=(i:Int);omega) (hB:=by show(i:Int)<=((zK d).length:Int);omega);refine Sat.cal (p) ?_;cases f with
     |some U=>
      obtain⟨fc,fr⟩:=U;simp only[U7,cond_true]at g;(conv=>whnf);rw[g];rfl
     |none=>
      simp only[U7,cond_false]at g;refine Sat.w I ?_;refine zp (b:=te !=0) (λP=>?_) (λP=>?_)
      ·rw[P,cond_true]at g;(conv=>whnf);rw[g];rfl
      ·rw[P,cond_false]at g;refine yt j g ?_;rw[wi];rfl
   ·rw[List.drop_eq_nil_of_le R]at g;simp only[Zq]at g;(conv=>whnf);rw[g];rfl
end
end Go.Proofs.YtnlbmefhdiabcaaGreat
namespace Go.AM
def asU (P:Program):Nat ->List Field ->Option Nat
 |o,[]=>some o
 |o,f::r=>bif Nat.beq f.offset o then asU P (o+P.cellsOf f.type) r else none
def ab2 {α β:Type}(R:α ->β ->Prop):List α ->List β ->Prop
 | [],[]=>True
 |x::xs,y::ys=>R x y /\ab2 R xs ys
 |_,_=>False
section
variable {H:Type}{enc:TypeId×Value ->H}{P:Program}{w:World}{xi:Nat}{spare:Nat ->Bool}{held:Bool}{ι:Nat ->Gh}
def J4 (w:World)(b:Nat):Prop:=b<w.heap.size
theorem aug (a:Addr)(j:Nat)(h:a.spot=none):a.add j=⟨a.block,a.off+j,none⟩:=by
 cases a<;>grind[wJ]
theorem auw {a:Addr}{v:Value}(h:w.cell? a=some v):a.spot=none /\a.block<w.heap.size:=by
 unfold World.cell? at h;split at h
 ·rename_i g;cases hs:a.spot<;>grind
 ·cases h
theorem agP {b:Nat}: ∀{g:List D}{vs:List Value}{o:Nat},CRs ι w (J4 w) (g.map .d) vs ->(∀j v,vs[j]? =some v ->w.cell? ⟨b,o+j,none⟩=some v) ->RDc w (J4 w) b o g
 | [],_,_,_,_=>by grind[RDc]
 |d::g,[],_,h,_=>h.elim
 |d::g,v::vs,o,h,i=>by
  simp only[RDc];refine⟨⟨v,i 0 v rfl,h.1⟩,agP h.2 λj u l=>?_⟩;rw[show o+1+j=o+(j+1)by omega];exact i (j+1) u (by simpa using l)
theorem at9 {b sz:Nat}: ∀(g:List (List D)) (o:Nat),(∀(i:Nat) (e:List D),g[i]? =some e ->e.length=sz /\RDc w (J4 w) b (o+i*sz) e) ->RDs w (J4 w) b sz o g
 | [],_,_=>by grind[RDs]
 |e::r,o,h=>by
  simp only[RDs];refine⟨(h 0 e rfl).1,by simpa using (h 0 e rfl).2,at9 r (o+sz) λi x j=>?_⟩;have:=h (i+1) x (by grind);refine⟨this.1,?_⟩;rw[show o+sz+i*sz=o+(i+1)*sz by rw[Nat.add_mul,Nat.one_mul];omega]
  grind
end
section
variable {H:Type}{enc:TypeId×Value ->H}{P:Program}{w:World}{xi:Nat}{spare:Nat ->Bool}{held:Bool}{ι:Nat ->Gh}
theorem azW {ok:Nat ->Prop}: ∀{g:List D}{vs:List Value},CRs ι w ok (g.map .d) vs ->g.length=vs.length:=λh=>by
 have:=h.length<;>grind
theorem auL {R:List D ->Prop}{ok:Nat ->Prop}{g:Nat ->Option (List Value)}: ∀(len:Nat),(∀i,i<len -> ∃cs p,g i=some cs /\R p /\CRs ι w ok (p.map .d) cs) ->
 ∃j:List (List D),j.length=len /\(∀y∈j,R y)/\ ∀i e,j[i]? =some e -> ∃cs,g i=some cs /\CRs ι w ok (e.map .d) cs
 |0,_=>⟨[],rfl,λ_ h=>(by cases h),λi e h=>(by simp at h)⟩
 |n+1,h=>by
  obtain⟨j,I,J,P⟩:=auL (R:=R) (ok:=ok) (g:=g) n (λi r=>h i (by omega));obtain⟨cs,p,T,U,h6⟩:=h n (by omega);refine⟨j++[p],by simp[I],λy o=>?_,λi e l=>?_⟩
  ·rcases List.mem_append.1 o with o|o
   ·exact J y o
   ·simp at o;subst o;exact U
  ·by_cases r:i<j.length
   ·rw[List.getElem?_append_left r]at l;exact P i e l
   ·rw[List.getElem?_append_right (by omega)]at l;have:i - j.length=0:=by
     rcases Nat.eq_zero_or_pos (i - j.length)with h|h
     ·exact h
     ·rw[List.getElem?_eq_none (by simp;omega)]at l;cases l
    rw[this]at l;simp at l;subst l;rw[show i=n by omega];exact⟨cs,T,h6⟩
end
section
variable {H:Type}{enc:TypeId×Value ->H}{P:Program}{w:World}{xi:Nat}{spare:Nat ->Bool}{held:Bool}{ι:Nat ->Gh}
end
section
open Go.RowKit Go.WideShapes Go.ChangeShapes
section
variable {H:Type}{enc:TypeId×Value ->H}{P:Program}
def WW (P:Program)(t:TypeId):Bool:=match P.underlying t with|some (.struct _)=>true|some (.array _ _)=>true|_=>false
theorem aqa {W:World}{i:Nat}{t:TypeId}{v:Value}(g:Value.okWide P W .any i t v)(j:WW P t=false):v.cells= #[v]:=by
 unfold Value.okWide at g;unfold WW at j;split at g
 ·grind
 ·grind
 ·cases v with
  |agg cs=>
   simp_all[Cell.okWide,Cell.ok]
  |_=>rfl
theorem aui {W:World}{i:Nat}{t:TypeId}{v:Value}(g:Value.okWide P W .any i t v)(j:WW P t=true): ∃cs,v= .agg cs:=by
 grind[Value.okWide,WW]
theorem anj {W W':World}(U:laidOutB P=true)(T:Below W.heap.size W W')(J:Nat ->Bool): ∀(l:List TypeId) (vs:List Value) (o:List (DataW H)) (p:List MemPlace),(∀t∈l,P.readableRec t=true /\t<P.types.size) ->
 (∀x∈p,J x.block=true) ->(∀x∈p,x.block<W.heap.size) ->DataW.TrodAll enc P W 0 (λ_=>true) true l vs o p ->DataW.TrodAll enc P W' 0 J true l vs o p
 | [],vs,o,p,_,_,_,h=>by
   obtain⟨rfl,rfl,rfl⟩:=trodAll_nil h;exact rfl
 |t::l,vs,o,p,I,j,i,h=>by
  obtain⟨v,R,d,r,a,b,rfl,rfl,rfl,h1,h2⟩:=trodAll_cons h
  exact⟨a,b,WideElems.Trod_stays U (I t List.mem_cons_self).1 (I t List.mem_cons_self).2 h1 (λx g=>T.same (i x (List.mem_append_left _ g))) (λx g=>j x (List.mem_append_left _ g)),
   anj U T J l R r b (λt h=>I t (List.mem_cons_of_mem _ h)) (λx g=>j x (List.mem_append_right _ g)) (λx g=>i x (List.mem_append_right _ g)) h2,rfl⟩
theorem amn {f:Func}{s:ChangeSpec}{i fresh l T:Bool}{W W':World}{args:Array Value}{v:Value}{ds gs:List (DataW H)}{g pa pv:List MemPlace}
 (hW:DataW.Whole enc P f.params.toList s.vars i W args.toList ds gs g)
 (R: ∀(b:Nat) (U:Nat ->Bool) (hd:Bool),DataW.TrodAll enc P W' b U hd f.resultTypes.toList (v.resultList f.resultTypes.size) (s.fn H (ds++gs)).results [])
 (o: ∀U:Nat ->Bool,(∀p∈g,U p.block=true) ->DataW.TrodAll enc P W' 0 U true f.params.toList args.toList (s.fn H (ds++gs)).args pa)
 (I: ∀U:Nat ->Bool,(∀p∈g,U p.block=true) ->DataW.TrodVars enc P W' U s.vars (s.fn H (ds++gs)).vars pv)
 (ad:g=pa++pv) (hb:Below W.heap.size W W')
 (ac: ∀(j:Nat) (t:TypeId) (r:Value),f.resultTypes[j]? =some t ->(v.resultList f.resultTypes.size)[j]? =some r ->Value.okWide P W' .any 0 t r):
 s.post enc P f i fresh l T W args v W':=by
 have ab: ∀p∈g,p.block<W.heap.size:=λp hp=>hW.lt p hp
 have J: ∀p∈g,(λb=>decide (b<W.heap.size)) p.block=true:=λp hp=>by grind
 refine⟨ds,gs,g,[],pa,pv,hW,R _ _ _,o _ J,I _ J,World.keptBut_mono (λp hp=>⟨hp,?_⟩) (hb.frame (· ∈g)),λ_=>?_⟩
 ·grind
 ·obtain⟨_,_,_,_,_,hz,hn⟩:=hW;refine⟨ac,_,_,([]++pa)++pv,⟨[]++pa,pv,trodAll_append (o _ (λ_ _=>rfl)) (R _ _ _),I _ (λ_ _=>rfl),rfl,?_,?_⟩,?_⟩
  ·intro b off hp;have aa:MemPlace.cell b off∈g:=by grind
   rw[hb.frozen (ab _ aa)];exact hz b off aa
  ·grind
  grind
def arO:Res:=⟨.w (.c (.d (.lit (.bool true)))),[]⟩
end
inductive Fd where
 |bool
 |int (k:IntKind)
 |str
 |ref (i:Nat)
inductive Sh where
 |sl (e:Fd)
 |st (fs:List Fd)
def yF (tab:List Sh):Nat ->Fd ->List D ->Prop
 |_,.bool,g=> ∃b,g=[.lit (.bool b)]
 |_,.int k,g=> ∃m,g=[.lit (.int k m)]/\(Lit.int k m).wf=true
 |_,.str,g=> ∃s:ByteArray,g=[.lit (.string s)]/\s.size<=maxLen
 |0,.ref _,_=>False
 |n+1,.ref i,g=>match tab[i]? with
  |some (.sl e)=> ∃j,g=[.sl j]/\j.length<=maxLen /\ ∀y∈j,yF tab n e y
  |some (.st o)=> ∃l:List (List D),g=l.flatten /\ab2 (λf d=>yF tab n f d) o l
  |none=>False
def Qk (P:Program)(nums:List TypeId)(t:TypeId):Fd ->Bool
 | .bool=>match P.underlying t with|some .bool=>true|_=>false
 | .int k=>match P.underlying t with|some (.int g)=>Zw g k|_=>false
 | .str=>match P.underlying t with|some .string=>true|_=>false
 | .ref i=>match nums[i]? with|some u=>Nat.beq t u|none=>false
def amP (P:Program)(nums:List TypeId):List Field ->List Fd ->Bool
 | [],[]=>true
 |f::i,d::g=>Qk P nums f.type d&&amP P nums i g
 |_,_=>false
def aoL (P:Program)(nums:List TypeId)(t:TypeId):Sh ->Bool
 | .sl e=>match P.underlying t with
   |some (.slice u)=>Nat.blt 0 (P.cellsOf u)&&Qk P nums u e
   |_=>false
 | .st g=>match P.underlying t with
   |some (.struct l)=>(match asU P 0 l.toList with|some m=>Nat.beq m (P.cellsOf t)|none=>false)&&amP P nums l.toList g
   |_=>false
def ah6 (P:Program)(nums:List TypeId):List TypeId ->List Sh ->Bool
 | [],[]=>true
 |t::i,s::g=>aoL P nums t s&&ah6 P nums i g
 |_,_=>false
def ad7 (P:Program)(nums:List TypeId)(tab:List Sh):Bool:=ah6 P nums nums tab
theorem aaZ {P:Program}{nums:List TypeId}: ∀{j:List TypeId}{l:List Sh}{i:Nat}{t:TypeId},ah6 P nums j l=true ->j[i]? =some t -> ∃s,l[i]? =some s /\aoL P nums t s=true
 | [],_,i,t,_,h=>by simp at h
 |t::j,[],i,u,h,_=>by cases h
 |t::j,s::l,i,u,h,g=>by
  simp only[ah6,Bool.and_eq_true]at h;cases i with
  |zero=>simp at g;subst g;exact⟨s,rfl,h.1⟩
  |succ i=>
   simp at g;obtain⟨x,p,o⟩:=aaZ h.2 g;exact⟨x,by simpa using p,o⟩
section
variable {H:Type}{enc:TypeId×Value ->H}{P:Program}{w:World}{xi:Nat}{spare:Nat ->Bool}{held:Bool}{ι:Nat ->Gh}{nums:List TypeId}{tab:List Sh}
theorem aq7 {ok:Nat ->Prop}{n:Nat}(cs:List Value): ∀(l:List Field) (gs:List Fd) (o m:Nat),asU P o l=some m ->m<=cs.length ->amP P nums l gs=true ->
 (∀f∈l,∀g,Qk P nums f.type g=true -> ∃p,yF tab n g p /\CRs ι w ok (p.map .d) ((cs.drop f.offset).take (P.cellsOf f.type))) ->
 o<=m /\ ∃i:List (List D),ab2 (λf d=>yF tab n f d) gs i /\CRs ι w ok (i.flatten.map .d) ((cs.drop o).take (m - o))
 | [],[],o,m,h,_,_,_=>by
   cases h;exact⟨Nat.le_refl _,[],trivial,by simp;trivial⟩
 | [],_::_,_,_,_,_,h,_=>by cases h
 |_::_,[],_,_,_,_,h,_=>by cases h
 |f::l,g::gs,o,m,h,hm,I,j=>by
  simp only[amP,Bool.and_eq_true]at I;simp only[asU]at h;cases r:Nat.beq f.offset o with
  |false=>grind
  |true=>
   rw[r]at h;have r:=Nat.eq_of_beq_eq_true r;obtain⟨p,R,T⟩:=j f List.mem_cons_self g I.1;obtain⟨h3,i,U,h5⟩:=aq7 cs l gs _ m h hm I.2 λJ hf=>j J (List.mem_cons_of_mem _ hf)
   refine⟨by omega,p::i,⟨R,U⟩,?_⟩;rw[r]at T;rw[List.flatten_cons,List.map_append];have:(cs.drop o).take (m - o)=(cs.drop o).take (P.cellsOf f.type)++(cs.drop (o+P.cellsOf f.type)).take (m -(o+P.cellsOf f.type)):=by
    rw[show m - o=P.cellsOf f.type+(m -(o+P.cellsOf f.type))by omega,List.take_add,List.drop_drop]
   grind[CRs.append]
theorem avd {a b:IntKind}(h:Zw a b=true):a=b:=by cases a<;>cases b<;>first|rfl|cases h
theorem aCL (an:ad7 P nums tab=true): ∀(I:Nat) (t:TypeId) (g:Fd),Qk P nums t g=true -> ∀(cs:List Value) (x:DataW H×List MemPlace),DataW.trod enc P w xi spare held I t cs=some x ->
 ∃ds,yF tab I g ds /\CRs ι w (J4 w) (ds.map .d) cs:=by
 intro I;induction I with
 |zero=>simp_all[DataW.trod]
 |succ n ih=>
  intro t g p cs x hx;cases g with
  |bool=>
   simp only[Qk]at p;split at p
   ·rename_i hu;obtain⟨b,rfl,_⟩:=DataW.trod_bool hu hx;exact⟨[.lit (.bool b)],by grind[yF],⟨by simp only[CR,RD];exact⟨trivial,rfl⟩,trivial⟩⟩
   ·cases p
  |int k=>
   simp only[Qk]at p;split at p
   ·rename_i k1 hu;have:=avd p;subst this;obtain⟨m,rfl,_,hw⟩:=DataW.trod_int hu hx;exact⟨[.lit (.int k1 m)],by grind[yF],⟨by simp only[CR,RD];exact⟨trivial,rfl⟩,trivial⟩⟩
   ·cases p
  |str=>
   simp only[Qk]at p;split at p
   ·rename_i hu;obtain⟨s,rfl,_,hw⟩:=DataW.trod_string hu hx;exact⟨[.lit (.string s)],by grind[yF],⟨by simp only[CR,RD];exact⟨trivial,rfl⟩,trivial⟩⟩
   ·cases p
  |ref i=>
   simp only[Qk]at p;split at p
   ·rename_i u al;have:=Nat.eq_of_beq_eq_true p;subst this;obtain⟨s,hs,l⟩:=aaZ an al;cases s with
    |sl e=>
     simp only[aoL]at l;split at l
     ·rename_i u hu;rw[Bool.and_eq_true]at l;have ag:0<P.cellsOf u:=Nat.le_of_ble_eq_true l.1;simp only[yF,hs];rcases DataW.trod_slice hu hx with⟨rfl,_⟩|⟨a,len,cap,ah,rest,m,aa,rfl,_,hb,hl,hm,ae,aj,_,_⟩
      ·exact⟨_,⟨[],rfl,Nat.zero_le _,λ_ h=>(by cases h)⟩,⟨by simp only[CR,RD];exact⟨none,0,0,rfl,rfl,Nat.le_refl _,Nat.zero_le _,.inl trivial⟩,trivial⟩⟩
      ·cases aa;obtain⟨U,h1,h2,h3⟩:=auL (w:=w) (ι:=ι) (R:=yF tab n e) (ok:=J4 w) (g:=λi=>w.cells? xi (a.add (i*P.cellsOf u)) (P.cellsOf u)) len (λi hi=>by
        have h:=aj i hi;rw[List.getElem?_eq_getElem (by omega)]at h;obtain⟨J,g1,g2⟩:=Option.bind_eq_some_iff.1 h
        grind)
       refine⟨_,⟨U,rfl,by omega,h2⟩,⟨?_,trivial⟩⟩;simp only[CR,RD];refine⟨some a,len,cap,rfl,h1.symm,hl,hm,?_⟩;cases ad:U with
       |nil=>grind
       |cons e0 r=>
        right
        have T: ∀i y,U[i]? =some y -> ∃J,J.length=P.cellsOf u /\(∀j,j<P.cellsOf u ->w.cell? ((a.add (i*P.cellsOf u)).add j)=J[j]?)/\CRs ι w (J4 w) (y.map .d) J:=λi y hy=>by
         obtain⟨J,g1,g2⟩:=h3 i y hy;obtain⟨_,g3,g4⟩:=World.cells?_some g1
         grind
        obtain⟨aq,c1,c2,_⟩:=T 0 e0 (by grind);have ai:=c2 0 ag;rw[List.getElem?_eq_getElem (by omega)]at ai;have ab:a.spot=none /\a.block<w.heap.size:=by
         grind[auw,Addr.add]
        refine⟨a.block,a.off,P.cellsOf u,?_,ab.2,?_⟩
        ·obtain⟨b,o,s⟩:=a<;>grind
        ·rw[<- ad];refine at9 U a.off λi y hy=>?_
         obtain⟨J,g1,g2,g3⟩:=T i y hy
         grind[azW,agP,aug,wJ]
     grind
    |st gs=>
     simp only[aoL]at l;split at l
     ·rename_i fs hu;rw[Bool.and_eq_true]at l;obtain⟨af,ao⟩:=l;split at af
      ·rename_i m hm;have ar:=Nat.eq_of_beq_eq_true af;obtain⟨xs,k,aa,_,ae,au,hf⟩:=DataW.trod_struct hu hx;cases aa;simp only[yF,hs];obtain⟨_,ac,h1,h2⟩:=aq7 (w:=w) (ι:=ι) (ok:=J4 w) (n:=n) (tab:=tab) (nums:=nums) cs fs.toList gs 0 m hm (by omega) ao (λf ak g p=>by
        obtain⟨i,hi⟩:=List.getElem?_of_mem ak
        grind)
       refine⟨ac.flatten,⟨ac,rfl,h1⟩,?_⟩;simp_all[List.take_of_length_le]
      grind
     grind
   ·cases p
def Fd.isAgg (tab:List Sh):Fd ->Bool
 | .ref i=>match tab[i]? with|some (.st _)=>true|_=>false
 |_=>false
def aaj (tab:List Sh)(g:Fd)(x:W):Prop:= ∃n i,yF tab n g i /\(g.isAgg tab=true ->x= .agg (i.map .d))/\(g.isAgg tab=false -> ∃d,i=[d]/\x= .c (.d d))
theorem aoc (o:ad7 P nums tab=true){t:TypeId}{g:Fd}(j:Qk P nums t g=true):g.isAgg tab=WW P t:=by
 unfold WW;cases g with
 |bool=>
  simp only[Qk]at j;split at j
  ·rename_i h;rw[h];rfl
  ·cases j
 |int k=>
  simp only[Qk]at j;split at j
  ·rename_i h;rw[h];rfl
  ·cases j
 |str=>
  simp only[Qk]at j;split at j
  ·rename_i h;rw[h];rfl
  ·cases j
 |ref i=>
  simp only[Qk]at j;split at j
  ·rename_i u l;have:=Nat.eq_of_beq_eq_true j;subst this;obtain⟨s,hs,p⟩:=aaZ o l;simp only[Fd.isAgg,hs];cases s<;>grind[aoL]
  ·cases j
theorem ayu (I:ad7 P nums tab=true){W:World}{R:Nat}{t:TypeId}{g:Fd}{v:Value}{d:DataW H}{p:List MemPlace}{ι:Nat ->Gh}(U:Qk P nums t g=true)(l:Value.okWide P W .any R t v)
 (h:DataW.Trod enc P W 0 (λ_=>true) true t v d p): ∃x,aaj tab g x /\WR ι W (J4 W) x v:=by
 obtain⟨j,T⟩:=h;obtain⟨r,o,i⟩:=aCL (ι:=ι) I j t g U _ _ T;cases J:WW P t with
 |true=>
  obtain⟨cs,rfl⟩:=aui l J;refine⟨.agg (r.map .d),⟨j,r,o,λ_=>rfl,λh=>(by grind[aoc])⟩,cs.toList,by simp,?_⟩
  grind[Value.cells]
 |false=>
  rw[aqa l J]at i
  match r,i with
  | [d],i=>exact⟨.c (.d d),⟨j,[d],o,λh=>(by grind[aoc]),λ_=>⟨d,rfl,rfl⟩⟩,i.1⟩
  | [],i=>exact i.elim
  |_::_::_,i=>exact i.2.elim
def ad6 (P:Program)(nums:List TypeId):List TypeId ->List Fd ->Bool
 | [],[]=>true
 |t::i,g::gs=>Qk P nums t g&&ad6 P nums i gs
 |_,_=>false
theorem akU (o:ad7 P nums tab=true){W:World}{b0:Nat}{ι:Nat ->Gh}: ∀(l:List TypeId) (gs:List Fd) (vs:List Value) (J:List (DataW H)) (p:List MemPlace),ad6 P nums l gs=true ->
 (∀(j:Nat) t v,l[j]? =some t ->vs[j]? =some v ->Value.okWide P W .any b0 t v) ->DataW.TrodAll enc P W 0 (λ_=>true) true l vs J p ->
 ∃xs,ab2 (aaj tab) gs xs /\qK ι W (J4 W) xs vs /\J.length=l.length
 | [],[],vs,J,p,_,_,h=>by
   obtain⟨rfl,rfl,rfl⟩:=trodAll_nil h;exact⟨[],trivial,trivial,rfl⟩
 | [],_::_,_,_,_,h,_,_=>by cases h
 |_::_,[],_,_,_,h,_,_=>by cases h
 |t::l,g::gs,vs,J,p,T,i,h=>by
  simp only[ad6,Bool.and_eq_true]at T;obtain⟨v,ab,d,R,a,b,rfl,rfl,rfl,h1,h2⟩:=trodAll_cons h;obtain⟨x,U,aa⟩:=ayu (ι:=ι) o T.1 (i 0 t v rfl rfl) h1;obtain⟨xs,r,I,hl⟩:=akU (ι:=ι) o l gs ab R b T.2 (λj t v hj hv=>i (j+1) t v hj hv) h2;exact⟨x::xs,⟨U,r⟩,⟨aa,I⟩,by simp[hl]⟩
def arn (P:Program)(g:List TypeId):Bool:=g.all λt=>P.readableRec t&&decide (t<P.types.size)
theorem akM {f:FuncId}{fn:Func}{s:ChangeSpec}{tb:TypeId}{gs0:List Fd}(hl:laidOutB P=true)(ah:ad7 P nums tab=true)(aa:ad6 P nums fn.params.toList gs0=true)(l:arn P fn.params.toList=true)(o:s.vars=[])(T:fn.resultTypes= #[tb])(hb:P.underlying tb=some .bool)
 (ac: ∀(H:Type) (J:List (DataW H)),J.length=fn.params.toList.length ->(s.fn H J).results=[.lit (.bool true)]/\(s.fn H J).args=J /\(s.fn H J).vars=[])
 (af: ∀xs,ab2 (aaj tab) gs0 xs ->Sat P f xs (λr=>r=arO)) {g fresh i U:Bool}
 (W:World) (ae:Glb (J4 W) W) (xi:Nat) (args:Array Value) (J gs:List (DataW H)) (I:List MemPlace)
 (ag: ∀(j:Nat) t v,fn.params[j]? =some t ->args[j]? =some v ->Value.okWide P W .any xi t v)
 (hW:DataW.Whole enc P fn.params.toList s.vars g W args.toList J gs I):
 Calls P f args W λe W'=> ∃v,e= .returned v /\s.post enc P fn g fresh i U W args v W':=by
 have ad:=hW;obtain⟨p,q,hA,hV,rfl,aj,ak⟩:=hW;rw[o]at hV;obtain⟨rfl,rfl⟩:=trodVars_none hV;simp only[arn,List.all_eq_true,Bool.and_eq_true,decide_eq_true_eq]at l;obtain⟨xs,h1,h2,h3⟩:=akU (ι:=λ_=>⟨none,0⟩) ah fn.params.toList gs0 args.toList J p aa (λj t v hj hv=>ag j t v (by grind) (by grind)) hA;have hc:=(af xs h1).2 W (J4 W) args.toList ⟨λb h=>h,ae⟩ h2;rw[Array.toArray_toList]at hc;refine hc.mono λe W' ⟨v,r,he,hr,ab,hg⟩=>⟨v,he,?_⟩
 subst hr;obtain⟨_,ι,hv,_⟩:=ab;have hv:v= .bool true:=by
  grind[VR,WR,CR,RD,arO]
 subst hv;obtain⟨s1,s2,s3⟩:=ac H (J++[]) (by grind);have R:Below W.heap.size W W':=⟨hg.os,hg.tape,hg.output.1,hg.size,λk hk=>hg.block k hk λh=>h⟩;refine amn (pa:=p) (pv:=[]) ad ?_ ?_ ?_ (by simp) R ?_
 ·intro b sp hd;rw[s1,T];exact trodAll_cons_mk (shut_bool hb _) trodAll_mk0
 ·intro sp ai;rw[s2,List.append_nil];exact anj hl R sp _ _ _ _ (λt ht=>⟨(l t ht).1,(l t ht).2⟩) (λx hx=>ai x (by grind)) (λx hx=>ad.lt x (by grind)) hA
 ·intro sp _;rw[s3,o];rfl
 ·exact ok_one T rfl (okWide_bool_mk hb _)
theorem um {α β:Type}{R:α ->β ->Prop}{xs:List β}(h:ab2 R [] xs):xs=[]:=by cases xs with|nil=>rfl|cons _ _=>exact h.elim
theorem yi {α β:Type}{R:α ->β ->Prop}{a:α}{l:List α}{xs:List β}(h:ab2 R (a::l) xs): ∃x r,xs=x::r /\R a x /\ab2 R l r:=by
 cases xs with|nil=>exact h.elim|cons x r=>exact⟨x,r,rfl,h.1,h.2⟩
theorem Wd {α:Type}{f:α ->List D}{R:List D ->Prop}(h: ∀y,R y -> ∃x,y=f x): ∀{g:List (List D)},(∀y∈g,R y) -> ∃l:List α,g=l.map f
 | [],_=>⟨[],rfl⟩
 |e::r,hr=>by
  obtain⟨l,j⟩:=Wd (f:=f) h λy i=>hr y (List.mem_cons_of_mem _ i)
  obtain⟨x,o⟩:=h e (hr e List.mem_cons_self);exact⟨x::l,by grind⟩
end
end
end Go.AM
namespace Go.Proofs.YtnlbmefhdiabcaaGreat
open Go Go.AM
def zW:List Sh:=[.st [.int .i64,.int .i64,.str],.sl (.ref 0),.sl (.ref 1),.st [.str,.int .i64],.sl (.ref 3),.st [.ref 4,.ref 2],.st [.int .i64,.int .i64,.str],.sl (.ref 0),
 .st [.int .i64,.str,.ref 0,.ref 9],.sl (.ref 8),.st [.ref 8,.str],.sl (.ref 10),.sl .str,.st [.str,.str,.str],.sl (.ref 13),.st [.str,.bool],.sl (.ref 15),
 .st [.int .i64,.ref 8,.ref 11,.ref 12,.ref 14,.ref 16,.int .i64,.str],.sl (.ref 17),.st [.str,.ref 18],.st [.str,.ref 5],.sl (.ref 20)]
def aiU:List TypeId:=[41,66,30,72,29,32,41,66,
 44,42,84,45,46,76,47,116,48,50,23,25,60,22]
theorem own:ownKnob Pg.godebug=none:=by kernel_rfl
theorem arm:laidOutB Pg=true:=by kernel_rfl
theorem aul:ad7 Pg aiU zW=true:=by kernel_rfl
theorem aah {n:Nat}{g:List D}(h:yF zW n (.int .i64) g): ∃x:Int,g=[.lit (.int .i64 x)]:=by
 grind[yF]
theorem Ws {n:Nat}{g:List D}(h:yF zW n .str g): ∃x:ByteArray,g=[.lit (.string x)]:=by
 grind[yF]
theorem aA6 {n:Nat}{g:List D}(h:yF zW n .bool g): ∃x:Bool,g=[.lit (.bool x)]:=by
 grind[yF]
theorem awi {n:Nat}{g:List D}(h:yF zW n (.ref 0) g): ∃x:Val,g=x.ds:=by
 cases n with
 |zero=>grind[yF]
 |succ n=>
  simp only[yF,show zW[0]? =some (.st [.int .i64,.int .i64,.str])from rfl]at h;obtain⟨i,rfl,h⟩:=h;obtain⟨I,_,rfl,h0,h⟩:=yi h;obtain⟨J,_,rfl,j,h⟩:=yi h;obtain⟨P,_,rfl,l,h⟩:=yi h;cases um h;obtain⟨o,rfl⟩:=aah h0;obtain⟨p,rfl⟩:=aah j;obtain⟨r,rfl⟩:=Ws l;exact⟨⟨o,p,r⟩,rfl⟩
theorem aCi {n:Nat}{g:List D}(h:yF zW n (.ref 1) g): ∃x:List Val,g=[.sl (x.map Val.ds)]:=by
 cases n with
 |zero=>grind[yF]
 |succ n=>
  simp only[yF,show zW[1]? =some (.sl (.ref 0))from rfl]at h;obtain⟨i,rfl,_,h⟩:=h;obtain⟨l,rfl⟩:=Wd (f:=Val.ds) (R:=yF zW n (.ref 0)) (λy j=>awi j) h
  grind
theorem aBa {n:Nat}{g:List D}(h:yF zW n (.ref 2) g): ∃x:List (List Val),g=[.sl (zd x)]:=by
 cases n with
 |zero=>grind[yF]
 |succ n=>
  simp only[yF,show zW[2]? =some (.sl (.ref 1))from rfl]at h;obtain⟨i,rfl,_,h⟩:=h;obtain⟨l,rfl⟩:=Wd (f:=λr:List Val=> [D.sl (rowD r)]) (R:=yF zW n (.ref 1)) (λy j=>aCi j) h;exact⟨l,rfl⟩
theorem aCf {n:Nat}{g:List D}(h:yF zW n (.ref 3) g): ∃x:Col,g=x.ds:=by
 cases n with
 |zero=>grind[yF]
 |succ n=>
  simp only[yF,show zW[3]? =some (.st [.str,.int .i64])from rfl]at h;obtain⟨i,rfl,h⟩:=h;obtain⟨p,_,rfl,h0,h⟩:=yi h;obtain⟨r,_,rfl,j,h⟩:=yi h;cases um h;obtain⟨l,rfl⟩:=Ws h0;obtain⟨o,rfl⟩:=aah j;exact⟨⟨l,o⟩,rfl⟩
theorem aA7 {n:Nat}{g:List D}(h:yF zW n (.ref 4) g): ∃x:List Col,g=[.sl (x.map Col.ds)]:=by
 cases n with
 |zero=>grind[yF]
 |succ n=>
  simp only[yF,show zW[4]? =some (.sl (.ref 3))from rfl]at h;obtain⟨i,rfl,_,h⟩:=h;obtain⟨l,rfl⟩:=Wd (f:=Col.ds) (R:=yF zW n (.ref 3)) (λy j=>aCf j) h
  grind
theorem awh {n:Nat}{g:List D}(h:yF zW n (.ref 5) g): ∃x:Tbl,g=x.ds:=by
 cases n with
 |zero=>grind[yF]
 |succ n=>
  simp only[yF,show zW[5]? =some (.st [.ref 4,.ref 2])from rfl]at h;obtain⟨i,rfl,h⟩:=h;obtain⟨p,_,rfl,h0,h⟩:=yi h;obtain⟨r,_,rfl,j,h⟩:=yi h;cases um h;obtain⟨l,rfl⟩:=aA7 h0;obtain⟨o,rfl⟩:=aBa j;exact⟨⟨l,o⟩,rfl⟩
theorem azT: ∀{n:Nat}{i:List D}(_:yF zW n (.ref 8) i),∃x:Ex,i=x.ds:=by
 intro n;induction n using Nat.strongRecOn with
 |ind n J=>
  intro i h;cases n with
  |zero=>grind[yF]
  |succ n=>
   simp only[yF,show zW[8]? =some (.st [.int .i64,.str,.ref 0,.ref 9])from rfl]at h;obtain⟨j,rfl,h⟩:=h;obtain⟨d0,_,rfl,h0,h⟩:=yi h;obtain⟨d1,_,rfl,p,h⟩:=yi h;obtain⟨d2,_,rfl,r,h⟩:=yi h;obtain⟨d3,_,rfl,g,h⟩:=yi h;cases um h;obtain⟨P,rfl⟩:=aah h0;obtain⟨T,rfl⟩:=Ws p;obtain⟨U,rfl⟩:=awi r;cases n with
   |zero=>grind[yF]
   |succ n=>
    simp only[yF,show zW[9]? =some (.sl (.ref 8))from rfl]at g;obtain⟨o,rfl,_,g⟩:=g;obtain⟨l,rfl⟩:=Wd (f:=Ex.ds) (R:=yF zW n (.ref 8)) (λy I=>J n (by omega) I) g;exact⟨⟨P,T,U,l⟩,by rw[<- aaB];rfl⟩
theorem aCg {n:Nat}{g:List D}(h:yF zW n (.ref 10) g): ∃x:Itm,g=x.ds:=by
 cases n with
 |zero=>grind[yF]
 |succ n=>
  simp only[yF,show zW[10]? =some (.st [.ref 8,.str])from rfl]at h;obtain⟨i,rfl,h⟩:=h;obtain⟨p,_,rfl,h0,h⟩:=yi h;obtain⟨r,_,rfl,j,h⟩:=yi h;cases um h;obtain⟨l,rfl⟩:=azT h0;obtain⟨o,rfl⟩:=Ws j;exact⟨⟨l,o⟩,rfl⟩
theorem aA8 {n:Nat}{g:List D}(h:yF zW n (.ref 11) g): ∃x:List Itm,g=[.sl (x.map Itm.ds)]:=by
 cases n with
 |zero=>grind[yF]
 |succ n=>
  simp only[yF,show zW[11]? =some (.sl (.ref 10))from rfl]at h;obtain⟨i,rfl,_,h⟩:=h;obtain⟨l,rfl⟩:=Wd (f:=Itm.ds) (R:=yF zW n (.ref 10)) (λy j=>aCg j) h
  grind
theorem aBc {n:Nat}{g:List D}(h:yF zW n (.ref 12) g): ∃x:List ByteArray,g=[.sl (x.map (λb=> [D.lit (.string b)]))]:=by
 cases n with
 |zero=>grind[yF]
 |succ n=>
  simp only[yF,show zW[12]? =some (.sl .str)from rfl]at h;obtain⟨i,rfl,_,h⟩:=h;obtain⟨l,rfl⟩:=Wd (f:=(λb=> [D.lit (.string b)])) (R:=λy=> ∃s:ByteArray,y=[D.lit (.string s)]/\s.size<=maxLen) (λy ⟨s,e,_⟩=>⟨s,e⟩) h
  grind
theorem aCe {n:Nat}{g:List D}(h:yF zW n (.ref 13) g): ∃x:Agg,g=x.ds:=by
 cases n with
 |zero=>grind[yF]
 |succ n=>
  simp only[yF,show zW[13]? =some (.st [.str,.str,.str])from rfl]at h;obtain⟨i,rfl,h⟩:=h;obtain⟨I,_,rfl,h0,h⟩:=yi h;obtain⟨J,_,rfl,j,h⟩:=yi h;obtain⟨P,_,rfl,l,h⟩:=yi h;cases um h;obtain⟨o,rfl⟩:=Ws h0;obtain⟨p,rfl⟩:=Ws j;obtain⟨r,rfl⟩:=Ws l;exact⟨⟨o,p,r⟩,rfl⟩
theorem aA5 {n:Nat}{g:List D}(h:yF zW n (.ref 14) g): ∃x:List Agg,g=[.sl (x.map Agg.ds)]:=by
 cases n with
 |zero=>grind[yF]
 |succ n=>
  simp only[yF,show zW[14]? =some (.sl (.ref 13))from rfl]at h;obtain⟨i,rfl,_,h⟩:=h;obtain⟨l,rfl⟩:=Wd (f:=Agg.ds) (R:=yF zW n (.ref 13)) (λy j=>aCe j) h
  grind
theorem aCh {n:Nat}{g:List D}(h:yF zW n (.ref 20) g): ∃x:Nmd,g=x.ds:=by
 cases n with
 |zero=>grind[yF]
 |succ n=>
  simp only[yF,show zW[20]? =some (.st [.str,.ref 5])from rfl]at h;obtain⟨i,rfl,h⟩:=h;obtain⟨p,_,rfl,h0,h⟩:=yi h;obtain⟨r,_,rfl,j,h⟩:=yi h;cases um h;obtain⟨l,rfl⟩:=Ws h0;obtain⟨o,rfl⟩:=awh j;exact⟨⟨l,o⟩,rfl⟩
theorem aA9 {n:Nat}{g:List D}(h:yF zW n (.ref 21) g): ∃x:List Nmd,g=[.sl (x.map Nmd.ds)]:=by
 cases n with
 |zero=>grind[yF]
 |succ n=>
  simp only[yF,show zW[21]? =some (.sl (.ref 20))from rfl]at h;obtain⟨i,rfl,_,h⟩:=h;obtain⟨l,rfl⟩:=Wd (f:=Nmd.ds) (R:=yF zW n (.ref 20)) (λy j=>aCh j) h
  grind
theorem ani {g:AM.Fd}{x:W}(h:aaj zW g x)(o:g.isAgg zW=true): ∃n i,yF zW n g i /\x= .agg (i.map .d):=by
 obtain⟨n,i,j,l,_⟩:=h<;>grind
theorem az4 {g:AM.Fd}{x:W}(h:aaj zW g x)(o:g.isAgg zW=false): ∃n d,yF zW n g [d]/\x= .c (.d d):=by
 obtain⟨n,i,j,_,l⟩:=h<;>grind
theorem az5 {x:W}(h:aaj zW (.ref 5) x): ∃t:Tbl,x=t.w:=by
 obtain⟨n,i,g,rfl⟩:=ani h rfl;clear h;have h:=g;clear g;obtain⟨t,rfl⟩:=awh h;exact⟨t,rfl⟩
theorem anh {x:W}(h:aaj zW (.ref 21) x): ∃t:List Nmd,x= .c (.d (.sl (zK t))):=by
 obtain⟨n,d,g,rfl⟩:=az4 h rfl;clear h;have h:=g;clear g;obtain⟨t,h⟩:=aA9 h;cases h;exact⟨t,rfl⟩
theorem arS {n:Nat}{g:List D}(h:yF zW n .str g): ∃x:ByteArray,g=[.lit (.string x)]/\x.size<=9223372036854775807:=by
 cases n<;>(simp only[yF]at h;obtain⟨m,h,hs⟩:=h;exact⟨m,h,hs⟩)
theorem aBb {n:Nat}{g:List D}(h:yF zW n (.ref 15) g): ∃x:{x:Srt //x.col.size<=9223372036854775807},g=x.1.ds:=by
 cases n with
 |zero=>grind[yF]
 |succ n=>
  simp only[yF,show zW[15]? =some (.st [.str,.bool])from rfl]at h;obtain⟨i,rfl,h⟩:=h;obtain⟨p,_,rfl,h0,h⟩:=yi h;obtain⟨r,_,rfl,j,h⟩:=yi h;cases um h;obtain⟨l,rfl,hs⟩:=arS h0;obtain⟨o,rfl⟩:=aA6 j;exact⟨⟨⟨l,o⟩,hs⟩,rfl⟩
def aiP (l:List Srt):Prop:= ∀s∈l,s.col.size<=9223372036854775807
theorem azt {n:Nat}{g:List D}(h:yF zW n (.ref 16) g): ∃x:List Srt,g=[.sl (x.map Srt.ds)]/\aiP x:=by
 cases n with
 |zero=>grind[yF]
 |succ n=>
  simp only[yF,show zW[16]? =some (.sl (.ref 15))from rfl]at h;obtain⟨i,rfl,_,h⟩:=h;obtain⟨l,rfl⟩:=Wd (f:=λx:{x:Srt //x.col.size<=9223372036854775807}=>x.1.ds) (R:=yF zW n (.ref 15)) (λy j=>aBb j) h;refine⟨l.map (·.1),by simp_all,λs hs=>?_⟩
  grind
theorem arR {n:Nat}{g:List D}(h:yF zW n (.ref 17) g): ∃x:{x:Stp //aiP x.sorts},g=x.1.ds:=by
 cases n with
 |zero=>grind[yF]
 |succ n=>
  simp only[yF,show zW[17]? =some (.st [.int .i64,.ref 8,.ref 11,.ref 12,.ref 14,.ref 16,.int .i64,.str])from rfl]at h;obtain⟨i,rfl,h⟩:=h;obtain⟨d0,_,rfl,h0,h⟩:=yi h;obtain⟨d1,_,rfl,j,h⟩:=yi h;obtain⟨d2,_,rfl,l,h⟩:=yi h;obtain⟨d3,_,rfl,o,h⟩:=yi h;obtain⟨d4,_,rfl,p,h⟩:=yi h;obtain⟨d5,_,rfl,r,h⟩:=yi h;obtain⟨d6,_,rfl,I,h⟩:=yi h;obtain⟨d7,_,rfl,J,h⟩:=yi h;cases um h;obtain⟨P,rfl⟩:=aah h0;obtain⟨R,rfl⟩:=azT j;obtain⟨T,rfl⟩:=aA8 l;obtain⟨U,rfl⟩:=aBc o;obtain⟨x4,rfl⟩:=aA5 p;obtain⟨x5,rfl,hs⟩:=azt r;obtain⟨x6,rfl⟩:=aah I;obtain⟨x7,rfl⟩:=Ws J;exact⟨⟨⟨P,R,T,U,x4,x5,x6,x7⟩,hs⟩,rfl⟩
theorem azu {n:Nat}{g:List D}(h:yF zW n (.ref 18) g): ∃x:List Stp,g=[.sl (x.map Stp.ds)]/\ ∀s∈x,aiP s.sorts:=by
 cases n with
 |zero=>grind[yF]
 |succ n=>
  simp only[yF,show zW[18]? =some (.sl (.ref 17))from rfl]at h;obtain⟨i,rfl,_,h⟩:=h;obtain⟨l,rfl⟩:=Wd (f:=λx:{x:Stp //aiP x.sorts}=>x.1.ds) (R:=yF zW n (.ref 17)) (λy j=>arR j) h;refine⟨l.map (·.1),by simp_all,λs hs=>?_⟩
  grind
theorem awF {x:W}(h:aaj zW (.ref 17) x): ∃t:Stp,x=t.w /\aiP t.sorts:=by
 obtain⟨n,U,p,rfl⟩:=ani h rfl;clear h;obtain⟨⟨⟨op,⟨o,I,⟨R,T,vs⟩,r⟩,g,l,i,j,J,P⟩,hs⟩,rfl⟩:=arR p;exact⟨⟨op,⟨o,I,⟨R,T,vs⟩,r⟩,g,l,i,j,J,P⟩,rfl,hs⟩
theorem awE {x:W}(h:aaj zW (.ref 19) x): ∃t:Qry,x=t.w /\t.src.size<=9223372036854775807 /\ ∀s∈t.steps,aiP s.sorts:=by
 obtain⟨n,J,i,rfl⟩:=ani h rfl;clear h;have h:=i;clear i;cases n with
 |zero=>grind[yF]
 |succ n=>
  simp only[yF,show zW[19]? =some (.st [.str,.ref 18])from rfl]at h;obtain⟨j,rfl,h⟩:=h;obtain⟨r,_,rfl,h0,h⟩:=yi h;obtain⟨I,_,rfl,l,h⟩:=yi h;cases um h;obtain⟨o,rfl,hs⟩:=arS h0;obtain⟨p,rfl,g⟩:=azu l;exact⟨⟨o,p⟩,rfl,hs,g⟩
section
attribute [local irreducible] Sat zQ yv zl
def aoK (n:Int):Val:=⟨2,n,⟨#[]⟩⟩
def yz (k:Int)(v:Val):Prop:=v=zB\/(k=1 /\ ∃b,v=yq b)\/(k=2 /\ ∃n,inB n=true /\v=aoK n)\/(k=3 /\ ∃s:ByteArray,s.size<=200 /\v=⟨3,0,s⟩)
theorem bs0:zl ⟨#[]⟩ ⟨#[]⟩=true:=AM.beqS_self _
theorem auW (k:Int):yz k zB:=.inl rfl
theorem UN (b:Bool):yz 1 (yq b):=.inr (.inl ⟨rfl,b,rfl⟩)
theorem jV {n:Int}(h:inB n=true):yz 2 (aoK n):=.inr (.inr (.inl ⟨rfl,n,h,rfl⟩))
theorem alw {k:Int}{v:Val}(h:yz k v):yS k v=0:=by
 rcases h with rfl|⟨rfl,b,rfl⟩|⟨rfl,n,g,rfl⟩|⟨rfl,s,hs,rfl⟩
 ·show yS k ⟨0,0,⟨#[]⟩⟩=0
  grind[yS,bs0]
 ·cases b
  ·show yS 1 ⟨1,0,⟨#[]⟩⟩=0
   grind[yS,bs0]
  ·show yS 1 ⟨1,1,⟨#[]⟩⟩=0
   grind[yS,bs0]
 ·show yS 2 ⟨2,n,⟨#[]⟩⟩=0
  grind[yS,bs0]
 grind[yS]
theorem adT {k:Int}{v:Val}(h:yS k v=0):yz k v:=by
 obtain⟨j,n,s⟩:=v;obtain⟨r,h⟩:=zV (by omega) h;obtain⟨l,h⟩:=zV (by omega) h;obtain⟨o,h⟩:=zV (by omega) h;obtain⟨J,h⟩:=zV (by omega) h;obtain⟨i,h⟩:=zV (by omega) h;obtain⟨I,_⟩:=zV (by omega) h;by_cases g:j=0
 ·subst g;have hs:=atB (by simpa using i);have p:n=0:=by grind
  subst hs p;exact .inl rfl
 ·have hk:j=k /\(k=1\/k=2\/k=3):=by
   grind
  obtain⟨rfl,hk⟩:=hk;rcases hk with rfl|rfl|rfl
  ·have hs:=atB (by simpa using i);subst hs
   right;left
   refine vT ?_;by_cases g:n=0
   ·subst g;exact⟨false,rfl⟩
   ·have:n=1:=by simpa[g]using l
    subst this;exact⟨true,rfl⟩
  ·have hs:=atB (by simpa using i);subst hs
   right;right;left
   exact⟨rfl,n,by simpa using o,rfl⟩
  ·right;grind
theorem yz.kind {k:Int}{v:Val}(h:yz k v)(g:v.k≠0):v.k=k /\(k=1\/k=2\/k=3):=by
 rcases h with rfl|⟨rfl,b,rfl⟩|⟨rfl,n,_,rfl⟩|⟨rfl,s,_,rfl⟩
 ·exact absurd rfl g
 ·exact⟨rfl,.inl rfl⟩
 ·exact⟨rfl,.inr (.inl rfl)⟩
 grind
theorem yz.num {k:Int}{v:Val}(h:yz k v)(g:v.k≠0)(hk:xR k 2=true): ∃n,inB n=true /\v=aoK n:=by
 rcases h with rfl|⟨rfl,b,rfl⟩|⟨rfl,n,i,rfl⟩|⟨rfl,s,_,rfl⟩
 ·exact absurd rfl g
 ·cases hk
 ·grind
 ·cases hk
theorem yz.text {k:Int}{v:Val}(h:yz k v)(g:v.k≠0)(hk:xR k 3=true): ∃s:ByteArray,s.size<=200 /\v=⟨3,0,s⟩:=by
 rcases h with rfl|⟨rfl,b,rfl⟩|⟨rfl,n,i,rfl⟩|⟨rfl,s,hs,rfl⟩
 ·exact absurd rfl g
 ·cases hk
 ·cases hk
 grind
theorem yz.bl {k:Int}{v:Val}(h:yz k v)(hk:xR k 1=true):Bl v:=by
 rcases h with rfl|⟨rfl,b,rfl⟩|⟨rfl,n,g,rfl⟩|⟨rfl,s,hs,rfl⟩
 ·exact .inl rfl
 ·exact .inr ⟨b,rfl⟩
 ·cases hk
 ·cases hk
theorem ajc {v:Val}(h:Bl v):yz 1 v:=by
 rcases h with rfl|⟨b,rfl⟩
 ·exact .inl rfl
 grind[UN]
theorem gh {n:Int}(g: -1000000000000000<=n)(i:n<=1000000000000000):inB n=true:=by
 simp_all[inB]
theorem Kn {n:Int}{b:Bool}(h:b=true ->inB n=true):yz 2 (qc n b):=by
 cases b
 ·exact .inl rfl
 ·exact jV (h rfl)
theorem apS {n:Int}(h:inB n=true):IntKind.i64.wrap (0 - n)= -n:=by
 have:=xE h<;>grind[IntKind.wrap_i64]
theorem aAp {n:Int}(h:inB n=true):inB (-n)=true:=by
 grind[xE,gh]
theorem azp {a b:Int}(h:inB a=true):inB (Int.tdiv a b)=true:=by
 have:=xE h;have g:=Int.natAbs_tdiv_le_natAbs a b
 grind[gh]
theorem azq {a b:Int}(h:inB a=true):inB (Int.tmod a b)=true:=by
 have:=xE h;have g:(Int.tmod a b).natAbs<=a.natAbs:=by
  simp_all[Nat.mod_le]
 grind[gh]
theorem anZ {a b:Int}{rest:Bool}(h:inB a=true):yz 2 (Xp a b rest):=by
 unfold Xp;cases j:(b==0)
 ·cases rest
  ·simp only[cond_false];have g:=azp (b:=b) h;have i:=xE g;rw[show IntKind.i64.wrap (Int.tdiv a b)=Int.tdiv a b by grind[IntKind.wrap_i64]];exact jV g
  ·exact jV (azq h)
 ·exact .inl rfl
theorem am6 {a b:Int}(h:ql a b=true):inB (a+b)=true:=by
 simp_all[ql]
theorem ayd {a b:Int}(h:ue a b=true):inB (a*b)=true:=by
 simp_all[ue]
theorem Jg {a b w:Int}(h:xg [a,b] w=true):xR a w=true /\xR b w=true:=by
 grind[xg]
theorem afw {a w:Int}(h:xg [a] w=true):xR a w=true:=by
 grind[xg]
theorem aBA {op t:Int}{p:ByteArray}{a:Val}(i:yz t a)(o:a.k≠0)(g:op=3\/op=4)(l:xR t (bif op==3 then 1 else 2)=true):yz (bif op==3 then 1 else 2) (xf op p [a]):=by
 rcases g with rfl|rfl
 ·exact ajc (aut a (i.bl l))
 ·obtain⟨n,j,rfl⟩:=i.num o l;show yz 2 (qc (IntKind.i64.wrap (0 - n)) true);rw[apS j];exact jV (aAp j)
theorem aAm {op t u:Int}{J:ByteArray}{a b:Val}(o:yz t a)(p:yz u b)(i:a.k≠0)(j:b.k≠0)(g:5<=op /\op<=9)(r:xR t 2=true)(I:xR u 2=true):yz 2 (xf op J [a,b]):=by
 obtain⟨n,l,rfl⟩:=o.num i r;obtain⟨m,P,rfl⟩:=p.num j I;have g:op=5\/op=6\/op=7\/op=8\/op=9:=by omega
 rcases g with rfl|rfl|rfl|rfl|rfl
 ·show yz 2 (qc (bif ql n m then n+m else 0) (ql n m))
  grind[Kn,am6]
 ·show yz 2 (qc (bif ql n (IntKind.i64.wrap (0 - m))then n+IntKind.i64.wrap (0 - m)else 0) (ql n (IntKind.i64.wrap (0 - m))))
  grind[Kn,am6]
 ·show yz 2 (qc (bif ue n m then n*m else 0) (ue n m))
  grind[Kn,ayd]
 ·exact anZ (rest:=false) l
 ·exact anZ (rest:=true) l
theorem axj {g:ByteArray}{I:List Int}{l:List Val}(hl:(l.length:Int)=yX g)(hn:yX g≠0)(J:I.length=l.length)(p: ∀i (h1:i<I.length) (h2:i<l.length),yz I[i] l[i])(j: ∀x∈l,x.k≠0)(r:(Zd g I).2=0):yz (Zd g I).1 (u9 g l):=by
 unfold Zd at r⊢;unfold u9;unfold yX at hl hn;have d1:zl g ⟨#[97,98,115]⟩=true ->zl g ⟨#[109,105,110]⟩=false /\zl g ⟨#[109,97,120]⟩=false /\zl g ⟨#[104,97,115]⟩=false /\zl g ⟨#[115,116,97,114,116,115]⟩=false:=λh=>by
  grind[AM.beqS_iff]
 have d2:zl g ⟨#[108,101,110]⟩=true ->zl g ⟨#[109,105,110]⟩=false /\zl g ⟨#[109,97,120]⟩=false /\zl g ⟨#[104,97,115]⟩=false /\zl g ⟨#[115,116,97,114,116,115]⟩=false:=λh=>by
  grind[AM.beqS_iff]
 have d3:zl g ⟨#[104,97,115]⟩=true ->zl g ⟨#[109,105,110]⟩=false /\zl g ⟨#[109,97,120]⟩=false:=λh=>by
  grind[AM.beqS_iff]
 have d4:zl g ⟨#[115,116,97,114,116,115]⟩=true ->zl g ⟨#[109,105,110]⟩=false /\zl g ⟨#[109,97,120]⟩=false:=λh=>by
  grind[AM.beqS_iff]
 generalize zl g ⟨#[97,98,115]⟩=T at*;generalize zl g ⟨#[108,101,110]⟩=U at*;generalize zl g ⟨#[104,97,115]⟩=p3 at*;generalize zl g ⟨#[115,116,97,114,116,115]⟩=p4 at*;generalize zl g ⟨#[109,105,110]⟩=p5 at*;generalize zl g ⟨#[109,97,120]⟩=p6 at*;have h2:T=false ->U=false ->l.length=2:=by
  grind
 have P:T=true\/U=true ->l.length=1:=λh=>by
  grind
 have h0:T=false ->U=false ->p3=false ->p4=false ->(p5||p6)=true:=by
  grind
 cases T with
 |true=>
  obtain⟨rfl,rfl,rfl,rfl⟩:=d1 rfl;simp only[Bool.or_false,cond_false,cond_true]at r⊢;obtain⟨o,R⟩:=yP r;rw[R]
  match l,I,P,J,p,j,o with
  | [a],[t],_,_,p,j,o=>
    obtain⟨n,hi,rfl⟩:=(p 0 (by simp) (by simp):yz t a).num (j _ (by simp)) (afw o);show yz 2 (qc (yH true n (IntKind.i64.wrap (0 - n))) true);have hb:=xE hi;rw[apS hi,KI];exact jV (gh (by omega) (by omega))
 |false=>
  cases U with
  |true=>
   obtain⟨rfl,rfl,rfl,rfl⟩:=d2 rfl;simp only[Bool.or_false,cond_false,cond_true]at r⊢;obtain⟨o,R⟩:=yP r;rw[R]
   match l,I,P,J,p,j,o with
   | [a],[t],_,_,p,j,o=>
     obtain⟨s,hi,rfl⟩:=(p 0 (by simp) (by simp):yz t a).text (j _ (by simp)) (afw o);show yz 2 (qc (s.size:Int) true);exact jV (gh (by omega) (by omega))
  |false=>
   cases p3 with
   |true=>
    obtain⟨rfl,rfl⟩:=d3 rfl;simp only[Bool.or_false,cond_false,cond_true]at r⊢
    grind[yP,UN]
   |false=>
    cases p4 with
    |true=>
     obtain⟨rfl,rfl⟩:=d4 rfl;simp only[Bool.or_false,cond_false,cond_true]at r⊢
     grind[yP,UN]
    |false=>
     cases aa:(p5||p6)with
     |false=>
      grind
     |true=>
      rw[aa]at r;simp only[cond_true]at r⊢;obtain⟨o,R⟩:=yP r;rw[R]
      match l,I,h2 rfl rfl,J,p,j,o with
      | [a,b],[t,u],_,_,p,j,o=>
        have fa:yz t a:=p 0 (by simp) (by simp);have fb:yz u b:=p 1 (by simp) (by simp);have na:=j a (by simp);have nb:=j b (by simp);have ka:=fa.kind na;have kb:=fb.kind nb;have hm:yH true t u=t /\yH true t u=u:=by
         rw[KI];simp only[Bool.or_eq_true]at o;rcases o with o|o
         ·have:=Jg o;unfold xR at this;simp only[Bool.or_eq_true,beq_iff_eq]at this;omega
         ·have:=Jg o;unfold xR at this;simp only[Bool.or_eq_true,beq_iff_eq]at this;omega
        show yz (yH true t u) (bif decide (zX b a<0)==p5 then b else a)
        grind
theorem axh {cols:List Col}{row:List Val}(g:Xq cols row=true){i:Nat}(h:i<cols.length):yz cols[i].t (at0 row i):=by
 obtain⟨l,j⟩:=auV g<;>grind[aq9,at0,adT]
theorem akf {cols:List Col}{row:List Val}(hf:Xq cols row=true): ∀(e:Ex),e.err=0 ->(e.ty cols).2=0 ->yz (e.ty cols).1 (e.val cols row)
 | .mk op l v g,he,P=>by
   have r:yE op l v g.length=0 /\errL g=0:=by
    simp only[Ex.err]at he;cases hb:(yE op l v g.length !=0)
    ·simp_all
    simp_all
   have T:=WT r.2;obtain⟨J,i⟩:=aem P;have ac:=ael cols J;have ih: ∀k∈g,yz (k.ty cols).1 (k.val cols row):=λk hk=>akf hf k (T k hk) (ac k hk)
   have hT:(Ex.ty cols (.mk op l v g))=uw cols op l v (g.map λk=>(k.ty cols).1):=by
    grind[Ex.ty,aek]
   rw[aek J]at i;rw[hT];obtain⟨aa,af,ag⟩:=ZJ r.1;have ab:yf (valL cols row g)=false -> ∀x∈valL cols row g,x.k≠0:=λh x hx e=>by
    grind[yf]
   have o:Ex.val cols row (.mk op l v g)=bif op==1 then v else bif op==2 then at0 row (ze cols l).toNat else
    bif op==14 then wF (at0 (valL cols row g) 0) (at0 (valL cols row g) 1)else
    bif op==15 then qS (wF (qS (at0 (valL cols row g) 0)) (qS (at0 (valL cols row g) 1)))else
    bif yf (valL cols row g)then zB else xf op l (valL cols row g):=by grind[Ex.val]
   rw[o];have hn:=r.1;clear o hT he P;rw[ZQ]at ab⊢;have hp: ∀k,XU op l=k ->(g.length:Int)=k:=λk h=>by grind
   have ho:op=1\/op=2\/(op=3\/op=4)\/(5<=op /\op<=9)\/(10<=op /\op<=13)\/op=14\/op=15\/op=16:=by omega
   have j: ∀k:Int,op≠k ->(op==k)=false:=λk h=>by simpa using h
   rcases ho with rfl|rfl|h|h|h|rfl|rfl|rfl
   ·show yz v.k v;have hc:=kz (by rfl) hn;refine adT ?_;unfold Zr at hc;cases hb:(yS v.k v !=0)
    ·grind
    simp_all
   ·have h2:(bif decide (ze cols l<0)then((0:Int),(16:Int))else(v0 cols (ze cols l),0)).2=0:=i;have R:=Yw (λx=>zl x.name l) cols 0 (Int.le_refl _);have I: ¬ze cols l<0:=λh=>by
     grind
    show yz (bif decide (ze cols l<0)then((0:Int),(16:Int))else(v0 cols (ze cols l),0)).1 (at0 row (ze cols l).toNat);have h5:(ze cols l).toNat<cols.length:=by grind[ze]
    rw[decide_eq_false I];simp_all[v0,axh]
   ·have U:g.length=1:=by
     have:=hp 1 (by rcases h with rfl|rfl<;>rfl);omega
    match g,U with
    | [a],_=>
      have e:uw cols op l v ([a].map λk=>(k.ty cols).1)=ul (xg [(a.ty cols).1] (bif op==3 then 1 else 2)) (bif op==3 then 1 else 2):=by
       rcases h with rfl|rfl<;>rfl
      rw[e]at i⊢;obtain⟨R,I⟩:=yP i;rw[I,j 1 (by omega),j 2 (by omega),j 14 (by omega),j 15 (by omega)];simp only[cond_false];cases hA:yf ([a].map (Ex.val cols row))
      ·grind[aBA,afw]
      ·exact .inl rfl
   ·have U:g.length=2:=by
     have p:op=5\/op=6\/op=7\/op=8\/op=9:=by omega
     have:=hp 2 (by rcases p with rfl|rfl|rfl|rfl|rfl<;>rfl);omega
    match g,U with
    | [a,b],_=>
      have e:uw cols op l v ([a,b].map λk=>(k.ty cols).1)=ul (xg [(a.ty cols).1,(b.ty cols).1] 2) 2:=by
       have p:op=5\/op=6\/op=7\/op=8\/op=9:=by omega
       rcases p with rfl|rfl|rfl|rfl|rfl<;>rfl
      rw[e]at i⊢;obtain⟨R,I⟩:=yP i;obtain⟨h5,h6⟩:=Jg R;rw[I,j 1 (by omega),j 2 (by omega),j 14 (by omega),j 15 (by omega)];simp only[cond_false];cases hA:yf ([a,b].map (Ex.val cols row))
      ·grind[aAm]
      ·exact .inl rfl
   ·have e:(uw cols op l v (g.map λk=>(k.ty cols).1)).1=1:=by
     have p:op=10\/op=11\/op=12\/op=13:=by omega
     rcases p with rfl|rfl|rfl|rfl
     ·exact(yP i).2
     ·exact(yP i).2
     ·exact(yP i).2
     ·exact(yP i).2
    rw[e];rw[j 1 (by omega),j 2 (by omega),j 14 (by omega),j 15 (by omega)];simp only[cond_false];cases hA:yf (g.map (Ex.val cols row))
    ·have p:op=10\/op=11\/op=12\/op=13:=by omega
     rcases p with rfl|rfl|rfl|rfl<;>exact UN _
    ·exact .inl rfl
   ·have h2:=yP (show(ul (xg (g.map λk=>(k.ty cols).1) 1) 1).2=0 from i);show yz (ul (xg (g.map λk=>(k.ty cols).1) 1) 1).1 (wF _ _)
    grind[ajc,aqY]
   ·have h2:=yP (show(ul (xg (g.map λk=>(k.ty cols).1) 1) 1).2=0 from i);show yz (ul (xg (g.map λk=>(k.ty cols).1) 1) 1).1 (qS (wF _ _))
    grind[ajc,aut,aqY]
   ·have ae:=UR rfl hn;have ad:(g.length:Int)=yX l:=aa;have i:(Zd l (g.map λk=>(k.ty cols).1)).2=0:=i;show yz (Zd l (g.map λk=>(k.ty cols).1)).1 (bif yf (g.map (Ex.val cols row))then zB else u9 l (g.map (Ex.val cols row)));cases hA:yf (g.map (Ex.val cols row))with
    |true=>exact .inl rfl
    |false=>
     grind[axj]
theorem auS {cols:List Col}{row:List Val}{e:Ex}{k:Int}(l:Xq cols row=true)(h:e.tyE cols=(k,0)):yz k (exprV cols row e):=by
 unfold Ex.tyE at h;obtain⟨g,i⟩:e.chk=0 /\e.ty cols=(k,0):=by
  cases j:(e.chk !=0)<;>simp_all
 grind[akf,WO,Ex.tyE,exprV]
end
section
attribute [local irreducible] Sat zQ yv
def xz (cols:List Col)(i:Int):Col:=cols.getD i.toNat ⟨⟨#[]⟩,0⟩
def takeErr (cols:List Col)(g:List ByteArray):Bool:=g.any λs=>decide (ze cols s<0)
def takeC (cols:List Col)(g:List ByteArray):List Col:=g.map λs=>xz cols (ze cols s)
def WB (e:Int):Res:=⟨.tup [.c (.d (.sl [])),.c (int e)],[]⟩
def rCs (l:List Col):Res:=⟨.tup [.c (.d (.sl (zi l))),.c (int 0)],[]⟩
theorem vU {cols:List Col}{k:Int}(h:0<=k)(g:k<cols.length):(zi cols)[k.toNat]? =some (xz cols k).ds:=by
 grind[xz,zi]
theorem xx (cols:List Col)(s:ByteArray): ¬ze cols s<0 ->0<=ze cols s /\ze cols s<cols.length:=λh=>by
 have:=Yw (λx=>zl x.name s) cols 0 (Int.le_refl _)
 grind[ze]
def tkS (cols:List Col)(j:List ByteArray)(i:Nat)(g:List Col):S:=⟨[(0,.w (.c (.d (.sl (zi cols))))),(6,cV (.own 27 2 g.length)),(10,.w (.c (.d (.sl (zm j))))),(11,zj j.length),(12,zj i)],[(27,.arr 2 (zi g) false)]⟩
def rNE (e:Int):Res:=⟨.tup [.c .nil,.c (int e)],[]⟩
def rCo (l:List Col):Res:=⟨.tup [.c (.own 0 2 l.length),.c (int 0)],[.arr 2 (zi l) false]⟩
theorem adt (cols:List Col)(g:List ByteArray)(hn:g.length<=1000000):Sat Pg aml [.c (.d (.sl (zi cols))),.c (.d (.sl (zm g)))] (λr=>r=bif takeErr cols g then rNE 16 else rCo (takeC cols g)):=by
 refine V0.s T8 ?_;rw[zx];refine zF (P:=Pg) (f:=T8.f) (body:=(V0.l 0)) g.length (λi=>tkS cols g i (takeC cols (g.take i))) (λi=>takeErr cols (g.take i)=false) ⟨rfl,⟨_,zu 6 27 2 (by omega) (by omega) rfl,?_⟩⟩ ?_
 ·exact rfl
 ·intro i hi hR;have ae:(takeC cols (g.take i)).length=i:=by grind[takeC]
  have R: ∀h:i<g.length,takeC cols (g.take (i+1))=takeC cols (g.take i)++[xz cols (ze cols g[i])]:=λh=>by
   grind[takeC,zA]
  have I: ∀h:i<g.length,takeErr cols (g.take (i+1))=decide (ze cols g[i]<0):=λh=>by
   grind[takeErr,zA]
  have ab:g.length<=i ->(bif takeErr cols g then rNE 16 else rCo (takeC cols g))=rCo (takeC cols (g.take i)):=λh=>by
   grind
  have o: ∀h:i<g.length,decide (ze cols g[i]<0)=true ->(bif takeErr cols g then rNE 16 else rCo (takeC cols g))=rNE 16:=λh U=>by
   grind[takeErr]
  show mwpR Pg T8.f (V0.l 0) _ (tkS cols g i (takeC cols (g.take i)));generalize takeC cols (g.take i)=T at*;have ad:(zi T).take T.length=zi T:=by grind[zy]
  unfold tkS;refine vB (λj=>?_) (λac=>?_)
  ·have hg:=y5 j;have R:=R j;have I:=I j;have o:=o j;have aa:=qd cols g[i];have p:=xx cols g[i];have wi:=zt j (by omega);have J:=λh=>vU (p h).1 (p h).2
   generalize g[i]=x at*;generalize ze cols x=k at*;refine zI hg ?_;refine Sat.w aa ?_;refine zp (b:=decide (k<0)) (λU=>?_) (λU=>?_)
   ·rw[o U];exact rfl
   ·have h3:=of_decide_eq_false U;have J:=J h3;have hb:=p h3;refine zI J ?_ (hA:=hb.1);refine qN ?_;refine yt j (I.trans U) ?_;rw[wi,ad,R,List.length_append];simp only[zi,List.map_append];rfl
  ·rw[ab ac];exact rfl
def uz (cols:List Col)(a:Agg):Int×Col:=
 bif !zl a.fn qI then
  bif decide (ze cols a.col<0)then(16,⟨a.nm,0⟩)else
  bif zl a.fn Wk&&(xz cols (ze cols a.col)).t !=2 then(14,⟨a.nm,0⟩)else(0,⟨a.nm,(xz cols (ze cols a.col)).t⟩)
 else(0,⟨a.nm,2⟩)
def z7 (cols:List Col):List Agg ->Int×List Col
 | []=>(0,[])
 |a::r=>bif (uz cols a).1 !=0 then((uz cols a).1,[])else((z7 cols r).1,(uz cols a).2::(z7 cols r).2)
def JD (cols:List Col)(i:List ByteArray)(g:List Agg):Res:=
 bif takeErr cols i then WB 16 else bif (z7 cols g).1 !=0 then WB (z7 cols g).1 else rCs (takeC cols i++(z7 cols g).2)
def tgS (cols:List Col)(g:List Agg)(j:Nat)(i:List Col):S:=⟨[(0,.w (.c (.d (.sl (zi cols))))),(6,cV (.own 65 2 i.length)),(24,.w (.c (.d (.sl (xX g))))),(25,zj g.length),(26,zj j)],[(65,.arr 2 (zi i) false)]⟩
theorem adu (cols:List Col)(st:Stp)(aa:st.cols.length<=1000000)(ag:st.aggs.length<=100000):Sat Pg JN [.c (.d (.sl (zi cols))),.agg st.cs] (λr=>r=JD cols st.cols st.aggs):=by
 have J:=adt cols st.cols aa;have ab:(takeC cols st.cols).length=st.cols.length:=by simp[takeC]
 unfold JD;obtain⟨op,⟨eo,nm,⟨v1,v2,v3⟩,ks⟩,ai,af,g,aj,sn,tb⟩:=st;simp only at J ab aa ag;refine zE ?_;unfold Stp.cs qU;simp only;cases ad:takeErr cols af with
 |true=>
  rw[ad,cond_true]at J;refine ZF.s T8 ?_;refine Sat.w J ?_;exact⟨rfl,rfl⟩
 |false=>
  rw[ad,cond_false]at J;simp only[cond_false];generalize takeC cols af=T0 at*;refine ZF.s T8 ?_;refine Sat.w J ?_;rw[wz];refine yQ (P:=Pg) (f:=T8.f) (body:=(ZF.l 0)) (λx:Nat×List Col=>tgS cols g x.1 x.2) (λx=>g.length - x.1) (λx=>x.1<=g.length /\x.2.length<=1000000+x.1 /\(z7 cols g).1=(z7 cols (g.drop x.1)).1 /\((z7 cols (g.drop x.1)).1=0 ->T0++(z7 cols g).2=x.2++(z7 cols (g.drop x.1)).2)) ⟨(0,T0),⟨Nat.zero_le _,by grind,rfl,λ_=>rfl⟩,⟨_,vR 6 600272 65 2 _ _ (by omega) rfl rfl,?_⟩⟩ ?_
  ·exact rfl
  ·rintro⟨j,T⟩ hx;obtain⟨hj,ak,i,o⟩:j<=g.length /\T.length<=1000000+j /\(z7 cols g).1=(z7 cols (g.drop j)).1 /\((z7 cols (g.drop j)).1=0 ->T0++(z7 cols g).2=T++(z7 cols (g.drop j)).2):=hx;show mwpR Pg T8.f (ZF.l 0) _ (tgS cols g j T);have R:(zi T).take T.length=zi T:=by grind[zy]
   unfold tgS;refine vB (λI=>?_) (λah=>?_)
   ·have hg:=Yr I;rw[zo I]at i o;simp only[z7]at i o;have wi:=zt I (by omega);generalize g[j]=a at*;obtain⟨a1,U,a3⟩:=a;unfold uz at i o;simp only at i o;have p:=adt cols [U] (by simp);have ae:takeErr cols [U]=decide (ze cols U<0):=by simp[takeErr]
    have ac:takeC cols [U]=[xz cols (ze cols U)]:=rfl;rw[ae,ac]at p;generalize xz cols (ze cols U)=c at*;obtain⟨c1,c2⟩:=c;simp only at i o;refine zI hg ?_;refine zh (b:=!zl a1 qI) (λh2=>?_) (λh2=>?_)
    ·rw[h2]at i o;simp only[cond_true]at i o;(conv=>whnf);cases hb:decide (ze cols U<0)with
     |true=>
      rw[hb]at i p;have i:(z7 cols g).1=16:=i;rw[i];simp only[cond_true]at p;refine Sat.w p ?_;exact⟨rfl,rfl⟩
     |false=>
      rw[hb]at i o p;simp only[cond_false]at i o p;refine Sat.w p ?_;refine zp (b:=zl a1 Wk) (λh3=>?_) (λh3=>?_)
      ·rw[h3,Bool.true_and]at i o;refine wD ?_ (hA:=by omega) (hB:=by grind);refine⟨_,rfl,?_⟩;refine zh (b:=c2 !=2) (λh4=>?_) (λh4=>?_)
       ·rw[h4]at i;have i:(z7 cols g).1=14:=i;rw[i];exact⟨rfl,rfl⟩
       ·rw[h4]at i o;have i:(z7 cols g).1=(z7 cols (g.drop (j+1))).1:=i;have o:(z7 cols (g.drop (j+1))).1=0 ->T0++(z7 cols g).2=T++(⟨a3,c2⟩::(z7 cols (g.drop (j+1))).2):=o;refine wD ?_ (hA:=by omega) (hB:=by grind);refine⟨_,rfl,?_⟩;refine qN ?_;refine⟨(j+1,T++[⟨a3,c2⟩]),⟨⟨I,by grind,i,λh=>by grind⟩,by grind⟩,zf ?_⟩;rw[wi,R,List.length_append];simp only[zi,List.map_append];rfl
      ·rw[h3,Bool.false_and]at i o;have i:(z7 cols g).1=(z7 cols (g.drop (j+1))).1:=i;refine wD ?_ (hA:=by omega) (hB:=by grind);refine⟨_,rfl,?_⟩;refine qN ?_;refine⟨(j+1,T++[⟨a3,c2⟩]),⟨⟨I,by grind,i,λh=>by grind⟩,by grind⟩,zf ?_⟩;rw[wi,R,List.length_append];simp only[zi,List.map_append];rfl
    ·rw[h2]at i o;refine qN ?_;refine⟨(j+1,T++[⟨a3,2⟩]),⟨⟨I,by show(T++[(⟨a3,2⟩:Col)]).length<=1000000+(j+1);simp;omega,i,λh=>by rw[o h];simp⟩,by show g.length -(j+1)<g.length - j;omega⟩,zf ?_⟩;rw[wi,R,List.length_append];simp only[zi,List.map_append];rfl
   ·rw[List.drop_eq_nil_of_le ah]at i o;simp only[z7,List.append_nil]at i o;simp only[forall_const]at o;rw[i,o];refine vT ?_;show Res.mk (.tup [.c (.d (.sl ((zi T).take T.length))),.c (int 0)]) []=_;rw[R];rfl
theorem Uy (l:List Col)(g:l.length<=1000000):Sat Pg Qv [.c (.d (.sl (zi l)))] (λr=>(l=[]/\r=rC .nil)\/r=ac7 2 (zi l)):=by
 refine zY T3 Qo.ok (by kernel_rfl) ?_;refine⟨λh=>?_,?_⟩
 ·conv=>whnf
  left
  refine⟨?_,rfl⟩;cases l with
  |nil=>rfl
  |cons a r=>cases h
 ·(conv=>whnf);refine⟨aq2 l,by grind[zS,zy],by grind[zy],?_⟩
  right
  show Res.mk (.w (.c (.own 0 2 (([]:List (List D)).length+(zi l).length)))) [.arr 2 (([]:List (List D)).take ([]:List (List D)).length++zi l) false]=_;simp_all[ac7]
theorem aeB (g:FuncId)(cap:List (List D)):Sat Pg Ym [.c (.d (.sl [])),.c (.d (.fn g cap))] (λr=>r=rI (-1)):=by
 refine zY T8 wX.ok (by kernel_rfl) ?_;refine vG (P:=Pg) (f:=T8.f) (body:=(wX.l 0)) 1 ?_;exact rfl
theorem aa9 (g:FuncId)(cap:List (List D)):Sat Pg Zv [.c (.d (.sl [])),.c (.d (.fn g cap))] (λr=>r=rB false):=by
 refine Zn.s T8 ?_;refine Sat.w (aeB g cap) ?_;rfl
def jnErr (cols g:List Col):List ByteArray ->Int
 | []=>0
 |s::r=>bif decide (ze cols s<0)||decide (ze g s<0)then 16 else bif (xz cols (ze cols s)).t !=(xz g (ze g s)).t then 14 else jnErr cols g r
def qY (cs:List ByteArray)(l:List Col):List Col:=l.filter λc=>!hasB cs c.name
def dupL (pre:List Col):List Col ->Bool
 | []=>false
 |c::r=>bif decide (ze pre c.name>=0)then true else dupL (pre++[c]) r
def jnQ (cols g:List Col)(cs:List ByteArray):Res:=
 bif jnErr cols g cs !=0 then WB (jnErr cols g cs)else bif dupL [] (cols++qY cs g)then WB 4 else bif decide (((cols++qY cs g).length:Int)>32)then WB 7 else rCs (cols++qY cs g)
def jnT (d:List Nmd)(cols:List Col)(cs:List ByteArray)(g:ByteArray):Res:=match zO g d with
 |none=>WB 17
 |some t=>jnQ cols t.cols cs
def jfb (o:Int)(r:ByteArray)(v1 P:Int)(v3:ByteArray)(p:List Ex)(g:List Itm)(l:List ByteArray)(i:List Agg)(j:List Srt)(I:Int)(J:ByteArray):Pl:=
 .fbox [.lit (.int .i64 6),.lit (.int .i64 o),.lit (.string r),.lit (.int .i64 v1),.lit (.int .i64 P),.lit (.string v3),.sl (exsD p),.sl (yC g),.sl (zm l),.sl (xX i),.sl (yN j),.lit (.int .i64 I),.lit (.string J)]
def tjS (r:Int)(J:ByteArray)(v1 T:Int)(v3:ByteArray)(I:List Ex)(g:List Itm)(p:List ByteArray)(j:List Agg)(l:List Srt)(P:Int)(R:ByteArray)(tc:List Col)(i:Nat)(o:List Col):S:=
 ⟨[(5,cV (.ptr 5 0)),(10,cV .nil),(20,cV (.own 128 2 o.length)),(106,.w (.c (.d (.sl (zi tc))))),(107,zj tc.length),(108,zj i)],[(5,jfb r J v1 T v3 I g p j l P R),(128,.arr 2 (zi o) false)]⟩
theorem azQ {Q:E ->S ->Prop}{s:S}(U:Int)(nm:ByteArray)(v1 v2:Int)(v3:ByteArray)(ks:List Ex)(j:List Itm)(g:List ByteArray)(o:List Agg)(p:List Srt)(sn:Int)(tb:ByteArray)(cols tc:List Col)(ae:cols.length<=1000000)(af:tc.length<=1000000)
 (h0:xL s [5,10,20,106,107,108] (· =tjS U nm v1 v2 v3 ks j g o p sn tb tc 0 cols))
 (hQ:Q (.exit 8) (yT (tjS U nm v1 v2 v3 ks j g o p sn tb tc tc.length (cols++qY g tc)) 109 (yd (decide ((tc.length:Int)<tc.length))))):
 yv (mwpR Pg T8.f (zM.l 3)) [5,10,20,106,107,108] Q s:=by
 refine zF (P:=Pg) (f:=T8.f) (body:=(zM.l 3)) tc.length (λi=>tjS U nm v1 v2 v3 ks j g o p sn tb tc i (cols++qY g (tc.take i))) (λ_=>True) ⟨trivial,?_⟩ ?_
 ·grind[qY]
 ·intro i hi _;have ad:(cols++qY g (tc.take i)).length<=1000000+i:=by
   grind[qY]
  have r: ∀h:i<tc.length,cols++qY g (tc.take (i+1))=(cols++qY g (tc.take i))++(bif !hasB g tc[i].name then [tc[i]]else []):=λh=>by
   grind[qY,vL]
  have J:i=tc.length ->cols++qY g tc=cols++qY g (tc.take i):=λh=>by grind
  show mwpR Pg T8.f (zM.l 3) _ (tjS U nm v1 v2 v3 ks j g o p sn tb tc i (cols++qY g (tc.take i)));generalize cols++qY g (tc.take i)=T at*;have ac:(zi T).take T.length=zi T:=by grind[zy]
  unfold tjS jfb;refine KO (λI=>?_) (λR=>?_)
  ·have hg:=y7 I;have r:=r I;have ab:=yD g tc[i].name;have aa:=yD [] tc[i].name;have wi:=zt I (by omega);generalize tc[i]=c at*;obtain⟨c1,c2⟩:=c;generalize hasB g c1=b at*;refine zI hg ?_;refine Sat.w ab ?_;refine zp (b:=!b) (λh2=>?_) (λh2=>?_)
   ·rw[h2,cond_true]at r;refine Sat.w aa ?_;refine qN ?_;refine yt I trivial ?_;rw[wi,ac,r,List.length_append];simp only[zi,List.map_append];rfl
   ·rw[h2,cond_false,List.append_nil]at r;refine yt I trivial ?_;rw[wi,r];rfl
  ·rw[J R]at hQ;subst R;exact hQ
theorem afi (d:List Nmd)(cols:List Col)(st:Stp)(ai:st.op=6)(aq:st.cols.length<=1000000)(ae:cols.length<=1000000)(R: ∀t,zO st.table d=some t ->t.cols.length<=1000000):
 Sat Pg ud [.c (.d (.sl (zK d))),.c (.d (.sl (zi cols))),.agg st.cs] (λr=>r=jnT d cols st.cols st.table):=by
 have T:=qT d st.table;unfold jnT;obtain⟨op,⟨eo,nm,⟨v1,v2,v3⟩,ks⟩,U,p,aa,ab,sn,tb⟩:=st;simp only at ai aq R T;subst ai;refine zE ?_;unfold Stp.cs qU;simp only;cases hf:zO tb d with
 |none=>
  rw[hf]at T;refine zM.s T8 ?_;refine Sat.w T ?_;exact⟨rfl,rfl⟩
 |some t=>
  rw[hf]at T;have R:=R t hf;obtain⟨tc,tr⟩:=t;simp only at R;unfold jnQ;refine zM.s T8 ?_;refine Sat.w T ?_;refine Sat.w (aa9 Uu _) ?_;rw[zx];refine vu T8 (zM.l 0) p.length (λi=>⟨[(1,.w (.c (.d (.sl (zi cols))))),(5,cV (.ptr 5 0)),(8,cV (.ptr 8 0)),(10,cV .nil),(46,.w (.c (.d (.sl (zm p))))),(47,zj p.length),(48,zj i)],[(5,jfb eo nm v1 v2 v3 ks U p aa ab sn tb),(8,.box [.d (.sl (zi tc)),.d (.sl (zd tr))])]⟩) (λi=>jnErr cols tc p=jnErr cols tc (p.drop i)) ?_
  ·intro i hi g;unfold jfb;refine vB (λj=>?_) (λJ=>?_)
   ·rw[zo j]at g;simp only[jnErr]at g;have hg:=y5 j;have wi:=zt j (by omega);have an:=qd cols p[i];have ao:=qd tc p[i];have ac:=xx cols p[i];have ad:=xx tc p[i];have ag:=λh=>vU (ac h).1 (ac h).2
    have ah:=λh=>vU (ad h).1 (ad h).2
    generalize p[i]=x at*;generalize ze cols x=k1 at*;generalize ze tc x=k2 at*;refine zI hg ?_;refine Sat.w an ?_;refine Sat.w ao ?_;refine zp (b:=decide (k1<0)||decide (k2<0)) (λI=>?_) (λI=>?_)
    ·rw[I]at g;have g:jnErr cols tc p=16:=g;simp only[g];exact⟨rfl,rfl⟩
    ·rw[I,cond_false]at g;rw[Bool.or_eq_false_iff]at I;have n1:=of_decide_eq_false I.1;have n2:=of_decide_eq_false I.2;have ac:=ac n1;have ad:=ad n2;have ag:=ag n1;have ah:=ah n2;generalize xz cols k1=c1 at*;generalize xz tc k2=c2 at*;obtain⟨au,aj⟩:=c1;obtain⟨av,ak⟩:=c2;simp only at g;refine zI ag ?_ (hA:=ac.1);refine zI ah ?_ (hA:=ad.1);refine zh (b:=aj !=ak) (λh3=>?_) (λh3=>?_)
     ·rw[h3]at g;have g:jnErr cols tc p=14:=g;simp only[g];exact⟨rfl,rfl⟩
     ·rw[h3,cond_false]at g;refine yt j g ?_;rw[wi];rfl
   ·rw[List.drop_eq_nil_of_le J]at g;have g:jnErr cols tc p=0:=g;simp only[g];clear g;(conv=>whnf);refine vG (P:=Pg) (f:=T8.f) (body:=(zM.l 2)) 3 ?_;refine wD ?_ (hA:=by omega) (hB:=by grind);refine⟨_,rfl,?_⟩;(conv=>whnf);refine vG (P:=Pg) (f:=T8.f) (body:=(zM.l 1)) 1 ?_;refine wD ?_ (hA:=by decide) (hB:=by show(1:Int)<((2:Nat):Int);omega);refine⟨_,rfl,?_⟩;(conv=>whnf);refine vG (P:=Pg) (f:=T8.f) (body:=(zM.l 1)) 1 ?_;(conv=>whnf);refine Sat.mono (Uy cols ae) ?_;rintro _ (⟨ar,rfl⟩|rfl)
    ·(conv=>whnf);refine azQ eo nm v1 v2 v3 ks U p aa ab sn tb cols tc ae R ⟨_,zu 20 128 2 (by omega) (by omega) rfl,?_⟩ ?_
     ·(conv=>whnf);unfold tjS;rw[zy,ar];rfl
     unfold yT tjS jfb;have al:(cols++qY p tc).length<=2000000:=by
      grind[qY]
     clear R ae T;generalize cols++qY p tc=O at*;(conv=>whnf);refine zF (P:=Pg) (f:=T8.f) (body:=(zM.l 4)) O.length (λi=>⟨[(20,cV (.own 128 2 O.length)),(130,cV (.own 128 2 O.length)),(131,zj O.length),(132,zj i)],[(128,.arr 2 (zi O) false)]⟩) (λi=>dupL [] O=dupL (O.take i) (O.drop i)) ⟨rfl,zf ?_⟩ ?_
     ·exact rfl
     ·intro i hi g;cases i with
      |zero=>
       refine zh (b:=decide ((0:Nat)<(O.length:Int))) (λh1=>?_) (λh1=>?_)
       ·have j:0<O.length:=by simp_all
        rw[zo j]at g;simp only[dupL]at g;rw[<- zA j]at g;have hg:=y7 j;have wi:=zt j (by omega);have o:=qd (O.take (0)) O[0].name;have ht:zi (O.take (0))=(zi O).take (0):=by grind[zi]
        rw[ht]at o;generalize af:dupL (O.take (0+1)) (O.drop (0+1))=rest at*;generalize O[0]=c at*;obtain⟨c1,c2⟩:=c;simp only at g o;generalize ze (O.take (0)) c1=k at*;(conv=>whnf);refine⟨by omega,by omega,?_⟩;(conv=>whnf);refine⟨_,hg,?_⟩;(conv=>whnf);refine⟨by show(0:Int)<=((0:Nat):Int);omega,by show((0:Nat):Int)<=(O.length:Int);omega,?_⟩;refine Sat.w o ?_;refine zp (b:=decide (k>=0)) (λI=>?_) (λI=>?_)
        ·rw[I]at g;have g:dupL [] O=true:=g;rw[g];exact⟨rfl,rfl⟩
        ·rw[I]at g;have g:dupL [] O=rest:=g;(conv=>whnf);refine⟨j,g,zf ?_⟩;(conv=>whnf);rw[wi];rfl
       ·have J:O.length<=0:=by grind
        rw[List.drop_eq_nil_of_le J]at g;have g:dupL [] O=false:=g;rw[g];refine zh (b:=decide ((O.length:Int)>32)) (λh5=>?_) (λh5=>?_)
        ·grind
        ·rw[h5];(conv=>whnf);refine⟨rfl,?_⟩;show Res.mk (.tup [.c (.d (.sl ((zi O).take O.length))),.c (int 0)]) []=_;rw[<- zy,List.take_length];rfl
      |succ i=>
       refine zh (b:=decide ((i+1:Nat)<(O.length:Int))) (λh1=>?_) (λh1=>?_)
       ·have j:i+1<O.length:=by have:=of_decide_eq_true h1;omega
        rw[zo j]at g;simp only[dupL]at g;rw[<- zA j]at g;have hg:=y7 j;have wi:=zt j (by omega);have o:=qd (O.take (i+1)) O[i+1].name;have ht:zi (O.take (i+1))=(zi O).take (i+1):=by grind[zi,List.map_take]
        rw[ht]at o;generalize af:dupL (O.take (i+1+1)) (O.drop (i+1+1))=rest at*;generalize O[i+1]=c at*;obtain⟨c1,c2⟩:=c;simp only at g o;generalize ze (O.take (i+1)) c1=k at*;(conv=>whnf);refine⟨by omega,by omega,?_⟩;(conv=>whnf);refine⟨_,hg,?_⟩;(conv=>whnf);refine⟨by show(0:Int)<=((i+1:Nat):Int);omega,by show((i+1:Nat):Int)<=(O.length:Int);omega,?_⟩;refine Sat.w o ?_;refine zp (b:=decide (k>=0)) (λI=>?_) (λI=>?_)
        ·rw[I]at g;have g:dupL [] O=true:=g;rw[g];exact⟨rfl,rfl⟩
        ·rw[I]at g;have g:dupL [] O=rest:=g;(conv=>whnf);refine⟨j,g,zf ?_⟩;(conv=>whnf);rw[wi];rfl
       ·have J:O.length<=i+1:=by grind
        rw[List.drop_eq_nil_of_le J]at g;have g:dupL [] O=false:=g;rw[g];refine zh (b:=decide ((O.length:Int)>32)) (λh5=>?_) (λh5=>?_)
        ·rw[h5];exact⟨rfl,rfl⟩
        ·rw[h5];(conv=>whnf);refine⟨rfl,?_⟩;show Res.mk (.tup [.c (.d (.sl ((zi O).take O.length))),.c (int 0)]) []=_;rw[<- zy,List.take_length];rfl
    ·(conv=>whnf);refine azQ eo nm v1 v2 v3 ks U p aa ab sn tb cols tc ae R ⟨_,vR 20 601664 128 2 _ _ (by omega) rfl rfl,?_⟩ ?_
     ·(conv=>whnf);unfold tjS;rw[zy,zy];rfl
     unfold yT tjS jfb;have al:(cols++qY p tc).length<=2000000:=by
      grind[qY]
     clear R ae T;generalize cols++qY p tc=O at*;(conv=>whnf);refine zF (P:=Pg) (f:=T8.f) (body:=(zM.l 4)) O.length (λi=>⟨[(20,cV (.own 128 2 O.length)),(130,cV (.own 128 2 O.length)),(131,zj O.length),(132,zj i)],[(128,.arr 2 (zi O) false)]⟩) (λi=>dupL [] O=dupL (O.take i) (O.drop i)) ⟨rfl,zf ?_⟩ ?_
     ·exact rfl
     ·intro i hi g;cases i with
      |zero=>
       refine zh (b:=decide ((0:Nat)<(O.length:Int))) (λh1=>?_) (λh1=>?_)
       ·have j:0<O.length:=by simp_all
        rw[zo j]at g;simp only[dupL]at g;rw[<- zA j]at g;have hg:=y7 j;have wi:=zt j (by omega);have o:=qd (O.take (0)) O[0].name;have ht:zi (O.take (0))=(zi O).take (0):=by grind[zi]
        rw[ht]at o;generalize af:dupL (O.take (0+1)) (O.drop (0+1))=rest at*;generalize O[0]=c at*;obtain⟨c1,c2⟩:=c;simp only at g o;generalize ze (O.take (0)) c1=k at*;(conv=>whnf);refine⟨by omega,by omega,?_⟩;(conv=>whnf);refine⟨_,hg,?_⟩;(conv=>whnf);refine⟨by show(0:Int)<=((0:Nat):Int);omega,by show((0:Nat):Int)<=(O.length:Int);omega,?_⟩;refine Sat.w o ?_;refine zp (b:=decide (k>=0)) (λI=>?_) (λI=>?_)
        ·rw[I]at g;have g:dupL [] O=true:=g;rw[g];exact⟨rfl,rfl⟩
        ·rw[I]at g;have g:dupL [] O=rest:=g;(conv=>whnf);refine⟨j,g,zf ?_⟩;(conv=>whnf);rw[wi];rfl
       ·have J:O.length<=0:=by grind
        rw[List.drop_eq_nil_of_le J]at g;have g:dupL [] O=false:=g;rw[g];refine zh (b:=decide ((O.length:Int)>32)) (λh5=>?_) (λh5=>?_)
        ·grind
        ·rw[h5];(conv=>whnf);refine⟨rfl,?_⟩;show Res.mk (.tup [.c (.d (.sl ((zi O).take O.length))),.c (int 0)]) []=_;rw[<- zy,List.take_length];rfl
      |succ i=>
       refine zh (b:=decide ((i+1:Nat)<(O.length:Int))) (λh1=>?_) (λh1=>?_)
       ·have j:i+1<O.length:=by have:=of_decide_eq_true h1;omega
        rw[zo j]at g;simp only[dupL]at g;rw[<- zA j]at g;have hg:=y7 j;have wi:=zt j (by omega);have o:=qd (O.take (i+1)) O[i+1].name;have ht:zi (O.take (i+1))=(zi O).take (i+1):=by grind[zi,List.map_take]
        rw[ht]at o;generalize af:dupL (O.take (i+1+1)) (O.drop (i+1+1))=rest at*;generalize O[i+1]=c at*;obtain⟨c1,c2⟩:=c;simp only at g o;generalize ze (O.take (i+1)) c1=k at*;(conv=>whnf);refine⟨by omega,by omega,?_⟩;(conv=>whnf);refine⟨_,hg,?_⟩;(conv=>whnf);refine⟨by show(0:Int)<=((i+1:Nat):Int);omega,by show((i+1:Nat):Int)<=(O.length:Int);omega,?_⟩;refine Sat.w o ?_;refine zp (b:=decide (k>=0)) (λI=>?_) (λI=>?_)
        ·rw[I]at g;have g:dupL [] O=true:=g;rw[g];exact⟨rfl,rfl⟩
        ·rw[I]at g;have g:dupL [] O=rest:=g;(conv=>whnf);refine⟨j,g,zf ?_⟩;(conv=>whnf);rw[wi];rfl
       ·have J:O.length<=i+1:=by grind
        rw[List.drop_eq_nil_of_le J]at g;have g:dupL [] O=false:=g;rw[g];refine zh (b:=decide ((O.length:Int)>32)) (λh5=>?_) (λh5=>?_)
        ·rw[h5];exact⟨rfl,rfl⟩
        ·rw[h5];(conv=>whnf);refine⟨rfl,?_⟩;show Res.mk (.tup [.c (.d (.sl ((zi O).take O.length))),.c (int 0)]) []=_;rw[<- zy,List.take_length];rfl
theorem Wl (a b:List Val):Sat Pg aaR [zC a,zC b] (λr=>r=rB (yO a b)):=by
 refine xF 0 (by kernel_rfl) rfl λj=>?_
 rw[zn]at j;unfold yO;refine Q0.s T8 ?_;rw[zn,zn];refine zp (λh=>?_) (λh=>?_)
 ·rw[h];rfl
 ·rw[h];have P:=axZ h;(conv=>whnf);rw[zn];refine vu T8 (Q0.l 0) a.length (λi=>⟨[(0,.w (zC a)),(1,.w (zC b)),(12,zj a.length),(13,zj i)],[]⟩) (λi=>xT yB a b=xT yB (a.drop i) (b.drop i)) ?_
  ·intro i R o;refine vB (λg=>?_) (λJ=>?_)
   ·have p:i<b.length:=by omega
    rw[zo g,zo p]at o;refine zI (ym g) ?_;refine zI (ym p) ?_;refine zh (b:=!yB a[i] b[i]) (λI=>?_) (λI=>?_)
    ·simp only[xT,I,cond_true]at o;exact congrArg rB o.symm
    ·simp only[xT,I,cond_false]at o;refine yt g o ?_;rw[zt g j];rfl
   ·rw[J6 _ J P]at o;exact congrArg rB o.symm
theorem aii (l:List Val)(v:Val):Sat Pg aaS [zC l,v.w] (λr=>r=rI (z6 (yB v) 0 l)):=by
 refine xF 0 (by kernel_rfl) rfl λo=>?_
 rw[zn]at o;obtain⟨v1,p,v3⟩:=v;refine Q3.s T8 ?_;rw[zn];refine vu T8 (Q3.l 0) l.length (λi=>⟨[(0,.w (zC l)),(3,cV (.ptr 3 0)),(7,zj l.length),(8,zj i)],[(3,.box [int v1,int p,str v3])]⟩) (λi=>z6 (yB ⟨v1,p,v3⟩) 0 l=z6 (yB ⟨v1,p,v3⟩) i (l.drop i)) ?_
 ·intro i hi j;refine vB (λg=>?_) (λJ=>?_)
  ·rw[zo g]at j;simp only[z6]at j;have P:=ym g;have R:=zt g o;generalize l[i]=x at*;obtain⟨T,U,x3⟩:=x;refine zI P ?_;refine zh (b:=yB ⟨v1,p,v3⟩ ⟨T,U,x3⟩) (λI=>?_) (λI=>?_)
   ·rw[I]at j;rw[j];exact rfl
   ·rw[I]at j;refine yt g j ?_;rw[R];rfl
  ·rw[List.drop_eq_nil_of_le J]at j;rw[j];exact rfl
theorem VM (l:List Val)(v:Val):Sat Pg J2 [zC l,v.w] (λr=>r=rB (l.any (yB v))):=by
 have h:=aii l v;have g:decide (z6 (yB v) 0 l>=0)=l.any (yB v):=Yz (yB v) l 0;rw[<- g];refine J1.s T8 ?_;refine Sat.w h ?_;rfl
theorem avF (a b:List Val):rowD a++rowD b=rowD (a++b):=by simp[rowD]
def K7:List D:=[.lit (.int .i64 0),.lit (.int .i64 0),.lit (.string ⟨#[]⟩)]
theorem ajS (n:Nat)(j:n<=1000000):zQ Pg abV [.c .nil,.c (int n)] [] (λr=>(n=0 /\r=⟨.w (.c .nil),[]⟩)\/(0<n /\r=⟨.w (.c (.own 0 3 0)),[.arr 3 (List.replicate n K7) false]⟩)):=by
 refine uG T8 abS.ok (by kernel_rfl) (by simp) ?_;have h0:IntKind.i64.wrap ((0:Int) - 0)=0:=xj (by omega) (by omega);have i:IntKind.i64.wrap ((n:Int) - IntKind.i64.wrap (0 - 0))=n:=by grind[xj]
 conv=>whnf
 rw[i];refine zp (λg=>?_) (λg=>?_)
 ·have g:=of_decide_eq_true g;refine⟨by simp[yr],by simp[yr],by simp[yr],?_⟩;refine⟨by omega,by grind[zS],by omega,?_⟩;refine wD ?_ (hA:=by simp[yr]) (hB:=by simp[yr]);exact .inr ⟨by omega,rfl⟩
 ·have g:=of_decide_eq_false g;exact .inl ⟨by omega,rfl⟩
def cvC (xs ys:List Val):W:=.c (.d (.sl [[.sl (rowD xs)],[.sl (rowD ys)]]))
def cvS (xs ys:List Val)(a b:Int):S:=⟨[(0,.w (cvC xs ys)),(3,zj a),(9,.w (cvC xs ys)),(10,zj 2),(11,zj b)],[]⟩
def cvT (xs ys:List Val)(p n:Nat)(g:List (List D))(b:Int):S:=⟨[(6,cV (.own p 3 n)),(25,.w (cvC xs ys)),(26,zj 2),(27,zj b)],[(p,.arr 3 g false)]⟩
def cvF (xs ys:List Val)(x:Nat×List (List D)):S:=match x.1 with|0=>cvT xs ys 33 0 x.2 0|1=>cvT xs ys 33 xs.length x.2 1|_=>cvT xs ys 33 (xs++ys).length x.2 2
theorem aq4 {xs ys:List Val}(I:xs.length<=100000)(J:ys.length<=100000){Q:E ->S ->Prop}{s:S}(g:List (List D))(h0:xL s [6,25,26,27] (· =cvT xs ys 33 0 g 0))
 (o:Q (.exit 2) ⟨[(6,cV (.own 33 3 (xs++ys).length)),(25,.w (cvC xs ys)),(26,zj 2),(27,zj 2),(28,yd (decide ((2:Int)<2)))],[(33,.arr 3 (rowD (xs++ys)) false)]⟩):
 yv (mwpR Pg T8.f (ua.l 1)) [6,25,26,27] Q s:=by
 have v1:IntKind.i64.wrap ((0:Int)+1)=1:=xj (by omega) (by omega);have r:IntKind.i64.wrap ((1:Int)+1)=2:=xj (by omega) (by omega);refine yQ (P:=Pg) (f:=T8.f) (body:=(ua.l 1)) (cvF xs ys) (λx=>2 - x.1) (λx=>x.1=0\/(x.1=1 /\x.2=rowD xs)\/(x.1=2 /\x.2=rowD (xs++ys))) ⟨(0,g),.inl rfl,h0⟩ ?_;rintro⟨i,g⟩ p;have j:i=0\/(i=1 /\g=rowD xs)\/(i=2 /\g=rowD (xs++ys)):=p;rcases j with rfl|⟨rfl,j⟩|⟨rfl,j⟩
 ·refine xN ?_;refine⟨Vb xs,by grind[zS,zn],by grind[zn],?_⟩;(conv=>whnf);refine⟨(1,g.take 0++rowD xs),⟨.inr (.inl ⟨rfl,by simp⟩),by grind⟩,zf ?_⟩;rw[v1,Nat.zero_add,zn];rfl
 ·refine xN ?_;refine⟨Vb ys,by grind[zS,zn],by grind[zn],?_⟩;refine⟨(2,g.take xs.length++rowD ys),⟨.inr (.inr ⟨rfl,by grind[zn,avF]⟩),by grind⟩,zf ?_⟩;rw[r,zn,<- List.length_append];rfl
 ·(conv=>whnf);subst j;exact o
theorem aga (xs ys:List Val)(g:xs.length<=100000)(j:ys.length<=100000):
 Sat Pg gF [cvC xs ys] (λr=>r=⟨.w (.c (.own 0 3 (xs++ys).length)),[.arr 3 (rowD (xs++ys)) false]⟩):=by
 refine zY T8 ua.ok (by kernel_rfl) ?_;have p:IntKind.i64.wrap ((0:Int)+((rowD xs).length:Nat))=((xs.length:Nat):Int):=by grind[zn,xj]
 have I:IntKind.i64.wrap (((xs.length:Nat):Int)+((rowD ys).length:Nat))=((xs.length+ys.length:Nat):Int):=by grind[zn,xj]
 refine vu T8 (ua.l 0) 2 (λi=>match i with|0=>cvS xs ys 0 0|1=>cvS xs ys xs.length 1|_=>cvS xs ys ((xs.length+ys.length:Nat):Int) 2) (λ_=>True) ?_
 ·intro i J _;obtain rfl|rfl|rfl:i=0\/i=1\/i=2:=by omega
  ·refine xN ?_;rw[p];refine⟨by omega,trivial,zf ?_⟩;rfl
  ·refine xN ?_;rw[I];refine⟨by omega,trivial,zf ?_⟩;rfl
  ·(conv=>whnf);refine zQ.mono (ajS (xs.length+ys.length) (by omega)) ?_;rintro r (⟨o,rfl⟩|⟨o,rfl⟩)
   ·(conv=>whnf);refine aq4 g j [] ⟨_,zu 6 33 3 (by omega) (by omega) rfl,?_⟩ ?_
    ·exact rfl
    ·exact rfl
   ·(conv=>whnf);refine aq4 g j (List.replicate (xs.length+ys.length) K7) ⟨_,vR 6 600384 33 3 0 _ (by omega) rfl rfl,?_⟩ ?_
    ·exact rfl
    ·exact rfl
theorem aqM (s:S)(p:Nat):WE s (s.withPl (vo s.pl p)):=λ_ _ ι _ _ hr=>⟨ι,hr.freeze p⟩
def oth (on:List ByteArray):Nat ->List Col ->List Int
 |_,[]=> []
 |i,c::r=>(bif !hasB on c.name then [(i:Int)]else [])++oth on (i+1) r
theorem ajG (on:List ByteArray): ∀(l:List Col) (i:Nat),∀k∈oth on i l,(i:Int)<=k /\k<i+l.length
 | [],_,k,h=>by cases h
 |c::r,i,k,h=>by
  simp only[oth,List.mem_append]at h;rcases h with h|h
  ·cases g:(!hasB on c.name)
   ·grind
   ·rw[g,cond_true,List.mem_singleton]at h;simp;omega
  ·have:=ajG on r (i+1) k h<;>grind
def jb (x:List Val)(key:List Val)(right g:List Int)(ys:List (List Val)):List (List Val):=(ys.filter λy=>yO key (pickL y right)).map λy=>x++pickL y g
def acE (left right g:List Int)(ys:List (List Val))(x:List Val):List (List Val):=bif (pickL x left).any (yB zB)then []else jb x (pickL x left) right g ys
def wH (left right g:List Int)(xs ys:List (List Val)):List (List Val):=xs.flatMap (acE left right g ys)
theorem akR (x key:List Val)(right g:List Int)(ys:List (List Val)):(jb x key right g ys).length<=ys.length:=by
 grind[jb]
theorem axx (left right g:List Int)(ys:List (List Val))(x:List Val):(acE left right g ys x).length<=ys.length:=by
 unfold acE;cases(pickL x left).any (yB zB)<;>simp_all[akR]
theorem VD (left right g:List Int)(ys:List (List Val)): ∀xs,(wH left right g xs ys).length<=xs.length*ys.length
 | []=>by simp[wH]
 |x::r=>by
  have j:=axx left right g ys x;have i:=VD left right g ys r;simp only[wH,List.flatMap_cons,List.length_append,List.length_cons]at i⊢;rw[Nat.add_mul];omega
def jnC (bc:List Col)(br:List (List Val))(left right g:List Int)(l:List (List Val))(i:Nat)(x key:List Val)(j:Nat)(out:List (List Val)):S:=
 ⟨[(4,cV (.ptr 4 0)),(8,.w (.c (.d (.sl (zw left))))),(9,.w (.c (.d (.sl (zw right))))),(10,cV (.own 41 1 g.length)),(13,cV (.own 80 1 out.length)),(15,.w (zC x)),(16,.w (zC key)),(44,.w (.c (.d (.sl (zd l))))),(45,zj l.length),(46,zj i),(57,.w (.c (.d (.sl (zd br))))),(58,zj br.length),(59,zj j)],
 [(4,.box [.d (.sl (zi bc)),.d (.sl (zd br))]),(41,.arr 1 (zw g) true),(80,.arr 1 (zd out) false)]⟩
theorem aCC {Q:E ->S ->Prop}{s:S}(bc:List Col)(br:List (List Val))(left right g:List Int)(ar:List (List Val))(i:Nat)(x key:List Val)(out:List (List Val))
 (ag:out.length+br.length<=20000) (aj:right.length<=100000) (ai:g.length<=100000) (af:x.length<=100000) (hr: ∀y∈br,yu y.length right) (ho: ∀y∈br,yu y.length g)
 (h0:xL s [4,8,9,10,13,15,16,44,45,46,57,58,59] (· =jnC bc br left right g ar i x key 0 out))
 (hQ:Q (.exit 4) (yT (jnC bc br left right g ar i x key br.length (out++jb x key right g br)) 60 (yd (decide ((br.length:Int)<br.length))))):
 yv (mwpR Pg T8.f (wS.l 1)) [4,8,9,10,13,15,16,44,45,46,57,58,59] Q s:=by
 refine zF (P:=Pg) (f:=T8.f) (body:=(wS.l 1)) br.length (λj=>jnC bc br left right g ar i x key j (out++jb x key right g (br.take j))) (λ_=>True) ⟨trivial,?_⟩ ?_
 ·grind[jb]
 ·intro j hj _;have ah:(out++jb x key right g (br.take j)).length<=out.length+j:=by
   grind[akR]
  have p: ∀h:j<br.length,out++jb x key right g (br.take (j+1))=(out++jb x key right g (br.take j))++(bif yO key (pickL br[j] right)then [x++pickL br[j] g]else []):=λh=>by
   grind[jb,vL]
  have J:j=br.length ->out++jb x key right g br=out++jb x key right g (br.take j):=λh=>by grind
  show mwpR Pg T8.f (wS.l 1) _ (jnC bc br left right g ar i x key j (out++jb x key right g (br.take j)));generalize out++jb x key right g (br.take j)=T at*;have ad:(zd T).take T.length=zd T:=by grind[zq]
  have ae:(zw g).take g.length=zw g:=by grind[y0]
  unfold jnC;refine KO (λo=>?_) (λR=>?_)
  ·have hg:=ye o;have p:=p o;have ab:=abd br[j] right (by omega) (hr _ (List.getElem_mem o));have U:=abd br[j] g (by omega) (ho _ (List.getElem_mem o));have heq:=Wl key (pickL br[j] right);have aa:=aga x (pickL br[j] g) af (by grind[pickL]);have wi:=zt o (by omega);have I:((T.length:Int)==20000)=false:=by simp;omega
   rw[<- ae]at U;generalize br[j]=y at*;generalize yO key (pickL y right)=b at*;refine zI hg ?_;refine Sat.w ab ?_;refine Sat.w heq ?_;cases b with
   |true=>
    have ac:(rowD (x++pickL y g)).take (x++pickL y g).length=rowD (x++pickL y g):=by grind[zn]
    refine zh (λr=>?_) (λr=>?_)
    ·have r:((T.length:Int)==20000)=true:=r;rw[I]at r;cases r
    ·refine Sat.w U ?_;refine Sat.w aa ?_;refine qN ?_;refine yt o trivial ?_;rw[wi,ad,ac,p,qF,List.length_append];rfl
   |false=>
    rw[cond_false,List.append_nil]at p;refine yt o trivial ?_;rw[wi,p];rfl
  ·rw[J R]at hQ;subst R;exact hQ
def jnA (ac:List Col)(j:List (List Val))(on:List ByteArray)(bc:List Col)(br:List (List Val))(left right:List Int)(i:Nat)(g:List Int):S:=
 ⟨[(2,.w (.c (.d (.sl (zm on))))),(3,cV (.ptr 3 0)),(4,cV (.ptr 4 0)),(8,.w (.c (.d (.sl (zw left))))),(9,.w (.c (.d (.sl (zw right))))),(10,cV (.own 41 1 g.length)),(26,.w (.c (.d (.sl (zi bc))))),(27,zj bc.length),(28,zj i)],
 [(3,.box [.d (.sl (zi ac)),.d (.sl (zd j))]),(4,.box [.d (.sl (zi bc)),.d (.sl (zd br))]),(41,.arr 1 (zw g) false)]⟩
def jnB (bc:List Col)(br:List (List Val))(left right g:List Int)(j:List (List Val))(i:Nat)(out:List (List Val)):S:=
 ⟨[(4,cV (.ptr 4 0)),(8,.w (.c (.d (.sl (zw left))))),(9,.w (.c (.d (.sl (zw right))))),(10,cV (.own 41 1 g.length)),(13,cV (.own 80 1 out.length)),(44,.w (.c (.d (.sl (zd j))))),(45,zj j.length),(46,zj i)],
 [(4,.box [.d (.sl (zi bc)),.d (.sl (zd br))]),(41,.arr 1 (zw g) true),(80,.arr 1 (zd out) false)]⟩
theorem afg (ac:List Col)(g:List (List Val))(bc:List Col)(br:List (List Val))(on:List ByteArray)(az:on.length<=100000)(aw:bc.length<=100000)
 (aq:g.length*br.length<=20000) (av:g.length<=1000000) (af: ∀x∈g,x.length=ac.length) (ao:ac.length<=100000) (ag: ∀y∈br,y.length=bc.length) (ax:yu ac.length (zg ac on)) (a0:yu bc.length (zg bc on)):
 Sat Pg WX [.agg [.d (.sl (zi ac)),.d (.sl (zd g))],.agg [.d (.sl (zi bc)),.d (.sl (zd br))],.c (.d (.sl (zm on)))]
  (λr=>r=⟨.tup [.c (.d (.sl (zd (wH (zg ac on) (zg bc on) (oth on 0 bc) g br)))),.c (bool true)],[]⟩):=by
 have ai:=abe ac (.sl (zd g)) on (by omega);have aj:=abe bc (.sl (zd br)) on (by omega);have ay:(zg ac on).length=on.length:=by simp[zg]
 have a1:(zg bc on).length=on.length:=by simp[zg]
 have ae:=ajG on bc 0;have aa:(oth on 0 bc).length<=bc.length:=by
  have gen: ∀(l:List Col) (i:Nat),(oth on i l).length<=l.length:=by
   intro l;induction l with
   |nil=>intro i;exact Nat.le_refl _
   |cons c r ih=>
    grind[oth]
  grind
 generalize zg ac on=left at*;generalize zg bc on=right at*;refine zE ?_;refine wS.s T8 ?_;refine Sat.w ai ?_;refine Sat.w aj ?_;rw[zy];refine yQ (P:=Pg) (f:=T8.f) (body:=(wS.l 0)) (λx:Nat×List Int=>jnA ac g on bc br left right x.1 x.2) (λx=>bc.length - x.1) (λx=>x.1<=bc.length /\x.2.length<=x.1 /\oth on 0 bc=x.2++oth on x.1 (bc.drop x.1)) ⟨(0,[]),⟨Nat.zero_le _,Nat.le_refl _,rfl⟩,⟨_,zu 10 41 1 (by omega) (by omega) rfl,?_⟩⟩ ?_
 ·exact rfl
 ·rintro⟨i,T⟩ hx;obtain⟨hi,au,p⟩:i<=bc.length /\T.length<=i /\oth on 0 bc=T++oth on i (bc.drop i):=hx;show mwpR Pg T8.f (wS.l 0) _ (jnA ac g on bc br left right i T);have al:(zw T).take T.length=zw T:=by grind[y0]
  unfold jnA;refine vB (λj=>?_) (λR=>?_)
  ·rw[zo j]at p;simp only[oth]at p;have hg:=y7 j;have wi:=zt j (by omega);have ab:=yD on bc[i].name;generalize bc[i]=c at*;obtain⟨c1,c2⟩:=c;simp only at p ab;generalize hasB on c1=b at*;refine zI hg ?_;refine Sat.w ab ?_;cases b with
   |false=>
    have p:oth on 0 bc=T++([(i:Int)]++oth on (i+1) (bc.drop (i+1))):=p;refine qN ?_;refine⟨(i+1,T++[(i:Int)]),⟨⟨j,by grind,by grind⟩,by grind⟩,zf ?_⟩;(conv=>whnf);rw[wi,al,List.length_append,<- Qt];rfl
   |true=>
    have p:oth on 0 bc=T++oth on (i+1) (bc.drop (i+1)):=p;(conv=>whnf);refine⟨(i+1,T),⟨⟨j,by grind,p⟩,by grind⟩,zf ?_⟩;(conv=>whnf);rw[wi];rfl
  ·rw[List.drop_eq_nil_of_le R]at p;have p:oth on 0 bc=T:=by rw[p];exact List.append_nil _
   rw[p]at ae aa⊢;(conv=>whnf);rw[zq];refine zF (P:=Pg) (f:=T8.f) (body:=(wS.l 2)) g.length (λk=>jnB bc br left right T g k (wH left right T (g.take k) br)) (λ_=>True) ⟨trivial,⟨_,(aqM _ 41).trans (zu 13 80 1 (by omega) (by omega) rfl),?_⟩⟩ ?_
   ·exact rfl
   ·intro k hk _;have o: ∀h:k<g.length,wH left right T (g.take (k+1)) br=wH left right T (g.take k) br++acE left right T br g[k]:=λh=>by
     grind[wH,zA]
    have ad:g.length<=k ->wH left right T g br=wH left right T (g.take k) br:=λh=>by grind
    have J:k<g.length ->(wH left right T (g.take k) br).length+br.length<=20000:=λh=>by
     have h1:=VD left right T br (g.take k);rw[List.length_take,Nat.min_eq_left (by omega)]at h1;have h2:(k+1)*br.length<=g.length*br.length:=Nat.mul_le_mul_right _ h
     grind
    have I:=λ(Q':E ->S ->Prop) (s':S) (x key:List Val)=>aCC (Q:=Q') (s:=s') bc br left right T g k x key (wH left right T (g.take k) br)
    show mwpR Pg T8.f (wS.l 2) _ (jnB bc br left right T g k (wH left right T (g.take k) br));generalize wH left right T (g.take k) br=U at*;have an:(zd U).take U.length=zd U:=by grind[zq]
    refine vB (λj=>?_) (λR=>?_)
    ·have hg:=ye j;have o:=o j;have J:=J j;have a2:=af _ (List.getElem_mem j);have wi:=zt j (by omega);have ak:=abd g[k] left (by omega) (by grind);have ah:=VM (pickL g[k] left) zB;generalize g[k]=x at*;unfold acE at o;generalize pickL x left=key at*;have I:=λQ' s'=>I Q' s' x key J (by omega) (by omega) (by omega) (λy hy=>by grind) (λy hy=>by rw[ag y hy];intro z hz;grind)
     generalize key.any (yB zB)=b at*;refine zI hg ?_;refine Sat.w ak ?_;refine Sat.w ah ?_;cases b with
     |true=>
      have o:wH left right T (g.take (k+1)) br=U:=by rw[o];exact List.append_nil _
      refine yt j trivial ?_;rw[wi,o];rfl
     |false=>
      have o:wH left right T (g.take (k+1)) br=U++jb x key right T br:=o;(conv=>whnf);refine I _ _ (zf ?_) ?_
      ·(conv=>whnf);unfold jnC;rw[zq];rfl
      refine yt j trivial ?_;rw[wi,o];rfl
    ·rw[ad R];refine vT ?_;show Res.mk (.tup [.c (.d (.sl ((zd U).take U.length))),.c (bool true)]) []=_;rw[an]
theorem adv (d:List Nmd)(cols:List Col)(st:Stp)(o:st.op=3)(hs:st.sorts.length<=1000000)(j:st.cols.length<=1000000)(i:st.aggs.length<=100000):Sat Pg yL [.c (.d (.sl (zK d))),.c (.d (.sl (zi cols))),st.w] (λr=>r=bif st.err !=0 then WB st.err else JD cols st.cols st.aggs):=by
 have T:=vI st hs;have R:=adu cols st j i;have g: ∃e l,JD cols st.cols st.aggs=⟨.tup [.c (.d (.sl (zi l))),.c (int e)],[]⟩:=by
  unfold JD;cases takeErr cols st.cols
  ·cases(z7 cols st.aggs).1 !=0
   ·exact⟨_,_,rfl⟩
   ·exact⟨_,[],rfl⟩
  ·exact⟨_,[],rfl⟩
 generalize st.err=e at*;refine zE ?_;obtain⟨op,⟨eo,nm,⟨vk,vn,vs⟩,ks⟩,p,U,I,J,sn,tb⟩:=st;subst o;cases P:(e !=0)with
 |true=>
  refine yW.s T8 ?_;refine Sat.w T ?_;rw[P];exact⟨rfl,rfl⟩
 |false=>
  refine yW.s T8 ?_;refine Sat.w T ?_;rw[P];obtain⟨e2,l2,g⟩:=g;rw[g]at R⊢;refine Sat.w R ?_;exact⟨rfl,rfl⟩
theorem aps (d:List Nmd)(cols:List Col)(st:Stp)(i:st.op=5)(hs:st.sorts.length<=1000000)(g:cols.length<=1000000):Sat Pg yL [.c (.d (.sl (zK d))),.c (.d (.sl (zi cols))),st.w] (λr=>r=bif st.err !=0 then WB st.err else rCs cols):=by
 have I:=vI st hs;have hC:=wQ cols g;generalize st.err=e at*;refine zE ?_;obtain⟨op,⟨P,T,⟨vk,vn,vs⟩,R⟩,j,J,l,o,U,tb⟩:=st;subst i;cases p:(e !=0)with
 |true=>
  refine yW.s T8 ?_;refine Sat.w I ?_;rw[p];exact⟨rfl,rfl⟩
 |false=>
  refine yW.s T8 ?_;refine Sat.w I ?_;rw[p];refine Sat.w hC ?_;exact⟨rfl,rfl⟩
theorem aqJ (d:List Nmd)(cols:List Col)(st:Stp)(i:st.op=6)(hs:st.sorts.length<=1000000)(o:st.cols.length<=1000000)(j:cols.length<=1000000)(p: ∀t,zO st.table d=some t ->t.cols.length<=1000000):Sat Pg yL [.c (.d (.sl (zK d))),.c (.d (.sl (zi cols))),st.w] (λr=>r=bif st.err !=0 then WB st.err else jnT d cols st.cols st.table):=by
 have U:=vI st hs;have T:=afi d cols st i o j p;have g: ∃e l,jnT d cols st.cols st.table=⟨.tup [.c (.d (.sl (zi l))),.c (int e)],[]⟩:=by
  unfold jnT;cases zO st.table d with
  |none=>exact⟨_,[],rfl⟩
  |some t=>
   unfold jnQ;simp only;cases(jnErr cols t.cols st.cols !=0)
   ·cases dupL [] (cols++qY st.cols t.cols)
    ·cases decide (((cols++qY st.cols t.cols).length:Int)>32)
     ·exact⟨_,_,rfl⟩
     ·exact⟨_,[],rfl⟩
    ·exact⟨_,[],rfl⟩
   ·exact⟨_,[],rfl⟩
 generalize st.err=e at*;refine zE ?_;obtain⟨op,⟨eo,nm,⟨vk,vn,vs⟩,ks⟩,I,aa,J,P,sn,tb⟩:=st;subst i;cases R:(e !=0)with
 |true=>
  refine yW.s T8 ?_;refine Sat.w U ?_;rw[R];exact⟨rfl,rfl⟩
 |false=>
  refine yW.s T8 ?_;refine Sat.w U ?_;rw[R];obtain⟨e2,l2,g⟩:=g;rw[g]at T⊢;refine Sat.w T ?_;exact⟨rfl,rfl⟩
theorem asX (a b:Int):yH false a b=min a b:=by
 show(if b<a then b else a)=_;omega
def rRT (l:List (List Val)):Res:=⟨.tup [.c (.d (.sl (zd l))),.c (bool true)],[]⟩
theorem Vi (d:List Nmd)(t:Tbl)(st:Stp)(g:st.op=3)(gs:List Gr)(o:Sat Pg Kx [.agg [.d (.sl (zi t.cols)),.d (.sl (zd t.rows))],.agg st.cs] (λr=>r=rC (.d (.sl (zd (gs.map (xP t.cols st.aggs))))))):Sat Pg vW [.c (.d (.sl (zK d))),t.w,.agg st.cs] (λr=>r=rRT (gs.map (xP t.cols st.aggs))):=by
 refine zE ?_;obtain⟨op,⟨I,P,⟨U,vn,vs⟩,J⟩,i,p,j,l,R,T⟩:=st;subst g;refine qq.s T8 ?_;refine Sat.w o ?_;exact⟨rfl,rfl⟩
theorem aj4 (d:List Nmd)(t:Tbl)(st:Stp)(j:st.op=5)(T:0<=st.n):Sat Pg vW [.c (.d (.sl (zK d))),t.w,.agg st.cs] (λr=>r=rRT (t.rows.take (yH false st.n t.rows.length).toNat)):=by
 refine zE ?_;obtain⟨tc,g⟩:=t;obtain⟨op,⟨P,nm,⟨vk,vn,vs⟩,U⟩,o,J,p,I,i,tb⟩:=st;simp only at*;subst j;refine qq.s T8 ?_;rw[zq];have R:=asX i g.length;have l:zd (g.take (yH false i g.length).toNat)=((zd g).drop 0).take ((yH false i g.length).toNat - 0):=by grind[zd,List.map_take]
 refine wD ?_ (hA:=by show(0:Int)<=yH false i g.length;omega) (hB:=by show yH false i g.length<=(g.length:Int);omega);exact⟨rfl,by unfold rRT;rw[l];rfl⟩
theorem abP (d:List Nmd)(t:Tbl)(st:Stp)(g:st.op=6)(b:Tbl)(p:zO st.table d=some b)(R:List (List Val))(I:Sat Pg WX [.agg [.d (.sl (zi t.cols)),.d (.sl (zd t.rows))],.agg [.d (.sl (zi b.cols)),.d (.sl (zd b.rows))],.c (.d (.sl (zm st.cols)))] (λr=>r=rRT R)):Sat Pg vW [.c (.d (.sl (zK d))),t.w,.agg st.cs] (λr=>r=rRT (R)):=by
 have o:=qT d st.table;rw[p]at o;refine zE ?_;obtain⟨op,⟨P,U,⟨vk,vn,vs⟩,T⟩,i,J,j,l,sn,tb⟩:=st;subst g;refine qq.s T8 ?_;refine Sat.w o ?_;refine Sat.w I ?_;exact⟨rfl,rfl⟩
theorem aae (d:List Nmd)(t:Tbl)(st:Stp)(g:List Col)(R:List (List Val))(j:st.op=3)(hl:R.length<=20000)(I:Sat Pg vW [.c (.d (.sl (zK d))),t.w,.agg st.cs] (λr=>r=rRT R)):
 Sat Pg ve [.c (.d (.sl (zK d))),t.w,.agg st.cs,.c (.d (.sl (zi g)))] (λr=>r=qb ⟨g,R⟩ 0):=by
 have J:=qT d st.table;obtain⟨op,⟨U,nm,⟨vk,vn,vs⟩,ks⟩,l,P,o,p,sn,T⟩:=st;subst j;have i:decide (((zd R).length:Int)>20000)=false:=decide_eq_false (by grind[zq]);generalize zO T d=f at*;cases f with
 |none=>
  refine qr.s T8 ?_;refine Sat.w J ?_;refine Sat.w I ?_;rw[i];exact rfl
 |some ft=>
  refine qr.s T8 ?_;refine Sat.w J ?_;refine Sat.w I ?_;rw[i];exact rfl
theorem amG (d:List Nmd)(t:Tbl)(st:Stp)(g:List Col)(R:List (List Val))(j:st.op=6)(hl:R.length<=20000)(I:Sat Pg vW [.c (.d (.sl (zK d))),t.w,.agg st.cs] (λr=>r=rRT R)):
 Sat Pg ve [.c (.d (.sl (zK d))),t.w,.agg st.cs,.c (.d (.sl (zi g)))] (λr=>r=qb ⟨g,R⟩ 0):=by
 have J:=qT d st.table;obtain⟨op,⟨U,nm,⟨vk,vn,vs⟩,ks⟩,l,P,o,p,sn,T⟩:=st;subst j;have i:decide (((zd R).length:Int)>20000)=false:=decide_eq_false (by grind[zq]);generalize zO T d=f at*;cases f with
 |none=>
  refine qr.s T8 ?_;refine Sat.w J ?_;refine Sat.w I ?_;rw[i];exact rfl
 |some ft=>
  refine qr.s T8 ?_;refine Sat.w J ?_;refine Sat.w I ?_;rw[i];exact rfl
theorem Vu (d:List Nmd)(t:Tbl)(st:Stp)(g:List Col)(R:Tbl)(p:xp d=0)(I:zJ t=0)(P:Sat Pg yL [.c (.d (.sl (zK d))),.c (.d (.sl (zi t.cols))),st.w] (λr=>r=rCs g))
 (J:Sat Pg ve [.c (.d (.sl (zK d))),t.w,.agg st.cs,.c (.d (.sl (zi g)))] (λr=>r=qb R 0)):
 Sat Pg uT [.c (.d (.sl (zK d))),t.w,st.w] (λr=>r=qb R 0):=by
 have o:=uY d;have hk:=wB t;rw[p]at o;rw[I]at hk;obtain⟨op,⟨U,nm,⟨vk,vn,vs⟩,ks⟩,i,T,j,l,sn,tb⟩:=st;refine QS.s T8 ?_;refine Sat.w o ?_;refine Sat.w hk ?_;refine Sat.w P ?_;refine Sat.w J ?_;rfl
theorem apb (d:List Nmd)(t:Tbl)(st:Stp)(e:Int)(p:xp d=0)(I:zJ t=0)(o:e≠0)(J:Sat Pg yL [.c (.d (.sl (zK d))),.c (.d (.sl (zi t.cols))),st.w] (λr=>r=WB e)):
 Sat Pg uT [.c (.d (.sl (zK d))),t.w,st.w] (λr=>r=rNT e):=by
 have l:=uY d;have hk:=wB t;rw[p]at l;rw[I]at hk;have o:(e !=0)=true:=by grind
 obtain⟨op,⟨R,U,⟨vk,vn,vs⟩,T⟩,g,P,i,j,sn,tb⟩:=st;refine QS.s T8 ?_;refine Sat.w l ?_;refine Sat.w hk ?_;refine Sat.w J ?_;rw[o];exact rfl
theorem j7 {s:S}(d:Nat)(c:C)(x:D)(j:List (Nat×Pl))(h:aget s.sl d=some (cV c))(I:WD s.pl c=some (x,j)):WE s ((s.withPl j).put (some d) (cV (.d x))):=by
 intro F N ι a w hr;obtain⟨y,l,o⟩:=hr.slots d _ h;obtain⟨i,r,p⟩:=adD hr (c:=c) (v:=y) o I;refine⟨ι,{i with slots:=λk v g=>?_}⟩;have g:aget (yZ d (cV (.d x)) s.sl) k=some v:=g;rw[yJ]at g;by_cases e:d=k
 ·rw[if_pos e]at g;cases g;subst e;exact⟨y,l,p⟩
 ·rw[if_neg e]at g;exact i.slots k v g
def qo:ACode ->ACode
 | .seq _ b=>b
 |x=>x
def sFrom:ByteArray:=⟨#[102,114,111,109]⟩
def sTo:ByteArray:=⟨#[116,111]⟩
theorem abb (g:FuncId)(cap:List D)(p:ByteArray ->Bool)(U: ∀x:ByteArray,Sat Pg g [.c (str x),.c (.fp cap)] (λr=>r=rB (p x)))(l:List ByteArray)(R:l.length<=1000000):
 Sat Pg Ym [.c (.d (.sl (zm l))),.c (.d (.fn g [cap]))] (λr=>r=rI (z6 p 0 l)):=by
 refine zY T8 wX.ok (by kernel_rfl) ?_
 refine zF (P:=Pg) (f:=T8.f) (body:=(wX.l 0)) l.length (λi=>⟨[(0,.w (.c (.d (.sl (zm l))))),(1,.w (.c (.d (.fn g [cap])))),(7,zj (zm l).length),(8,zj i)],[]⟩)
  (λi=>z6 p 0 l=z6 p i (l.drop i)) ⟨rfl,zf ?_⟩ ?_
 ·exact rfl
 ·intro i hi o;refine zh (λT=>?_) (λT=>?_)
  ·have j:i<l.length:=by simp_all[zx]
   refine⟨by omega,_,y5 j,rfl,?_⟩;refine Sat.cal (U l[i]) ?_;rw[zo j]at o;refine zh (λI=>?_) (λI=>?_)
   ·simp only[z6,I,cond_true]at o;exact congrArg rI o.symm
   ·simp only[z6,I,cond_false]at o;refine yt j o ?_;rw[zt j (by omega)];rfl
  ·have J:l.length<=i:=by grind[zx]
   rw[List.drop_eq_nil_of_le J]at o;exact congrArg rI o.symm
theorem Xj (g:FuncId)(cap:List D)(p:ByteArray ->Bool)(j: ∀x:ByteArray,Sat Pg g [.c (str x),.c (.fp cap)] (λr=>r=rB (p x)))(l:List ByteArray)(i:l.length<=1000000):
 Sat Pg Zv [.c (.d (.sl (zm l))),.c (.d (.fn g [cap]))] (λr=>r=rB (l.any p)):=by
 refine Zn.s T8 ?_;refine Sat.w (abb g cap p j l i) ?_;exact congrArg rB (Yz _ l 0)
theorem adl (x:ByteArray)(i j l o p I J P:D)(g:List ByteArray)(rest:List D):Sat Pg Uu [.c (str x),.c (.fp (i::j::l::o::p::I::J::P:: .sl (zm g)::rest))] (λr=>r=rB (hasB g x)):=by
 refine aes.s T8 ?_;refine Sat.w (yD g x) ?_;rfl
def colInt (cols:List Col)(s:ByteArray):Int:=bif decide (ze cols s<0)then 16 else bif (xz cols (ze cols s)).t !=2 then 14 else 0
theorem Vv (cols:List Col)(s:ByteArray):Sat Pg afW [.c (.d (.sl (zi cols))),.c (str s)] (λr=>r=rI (colInt cols s)):=by
 have p:=qd cols s;have i:=xx cols s;have l:=λh=>vU (i h).1 (i h).2
 unfold colInt;generalize ze cols s=k at*;refine afF.s T8 ?_;refine Sat.w p ?_;refine zp (b:=decide (k<0)) (λg=>?_) (λg=>?_)
 ·rw[g];exact rfl
 ·rw[g];have l:=l (of_decide_eq_false g);have i:=i (of_decide_eq_false g);generalize xz cols k=c at*;obtain⟨I,o⟩:=c;refine zI l ?_ (hA:=i.1);refine zh (b:=o !=2) (λj=>?_) (λj=>?_)
  ·simp only[j];exact rfl
  ·simp only[j];exact rfl
def intErr (cols:List Col):List ByteArray ->Int
 | []=>0
 |s::r=>bif colInt cols s !=0 then colInt cols s else intErr cols r
def keepS (g cs:List ByteArray)(l:List Col):List Col:=l.filter λc=>!hasB cs c.name&& !hasB g c.name
def asP (i:List ByteArray)(cols g:List Col)(cs:List ByteArray):Res:=
 bif jnErr cols g cs !=0 then WB (jnErr cols g cs)else bif intErr cols i !=0 then WB (intErr cols i)else bif intErr g i !=0 then WB (intErr g i)else
 bif dupL [] (cols++keepS i cs g)then WB 4 else bif decide (((cols++keepS i cs g).length:Int)>32)then WB 7 else rCs (cols++keepS i cs g)
def asO (i:List ByteArray)(cols g:List Col)(cs:List ByteArray):Res:=bif i.any (hasB cs)then WB 4 else asP i cols g cs
def aji (g:List ByteArray)(d:List Nmd)(cols:List Col)(cs:List ByteArray)(i:ByteArray):Res:=match zO i d with
 |none=>WB 17
 |some t=>asO g cols t.cols cs
def V9 (op:Int)(o:Int)(r:ByteArray)(v1 P:Int)(v3:ByteArray)(p:List Ex)(g:List Itm)(l:List ByteArray)(i:List Agg)(j:List Srt)(I:Int)(J:ByteArray):Pl:=
 .fbox [.lit (.int .i64 op),.lit (.int .i64 o),.lit (.string r),.lit (.int .i64 v1),.lit (.int .i64 P),.lit (.string v3),.sl (exsD p),.sl (yC g),.sl (zm l),.sl (xX i),.sl (yN j),.lit (.int .i64 I),.lit (.string J)]
def abj (op:Int)(R:List ByteArray)(r:Int)(J:ByteArray)(v1 U:Int)(v3:ByteArray)(I:List Ex)(g:List Itm)(p:List ByteArray)(j:List Agg)(l:List Srt)(P:Int)(T:ByteArray)(tc:List Col)(i:Nat)(o:List Col):S:=
 ⟨[(5,cV (.ptr 5 0)),(10,.w (.c (.d (.sl (zm R))))),(20,cV (.own 128 2 o.length)),(106,.w (.c (.d (.sl (zi tc))))),(107,zj tc.length),(108,zj i)],[(5,V9 op r J v1 U v3 I g p j l P T),(128,.arr 2 (zi o) false)]⟩
theorem awd {Q:E ->S ->Prop}{s:S}(op:Int)(I:List ByteArray)(eo:Int)(nm:ByteArray)(v1 v2:Int)(v3:ByteArray)(ks:List Ex)(o:List Itm)(g:List ByteArray)(p:List Agg)(r:List Srt)(sn:Int)(tb:ByteArray)(cols tc:List Col)(ae:cols.length<=1000000)(af:tc.length<=1000000)
 (h0:xL s [5,10,20,106,107,108] (· =abj op I eo nm v1 v2 v3 ks o g p r sn tb tc 0 cols))
 (hQ:Q (.exit 8) (yT (abj op I eo nm v1 v2 v3 ks o g p r sn tb tc tc.length (cols++keepS I g tc)) 109 (yd (decide ((tc.length:Int)<tc.length))))):
 yv (mwpR Pg T8.f (zM.l 3)) [5,10,20,106,107,108] Q s:=by
 refine zF (P:=Pg) (f:=T8.f) (body:=(zM.l 3)) tc.length (λi=>abj op I eo nm v1 v2 v3 ks o g p r sn tb tc i (cols++keepS I g (tc.take i))) (λ_=>True) ⟨trivial,?_⟩ ?_
 ·grind[keepS]
 ·intro i hi _;have ad:(cols++keepS I g (tc.take i)).length<=1000000+i:=by
   grind[keepS]
  have j: ∀h:i<tc.length,cols++keepS I g (tc.take (i+1))=(cols++keepS I g (tc.take i))++(bif !hasB g tc[i].name&& !hasB I tc[i].name then [tc[i]]else []):=λh=>by
   grind[keepS,vL]
  have R:i=tc.length ->cols++keepS I g tc=cols++keepS I g (tc.take i):=λh=>by grind
  show mwpR Pg T8.f (zM.l 3) _ (abj op I eo nm v1 v2 v3 ks o g p r sn tb tc i (cols++keepS I g (tc.take i)));generalize cols++keepS I g (tc.take i)=T at*;have ac:(zi T).take T.length=zi T:=by grind[zy]
  unfold abj V9;refine KO (λJ=>?_) (λU=>?_)
  ·have hg:=y7 J;have j:=j J;have ab:=yD g tc[i].name;have aa:=yD I tc[i].name;have wi:=zt J (by omega);generalize tc[i]=c at*;obtain⟨c1,c2⟩:=c;simp only at j ab aa;generalize hasB g c1=b at*;generalize hasB I c1=b2 at*;refine zI hg ?_;refine Sat.w ab ?_;refine zp (b:=!b) (λh2=>?_) (λh2=>?_)
   ·rw[h2,Bool.true_and]at j;refine Sat.w aa ?_;refine zp (b:=!b2) (λh3=>?_) (λh3=>?_)
    ·rw[h3,cond_true]at j;refine qN ?_;refine yt J trivial ?_;rw[wi,ac,j,List.length_append];simp only[zi,List.map_append];rfl
    ·rw[h3,cond_false,List.append_nil]at j;refine yt J trivial ?_;rw[wi,j];rfl
   ·rw[h2,Bool.false_and,cond_false,List.append_nil]at j;refine yt J trivial ?_;rw[wi,j];rfl
  ·rw[R U]at hQ;subst U;exact hQ
noncomputable def tjRest:ACode:=qo (qo (qo (qo (qo (qo (qo zM.A.code))))))
def aCd (op:Int)(P:List ByteArray)(p:Int)(I:ByteArray)(v1 U:Int)(v3:ByteArray)(r:List Ex)(g:List Itm)(o:List ByteArray)(j:List Agg)(l:List Srt)(J:Int)(R:ByteArray)(cols tc:List Col)(T:List (List Val))(i:Nat):S:=
 ⟨[(1,.w (.c (.d (.sl (zi cols))))),(5,cV (.ptr 5 0)),(8,cV (.ptr 8 0)),(10,.w (.c (.d (.sl (zm P))))),(83,.w (.c (.d (.sl [[.sl (zi cols)],[.sl (zi tc)]])))),(84,zj 2),(85,zj i)],[(5,V9 op p I v1 U v3 r g o j l J R),(8,.box [.d (.sl (zi tc)),.d (.sl (zd T))])]⟩
def atM (op:Int)(I:List ByteArray)(J:Int)(R:ByteArray)(v1 v2:Int)(v3:ByteArray)(P:List Ex)(g:List Itm)(r:List ByteArray)(l:List Agg)(o:List Srt)(T:Int)(U:ByteArray)(cols tc:List Col)(tr:List (List Val))(p:List Col)(i j:Nat):S:=
 ⟨[(1,.w (.c (.d (.sl (zi cols))))),(5,cV (.ptr 5 0)),(8,cV (.ptr 8 0)),(10,.w (.c (.d (.sl (zm I))))),(16,.w (.c (.d (.sl (zi p))))),(83,.w (.c (.d (.sl [[.sl (zi cols)],[.sl (zi tc)]])))),(84,zj 2),(85,zj i),(89,.w (.c (.d (.sl (zm I))))),(90,zj I.length),(91,zj j)],[(5,V9 op J R v1 v2 v3 P g r l o T U),(8,.box [.d (.sl (zi tc)),.d (.sl (zd tr))])]⟩
theorem arL {s:S}(op:Int)(I:List ByteArray)(ax:I.length<=1000)(eo:Int)(nm:ByteArray)(v1 v2:Int)(v3:ByteArray)(ks:List Ex)(R:List Itm)(p:List ByteArray)(T:List Agg)(U:List Srt)(sn:Int)(tb:ByteArray)(cols tc:List Col)(tr:List (List Val))(aw:p.length<=1000000)(ae:cols.length<=1000000)(ag:tc.length<=1000000)
 (h0:xL s [1,5,8,10,46,47,48] (· =⟨[(1,.w (.c (.d (.sl (zi cols))))),(5,cV (.ptr 5 0)),(8,cV (.ptr 8 0)),(10,.w (.c (.d (.sl (zm I))))),(46,.w (.c (.d (.sl (zm p))))),(47,zj p.length),(48,zj (0:Nat))],[(5,V9 op eo nm v1 v2 v3 ks R p T U sn tb),(8,.box [.d (.sl (zi tc)),.d (.sl (zd tr))])]⟩)):
 yv (mwpR Pg T8.f (zM.l 0)) [1,5,8,10,46,47,48] (Xx 1 (kG (mwpR Pg T8.f tjRest) (V6 zM.A.res [] (DQ (asP I cols tc p))))) s:=by
 unfold asP;refine zF (P:=Pg) (f:=T8.f) (body:=(zM.l 0)) p.length (λi=>⟨[(1,.w (.c (.d (.sl (zi cols))))),(5,cV (.ptr 5 0)),(8,cV (.ptr 8 0)),(10,.w (.c (.d (.sl (zm I))))),(46,.w (.c (.d (.sl (zm p))))),(47,zj p.length),(48,zj i)],[(5,V9 op eo nm v1 v2 v3 ks R p T U sn tb),(8,.box [.d (.sl (zi tc)),.d (.sl (zd tr))])]⟩) (λi=>jnErr cols tc p=jnErr cols tc (p.drop i)) ⟨rfl,h0⟩ ?_
 ·intro i hi g;unfold V9;refine vB (λo=>?_) (λaa=>?_)
  ·rw[zo o]at g;simp only[jnErr]at g;have hg:=y5 o;have wi:=zt o (by omega);have ao:=qd cols p[i];have aq:=qd tc p[i];have ac:=xx cols p[i];have ad:=xx tc p[i];have ai:=λh=>vU (ac h).1 (ac h).2
   have aj:=λh=>vU (ad h).1 (ad h).2
   generalize p[i]=x at*;generalize ze cols x=k1 at*;generalize ze tc x=k2 at*;refine zI hg ?_;refine Sat.w ao ?_;refine Sat.w aq ?_;refine zp (b:=decide (k1<0)||decide (k2<0)) (λJ=>?_) (λJ=>?_)
   ·rw[J]at g;have g:jnErr cols tc p=16:=g;simp only[g];exact⟨rfl,rfl⟩
   ·rw[J,cond_false]at g;rw[Bool.or_eq_false_iff]at J;have n1:=of_decide_eq_false J.1;have n2:=of_decide_eq_false J.2;have ac:=ac n1;have ad:=ad n2;have ai:=ai n1;have aj:=aj n2;generalize xz cols k1=c1 at*;generalize xz tc k2=c2 at*;obtain⟨au,ak⟩:=c1;obtain⟨av,al⟩:=c2;simp only at g;refine zI ai ?_ (hA:=ac.1);refine zI aj ?_ (hA:=ad.1);refine zh (b:=ak !=al) (λh3=>?_) (λh3=>?_)
    ·rw[h3]at g;have g:jnErr cols tc p=14:=g;simp only[g];exact⟨rfl,rfl⟩
    ·rw[h3,cond_false]at g;refine yt o g ?_;rw[wi];rfl
  ·rw[List.drop_eq_nil_of_le aa]at g;have g:jnErr cols tc p=0:=g;simp only[g];clear g;(conv=>whnf);refine zF (P:=Pg) (f:=T8.f) (body:=(zM.l 2)) 2 (λi=>aCd op I eo nm v1 v2 v3 ks R p T U sn tb cols tc tr i) (λi=>(1<=i ->intErr cols I=0)/\(2<=i ->intErr tc I=0)) ⟨⟨λh=>by omega,λh=>by omega⟩,⟨_,j7 83 _ _ _ rfl rfl,?_⟩⟩ ?_
   ·exact rfl
   intro i hi g;obtain⟨ab,af⟩:(1<=i ->intErr cols I=0)/\(2<=i ->intErr tc I=0):=g;unfold aCd V9
   match i,hi with
   |0,_=>
    (conv=>whnf);refine⟨by decide,_,rfl,rfl,?_⟩;(conv=>whnf);rw[zx];refine zF (P:=Pg) (f:=T8.f) (body:=(zM.l 1)) I.length (λj=>atM op I eo nm v1 v2 v3 ks R p T U sn tb cols tc tr cols 0 j) (λj=>intErr cols I=intErr cols (I.drop j)) ⟨rfl,zf ?_⟩ ?_
    ·exact rfl
    ·intro j hj g;have g:intErr cols I=intErr cols (I.drop j):=g;unfold atM V9;refine zh (λh1=>?_) (λh1=>?_)
     ·have o:j<I.length:=by simp_all
      rw[zo o]at g;simp only[intErr]at g;have hg:=y5 o;have wj:=zt o (by omega);have hint:=Vv cols I[j];generalize I[j]=x at*;generalize colInt cols x=c at*;(conv=>whnf);refine⟨by omega,_,hg,rfl,?_⟩;refine Sat.w hint ?_;refine zp (b:=c !=0) (λJ=>?_) (λJ=>?_)
      ·rw[J,cond_true]at g;simp only[g,J];exact⟨rfl,rfl⟩
      ·rw[J,cond_false]at g;(conv=>whnf);refine⟨o,g,zf ?_⟩;(conv=>whnf);rw[wj];rfl
     ·have aa:I.length<=j:=by grind
      rw[List.drop_eq_nil_of_le aa]at g;have g:intErr cols I=0:=g;(conv=>whnf);refine⟨by decide,?_,zf ?_⟩
      ·grind
      exact rfl
   |1,_=>
    have ab:=ab (Nat.le_refl _);(conv=>whnf);refine⟨by decide,_,rfl,rfl,?_⟩;(conv=>whnf);rw[zx];refine zF (P:=Pg) (f:=T8.f) (body:=(zM.l 1)) I.length (λj=>atM op I eo nm v1 v2 v3 ks R p T U sn tb cols tc tr tc 1 j) (λj=>intErr tc I=intErr tc (I.drop j)) ⟨rfl,zf ?_⟩ ?_
    ·exact rfl
    ·intro j hj g;have g:intErr tc I=intErr tc (I.drop j):=g;unfold atM V9;refine zh (λh1=>?_) (λh1=>?_)
     ·have o:j<I.length:=by simp_all
      rw[zo o]at g;simp only[intErr]at g;have hg:=y5 o;have wj:=zt o (by omega);have hint:=Vv tc I[j];generalize I[j]=x at*;generalize colInt tc x=c at*;(conv=>whnf);refine⟨by omega,_,hg,rfl,?_⟩;refine Sat.w hint ?_;refine zp (b:=c !=0) (λJ=>?_) (λJ=>?_)
      ·rw[J,cond_true]at g;simp only[ab,g,J];exact⟨rfl,rfl⟩
      ·rw[J,cond_false]at g;(conv=>whnf);refine⟨o,g,zf ?_⟩;(conv=>whnf);rw[wj];rfl
     ·have aa:I.length<=j:=by grind
      rw[List.drop_eq_nil_of_le aa]at g;have g:intErr tc I=0:=g;(conv=>whnf);refine⟨by decide,?_,zf ?_⟩
      ·grind
      exact rfl
   |2,_=>
    have ab:=ab (by omega);have af:=af (by omega);rw[ab,af];clear ab af;(conv=>whnf);refine Sat.mono (Uy cols ae) ?_;rintro _ (⟨ar,rfl⟩|rfl)
    ·(conv=>whnf);refine awd op I eo nm v1 v2 v3 ks R p T U sn tb cols tc ae ag ⟨_,zu 20 128 2 (by omega) (by omega) rfl,?_⟩ ?_
     ·(conv=>whnf);unfold abj;rw[zy,ar];rfl
     unfold yT abj V9;have an:(cols++keepS I p tc).length<=2000000:=by
      grind[keepS]
     clear ag ae;generalize cols++keepS I p tc=O at*;(conv=>whnf);refine zF (P:=Pg) (f:=T8.f) (body:=(zM.l 4)) O.length (λi=>⟨[(20,cV (.own 128 2 O.length)),(130,cV (.own 128 2 O.length)),(131,zj O.length),(132,zj i)],[(128,.arr 2 (zi O) false)]⟩) (λi=>dupL [] O=dupL (O.take i) (O.drop i)) ⟨rfl,zf ?_⟩ ?_
     ·exact rfl
     ·intro i hi g;cases i with
      |zero=>
       refine zh (b:=decide ((0:Nat)<(O.length:Int))) (λh1=>?_) (λh1=>?_)
       ·have o:0<O.length:=by simp_all
        rw[zo o]at g;simp only[dupL]at g;rw[<- zA o]at g;have hg:=y7 o;have wi:=zt o (by omega);have r:=qd (O.take (0)) O[0].name;have ht:zi (O.take (0))=(zi O).take (0):=by grind[zi]
        rw[ht]at r;generalize ah:dupL (O.take (0+1)) (O.drop (0+1))=rest at*;generalize O[0]=c at*;obtain⟨c1,c2⟩:=c;simp only at g r;generalize ze (O.take (0)) c1=k at*;(conv=>whnf);refine⟨by omega,by omega,?_⟩;(conv=>whnf);refine⟨_,hg,?_⟩;(conv=>whnf);refine⟨by show(0:Int)<=((0:Nat):Int);omega,by show((0:Nat):Int)<=(O.length:Int);omega,?_⟩;refine Sat.w r ?_;refine zp (b:=decide (k>=0)) (λJ=>?_) (λJ=>?_)
        ·rw[J]at g;have g:dupL [] O=true:=g;rw[g];exact⟨rfl,rfl⟩
        ·rw[J]at g;have g:dupL [] O=rest:=g;(conv=>whnf);refine⟨o,g,zf ?_⟩;(conv=>whnf);rw[wi];rfl
       ·have aa:O.length<=0:=by grind
        rw[List.drop_eq_nil_of_le aa]at g;have g:dupL [] O=false:=g;rw[g];refine zh (b:=decide ((O.length:Int)>32)) (λh5=>?_) (λh5=>?_)
        ·grind
        ·rw[h5];(conv=>whnf);refine⟨rfl,?_⟩;show Res.mk (.tup [.c (.d (.sl ((zi O).take O.length))),.c (int 0)]) []=_;rw[<- zy,List.take_length];rfl
      |succ i=>
       refine zh (b:=decide ((i+1:Nat)<(O.length:Int))) (λh1=>?_) (λh1=>?_)
       ·have o:i+1<O.length:=by have:=of_decide_eq_true h1;omega
        rw[zo o]at g;simp only[dupL]at g;rw[<- zA o]at g;have hg:=y7 o;have wi:=zt o (by omega);have r:=qd (O.take (i+1)) O[i+1].name;have ht:zi (O.take (i+1))=(zi O).take (i+1):=by grind[zi,List.map_take]
        rw[ht]at r;generalize ah:dupL (O.take (i+1+1)) (O.drop (i+1+1))=rest at*;generalize O[i+1]=c at*;obtain⟨c1,c2⟩:=c;simp only at g r;generalize ze (O.take (i+1)) c1=k at*;(conv=>whnf);refine⟨by omega,by omega,?_⟩;(conv=>whnf);refine⟨_,hg,?_⟩;(conv=>whnf);refine⟨by show(0:Int)<=((i+1:Nat):Int);omega,by show((i+1:Nat):Int)<=(O.length:Int);omega,?_⟩;refine Sat.w r ?_;refine zp (b:=decide (k>=0)) (λJ=>?_) (λJ=>?_)
        ·rw[J]at g;have g:dupL [] O=true:=g;rw[g];exact⟨rfl,rfl⟩
        ·rw[J]at g;have g:dupL [] O=rest:=g;(conv=>whnf);refine⟨o,g,zf ?_⟩;(conv=>whnf);rw[wi];rfl
       ·have aa:O.length<=i+1:=by grind
        rw[List.drop_eq_nil_of_le aa]at g;have g:dupL [] O=false:=g;rw[g];refine zh (b:=decide ((O.length:Int)>32)) (λh5=>?_) (λh5=>?_)
        ·rw[h5];exact⟨rfl,rfl⟩
        ·rw[h5];(conv=>whnf);refine⟨rfl,?_⟩;show Res.mk (.tup [.c (.d (.sl ((zi O).take O.length))),.c (int 0)]) []=_;rw[<- zy,List.take_length];rfl
    ·(conv=>whnf);refine awd op I eo nm v1 v2 v3 ks R p T U sn tb cols tc ae ag ⟨_,vR 20 601664 128 2 _ _ (by omega) rfl rfl,?_⟩ ?_
     ·(conv=>whnf);unfold abj;rw[zy,zy];rfl
     unfold yT abj V9;have an:(cols++keepS I p tc).length<=2000000:=by
      grind[keepS]
     clear ag ae;generalize cols++keepS I p tc=O at*;(conv=>whnf);refine zF (P:=Pg) (f:=T8.f) (body:=(zM.l 4)) O.length (λi=>⟨[(20,cV (.own 128 2 O.length)),(130,cV (.own 128 2 O.length)),(131,zj O.length),(132,zj i)],[(128,.arr 2 (zi O) false)]⟩) (λi=>dupL [] O=dupL (O.take i) (O.drop i)) ⟨rfl,zf ?_⟩ ?_
     ·exact rfl
     ·intro i hi g;cases i with
      |zero=>
       refine zh (b:=decide ((0:Nat)<(O.length:Int))) (λh1=>?_) (λh1=>?_)
       ·have o:0<O.length:=by simp_all
        rw[zo o]at g;simp only[dupL]at g;rw[<- zA o]at g;have hg:=y7 o;have wi:=zt o (by omega);have r:=qd (O.take (0)) O[0].name;have ht:zi (O.take (0))=(zi O).take (0):=by grind[zi]
        rw[ht]at r;generalize ah:dupL (O.take (0+1)) (O.drop (0+1))=rest at*;generalize O[0]=c at*;obtain⟨c1,c2⟩:=c;simp only at g r;generalize ze (O.take (0)) c1=k at*;(conv=>whnf);refine⟨by omega,by omega,?_⟩;(conv=>whnf);refine⟨_,hg,?_⟩;(conv=>whnf);refine⟨by show(0:Int)<=((0:Nat):Int);omega,by show((0:Nat):Int)<=(O.length:Int);omega,?_⟩;refine Sat.w r ?_;refine zp (b:=decide (k>=0)) (λJ=>?_) (λJ=>?_)
        ·rw[J]at g;have g:dupL [] O=true:=g;rw[g];exact⟨rfl,rfl⟩
        ·rw[J]at g;have g:dupL [] O=rest:=g;(conv=>whnf);refine⟨o,g,zf ?_⟩;(conv=>whnf);rw[wi];rfl
       ·have aa:O.length<=0:=by grind
        rw[List.drop_eq_nil_of_le aa]at g;have g:dupL [] O=false:=g;rw[g];refine zh (b:=decide ((O.length:Int)>32)) (λh5=>?_) (λh5=>?_)
        ·grind
        ·rw[h5];(conv=>whnf);refine⟨rfl,?_⟩;show Res.mk (.tup [.c (.d (.sl ((zi O).take O.length))),.c (int 0)]) []=_;rw[<- zy,List.take_length];rfl
      |succ i=>
       refine zh (b:=decide ((i+1:Nat)<(O.length:Int))) (λh1=>?_) (λh1=>?_)
       ·have o:i+1<O.length:=by have:=of_decide_eq_true h1;omega
        rw[zo o]at g;simp only[dupL]at g;rw[<- zA o]at g;have hg:=y7 o;have wi:=zt o (by omega);have r:=qd (O.take (i+1)) O[i+1].name;have ht:zi (O.take (i+1))=(zi O).take (i+1):=by grind[zi,List.map_take]
        rw[ht]at r;generalize ah:dupL (O.take (i+1+1)) (O.drop (i+1+1))=rest at*;generalize O[i+1]=c at*;obtain⟨c1,c2⟩:=c;simp only at g r;generalize ze (O.take (i+1)) c1=k at*;(conv=>whnf);refine⟨by omega,by omega,?_⟩;(conv=>whnf);refine⟨_,hg,?_⟩;(conv=>whnf);refine⟨by show(0:Int)<=((i+1:Nat):Int);omega,by show((i+1:Nat):Int)<=(O.length:Int);omega,?_⟩;refine Sat.w r ?_;refine zp (b:=decide (k>=0)) (λJ=>?_) (λJ=>?_)
        ·rw[J]at g;have g:dupL [] O=true:=g;rw[g];exact⟨rfl,rfl⟩
        ·rw[J]at g;have g:dupL [] O=rest:=g;(conv=>whnf);refine⟨o,g,zf ?_⟩;(conv=>whnf);rw[wi];rfl
       ·have aa:O.length<=i+1:=by grind
        rw[List.drop_eq_nil_of_le aa]at g;have g:dupL [] O=false:=g;rw[g];refine zh (b:=decide ((O.length:Int)>32)) (λh5=>?_) (λh5=>?_)
        ·rw[h5];exact⟨rfl,rfl⟩
        ·rw[h5];(conv=>whnf);refine⟨rfl,?_⟩;show Res.mk (.tup [.c (.d (.sl ((zi O).take O.length))),.c (int 0)]) []=_;rw[<- zy,List.take_length];rfl
theorem apq (d:List Nmd)(cols:List Col)(st:Stp)(P:st.op=7)(J:st.cols.length<=1000000)(T:cols.length<=1000000)(j: ∀t,zO st.table d=some t ->t.cols.length<=1000000):
 Sat Pg ud [.c (.d (.sl (zK d))),.c (.d (.sl (zi cols))),.agg st.cs] (λr=>r=aji [sFrom,sTo] d cols st.cols st.table):=by
 have i:=qT d st.table;unfold aji;obtain⟨op,⟨eo,nm,⟨v1,v2,v3⟩,ks⟩,o,l,p,I,sn,tb⟩:=st;simp only at P J j i;subst P;refine zE ?_;unfold Stp.cs qU;simp only;cases U:zO tb d with
 |none=>
  rw[U]at i;refine zM.s T8 ?_;refine Sat.w i ?_;exact⟨rfl,rfl⟩
 |some t=>
  rw[U]at i;have j:=j t U;obtain⟨tc,tr⟩:=t;simp only at j;unfold asO;have R:=λg cap hp=>Xj g cap (hasB l) hp [sFrom,sTo] (by simp)
  generalize aa:([sFrom,sTo]:List ByteArray).any (hasB l)=any at*;refine zM.s T8 ?_;refine Sat.w i ?_;refine Sat.w (R _ _ (λx=>adl x _ _ _ _ _ _ _ _ l _)) ?_;cases any with
  |true=>
   exact⟨rfl,rfl⟩
  |false=>
   (conv=>whnf);rw[zx];refine arL 7 [sFrom,sTo] (by simp) eo nm v1 v2 v3 ks o l p I sn tb cols tc tr J T j ⟨_,j7 10 _ _ _ rfl rfl,?_⟩;exact rfl
theorem apr (d:List Nmd)(cols:List Col)(st:Stp)(P:st.op=8)(J:st.cols.length<=1000000)(T:cols.length<=1000000)(j: ∀t,zO st.table d=some t ->t.cols.length<=1000000):
 Sat Pg ud [.c (.d (.sl (zK d))),.c (.d (.sl (zi cols))),.agg st.cs] (λr=>r=aji [sFrom] d cols st.cols st.table):=by
 have i:=qT d st.table;unfold aji;obtain⟨op,⟨eo,nm,⟨v1,v2,v3⟩,ks⟩,o,l,p,I,sn,tb⟩:=st;simp only at P J j i;subst P;refine zE ?_;unfold Stp.cs qU;simp only;cases U:zO tb d with
 |none=>
  rw[U]at i;refine zM.s T8 ?_;refine Sat.w i ?_;exact⟨rfl,rfl⟩
 |some t=>
  rw[U]at i;have j:=j t U;obtain⟨tc,tr⟩:=t;simp only at j;unfold asO;have R:=λg cap hp=>Xj g cap (hasB l) hp [sFrom] (by simp)
  generalize aa:([sFrom]:List ByteArray).any (hasB l)=any at*;refine zM.s T8 ?_;refine Sat.w i ?_;refine Sat.w (R _ _ (λx=>adl x _ _ _ _ _ _ _ _ l _)) ?_;cases any with
  |true=>
   exact⟨rfl,rfl⟩
  |false=>
   (conv=>whnf);rw[zx];refine arL 8 [sFrom] (by simp) eo nm v1 v2 v3 ks o l p I sn tb cols tc tr J T j ⟨_,j7 10 _ _ _ rfl rfl,?_⟩;exact rfl
def xK (x:Int×List Col):Res:=⟨.tup [.c (.d (.sl (zi x.2))),.c (int x.1)],[]⟩
def coT (cols:List Col)(cs:List ByteArray):Int×List Col:=
 bif hasB cs sFrom||hasB cs sTo then(4,[])else bif takeErr cols cs then(16,[])else bif colInt cols sFrom !=0 then(colInt cols sFrom,[])else bif colInt cols sTo !=0 then(colInt cols sTo,[])else(0,takeC cols cs++[⟨sFrom,2⟩,⟨sTo,2⟩])
theorem amv (cols:List Col)(st:Stp)(J:st.cols.length<=1000000):Sat Pg VI [.c (.d (.sl (zi cols))),.agg st.cs] (λr=>r=xK (coT cols st.cols)):=by
 have g:=adt cols st.cols J;have ab:(takeC cols st.cols).length=st.cols.length:=by simp[takeC]
 have j:=yD st.cols sFrom;have o:=yD st.cols sTo;have I:=Vv cols sFrom;have h4:=Vv cols sTo;unfold coT;obtain⟨op,⟨eo,nm,⟨v1,v2,v3⟩,ks⟩,R,i,U,aa,sn,tb⟩:=st;simp only at*;generalize hasB i sFrom=b1 at*;generalize hasB i sTo=b2 at*;generalize colInt cols sFrom=c1 at*;generalize colInt cols sTo=c2 at*;generalize takeC cols i=T at*;generalize takeErr cols i=te at*;refine zE ?_;unfold Stp.cs qU;simp only;cases b1 with
 |true=>
  refine xW.s T8 ?_;refine Sat.w j ?_;exact⟨rfl,rfl⟩
 |false=>
  cases b2 with
  |true=>
   refine xW.s T8 ?_;refine Sat.w j ?_;refine Sat.w o ?_;exact⟨rfl,rfl⟩
  |false=>
   cases te with
   |true=>
    refine xW.s T8 ?_;refine Sat.w j ?_;refine Sat.w o ?_;refine Sat.w g ?_;exact⟨rfl,rfl⟩
   |false=>
    have ac:(zi T).take T.length=zi T:=by grind[zy]
    cases p:(c1 !=0)with
    |true=>
     refine xW.s T8 ?_;refine Sat.w j ?_;refine Sat.w o ?_;refine Sat.w g ?_;refine vG (P:=Pg) (f:=T8.f) (body:=(xW.l 0)) 3 ?_;refine wD ?_ (hA:=by omega) (hB:=by grind);refine⟨_,rfl,?_⟩;refine Sat.w I ?_;rw[p];exact⟨rfl,rfl⟩
    |false=>
     cases e2:(c2 !=0)with
     |true=>
      refine xW.s T8 ?_;refine Sat.w j ?_;refine Sat.w o ?_;refine Sat.w g ?_;refine vG (P:=Pg) (f:=T8.f) (body:=(xW.l 0)) 3 ?_;refine wD ?_ (hA:=by omega) (hB:=by grind);refine⟨_,rfl,?_⟩;refine Sat.w I ?_;rw[p];refine qN ?_;refine wD ?_ (hA:=by decide) (hB:=by show(1:Int)<((2:Nat):Int);omega);refine⟨_,rfl,?_⟩;refine Sat.w h4 ?_;rw[e2];exact⟨rfl,rfl⟩
     |false=>
      refine xW.s T8 ?_;refine Sat.w j ?_;refine Sat.w o ?_;refine Sat.w g ?_;refine vG (P:=Pg) (f:=T8.f) (body:=(xW.l 0)) 3 ?_;refine wD ?_ (hA:=by omega) (hB:=by grind);refine⟨_,rfl,?_⟩;refine Sat.w I ?_;rw[p];refine qN ?_;refine wD ?_ (hA:=by decide) (hB:=by show(1:Int)<((2:Nat):Int);omega);refine⟨_,rfl,?_⟩;refine Sat.w h4 ?_;rw[e2];refine qN ?_;refine vT ?_;refine Eq.trans (b:=⟨.tup [.c (.d (.sl ((((((zi T).take T.length)++[Col.ds ⟨sFrom,2⟩]).take (T.length+1))++[Col.ds ⟨sTo,2⟩]).take (T.length+1+1)))),.c (int 0)],[]⟩) rfl ?_;simp_all[zi,List.take_of_length_le,xK]
def qi (cols:List Col):List Itm ->Int×List Col
 | []=>(0,[])
 |x::r=>bif (x.e.ty cols).2 !=0 then((x.e.ty cols).2,[])else bif (x.e.ty cols).1==0 then(14,[])else bif (qi cols r).1 !=0 then((qi cols r).1,[])else(0,⟨x.nm,(x.e.ty cols).1⟩::(qi cols r).2)
theorem agH (cols:List Col): ∀l:List Itm,qi cols l=bif (qi cols l).1 !=0 then((qi cols l).1,[])else(0,(qi cols l).2)
 | []=>rfl
 |x::r=>by
  simp only[qi];cases g:((x.e.ty cols).2 !=0)
  ·cases j:((x.e.ty cols).1==0)
   ·cases i:((qi cols r).1 !=0)
    ·rfl
    ·simp only[cond_false,cond_true,i]
   ·rfl
  ·simp only[cond_true,g]
def seS (cols:List Col)(l:List Itm)(i:Nat)(g:List Col):S:=⟨[(0,.w (.c (.d (.sl (zi cols))))),(6,cV (.own 35 2 g.length)),(11,.w (.c (.d (.sl (yC l))))),(12,zj l.length),(13,zj i)],[(35,.arr 2 (zi g) false)]⟩
theorem apm (cols:List Col)(l:List Itm)(he: ∀x∈l,x.e.err=0)(hl:l.length<=1000000):Sat Pg Uv [.c (.d (.sl (zi cols))),.c (.d (.sl (yC l)))] (λr=>r=xK (qi cols l)):=by
 refine zE ?_;refine Xn.s T8 ?_;rw[qE];refine yQ (P:=Pg) (f:=T8.f) (body:=(Xn.l 0)) (λx:Nat×List Col=>seS cols l x.1 x.2) (λx=>l.length - x.1) (λx=>x.1<=l.length /\x.2.length=x.1 /\xK (qi cols l)=xK (bif (qi cols (l.drop x.1)).1 !=0 then((qi cols (l.drop x.1)).1,[])else(0,x.2++(qi cols (l.drop x.1)).2))) ⟨(0,[]),⟨Nat.zero_le _,rfl,?_⟩,⟨_,zu 6 35 2 (by omega) (by omega) rfl,?_⟩⟩ ?_
 ·grind[agH]
 ·exact rfl
 ·rintro⟨i,A⟩ hx;obtain⟨hi,hA,g⟩:i<=l.length /\A.length=i /\xK (qi cols l)=xK (bif (qi cols (l.drop i)).1 !=0 then((qi cols (l.drop i)).1,[])else(0,A++(qi cols (l.drop i)).2)):=hx;have o:(zi A).take A.length=zi A:=by grind[zy]
  show mwpR Pg T8.f (Xn.l 0) _ (seS cols l i A);refine vB (λj=>?_) (λJ=>?_)
  ·rw[zo j]at g;simp only[qi]at g;have hg:=jB j;have wi:=zt j (by omega);have hN:=K3 cols l[i].e (he _ (List.getElem_mem j));generalize l[i]=x at*;obtain⟨⟨T,nm,⟨vk,vn,vs⟩,ks⟩,s⟩:=x;generalize Ex.ty cols ⟨T,nm,⟨vk,vn,vs⟩,ks⟩=t at*;obtain⟨R,t2⟩:=t;refine zI hg ?_;refine Sat.w hN ?_;refine zp (b:=t2 !=0) (λp=>?_) (λp=>?_)
   ·rw[p]at g;simp only[cond_true,p]at g;rw[g];exact⟨rfl,rfl⟩
   ·rw[p,cond_false]at g;refine zh (b:=R==0) (λI=>?_) (λI=>?_)
    ·rw[I]at g;rw[g];exact⟨rfl,rfl⟩
    ·rw[I,cond_false]at g;refine qN ?_;refine⟨(i+1,A++[⟨s,R⟩]),⟨⟨j,by simp[hA],?_⟩,by grind⟩,zf ?_⟩
     ·rw[g];cases U:((qi cols (l.drop (i+1))).1 !=0)
      ·simp_all
      ·simp only[U,cond_true]
     ·(conv=>whnf);rw[wi,o];show _=seS cols l (i+1) (A++[⟨s,R⟩]);unfold seS;rw[List.length_append];simp only[zi,List.map_append];rfl
  ·rw[List.drop_eq_nil_of_le J]at g;have g:xK (qi cols l)=xK (0,A++[]):=g;rw[g,List.append_nil];refine vT ?_;show Res.mk (.tup [.c (.d (.sl ((zi A).take A.length))),.c (int 0)]) []=_;rw[o];rfl
end
section
structure CmpOK {α:Type}(c:α ->α ->Int):Prop where
 refl: ∀x,c x x=0
 anti: ∀x y,c x y<0↔0<c y x
 trans: ∀x y z,c x y<=0 ->c y z<=0 ->c x z<=0
namespace CmpOK
variable {α:Type}{c:α ->α ->Int}
theorem ge (h:CmpOK c){x y:α}:0<=c x y↔c y x<=0:=by have:=h.anti x y;omega
theorem zero (h:CmpOK c){x y:α}:c x y=0↔c y x=0:=by have:=h.anti x y;have:=h.anti y x;omega
theorem lt_of (h:CmpOK c){x y z:α}(i:c x y<0)(g:c y z<=0):c x z<0:=by
 have l:=h.trans x y z (by omega) g;by_cases j:c x z=0
 ·have o:=h.zero.1 j;have p:=h.trans y z x g (by omega);have:=(h.anti x y).1 i;omega
 ·omega
theorem lt_of2 (h:CmpOK c){x y z:α}(g:c x y<=0)(i:c y z<0):c x z<0:=by
 have l:=h.trans x y z g (by omega);by_cases j:c x z=0
 ·have o:=h.zero.1 j;have p:=h.trans z x y (by omega) g;have:=(h.anti y z).1 i;omega
 ·omega
end CmpOK
theorem CmpOK.lex {α:Type}{c:α ->α ->Int}(h:CmpOK c):CmpOK (uR c):=by
 refine⟨λx=>?_,λx y=>?_,λx y z=>?_⟩
 ·induction x with
  |nil=>rfl
  |cons a r I=>simp only[uR,h.refl];exact I
 ·induction x generalizing y with
  |nil=>cases y<;>grind[uR]
  |cons a r I=>
   cases y with
   |nil=>simp[uR]
   |cons b s=>
    simp only[uR];by_cases g:c a b=0
    ·have i:=h.zero.1 g<;>simp_all
    ·have i: ¬c b a=0:=λe=>g (h.zero.1 e)
     have l:(c a b !=0)=true:=by grind
     have j:(c b a !=0)=true:=by grind
     simp only[l,j,cond_true];exact h.anti a b
 ·induction x generalizing y z with
  |nil=>intro _ _;cases z<;>grind[uR]
  |cons a r I=>
   intro g i;cases y with
   |nil=>grind[uR]
   |cons b s=>
    cases z with
    |nil=>grind[uR]
    |cons d t=>
     simp only[uR]at g i⊢;by_cases g1:c a b=0
     ·by_cases g2:c b d=0
      ·simp only[g1,g2,bne_self_eq_false,cond_false]at g i;have g3:c a d=0:=by
        have J:=h.trans a b d (by omega) (by omega);have P:=h.trans d b a (by rw[h.zero.1 g2];simp_all) (by rw[h.zero.1 g1];simp_all);have:=h.ge.2 P<;>grind
       simp only[g3,bne_self_eq_false,cond_false]
       grind
      ·have j:(c b d !=0)=true:=by grind
       simp only[j,cond_true]at i;have J:=h.lt_of2 (x:=a) (y:=b) (z:=d) (by omega) (by omega);have o:(c a d !=0)=true:=by simp;omega
       simp only[o,cond_true];omega
     ·have l:(c a b !=0)=true:=by grind
      simp only[l,cond_true]at g;have p:c b d<=0:=by
       by_cases g2:c b d=0
       ·omega
       ·have j:(c b d !=0)=true:=by grind
        simp_all
      have J:=h.lt_of (x:=a) (y:=b) (z:=d) (by omega) p;have o:(c a d !=0)=true:=by simp;omega
      simp only[o,cond_true];omega
theorem adO (a b:Int):xZ a b=if a<b then -1 else if b<a then 1 else 0:=by
 grind[xZ]
theorem aq1:CmpOK xZ:=by
 refine⟨λx=>?_,λx y=>?_,λx y z=>?_⟩<;>simp only[adO]
 ·simp
 ·grind
 grind
theorem aAd:CmpOK jT:=by
 have key: ∀x y,(XI x y=true /\XI y x=false /\zl x y=false /\jT x y= -1)\/(x=y /\jT x y=0)\/(XI x y=false /\XI y x=true /\zl x y=false /\jT x y=1):=by
  grind[aAw,jT,asb,avg]
 refine⟨λx=>?_,λx y=>?_,λx y z g i=>?_⟩
 ·grind
 ·grind
 grind[akN]
theorem CmpOK.by_key {α:Type}(key:α ->Int)(c:Int ->α ->α ->Int)(h: ∀k,CmpOK (c k)):CmpOK (λx y=>bif key x !=key y then xZ (key x) (key y)else c (key x) x y):=by
 have j: ∀x y,(key x=key y /\(bif key x !=key y then xZ (key x) (key y)else c (key x) x y)=c (key x) x y)\/(key x<key y /\(bif key x !=key y then xZ (key x) (key y)else c (key x) x y)= -1)\/(key y<key x /\(bif key x !=key y then xZ (key x) (key y)else c (key x) x y)=1):=by
  grind[adO]
 refine⟨λx=>?_,λx y=>?_,λx y z o l=>?_⟩
 ·rcases j x x with⟨_,e⟩|⟨e,_⟩|⟨e,_⟩
  ·show(bif key x !=key x then xZ (key x) (key x)else c (key x) x x)=0;rw[e,(h _).refl]
  ·omega
  ·omega
 ·show(bif key x !=key y then xZ (key x) (key y)else c (key x) x y)<0↔0<(bif key y !=key x then xZ (key y) (key x)else c (key y) y x);rcases j x y with⟨e,e'⟩|⟨e,e'⟩|⟨e,e'⟩<;>rcases j y x with⟨f,i⟩|⟨f,i⟩|⟨f,i⟩<;>rw[e',i]<;>try omega
  rw[<- e];exact(h _).anti x y
 ·show(bif key x !=key z then xZ (key x) (key z)else c (key x) x z)<=0;have o:(bif key x !=key y then xZ (key x) (key y)else c (key x) x y)<=0:=o;have l:(bif key y !=key z then xZ (key y) (key z)else c (key y) y z)<=0:=l;rcases j x y with⟨e,e'⟩|⟨e,e'⟩|⟨e,e'⟩<;>rcases j y z with⟨f,i⟩|⟨f,i⟩|⟨f,i⟩<;>rcases j x z with⟨g,p⟩|⟨g,p⟩|⟨g,p⟩<;>rw[e']at o<;>rw[i]at l<;>rw[p]<;>try omega
  rw[<- e]at l;exact(h _).trans x y z o l
def ayj (k:Int)(a b:Val):Int:=bif k==3 then jT a.s b.s else bif k==1||k==2 then xZ a.n b.n else 0
theorem CmpOK.on {α β:Type}{c:β ->β ->Int}(h:CmpOK c)(f:α ->β):CmpOK (λx y=>c (f x) (f y)):=⟨λx=>h.refl _,λx y=>h.anti _ _,λx y z=>h.trans _ _ _⟩
theorem aAC (k:Int):CmpOK (ayj k):=by
 unfold ayj;cases k==3
 ·cases k==1||k==2
  ·exact⟨λ_=>rfl,λ_ _=>by simp,λ_ _ _ _ _=>by simp⟩
  ·exact aq1.on Val.n
 ·exact aAd.on Val.s
theorem U9:CmpOK zX:=CmpOK.by_key Val.k ayj aAC
theorem aru:CmpOK aa0:=U9.lex
end
section
variable {α:Type}
structure PermW (a b:Nat)(l l':List α):Prop where
 len:l'.length=l.length
 perm:l'.Perm l
 out: ∀i,i<a\/b<=i ->l'[i]? =l[i]?
 mem: ∀i x,a<=i ->i<b ->l'[i]? =some x -> ∃j,a<=j /\j<b /\l[j]? =some x
namespace PermW
theorem refl (a b:Nat)(l:List α):PermW a b l l:=⟨rfl,List.Perm.refl _,λ_ _=>rfl,λi _ g j o=>⟨i,g,j,o⟩⟩
theorem trans {a b:Nat}{l l' g:List α}(h:PermW a b l l')(k:PermW a b l' g):PermW a b l g:=
 ⟨k.len.trans h.len,k.perm.trans h.perm,λi o=>(k.out i o).trans (h.out i o),λi x p r I=>by
  obtain⟨j,J,P,R⟩:=k.mem i x p r I;exact h.mem j x J P R⟩
theorem mono {a b g o:Nat}{l l':List α}(h:PermW a b l l')(P:g<=a)(R:b<=o):PermW g o l l':=
 ⟨h.len,h.perm,λi r=>h.out i (by omega),λi x I J p=>by
  by_cases r:i<a\/b<=i
  ·exact⟨i,I,J,by rw[<- h.out i r];exact p⟩
  ·obtain⟨j,T,U,j3⟩:=h.mem i x (by omega) (by omega) p
   grind⟩
end PermW
def WC (l:List α)(i j:Nat)(x y:α):List α:=(l.set i y).set j x
theorem aA2 (l:List α)(i j:Nat)(x y:α):(WC l i j x y).length=l.length:=by simp[WC]
theorem Jd {l:List α}{i j:Nat}{x y:α}(g:l[i]? =some x)(p:l[j]? =some y)(k:Nat):
 (WC l i j x y)[k]? =if k=j then some x else if k=i then some y else l[k]? :=by
 have o:i<l.length:=(List.getElem?_eq_some_iff.1 g).1;have r:j<l.length:=(List.getElem?_eq_some_iff.1 p).1;simp only[WC,List.getElem?_set,List.length_set];by_cases I:k=j
 ·grind
 ·by_cases J:k=i<;>simp_all[Ne.symm]
theorem azn {l:List α}{i j:Nat}{x y:α}(p:l[i]? =some x)(r:l[j]? =some y):(WC l i j x y).Perm l:=by
 obtain⟨g,rfl⟩:=List.getElem?_eq_some_iff.1 p;obtain⟨o,rfl⟩:=List.getElem?_eq_some_iff.1 r;exact List.set_set_perm g o
theorem atJ {l:List α}{i j a b:Nat}{x y:α}(g:l[i]? =some x)(o:l[j]? =some y)(p:a<=i)(r:i<b)(I:a<=j)(J:j<b):PermW a b l (WC l i j x y):=by
 refine⟨aA2 ..,azn g o,λk hk=>?_,λk z P R T=>?_⟩
 ·rw[Jd g o,if_neg (by omega),if_neg (by omega)]
 grind[Jd]
variable (c:α ->α ->Int)
def yx (a b:Nat)(l:List α):Prop:= ∀i j x y,a<=i ->i<j ->j<b ->l[i]? =some x ->l[j]? =some y ->c x y<=0
def LeW (a b g o:Nat)(l:List α):Prop:= ∀i j x y,a<=i ->i<b ->g<=j ->j<o ->l[i]? =some x ->l[j]? =some y ->c x y<=0
variable {c}
theorem yx.mono {a b g o:Nat}{l:List α}(h:yx c a b l)(r:a<=g)(I:o<=b):yx c g o l:=λi j x y J p i3=>h i j x y (by omega) p (by omega)
theorem yx.same {a b:Nat}{l l':List α}(h:yx c a b l)(p: ∀i,a<=i ->i<b ->l'[i]? =l[i]?):yx c a b l':=λi j x y g o i3 i4 i5=>h i j x y g o i3 (by grind) (by grind)
theorem yx.glue {a m b:Nat}{l:List α}(r:yx c a m l)(I:yx c m b l)(J:LeW c a m m b l):yx c a b l:=by
 intro i j x y g o i3 i4 i5;by_cases h:j<m
 ·exact r i j x y g o h i4 i5
 ·by_cases p:m<=i
  ·exact I i j x y p o i3 i4 i5
  ·exact J i j x y g (by omega) (by omega) i3 i4 i5
theorem yx.one (a b:Nat)(l:List α)(h:b<=a+1):yx c a b l:=λi j x y g o i3=>by omega
theorem LeW.perm {a m b:Nat}{l l':List α}(h:LeW c a m m b l)(g:PermW a m l l'):LeW c a m m b l':=by
 intro i j x y p r i3 i4 i5 o;obtain⟨k,I,J,P⟩:=g.mem i x p r i5;rw[g.out j (by omega)]at o;exact h k j x y I J i3 i4 P o
theorem LeW.perm2 {a m b:Nat}{l l':List α}(h:LeW c a m m b l)(g:PermW m b l l'):LeW c a m m b l':=by
 intro i j x y o p i3 i4 i5 r;obtain⟨k,I,J,P⟩:=g.mem j y i3 i4 r;rw[g.out i (by omega)]at i5;exact h i k x y o p I J i5 P
theorem yx.le {a b i j:Nat}{l:List α}{x y:α}(r:CmpOK c)(h:yx c a b l)(I:a<=i)(J:i<=j)(i3:j<b)(p:l[i]? =some x)(g:l[j]? =some y):c x y<=0:=by
 rcases Nat.lt_or_ge i j with o|o
 ·exact h i j x y I o i3 p g
 ·obtain rfl:i=j:=by omega
  rw[p]at g;cases g;rw[r.refl];simp_all
def kd (c:α ->α ->Int)(a i j:Nat)(l:List α):Prop:= ∀p q x y,a<=p ->p<q ->q<=i ->q≠j ->l[p]? =some x ->l[q]? =some y ->c x y<=0
theorem kd.start {a i:Nat}{l:List α}(h:yx c a i l):kd c a i i l:=λp q x y g j o r=>h p q x y g j (by omega)
theorem kd.step {a i j:Nat}{l:List α}{x y:α}(hc:CmpOK c)(h:kd c a i j l)(aa:a<j)(ab:j<=i)(J:l[j - 1]? =some x)(R:l[j]? =some y)(ac:c y x<0):kd c a i (j - 1) (WC l j (j - 1) y x):=by
 intro p q u v P U I h4 g o;rw[Jd R J]at g o;by_cases r:q=j
 ·subst r;rw[if_neg (by omega),if_pos rfl]at o;cases o;split at g
  ·grind
  ·rw[if_neg (by omega)]at g;exact h p (q - 1) u x P (by omega) (by omega) (by omega) g J
 ·rw[if_neg h4,if_neg r]at o;split at g
  ·rename_i T;cases g;exact h j q y v (by omega) (by omega) I r R o
  ·split at g
   ·rename_i T e3;cases g;exact h (j - 1) q x v (by omega) (by omega) I r J o
   ·exact h p q u v P U I r g o
theorem kd.stop {a i j:Nat}{l:List α}(I:CmpOK c)(h:kd c a i j l)(U:j<=i)(hs:j<=a\/ ∃x y,l[j - 1]? =some x /\l[j]? =some y /\0<=c y x):yx c a (i+1) l:=by
 intro p q u v J T h3 o r;by_cases e:q=j
 ·subst e;rcases hs with h'|⟨x,y,P,hy,g⟩
  ·omega
  ·rw[hy]at r;cases r;by_cases R:p=q - 1
   ·subst R;rw[P]at o;cases o;exact I.ge.1 g
   ·exact I.trans _ _ _ (h p (q - 1) u x J (by omega) (by omega) (by omega) o P) (I.ge.1 g)
 ·exact h p q u v J T (by omega) e o r
end
section
attribute [local irreducible] Sat zQ yv
theorem uj {α:Type}{l:List α}{i:Nat}(h:i<l.length): ∃x,l[i]? =some x:=⟨l[i],List.getElem?_eq_getElem h⟩
theorem amV {j:Nat}(h:0<j)(g:j<=9223372036854775807):IntKind.i64.wrap ((j:Int) - 1)=((j - 1:Nat):Int):=by
 grind[xj]
section
variable {α:Type}
theorem az2 (P R:List α)(x:α):(P++x::R)[P.length]? =some x:=by simp
theorem az3 (P Q R:List α)(x y:α):(P++x::(Q++y::R))[P.length+1+Q.length]? =some y:=by
 have h:P++x::(Q++y::R)=(P++x::Q)++y::R:=by simp
 have e:P.length+1+Q.length=(P++x::Q).length:=by simp;omega
 grind
theorem aA1 (P Q R:List α)(x y:α):WC (P++x::(Q++y::R)) P.length (P.length+1+Q.length) x y=P++y::(Q++x::R):=by
 grind[WC]
def UD (P X M Y S:List α)(i:Nat):List α:=P++(Y.take i++X.drop i)++M++(X.take i++Y.drop i)++S
theorem azm (P X M Y S:List α):UD P X M Y S 0=P++X++M++Y++S:=by simp[UD]
theorem aAZ (P X M Y S:List α)(h:X.length=Y.length):UD P X M Y S X.length=P++Y++M++X++S:=by
 grind[UD]
theorem aA0 (P X M Y S:List α)(i:Nat)(h:X.length=Y.length)(g:i<=X.length):(UD P X M Y S i).length=(P++X++M++Y++S).length:=by
 simp[UD];omega
theorem azl (P X M Y S:List α)(i:Nat)(h:X.length=Y.length)(l:i<X.length): ∃x y,(UD P X M Y S i)[P.length+i]? =some x /\(UD P X M Y S i)[P.length+X.length+M.length+i]? =some y /\
 WC (UD P X M Y S i) (P.length+i) (P.length+X.length+M.length+i) x y=UD P X M Y S (i+1):=by
 have g:i<Y.length:=by omega
 have j:UD P X M Y S i=(P++Y.take i)++X[i]::((X.drop (i+1)++M++X.take i)++Y[i]::(Y.drop (i+1)++S)):=by
  grind[UD,zo]
 have o:(P++Y.take i).length=P.length+i:=by simp;omega
 have p:(P++Y.take i).length+1+(X.drop (i+1)++M++X.take i).length=P.length+X.length+M.length+i:=by simp;omega
 refine⟨X[i],Y[i],?_,?_,?_⟩
 ·grind[az2]
 ·grind[az3]
 ·rw[j,<- p,<- o,aA1];unfold UD;rw[List.take_succ_eq_append_getElem l,List.take_succ_eq_append_getElem g];grind
end
end
section
variable {α:Type}{c:α ->α ->Int}
theorem aAV (I:CmpOK c){l l':List α}{a i b:Nat}{x:α}(hx:l[a]? =some x)(h1:a<i)(h2:i<=b)(hs:yx c (a+1) b l)
 (r: ∀p,l'[p]? =if a<=p /\p<i - 1 then l[p+1]? else if p=i - 1 then l[a]? else l[p]?)
 (g1:i=a+1\/ ∃u,l[i - 1]? =some u /\c u x<=0) (g2:i=b\/ ∃u,l[i]? =some u /\c x u<=0):yx c a b l':=by
 intro p q u v p1 p2 J j g;rw[r]at j g;by_cases T:a<=p /\p<i - 1
 ·rw[if_pos T]at j;by_cases U:a<=q /\q<i - 1
  ·rw[if_pos U]at g;exact hs (p+1) (q+1) u v (by omega) (by omega) (by omega) j g
  ·rw[if_neg U]at g;by_cases o:q=i - 1
   ·rw[if_pos o,hx]at g;cases g;rcases g1 with g1|⟨w,P,R⟩
    ·omega
    ·exact I.trans _ _ _ (hs.le I (by omega) (show p+1<=i - 1 by omega) (by omega) j P) R
   ·rw[if_neg o]at g;exact hs (p+1) q u v (by omega) (by omega) J j g
 ·rw[if_neg T]at j;rw[if_neg (by omega)]at g;by_cases o:p=i - 1
  ·rw[if_pos o,hx]at j;cases j;rw[if_neg (by omega)]at g;rcases g2 with g2|⟨w,P,R⟩
   ·omega
   ·exact I.trans _ _ _ R (hs.le I (by omega) (show i<=q by omega) J P g)
  ·rw[if_neg o]at j;rw[if_neg (by omega)]at g;exact hs p q u v (by omega) p2 J j g
theorem av1 (r:CmpOK c){l l':List α}{a i m:Nat}{x:α}(hx:l[m]? =some x)(h1:a<=i)(h2:i<=m)(hs:yx c a m l)
 (o: ∀p,l'[p]? =if i<p /\p<=m then l[p - 1]? else if p=i then l[m]? else l[p]?)
 (g1:i=a\/ ∃u,l[i - 1]? =some u /\c u x<=0) (g2:i=m\/ ∃u,l[i]? =some u /\c x u<=0):yx c a (m+1) l':=by
 intro p q u v p1 p2 p3 j g;rw[o]at j g;by_cases P:i<p /\p<=m
 ·rw[if_pos P]at j;rw[if_pos (by omega)]at g;exact hs (p - 1) (q - 1) u v (by omega) (by omega) (by omega) j g
 ·rw[if_neg P]at j;by_cases T:p=i
  ·rw[if_pos T,hx]at j;cases j;rw[if_pos (by omega)]at g;rcases g2 with g2|⟨w,I,J⟩
   ·omega
   ·exact r.trans _ _ _ J (hs.le r (by omega) (show i<=q - 1 by omega) (by omega) I g)
  ·rw[if_neg T]at j;by_cases R:i<q /\q<=m
   ·rw[if_pos R]at g;exact hs p (q - 1) u v (by omega) (by omega) (by omega) j g
   ·rw[if_neg R]at g;by_cases U:q=i
    ·rw[if_pos U,hx]at g;cases g;rcases g1 with g1|⟨w,I,J⟩
     ·omega
     ·exact r.trans _ _ _ (hs.le r p1 (show p<=i - 1 by omega) (by omega) j I) J
    ·rw[if_neg U]at g;exact hs p q u v p1 p2 (by omega) j g
def XZ (s m e:Nat)(l g:List α):Prop:= ∀p,g[p]? =if s<=p /\p<s+(e - m)then l[p+(m - s)]? else if s+(e - m)<=p /\p<e then l[p -(e - m)]? else l[p]?
theorem XZ.same {s m e:Nat}{l:List α}(g:s<=m)(i:m<=e)(h:s=m\/m=e):XZ s m e l l:=by
 intro p;rcases h with rfl|rfl
 ·split
  ·simp_all
  simp_all[if_neg]
 ·rw[if_neg (by omega)];split
  ·simp_all
  ·rfl
theorem ak1 (r:CmpOK c){l P:List α}{a s m e b:Nat}(a1:a<=s)(a2:s<=m)(a3:m<=e)(a4:e<=b)(T:XZ s m e l P)(j:yx c a m l)(o:yx c m b l)
 (aa:s=a\/e=b\/ ∃x y,l[s - 1]? =some x /\l[e]? =some y /\c x y<=0) (ab:s=m\/e=m\/ ∃x y,l[e - 1]? =some x /\l[s]? =some y /\c x y<=0):
 yx c a s P /\yx c s (s+(e - m)) P /\yx c (s+(e - m)) e P /\yx c e b P /\LeW c a (s+(e - m)) (s+(e - m)) b P:=by
 refine⟨?_,?_,?_,?_,?_⟩
 ·intro p q u v J R U i g;rw[T,if_neg (by omega),if_neg (by omega)]at i g;exact j p q u v J R (by omega) i g
 ·intro p q u v J R U i g;rw[T,if_pos (by omega)]at i g;exact o _ _ u v (by omega) (by omega) (by omega) i g
 ·intro p q u v J R U i g;rw[T,if_neg (by omega),if_pos (by omega)]at i g;exact j _ _ u v (by omega) (by omega) (by omega) i g
 ·intro p q u v J R U i g;rw[T,if_neg (by omega),if_neg (by omega)]at i g;exact o p q u v (by omega) R U i g
 ·intro p q u v J R U p4 i g;rw[T]at i g;rw[if_neg (by omega)]at g;by_cases e1:p<s
  ·rw[if_neg (by omega),if_neg (by omega)]at i;by_cases e2:q<e
   ·rw[if_pos (by omega)]at g;exact j p _ u v J (by omega) (by omega) i g
   ·rw[if_neg (by omega)]at g;rcases aa with h|h|⟨x,y,hx,hy,I⟩
    ·omega
    ·omega
    ·exact r.trans _ _ _ (j.le r J (show p<=s - 1 by omega) (by omega) i hx) (r.trans _ _ _ I (o.le r (by omega) (show e<=q by omega) p4 hy g))
  ·rw[if_pos (by omega)]at i;by_cases e2:q<e
   ·rw[if_pos (by omega)]at g;rcases ab with h|h|⟨x,y,hx,hy,I⟩
    ·omega
    ·omega
    ·exact r.trans _ _ _ (o.le r (by omega) (show p+(m - s)<=e - 1 by omega) (by omega) i hx) (r.trans _ _ _ I (j.le r (by omega) (show s<=q -(e - m)by omega) (by omega) hy g))
   ·rw[if_neg (by omega)]at g;exact o _ q u v (by omega) (by omega) p4 i g
theorem abR {l:List α}{s m e:Nat}(g:s<=m)(o:m<=e)(p:e<=l.length):l.take s++(l.drop s).take (m - s)++(l.drop m).take (e - m)++l.drop e=l:=by
 have r:l.take s++(l.drop s).take (m - s)=l.take m:=by
  have:=List.take_add (l:=l) (i:=s) (j:=m - s);rw[<- this];congr 1;omega
 have I:l.take m++(l.drop m).take (e - m)=l.take e:=by
  have:=List.take_add (l:=l) (i:=m) (j:=e - m);rw[<- this];congr 1;omega
 grind[List.take_append_drop]
theorem ajO {l:List α}{s m e:Nat}(o:s<=m)(r:m<=e)(I:e<=l.length):XZ s m e l (l.take s++(l.drop m).take (e - m)++(l.drop s).take (m - s)++l.drop e):=by
 intro p;simp only[List.getElem?_append,List.length_append,List.length_take,List.length_drop,List.getElem?_take,List.getElem?_drop];split
 ·split
  ·rename_i g i;split
   ·rename_i j;rw[if_pos (by omega),if_neg (by omega),if_neg (by omega)]
   ·rename_i j;rw[if_pos (by omega),if_pos (by omega)];congr 1;omega
  ·rename_i g i;rw[if_pos (by omega),if_neg (by omega),if_pos (by omega)];congr 1;omega
 ·rename_i g;rw[if_neg (by omega),if_neg (by omega)];congr 1;omega
theorem azM {l:List α}{s m e:Nat}(i:s<=m)(j:m<=e)(o:e<=l.length):PermW s e l (l.take s++(l.drop m).take (e - m)++(l.drop s).take (m - s)++l.drop e):=by
 have r:=ajO i j o;refine⟨?_,?_,λp I=>?_,λp x J P g=>?_⟩
 ·simp;omega
 ·have:=abR i j o<;>grind[List.Perm.append_right,List.Perm.append_left,List.perm_append_comm]
 ·rw[r,if_neg (by omega),if_neg (by omega)]
 ·rw[r]at g;split at g
  ·grind
  ·rw[if_pos (by omega)]at g
   grind
end
section
variable {α:Type}{R:α ->α ->Prop}{c:α ->α ->Int}
def aak (R:α ->α ->Prop)(a b g o:Nat)(l:List α):Prop:= ∀i j x y,a<=i ->i<b ->g<=j ->j<o ->l[i]? =some x ->l[j]? =some y ->R x y
def QL (R:α ->α ->Prop)(a b:Nat)(l:List α):Prop:= ∀i j x y,a<=i ->i<j ->j<b ->l[i]? =some x ->l[j]? =some y ->R x y
def ab3 (R:α ->α ->Prop)(a j:Nat)(l:List α):Prop:= ∀p x y,a<=p ->p<j ->l[p]? =some x ->l[j]? =some y ->R x y
theorem aak.same {a b g o:Nat}{l l':List α}(h:aak R a b g o l)(I: ∀i,(a<=i /\i<b)\/(g<=i /\i<o) ->l'[i]? =l[i]?):aak R a b g o l':=
 λi j x y p r i3 i4 i5 J=>h i j x y p r i3 i4 (by grind) (by grind)
theorem aak.rot {l o:List α}{a s m e b:Nat}(T:a<=s)(U:s<=m)(a3:m<=e)(a4:e<=b)(j:XZ s m e l o)(h:aak R a m m b l):aak R a s s (s+(e - m)) o /\aak R (s+(e - m)) e e b o:=by
 refine⟨?_,?_⟩
 ·intro p q u v r J P I g i;rw[j,if_neg (by omega),if_neg (by omega)]at g;rw[j,if_pos (by omega)]at i;exact h p _ u v r (by omega) (by omega) (by omega) g i
 ·intro p q u v r J P I g i;rw[j,if_neg (by omega),if_pos (by omega)]at g;rw[j,if_neg (by omega),if_neg (by omega)]at i;exact h _ q u v (by omega) (by omega) (by omega) I g i
theorem QL.mono {a b g o:Nat}{l:List α}(h:QL R a b l)(r:a<=g)(I:o<=b):QL R g o l:=λi j x y J p i3=>h i j x y (by omega) p (by omega)
theorem ab3.start {a b i:Nat}{l o:List α}(h:QL R a b l)(g:PermW a i l o)(r:i<b):ab3 R a i o:=by
 intro p x y J P I j;obtain⟨q,T,U,q3⟩:=g.mem p x J P I;rw[g.out i (.inr (Nat.le_refl _))]at j;exact h q i x y T U r q3 j
theorem ab3.step {a j:Nat}{l:List α}{x y:α}(h:ab3 R a j l)(r:a<j)(I:l[j - 1]? =some x)(o:l[j]? =some y):ab3 R a (j - 1) (WC l j (j - 1) y x):=by
 intro p u v J P g i;rw[Jd o I]at g i;rw[if_neg (by omega),if_neg (by omega)]at g;rw[if_pos rfl]at i;cases i;exact h p u y J (by omega) g o
def Cut (g i j:Nat):Prop:= ∃k,i<k*g /\k*g<=j
def aiL (R:α ->α ->Prop)(g:Nat)(l:List α):Prop:= ∀i j x y,Cut g i j ->l[i]? =some x ->l[j]? =some y ->R x y
def XO (R:α ->α ->Prop)(g a:Nat)(l:List α):Prop:= ∀i j x y,Cut (2*g) i j\/(a<=i /\Cut g i j) ->l[i]? =some x ->l[j]? =some y ->R x y
theorem aiL.pass {g:Nat}{l:List α}(h:aiL R g l):XO R g 0 l:=by
 rintro i j x y (⟨k,p,r⟩|⟨_,o⟩)
 ·exact h i j x y ⟨k*2,by grind,by grind⟩
 ·exact h i j x y o
theorem XO.blk {g a:Nat}{l:List α}(h:XO R g a l):aiL R (2*g) l:=λi j x y o=>h i j x y (.inl o)
theorem XO.rel {g q e:Nat}{l:List α}(h:XO R g (q*(2*g)) l):aak R (q*(2*g)) (q*(2*g)+g) (q*(2*g)+g) e l:=by
 intro i j x y o p i3 i4;refine h i j x y (.inr ⟨o,2*q+1,?_,?_⟩)
 ·grind
 grind
theorem XO.next {g q e n:Nat}{l l':List α}(h:XO R g (q*(2*g)) l)(T:PermW (q*(2*g)) e l l')(h2:e<=(q+1)*(2*g))(hn:e=(q+1)*(2*g)\/(e=n /\l.length=n)):XO R g ((q+1)*(2*g)) l':=by
 intro i j x y hc hx hy;have key: ∀o p:Nat,(q*(2*g)<=o /\o<e /\q*(2*g)<=i /\i<e)\/o=i ->(q*(2*g)<=p /\p<e /\q*(2*g)<=j /\j<e)\/p=j ->Cut (2*g) o p\/(q*(2*g)<=o /\Cut g o p):=by
  intro o p J P;rcases hc with⟨k,k1,k2⟩|⟨ha,hc⟩
  ·left
   refine⟨k,?_,?_⟩
   ·rcases J with⟨U,i2,i3,i4⟩|rfl
    ·have:q<k:=by
      rcases Nat.lt_or_ge q k with r|r
      ·exact r
      ·have:=Nat.mul_le_mul_right (2*g) r;omega
     have:=Nat.mul_le_mul_right (2*g) (show q+1<=k from this);omega
    ·exact k1
   ·rcases P with⟨U,i2,i3,i4⟩|rfl
    ·have:k<=q:=by
      rcases Nat.lt_or_ge q k with r|r
      ·have:=Nat.mul_le_mul_right (2*g) (show q+1<=k from r);omega
      ·exact r
     have:=Nat.mul_le_mul_right (2*g) this;omega
    ·exact k2
  ·right
   have e0:(q+1)*(2*g)=q*(2*g)+2*g:=Nat.succ_mul _ _;obtain⟨k,k1,k2⟩:=hc;rcases J with⟨U,i2,i3,i4⟩|rfl
   ·omega
   ·rcases P with⟨j1,j2,j3,j4⟩|rfl
    ·omega
    ·exact⟨by omega,k,k1,k2⟩
 have J: ∃o,((q*(2*g)<=o /\o<e /\q*(2*g)<=i /\i<e)\/o=i)/\l[o]? =some x:=by
  by_cases I:q*(2*g)<=i /\i<e
  ·obtain⟨o,U,i2,i3⟩:=T.mem i x I.1 I.2 hx
   grind
  ·rw[T.out i (by omega)]at hx
   grind
 have P: ∃p,((q*(2*g)<=p /\p<e /\q*(2*g)<=j /\j<e)\/p=j)/\l[p]? =some y:=by
  by_cases I:q*(2*g)<=j /\j<e
  ·obtain⟨o,U,i2,i3⟩:=T.mem j y I.1 I.2 hy
   grind
  ·rw[T.out j (by omega)]at hy
   grind
 obtain⟨o,aa,ab⟩:=J;obtain⟨p,ac,ad⟩:=P;exact h o p x y (key o p aa ac) ab ad
def uO (R:α ->α ->Prop)(g e:Nat)(l:List α):Prop:= ∀i j x y,i<j ->(Cut g i j\/e<=j) ->l[i]? =some x ->l[j]? =some y ->R x y
theorem uO.start {g n:Nat}{l:List α}(h:QL R 0 n l)(I:l.length=n):uO R g 0 l:=by
 intro i j x y o _ p r;exact h i j x y (Nat.zero_le _) o (by grind) p r
theorem uO.pair {g e n:Nat}{l:List α}(h:uO R g e l):QL R e n l:=λi j x y p o _=>h i j x y o (.inr (by omega))
theorem uO.next {g q e:Nat}{l l':List α}(h:uO R g (q*g) l)(o:PermW (q*g) e l l')(h0:q*g<=e)(h2:e<=(q+1)*g):uO R g e l':=by
 intro i j x y J P p r;by_cases U:q*g<=j /\j<e
 ·obtain⟨j0,j1,j2,j3⟩:=o.mem j y U.1 U.2 r;rcases P with⟨k,k1,k2⟩|P
  ·have hk:k<=q:=by
    rcases Nat.lt_or_ge q k with I|I
    ·have:=Nat.mul_le_mul_right g (show q+1<=k from I);omega
    ·exact I
   have aa:=Nat.mul_le_mul_right g hk;rw[o.out i (.inl (by omega))]at p;exact h i j0 x y (by omega) (.inr j1) p j3
  ·omega
 ·rw[o.out j (by omega)]at r;by_cases T:q*g<=i /\i<e
  ·obtain⟨i0,i1,i2,i3⟩:=o.mem i x T.1 T.2 p;exact h i0 j x y (by omega) (.inr (by omega)) i3 r
  ·rw[o.out i (by omega)]at p;refine h i j x y J ?_ p r<;>grind
theorem uO.blk {g e:Nat}{l:List α}(h:uO R g e l):aiL R g l:=λi j x y o=>h i j x y (by obtain⟨k,p,r⟩:=o;omega) (.inl o)
end
section
variable {α:Type}
def wZ (c:α ->α ->Int)(x:α):List α ->List α
 | []=> [x]
 |y::r=>if c x y<0 then x::y::r else y::wZ c x r
def yy (c:α ->α ->Int)(l:List α):List α:=l.foldl (λg x=>wZ c x g) []
def ZD (c:α ->α ->Int)(l:List α):Prop:=List.Pairwise (λx y=>c x y<=0) l
theorem Qs (c:α ->α ->Int)(x:α): ∀l:List α,(wZ c x l).Perm (x::l)
 | []=>List.Perm.refl _
 |y::r=>by
  unfold wZ;split
  ·exact List.Perm.refl _
  ·exact((Qs c x r).cons y).trans (List.Perm.swap x y r)
theorem akG {c:α ->α ->Int}(i:CmpOK c)(x:α): ∀{l:List α},ZD c l ->ZD c (wZ c x l)
 | [],_=>List.pairwise_singleton _ _
 |y::r,h=>by
  unfold wZ;have j: ∀z∈r,c y z<=0:=λz g=>List.rel_of_pairwise_cons h g
  have o:=List.Pairwise.of_cons h;split
  ·rename_i I;refine List.Pairwise.cons (λz g=>?_) h;simp only[List.mem_cons]at g;rcases g with rfl|g
   ·omega
   ·exact i.trans _ _ _ (by omega:c x y<=0) (j z g)
  ·rename_i p;refine List.Pairwise.cons (λz g=>?_) (akG i x o);have g:=(Qs c x r).mem_iff.1 g;simp only[List.mem_cons]at g;rcases g with rfl|g
   ·exact i.ge.1 (by omega)
   grind
theorem atC (c:α ->α ->Int)(l:List α)(x:α):yy c (l++[x])=wZ c x (yy c l):=by simp[yy]
theorem abf (c:α ->α ->Int){l:List α}{i:Nat}{x:α}(h:l[i]? =some x):yy c (l.take (i+1))=wZ c x (yy c (l.take i)):=by
 grind[List.take_add_one,atC]
theorem acu (c:α ->α ->Int)(i:CmpOK c): ∀(l g:List α),ZD c g ->(l.foldl (λg x=>wZ c x g) g).Perm (g++l)/\ZD c (l.foldl (λg x=>wZ c x g) g)
 | [],g,h=>⟨by simp,h⟩
 |x::r,g,h=>by
  obtain⟨j,o⟩:=acu c i r (wZ c x g) (akG i x h);refine⟨j.trans ?_,o⟩;exact((Qs c x g).append_right r).trans (List.perm_middle.symm)
theorem uD {c:α ->α ->Int}(g:CmpOK c)(l:List α):(yy c l).Perm l:=(acu c g l [] List.Pairwise.nil).1
theorem Wn {c:α ->α ->Int}(g:CmpOK c)(l:List α):ZD c (yy c l):=(acu c g l [] List.Pairwise.nil).2
def j6 (c:α ->α ->Int)(x y:α×Nat):Int:=if c x.1 y.1=0 then(if x.2<y.2 then -1 else if y.2<x.2 then 1 else 0)else c x.1 y.1
theorem aeh {c:α ->α ->Int}(g:CmpOK c):CmpOK (j6 c):=by
 refine⟨λx=>?_,λx y=>?_,λx y z j l=>?_⟩
 ·simp[j6,g.refl]
 ·have h0:=g.zero (x:=x.1) (y:=y.1);have j:=g.anti x.1 y.1;unfold j6;omega
 ·have h0:=g.zero (x:=x.1) (y:=y.1);have r:=g.zero (x:=y.1) (y:=z.1);have I:=g.trans x.1 y.1 z.1;unfold j6 at j l⊢;by_cases p:c x.1 y.1=0
  ·by_cases i:c y.1 z.1=0
   ·omega
   ·rw[if_neg i]at l;have o:=g.lt_of2 (x:=x.1) (y:=y.1) (z:=z.1) (by omega) (by omega);omega
  ·rw[if_neg p]at j;by_cases i:c y.1 z.1=0
   ·have o:=g.lt_of (x:=x.1) (y:=y.1) (z:=z.1) (by omega) (by omega);omega
   ·rw[if_neg i]at l;have o:=g.lt_of (x:=x.1) (y:=y.1) (z:=z.1) (by omega) (by omega);omega
theorem arK {c:α ->α ->Int}(g:CmpOK c){x y:α×Nat}(h:x.2<y.2):c y.1 x.1<0↔j6 c y x<0:=by
 unfold j6;omega
theorem an9 (c:α ->α ->Int)(x:α)(n:Nat): ∀l:List (α×Nat),(∀y∈l,y.2<n) ->(wZ (j6 c) (x,n) l).map Prod.fst=wZ c x (l.map Prod.fst)
 | [],_=>rfl
 |y::r,h=>by
  have g:=h y (List.mem_cons_self ..);have o:=an9 c x n r (λz i=>h z (List.mem_cons_of_mem _ i));have e:j6 c (x,n) y<0↔c x y.1<0:=by
   unfold j6;by_cases e:c x y.1=0
   ·rw[if_pos e,if_neg (by grind),if_pos (show y.2<n from g)];omega
   simp_all
  simp only[wZ,List.map_cons];by_cases j:c x y.1<0
  ·simp_all
  simp_all[if_neg]
def vl (l:List α):List (α×Nat):=l.zipIdx
theorem av0 {c:α ->α ->Int}(r:CmpOK c)(l:List α):(yy (j6 c) (vl l)).map Prod.fst=yy c l:=by
 have h: ∀n,n<=l.length ->(yy (j6 c) ((vl l).take n)).map Prod.fst=yy c (l.take n)/\ ∀y∈yy (j6 c) ((vl l).take n),y.2<n:=by
  intro n;induction n with
  |zero=>grind[yy]
  |succ n p=>
   intro I;obtain⟨i,j⟩:=p (by omega);have g:(vl l)[n]? =some (l[n],n):=by
    grind[vl]
   rw[abf _ g,abf c (List.getElem?_eq_getElem (by omega:n<l.length)),an9 c _ _ _ j,i];refine⟨rfl,λy o=>?_⟩;have:=(Qs _ _ _).mem_iff.1 o;simp only[List.mem_cons]at this;rcases this with rfl|h
   ·simp_all
   grind
 have:=(h l.length (Nat.le_refl _)).1<;>simp_all[List.take_of_length_le,vl]
theorem aAU {c:α ->α ->Int}{l:List α}{n:Nat}(h:yx c 0 n l)(r:l.length=n):ZD c l:=by
 refine List.pairwise_iff_getElem.2 λi j o p g=>?_
 exact h i j _ _ (Nat.zero_le _) g (by omega) (List.getElem?_eq_getElem o) (List.getElem?_eq_getElem p)
theorem afl (l:List α)(n:Nat):QL (λx y:α×Nat=>x.2<y.2) 0 n (vl l):=by
 intro i j x y _ g _ o p<;>grind[vl]
theorem abi (l:List α):(vl l).length=l.length:=by simp[vl]
theorem abh (l:List α):(vl l).map Prod.fst=l:=by
 simp_all[vl]
theorem awb {c:α ->α ->Int}(j:CmpOK c){x y:α×Nat}(i:j6 c x y<=0)(g:j6 c y x<=0):x.2=y.2:=by
 have h0:=j.zero (x:=x.1) (y:=y.1);unfold j6 at i g;by_cases e:c x.1 y.1=0
 ·omega
 ·rw[if_neg e]at i;rw[if_neg (λe'=>e (h0.2 e'))]at g;have:=j.ge.2 g;omega
theorem alt {c:α ->α ->Int}(o:CmpOK c){l:List α}{l':List (α×Nat)}{n:Nat}(hn:l.length=n)(j:PermW 0 n (vl l) l')(hs:yx (j6 c) 0 n l'):l'.map Prod.fst=yy c l:=by
 have aa:l'.length=n:=by rw[j.len,abi,hn]
 rw[<- av0 o l];congr 1
 have p:l'.Perm (yy (j6 c) (vl l)):=j.perm.trans (uD (aeh o) _).symm;have U: ∀x∈l',∀y∈l',x.2=y.2 ->x=y:=by
  intro x g y i e;have g:=j.perm.mem_iff.1 g;have i:=j.perm.mem_iff.1 i;have g:=List.mem_zipIdx g;have i:=List.mem_zipIdx i<;>grind
 have gen: ∀{u v:List (α×Nat)},ZD (j6 c) u ->ZD (j6 c) v ->u.Perm v ->(∀x∈u,∀y∈u,x.2=y.2 ->x=y) ->u=v:=by
  intro u;induction u with
  |nil=>grind[List.Perm.nil_eq]
  |cons x r ih=>
   intro v P R j T;cases v with
   |nil=>exact absurd j.length_eq (by simp)
   |cons y r'=>
    have I:x=y:=by
     have g:x∈y::r':=j.mem_iff.1 (List.mem_cons_self ..);have i:y∈x::r:=j.mem_iff.2 (List.mem_cons_self ..);have J:=i;simp only[List.mem_cons]at g i;rcases g with g|g
     ·exact g
     ·rcases i with i|i
      ·grind
      ·exact T _ (List.mem_cons_self ..) _ J (awb o (List.rel_of_pairwise_cons P i) (List.rel_of_pairwise_cons R g))
    subst I;rw[ih (List.Pairwise.of_cons P) (List.Pairwise.of_cons R) (List.Perm.cons_inv j) (λa ha b hb=>T a (List.mem_cons_of_mem _ ha) b (List.mem_cons_of_mem _ hb))]
 grind[aAU,Wn,aeh]
end
section
attribute [local irreducible] Sat zQ yv
theorem an5 (i j:Nat)(h:i+j<=4611686018427387904):IntKind.i64.wrap (VS false IntKind.u64 (IntKind.u64.wrap (IntKind.i64.wrap ((i:Int)+(j:Int)))) 1)=(((i+j)/2:Nat):Int):=by
 grind[xj,IntKind.wrap,IntKind.bits,VS]
theorem Yh {a b c d:Nat}(h:(decide ((a:Int)<(b:Int))&&decide ((c:Int)<(d:Int)))=true):a<b /\c<d:=by
 simp_all
theorem Yg {a b c d:Nat}(h:(decide ((a:Int)<(b:Int))&&decide ((c:Int)<(d:Int)))=false):b<=a\/d<=c:=by
 grind
section
variable {α:Type}{c:α ->α ->Int}
def jf (c:α ->α ->Int)(g e:Nat)(l:List α):Prop:= ∀k,yx c (k*g) (min ((k+1)*g) e) l
def VU (c:α ->α ->Int)(g a n:Nat)(l:List α):Prop:= ∀k,a<=k*g ->yx c (k*g) (min ((k+1)*g) n) l
theorem jf.zero (g:Nat)(l:List α):jf c g 0 l:=λk=>yx.one _ _ _ (by omega)
theorem jf.ext {g q e:Nat}{l l':List α}(h:jf c g (q*g) l)(p:PermW (q*g) e l l')(hs:yx c (q*g) e l')(o:q*g<=e)(r:e<=(q+1)*g):jf c g e l':=by
 intro k;rcases Nat.lt_trichotomy k q with hk|hk|hk
 ·have j:(k+1)*g<=q*g:=Nat.mul_le_mul_right _ hk;have:=h k;rw[Nat.min_eq_left j]at this;rw[Nat.min_eq_left (Nat.le_trans j o)];exact this.same λi _ I=>p.out i (.inl (by omega))
 ·grind
 ·have j:(q+1)*g<=k*g:=Nat.mul_le_mul_right _ hk
  grind[yx.one]
theorem jf.blkF {g n:Nat}{l:List α}(h:jf c g n l):VU c g 0 n l:=λk _=>h k
theorem VU.next {g a e n:Nat}{l l':List α}(h:VU c g a n l)(j:PermW a e l l')(o:a<=e):VU c g e n l':=λk hk=>(h k (by omega)).same λi p _=>j.out i (.inr (by omega))
theorem VU.at0 {g q n:Nat}{l:List α}(h:VU c g (q*(2*g)) n l):yx c (q*(2*g)) (min (q*(2*g)+g) n) l:=by
 have i:q*(2*g)=(2*q)*g:=by grind
 have j:(2*q+1)*g=2*q*g+g:=Nat.succ_mul (2*q) g;have:=h (2*q) (by omega)<;>grind
theorem VU.at1 {g q n:Nat}{l:List α}(h:VU c g (q*(2*g)) n l):yx c (q*(2*g)+g) (min (q*(2*g)+g+g) n) l:=by
 have i:q*(2*g)=(2*q)*g:=by grind
 have j:(2*q+1)*g=2*q*g+g:=Nat.succ_mul (2*q) g;have o:(2*q+1+1)*g=2*q*g+g+g:=by grind
 have:=h (2*q+1) (by grind)
 grind
end
namespace So
def eL {α:Type}(en:α ->List D)(l:List α):List (List D):=l.map en
section
variable {α:Type}(en:α ->List D)
theorem w9 {l:List α}{i:Nat}{x:α}(h:l[i]? =some x):(eL en l)[i]? =some (en x):=by simp[eL,h]
theorem JA (l:List α)(i:Nat)(x:α):(eL en l).set i (en x)=eL en (l.set i x):=by simp[eL]
theorem ahm {l:List α}{i j:Nat}{x y:α}(h:l[j]? =some y): ∃z:α,((eL en l).set i (en x))[j]? =some (en z):=by
 have g:j<l.length:=(List.getElem?_eq_some_iff.1 h).1;rw[JA];exact⟨(l.set i x)[j]'(by simpa using g),w9 en (List.getElem?_eq_getElem _)⟩
theorem apM {l:List α}{i j:Nat}(x y:α):((eL en l).set i (en y)).set j (en x)=eL en (WC l i j x y):=by rw[JA,JA];rfl
end
structure Rt (α:Type) where
 P:List α
 A:List α
 B:List α
 S:List α
def Rt.l {α:Type}(x:Rt α):List α:=x.P++x.A++x.B++x.S
def Rt.t {α:Type}(x:Rt α):List α:=x.P++x.B++x.A++x.S
def aC1 (sz:Nat)(f:W)(n a b i:Nat)(g:List (List D)):S:=⟨[(0,cV (.own 100000 sz n)),(1,zj a),(2,zj b),(3,.w f),(8,zj i)],[(100000,.arr sz g false)]⟩
def aBG (sz:Nat)(f:W)(n a b i j:Nat)(g:List (List D)):S:=⟨[(0,cV (.own 100000 sz n)),(1,zj a),(2,zj b),(3,.w f),(8,zj i),(9,zj j)],[(100000,.arr sz g false)]⟩
def swS (sz n a b k i:Nat)(g:List (List D)):S:=⟨[(0,cV (.own 100000 sz n)),(1,zj a),(2,zj b),(3,zj k),(10,zj i)],[(100000,.arr sz g false)]⟩
def aoZ (sz:Nat)(f:W)(n m i j:Nat)(g:List (List D)):S:=⟨[(0,cV (.own 100000 sz n)),(2,zj m),(4,.w f),(10,zj i),(11,zj j)],[(100000,.arr sz g false)]⟩
def aDd (sz:Nat)(f:W)(n a i j:Nat)(g:List (List D)):S:=⟨[(0,cV (.own 100000 sz n)),(1,zj a),(4,.w f),(10,zj i),(11,zj j)],[(100000,.arr sz g false)]⟩
def aCa (sz n i k:Nat)(g:List (List D)):S:=⟨[(0,cV (.own 100000 sz n)),(10,zj i),(13,zj k)],[(100000,.arr sz g false)]⟩
def aDe (sz:Nat)(f:W)(n m i j:Nat)(g:List (List D)):S:=⟨[(0,cV (.own 100000 sz n)),(2,zj m),(4,.w f),(14,zj i),(15,zj j)],[(100000,.arr sz g false)]⟩
def aCb (sz n i k:Nat)(g:List (List D)):S:=⟨[(0,cV (.own 100000 sz n)),(14,zj i),(17,zj k)],[(100000,.arr sz g false)]⟩
def aCc (sz:Nat)(f:W)(N a m b i n s r p:Nat)(g:List (List D)):S:=⟨[(0,cV (.own 100000 sz N)),(1,zj a),(2,zj m),(3,zj b),(4,.w f),(18,zj i),(19,zj n),(20,zj s),(21,zj r),(22,zj p)],[(100000,.arr sz g false)]⟩
def stS (sz:Nat)(f:W)(N n i a b:Nat)(g:List (List D)):S:=⟨[(0,cV (.own 100000 sz N)),(1,zj n),(2,.w f),(6,zj i),(7,zj a),(8,zj b)],[(100000,.arr sz g false)]⟩
def stT (sz:Nat)(f:W)(N n i:Nat)(g:List (List D)):S:=⟨[(0,cV (.own 100000 sz N)),(1,zj n),(2,.w f),(6,zj i)],[(100000,.arr sz g false)]⟩
section
variable {α:Type}(k sz:Nat) (en:α ->List D) (cal:α ->α ->List W) (clo:FuncId ->W)
def agN (g:FuncId)(c:α ->α ->Int)(R:α ->α ->Prop):Prop:= ∀x y:α,R x y ->Sat Pg g (cal y x) (λr=> ∃z,r=rI z /\(z<0↔c y x<0))
def am0 (c:α ->α ->Int)(a b:Nat)(l:List α)(r:Res):Prop:= ∃l':List α,PermW a b l l' /\yx c a b l' /\r=⟨.tup [],[.arr sz (eL en l') false]⟩
def adI:Prop:= ∀(g:FuncId) (c:α ->α ->Int) (_:CmpOK c) (R:α ->α ->Prop) (_:agN cal g c R) (l:List α) (a b:Nat) (_:a<=b) (_:b<=l.length) (_:l.length<=1000000) (_:QL R a b l),
    zQ Pg k [.c (.own 0 sz l.length),.c (int a),.c (int b),clo g] [.arr sz (eL en l) false] (am0 sz en c a b l)
def J5:Prop:= ∀(g:FuncId) (P X M Y S:List α) (_:X.length=Y.length) (N a b n:Nat) (_:N=(P++X++M++Y++S).length) (_:a=P.length) (_:n=X.length) (_:b=P.length+X.length+M.length) (_:N<=1000000),
    zQ Pg k [.c (.own 0 sz N),.c (int a),.c (int b),.c (int n),clo g] [.arr sz (eL en (P++X++M++Y++S)) false] (λr=>r=⟨.tup [],[.arr sz (eL en (P++Y++M++X++S)) false]⟩)
def agQ:Prop:= ∀(g:FuncId) (i:Rt α) (N a m b:Nat) (_:N=i.l.length) (_:a=i.P.length) (_:m=a+i.A.length) (_:b=m+i.B.length) (_:0<i.A.length) (_:0<i.B.length) (_:N<=1000000),
    zQ Pg k [.c (.own 0 sz N),.c (int a),.c (int m),.c (int b),clo g] [.arr sz (eL en i.l) false] (λr=>r=⟨.tup [],[.arr sz (eL en i.t) false]⟩)
def aCS (g:FuncId)(c:α ->α ->Int)(R:α ->α ->Prop)(N n:Nat):Prop:= ∀(l:List α) (a m b:Nat),b - a<=n ->a<m ->m<b ->b<=l.length ->l.length=N ->yx c a m l ->yx c m b l ->aak R a m m b l ->
    zQ Pg k [.c (.own 0 sz N),.c (int a),.c (int m),.c (int b),clo g] [.arr sz (eL en l) false] (am0 sz en c a b l)
def am1:Prop:= ∀(g:FuncId) (c:α ->α ->Int) (_:CmpOK c) (R:α ->α ->Prop) (_:agN cal g c R) (N:Nat) (_:N<=1000000) (n:Nat),aCS k sz en clo g c R N n
def aua:Prop:= ∀(g:FuncId) (c:α ->α ->Int) (_:CmpOK c) (R:α ->α ->Prop) (_:agN cal g c R) (l:List α) (n:Nat) (_:l.length=n) (_:n<=1000000) (_:QL R 0 n l),
    zQ Pg k [.c (.own 0 sz n),.c (int n),clo g] [.arr sz (eL en l) false] (am0 sz en c 0 n l)
def SortStable:Prop:= ∀(g:FuncId) (c:α ->α ->Int) (_:CmpOK c) (R:α ->α ->Prop) (_:agN cal g c R) (l:List α) (n:Nat) (_:l.length=n) (_:n<=1000000) (_:QL R 0 n l),
    zQ Pg k [.c (.own 0 sz n),clo g] [.arr sz (eL en l) false] (am0 sz en c 0 n l)
variable {k sz en cal clo}
theorem adI.p (r:adI k sz en cal clo)(g:FuncId)(c:α ->α ->Int)(j:CmpOK c)(R:α ->α ->Prop)(P:agN cal g c R)(N:Nat)(l:List α)(a b:Nat)(I:l.length=N)(i:a<=b)(J:b<=N)(T:N<=1000000)(o:QL R a b l):
 zQ Pg k [.c (.own 0 sz N),.c (int a),.c (int b),clo g] [.arr sz (eL en l) false] (am0 sz en c a b l):=by
 subst I;exact r g c j R P l a b i J T o
theorem J5.p (o:J5 k sz en clo)(g:FuncId)(P X M Y S l l':List α)(i:l=P++X++M++Y++S)(j:l'=P++Y++M++X++S)(h:X.length=Y.length)(N a b n:Nat)(I:N=l.length)(J:a=P.length)(U:n=X.length)(R:b=P.length+X.length+M.length)(T:N<=1000000):
 zQ Pg k [.c (.own 0 sz N),.c (int a),.c (int b),.c (int n),clo g] [.arr sz (eL en l) false] (λr=>r=⟨.tup [],[.arr sz (eL en l') false]⟩):=by
 subst i j;exact o g P X M Y S h N a b n I J U R T
def VV (c:α ->α ->Int)(l:List α)(i j:Nat):Prop:= ∃u v,l[i]? =some u /\l[j]? =some v /\c u v<=0
def af7 (s m e:Nat)(l:List α):List α:=l.take s++(l.drop m).take (e - m)++(l.drop s).take (m - s)++l.drop e
theorem agQ.p (I:agQ k sz en clo)(g:FuncId)(l:List α)(N s m e:Nat)(i:s<m)(j:m<e)(o:e<=l.length)(J:l.length=N)(P:N<=1000000):
 zQ Pg k [.c (.own 0 sz N),.c (int s),.c (int m),.c (int e),clo g] [.arr sz (eL en l) false] (λr=>r=⟨.tup [],[.arr sz (eL en (af7 s m e l)) false]⟩):=by
 have h:=I g ⟨l.take s,(l.drop s).take (m - s),(l.drop m).take (e - m),l.drop e⟩ N s m e;simp only[Rt.l,Rt.t,abR (Nat.le_of_lt i) (Nat.le_of_lt j) o]at h;refine h J.symm ?_ ?_ ?_ ?_ ?_ P<;>simp<;>omega
theorem vq {c:α ->α ->Int}{l o p j:List α}{a r g e b:Nat}(hw:PermW r e l o)(P:a<=r)(R:e<=b)(J:PermW a g o p)(I:PermW g b p j)(T:a<=g)(U:g<=b)
 (t2:yx c a g p) (t3:yx c g b j) (s5:LeW c a g g b o):PermW a b l j /\yx c a b j:=
 ⟨(hw.mono P R).trans ((J.mono (Nat.le_refl _) U).trans (I.mono T (Nat.le_refl _))),yx.glue (t2.same λi _ i2=>I.out i (.inl i2)) t3 ((s5.perm J).perm2 I)⟩
end
end So
namespace So
theorem alx {p:Prop}(h:p:=by
 intro g c aa R hg l a b ae hb hl ac;have wa:IntKind.i64.wrap ((a:Int)+1)=((a+1:Nat):Int):=zt (n:=1000001) (by omega) (by omega);refine uG T8 cI_ok (by kernel_rfl) (by simp) ?_
 conv=>whnf
 refine yQ (P:=Pg) (f:=T8.f) (body:=cI_L1) (λx:Nat×List α=>aC1 sz (clo E g) l.length a b x.1 (eL (en E) x.2)) (λx=>b - x.1)
  (λx=>a<x.1 /\(x.1<=b\/(x.1=a+1 /\x.2=l))/\PermW a x.1 l x.2 /\yx c a x.1 x.2)
  ⟨(a+1,l),⟨by show a<a+1;omega,.inr ⟨rfl,rfl⟩,PermW.refl _ _ _,yx.one _ _ _ (Nat.le_refl _)⟩,zf ?_⟩ ?_
 ·(conv=>whnf);rw[wa];rfl
 ·rintro⟨i,l1⟩ hR;have hS:a<i /\(i<=b\/(i=a+1 /\l1=l))/\PermW a i l l1 /\yx c a i l1:=hR;clear hR;obtain⟨g1,g2,g3,g4⟩:=hS;refine zh (λU=>?_) (λU=>?_)
  ·have r:i<b:=by have U:decide ((i:Int)<(b:Int))=true:=U;have:=of_decide_eq_true U;omega
   have wi:IntKind.i64.wrap ((i:Int)+1)=((i+1:Nat):Int):=zt r (by omega);(conv=>whnf)
   refine yQ (P:=Pg) (f:=T8.f) (body:=cI_L0) (λx:Nat×List α=>aBG sz (clo E g) l.length a b i x.1 (eL (en E) x.2)) (λx=>x.1)
    (λx=>a<=x.1 /\x.1<=i /\PermW a (i+1) l x.2 /\kd c a i x.1 x.2 /\ab3 R a x.1 x.2)
    ⟨(i,l1),⟨by show a<=i;omega,Nat.le_refl _,g3.mono (Nat.le_refl _) (by omega),kd.start g4,ab3.start ac g3 r⟩,zf ?_⟩ ?_
   ·exact rfl
   ·rintro⟨j,o⟩ hR;have hS:a<=j /\j<=i /\PermW a (i+1) l o /\kd c a i j o /\ab3 R a j o:=hR;clear hR;obtain⟨k1,k2,k3,k4,k6⟩:=hS;have k5:=k3.len;refine zh (λh2=>?_) (λh2=>?_)
    ·have I:a<j:=by have h2:decide ((j:Int)>(a:Int))=true:=h2;have:=of_decide_eq_true h2;omega
     have wj:IntKind.i64.wrap ((j:Int) - 1)=((j - 1:Nat):Int):=amV (by omega) (by omega);obtain⟨x,J⟩:=uj (l:=o) (i:=j - 1) (by omega);obtain⟨y,T⟩:=uj (l:=o) (i:=j) (by omega);(conv=>whnf);refine⟨by show(0:Int)<=(j:Int);omega,by show(j:Int)<(l.length:Int);omega,?_⟩;(conv=>whnf);refine⟨_,w9 (en E) T,?_⟩;(conv=>whnf);rw[wj];refine⟨by omega,by omega,?_⟩;(conv=>whnf);refine⟨_,w9 (en E) J,?_⟩;(conv=>whnf);refine Sat.mono (hg x y (k6 (j - 1) x y (by omega) (by omega) J T)) ?_;rintro _ ⟨z,rfl,hz⟩;refine zh (λh3=>?_) (λh3=>?_)
     ·have ab:c y x<0:=hz.1 (of_decide_eq_true h3);(conv=>whnf);rw[wj];refine⟨by omega,by omega,?_⟩;(conv=>whnf);refine⟨_,w9 (en E) J,?_⟩;(conv=>whnf);refine⟨by show(0:Int)<=(j:Int);omega,by show(j:Int)<(l.length:Int);omega,?_⟩;(conv=>whnf);refine⟨_,w9 (en E) T,?_⟩;(conv=>whnf);refine⟨by show(0:Int)<=(j:Int);omega,by show(j:Int)<(l.length:Int);omega,?_⟩;(conv=>whnf);refine⟨_,w9 (en E) T,Nat.le_refl _,?_⟩;(conv=>whnf);refine⟨by omega,by omega,?_⟩;obtain⟨z1,ad⟩:=ahm (en E) (i:=j) (x:=x) J;(conv=>whnf);refine⟨_,ad,Nat.le_refl _,?_⟩;(conv=>whnf);refine⟨(j - 1,WC o j (j - 1) y x),⟨⟨by show a<=j - 1;omega,by show j - 1<=i;omega,k3.trans (atJ T J (by omega) (by omega) (by omega) (by omega)),k4.step aa I k2 J T ab,k6.step I J T⟩,by show j - 1<j;omega⟩,zf ?_⟩;(conv=>whnf);rw[wj];have e:((eL (en E) o).set j (en E x)).set (j - 1) (en E y)=eL (en E) (WC o j (j - 1) y x):=by rw[JA,JA];rfl
      exact congrArg (aBG sz (clo E g) l.length a b i (j - 1)) e
     ·have af: ¬c y x<0:=λh=>(of_decide_eq_false h3: ¬z<0) (hz.2 h)
      (conv=>whnf);refine⟨(i+1,o),⟨⟨by show a<i+1;omega,.inl (by show i+1<=b;omega),k3,?_⟩,by show b -(i+1)<b - i;omega⟩,zf ?_⟩
      ·exact k4.stop aa k2 (.inr ⟨x,y,J,T,by omega⟩)
      ·(conv=>whnf);rw[wi];rfl
    ·have I:j<=a:=by have h2:decide ((j:Int)>(a:Int))=false:=h2;have:=of_decide_eq_false h2;omega
     (conv=>whnf);refine⟨(i+1,o),⟨⟨by show a<i+1;omega,.inl (by show i+1<=b;omega),k3,?_⟩,by show b -(i+1)<b - i;omega⟩,zf ?_⟩
     ·exact k4.stop aa k2 (.inl I)
     ·(conv=>whnf);rw[wi];rfl
  ·have r:b<=i:=by have U:decide ((i:Int)<(b:Int))=false:=U;have:=of_decide_eq_false U;omega
   (conv=>whnf);refine⟨l1,?_,g4.mono (Nat.le_refl _) r,rfl⟩;rcases g2 with g2|⟨_,g2⟩
   ·exact g3.mono (Nat.le_refl _) g2
   ·rw[g2];exact PermW.refl _ _ _):p:=h
theorem afs {p:Prop}(h:p:=by
 intro g P X M Y S h N a b n U ha hn hb hl;have ab:P.length+X.length+M.length+Y.length+S.length=N:=by rw[U];simp;omega
 obtain⟨l0,o⟩: ∃l0,l0=P++X++M++Y++S:=⟨_,rfl⟩;rw[<- o];refine uG T8 cW_ok (by kernel_rfl) (by simp) ?_
 conv=>whnf
 refine zF (P:=Pg) (f:=T8.f) (body:=cW_L0) n (λi=>swS sz N a b n i (eL (en E) (UD P X M Y S i))) (λ_=>True) ⟨trivial,zf ?_⟩ ?_
 ·(conv=>whnf);rw[o,<- azm];rfl
 ·intro i hi _;have r:=aA0 P X M Y S i h (by omega);rw[<- U]at r;refine zh (λj=>?_) (λj=>?_)
  ·have I:i<n:=by have j:decide ((i:Int)<(n:Int))=true:=j;have:=of_decide_eq_true j;omega
   obtain⟨x,y,J,R,hs⟩:=azl P X M Y S i h (by omega);rw[<- hb]at R hs;rw[<- ha]at J hs;have wi:IntKind.i64.wrap ((i:Int)+1)=((i+1:Nat):Int):=zt I (by omega);have wa:IntKind.i64.wrap ((a:Int)+(i:Int))=((a+i:Nat):Int):=by rw[xj (by omega) (by omega)];omega
   have wb:IntKind.i64.wrap ((b:Int)+(i:Int))=((b+i:Nat):Int):=by rw[xj (by omega) (by omega)];omega
   (conv=>whnf);rw[wb];refine⟨by omega,by omega,?_⟩;(conv=>whnf);refine⟨_,w9 (en E) R,?_⟩;(conv=>whnf);rw[wa];refine⟨by omega,by omega,?_⟩;(conv=>whnf);refine⟨_,w9 (en E) J,?_⟩;(conv=>whnf);refine⟨by omega,by omega,?_⟩;(conv=>whnf);refine⟨_,w9 (en E) J,Nat.le_refl _,?_⟩;(conv=>whnf);refine⟨by omega,by omega,?_⟩;obtain⟨z1,T⟩:=ahm (en E) (i:=a+i) (x:=y) R;(conv=>whnf);refine⟨_,T,Nat.le_refl _,?_⟩;(conv=>whnf);refine⟨I,trivial,zf ?_⟩;(conv=>whnf);rw[wi];have e:((eL (en E) (UD P X M Y S i)).set (a+i) (en E y)).set (b+i) (en E x)=eL (en E) (UD P X M Y S (i+1)):=by rw[JA,JA,<- hs];rfl
   exact congrArg (swS sz N a b n (i+1)) e
  ·have aa:n<=i:=by have j:decide ((i:Int)<(n:Int))=false:=j;have:=of_decide_eq_false j;omega
   obtain rfl:i=n:=by omega
   (conv=>whnf);have e:=aAZ P X M Y S h;rw[<- hn]at e;exact congrArg (λl=>(⟨.tup [],[.arr sz (eL (en E) l) false]⟩:Res)) e):p:=h
theorem apU {p:Prop}(h:p:=by
 intro g j N a m b hN ha hm hb hA hB hl;have ag:j.P.length+j.A.length+j.B.length+j.S.length=N:=by rw[hN];simp[Rt.l];omega
 have w1:IntKind.i64.wrap ((m:Int) -(a:Int))=((j.A.length:Nat):Int):=by rw[xj (by omega) (by omega)];omega
 have w2:IntKind.i64.wrap ((b:Int) -(m:Int))=((j.B.length:Nat):Int):=by rw[xj (by omega) (by omega)];omega
 refine uG T8 cO_ok (by kernel_rfl) (by simp) ?_
 conv=>whnf
 refine yQ (P:=Pg) (f:=T8.f) (body:=cO_L0) (λx:Rt α=>aoZ sz (clo E g) N m x.A.length x.B.length (eL (en E) x.l)) (λx=>x.A.length+x.B.length)
  (λx=>x.P.length+x.A.length=m /\0<x.A.length /\0<x.B.length /\x.l.length=N /\x.t=j.t)
  ⟨j,⟨by omega,hA,hB,hN.symm,rfl⟩,zf ?_⟩ ?_
 ·(conv=>whnf);rw[w1,w2];rfl
 ·rintro⟨P,A,B,S⟩ hR;have hS:P.length+A.length=m /\0<A.length /\0<B.length /\(P++A++B++S).length=N /\P++B++A++S=j.t:=hR;clear hR;obtain⟨g1,g2,g3,U,g5⟩:=hS;have g6:P.length+A.length+B.length+S.length=N:=by rw[<- U];simp;omega
  have J:IntKind.i64.wrap ((m:Int) -(A.length:Int))=((P.length:Nat):Int):=by rw[xj (by omega) (by omega)];omega
  refine zh (λo=>?_) (λo=>?_)
  ·have af:A.length≠B.length:=by
    intro e;have o:(((A.length:Nat):Int) !=((B.length:Nat):Int))=true:=o;rw[e]at o;simp at o
   refine zh (λI=>?_) (λI=>?_)
   ·have ad:B.length<A.length:=by have I:decide ((A.length:Int)>(B.length:Int))=true:=I;have:=of_decide_eq_true I;omega
    have aa:IntKind.i64.wrap ((A.length:Int) -(B.length:Int))=(((A.drop B.length).length:Nat):Int):=by rw[xj (by omega) (by omega),List.length_drop];omega
    have r:(A.take B.length).length=B.length:=by rw[List.length_take];omega
    have R:(A.drop B.length).length=A.length - B.length:=List.length_drop;have T:A.take B.length++A.drop B.length=A:=List.take_append_drop _ _;(conv=>whnf);rw[J];obtain⟨l',i⟩: ∃l',l'=(P++B)++A.drop B.length++A.take B.length++S:=⟨_,rfl⟩;refine zQ.mono (swapRange' E g P (A.take B.length) (A.drop B.length) B S (P++A++B++S) l' ?_ i r N P.length m B.length U.symm rfl r.symm (by omega) hl) ?_
    ·rw[List.append_assoc P (A.take _),T]
    rintro _ rfl;(conv=>whnf);refine⟨⟨P++B,A.drop B.length,A.take B.length,S⟩,⟨⟨?_,?_,?_,?_,?_⟩,?_⟩,zf ?_⟩
    ·show(P++B).length+(A.drop B.length).length=m;rw[R,List.length_append];omega
    ·show 0<(A.drop B.length).length;omega
    ·show 0<(A.take B.length).length;omega
    ·show((P++B)++A.drop B.length++A.take B.length++S).length=N;simp only[List.length_append,r,R];omega
    ·show(P++B)++A.take B.length++A.drop B.length++S=j.t;rw[<- g5,List.append_assoc (P++B) (A.take _),T]
    ·show(A.drop B.length).length+(A.take B.length).length<A.length+B.length;omega
    ·(conv=>whnf);rw[aa];show aoZ sz (clo E g) N m (A.drop B.length).length B.length (eL (en E) l')=aoZ sz (clo E g) N m (A.drop B.length).length (A.take B.length).length (eL (en E) ((P++B)++A.drop B.length++A.take B.length++S));rw[r,i]
   ·have ae:A.length<B.length:=by have I:decide ((A.length:Int)>(B.length:Int))=false:=I;have:=of_decide_eq_false I;omega
    have r:(B.take (B.length - A.length)).length=B.length - A.length:=by rw[List.length_take];omega
    have R:(B.drop (B.length - A.length)).length=A.length:=by rw[List.length_drop];omega
    have T:B.take (B.length - A.length)++B.drop (B.length - A.length)=B:=List.take_append_drop _ _;have ab:IntKind.i64.wrap ((B.length:Int) -(A.length:Int))=(((B.take (B.length - A.length)).length:Nat):Int):=by rw[xj (by omega) (by omega),r];omega
    have ac:IntKind.i64.wrap ((m:Int)+(B.length:Int))=((m+B.length:Nat):Int):=by rw[xj (by omega) (by omega)];omega
    have wk:IntKind.i64.wrap (((m+B.length:Nat):Int) -(A.length:Int))=((m+B.length - A.length:Nat):Int):=by rw[xj (by omega) (by omega)];omega
    (conv=>whnf);rw[J,ac,wk];obtain⟨l',i⟩: ∃l',l'=P++B.drop (B.length - A.length)++B.take (B.length - A.length)++(A++S):=⟨_,rfl⟩;refine zQ.mono (swapRange' E g P A (B.take (B.length - A.length)) (B.drop (B.length - A.length)) S (P++A++B++S) l' ?_ ?_ R.symm N P.length (m+B.length - A.length) A.length U.symm rfl rfl (by omega) hl) ?_
    ·rw[List.append_assoc (P++A) (B.take _),T]
    ·rw[i];simp only[List.append_assoc]
    rintro _ rfl;(conv=>whnf);refine⟨⟨P,B.drop (B.length - A.length),B.take (B.length - A.length),A++S⟩,⟨⟨?_,?_,?_,?_,?_⟩,?_⟩,zf ?_⟩
    ·show P.length+(B.drop (B.length - A.length)).length=m;omega
    ·show 0<(B.drop (B.length - A.length)).length;omega
    ·show 0<(B.take (B.length - A.length)).length;omega
    ·show(P++B.drop (B.length - A.length)++B.take (B.length - A.length)++(A++S)).length=N;simp only[List.length_append,r,R];omega
    ·show P++B.take (B.length - A.length)++B.drop (B.length - A.length)++(A++S)=j.t;rw[<- g5,List.append_assoc P (B.take _),T];simp only[List.append_assoc]
    ·show(B.drop (B.length - A.length)).length+(B.take (B.length - A.length)).length<A.length+B.length;omega
    ·(conv=>whnf);rw[ab];show aoZ sz (clo E g) N m A.length (B.take (B.length - A.length)).length (eL (en E) l')=aoZ sz (clo E g) N m (B.drop (B.length - A.length)).length (B.take (B.length - A.length)).length (eL (en E) (P++B.drop (B.length - A.length)++B.take (B.length - A.length)++(A++S)));rw[R,i]
  ·have heq:A.length=B.length:=by
    have o:(((A.length:Nat):Int) !=((B.length:Nat):Int))=false:=o;rw[bne_eq_false_iff_eq]at o;omega
   (conv=>whnf);rw[J];refine zQ.mono (swapRange' E g P A [] B S (P++A++B++S) (P++B++A++S) (by simp) (by simp) heq N P.length m A.length U.symm rfl rfl (by simp;omega) hl) ?_;rintro _ rfl;(conv=>whnf);exact congrArg (λl=>(⟨.tup [],[.arr sz (eL (en E) l) false]⟩:Res)) g5):p:=h
theorem aiK {p:Prop}(h:p:=by
 intro g c ac R hg N hl;intro k;induction k with
 |zero=>intro l a m b h0 h1 h2;omega
 |succ k ih=>
 intro l a m b h0 h1 h2 hb hN ar au ae;refine uG T8 cM_ok (by kernel_rfl) (by simp) ?_;refine zh (λe1=>?_) (λe1=>?_)
 ·have hm:m=a+1:=by
   have e1:(IntKind.i64.wrap ((m:Int) -(a:Int))==1)=true:=e1;rw[xj (by omega) (by omega)]at e1;have:=eq_of_beq e1;omega
  obtain⟨x,hx⟩:=uj (l:=l) (i:=a) (by omega);(conv=>whnf)
  refine yQ (P:=Pg) (f:=T8.f) (body:=cM_L0) (λz:Nat×Nat=>aDd sz (clo E g) N a z.1 z.2 (eL (en E) l)) (λz=>z.2 - z.1)
   (λz=>m<=z.1 /\z.1<=z.2 /\z.2<=b /\(z.1=m\/ ∃u,l[z.1 - 1]? =some u /\c u x<=0)/\(z.2=b\/ ∃u,l[z.2]? =some u /\c x u<=0))
   ⟨(m,b),⟨by omega,by omega,by omega,.inl rfl,.inl rfl⟩,zf ?_⟩ ?_
  ·exact rfl
  ·rintro⟨i,j⟩ hR;have hS:m<=i /\i<=j /\j<=b /\(i=m\/ ∃u,l[i - 1]? =some u /\c u x<=0)/\(j=b\/ ∃u,l[j]? =some u /\c x u<=0):=hR;clear hR;obtain⟨g1,g2,g3,g4,g5⟩:=hS;refine zh (λk1=>?_) (λk1=>?_)
   ·have aa:i<j:=by have k1:decide ((i:Int)<(j:Int))=true:=k1;have:=of_decide_eq_true k1;omega
    have wh:=an5 i j (by omega);obtain⟨h,hh⟩: ∃h,h=(i+j)/2:=⟨_,rfl⟩;rw[<- hh]at wh;obtain⟨u,hu⟩:=uj (l:=l) (i:=h) (by omega);have w1:IntKind.i64.wrap ((h:Int)+1)=((h+1:Nat):Int):=zt (n:=b) (by omega) (by omega);(conv=>whnf);refine⟨by decide,?_⟩;(conv=>whnf);rw[wh];refine⟨by omega,by omega,?_⟩;(conv=>whnf);refine⟨_,w9 (en E) hu,?_⟩;(conv=>whnf);refine⟨by omega,by omega,?_⟩;(conv=>whnf);refine⟨_,w9 (en E) hx,?_⟩;(conv=>whnf);refine Sat.mono (hg x u (ae a h x u (Nat.le_refl _) (by omega) (by omega) (by omega) hx hu)) ?_;rintro _ ⟨z,rfl,hz⟩;refine zh (λk2=>?_) (λk2=>?_)
    ·have an:c u x<0:=hz.1 (of_decide_eq_true k2);(conv=>whnf);refine⟨(h+1,j),⟨⟨by show m<=h+1;omega,by show h+1<=j;omega,g3,.inr ⟨u,hu,by omega⟩,g5⟩,by show j -(h+1)<j - i;omega⟩,zf ?_⟩;(conv=>whnf);rw[w1];rfl
    ·have ak: ¬c u x<0:=λh=>(of_decide_eq_false k2: ¬z<0) (hz.2 h)
     (conv=>whnf);refine⟨(i,h),⟨⟨g1,by show i<=h;omega,by show h<=b;omega,g4,.inr ⟨u,hu,ac.ge.1 (by omega)⟩⟩,by show h - i<j - i;omega⟩,zf ?_⟩;exact rfl
   ·have aa:j=i:=by have k1:decide ((i:Int)<(j:Int))=false:=k1;have:=of_decide_eq_false k1;omega
    subst aa;have wi:IntKind.i64.wrap ((j:Int) - 1)=((j - 1:Nat):Int):=amV (by omega) (by omega);(conv=>whnf)
    refine yQ (P:=Pg) (f:=T8.f) (body:=cM_L1) (λz:Nat×List α=>aCa sz N j z.1 (eL (en E) z.2)) (λz=>j - z.1)
     (λz=>a<=z.1 /\z.1<=j - 1 /\PermW a b l z.2 /\ ∀p,z.2[p]? =if a<=p /\p<z.1 then l[p+1]? else if p=z.1 then l[a]? else l[p]?)
     ⟨(a,l),⟨Nat.le_refl _,by omega,PermW.refl _ _ _,λp=>?_⟩,zf ?_⟩ ?_
    ·rw[if_neg (by omega)];split
     ·rename_i e;rw[e]
     ·rfl
    ·exact rfl
    ·rintro⟨q,U⟩ hR;have hS:a<=q /\q<=j - 1 /\PermW a b l U /\ ∀p,U[p]? =if a<=p /\p<q then l[p+1]? else if p=q then l[a]? else l[p]? :=hR
     clear hR;obtain⟨r1,r2,r3,r4⟩:=hS;have r5:=r3.len;refine zh (λk3=>?_) (λk3=>?_)
     ·have hq:q<j - 1:=by
       have k3:decide ((q:Int)<IntKind.i64.wrap ((j:Int) - 1))=true:=k3;rw[wi]at k3;have:=of_decide_eq_true k3;omega
      have wq:IntKind.i64.wrap ((q:Int)+1)=((q+1:Nat):Int):=zt (n:=b) (by omega) (by omega);obtain⟨u,hu⟩:=uj (l:=U) (i:=q) (by omega);obtain⟨v,hv⟩:=uj (l:=U) (i:=q+1) (by omega);obtain⟨z,hz⟩:=ahm (en E) (i:=q) (x:=v) hv;(conv=>whnf);rw[wq];refine⟨by omega,by omega,?_⟩;(conv=>whnf);refine⟨_,w9 (en E) hv,?_⟩;(conv=>whnf);refine⟨by show(0:Int)<=(q:Int);omega,by show(q:Int)<(N:Int);omega,?_⟩;(conv=>whnf);refine⟨_,w9 (en E) hu,?_⟩;(conv=>whnf);refine⟨by show(0:Int)<=(q:Int);omega,by show(q:Int)<(N:Int);omega,?_⟩;(conv=>whnf);refine⟨_,w9 (en E) hu,Nat.le_refl _,?_⟩;(conv=>whnf);refine⟨by omega,by omega,?_⟩;(conv=>whnf);refine⟨_,hz,Nat.le_refl _,?_⟩;(conv=>whnf);refine⟨(q+1,WC U q (q+1) u v),⟨⟨by show a<=q+1;omega,by show q+1<=j - 1;omega,r3.trans (atJ hu hv (by omega) (by omega) (by omega) (by omega)),λp=>?_⟩,by show j -(q+1)<j - q;omega⟩,zf ?_⟩
      ·rw[r4]at hu hv;rw[if_neg (by omega),if_pos rfl]at hu;rw[if_neg (by omega),if_neg (by omega)]at hv;show(WC U q (q+1) u v)[p]? =if a<=p /\p<q+1 then l[p+1]? else if p=q+1 then l[a]? else l[p]?
       have av:U[q]? =some u:=by rw[r4,if_neg (by omega),if_pos rfl];exact hu
       have aw:U[q+1]? =some v:=by rw[r4,if_neg (by omega),if_neg (by omega)];exact hv
       rw[Jd av aw,r4 p];by_cases p1:p=q+1
       ·rw[if_pos p1,if_neg (by omega),if_pos p1,hu]
       ·rw[if_neg p1];by_cases J:p=q
        ·rw[if_pos J,if_pos (by omega),J,hv]
        ·rw[if_neg J];by_cases p3:a<=p /\p<q
         ·rw[if_pos p3,if_pos (by omega)]
         ·rw[if_neg p3,if_neg J,if_neg (by omega),if_neg p1]
      ·(conv=>whnf);rw[wq];exact congrArg (aCa sz N j (q+1)) (apM (en E) u v)
     ·have hq:q=j - 1:=by
       have k3:decide ((q:Int)<IntKind.i64.wrap ((j:Int) - 1))=false:=k3;rw[wi]at k3;have:=of_decide_eq_false k3;omega
      subst hq;(conv=>whnf);exact⟨U,r3,aAV ac hx (by omega) g3 (au.mono (by omega) (Nat.le_refl _)) r4 (by rcases g4 with g4|g4;exact .inl (by omega);exact .inr g4) g5,rfl⟩
 ·have hm:a+1<m:=by
   have e1:(IntKind.i64.wrap ((m:Int) -(a:Int))==1)=false:=e1;rw[xj (by omega) (by omega),beq_eq_false_iff_ne]at e1;omega
  refine zh (λe2=>?_) (λe2=>?_)
  ·have ax:b=m+1:=by
    have e2:(IntKind.i64.wrap ((b:Int) -(m:Int))==1)=true:=e2;rw[xj (by omega) (by omega)]at e2;have:=eq_of_beq e2;omega
   obtain⟨x,hx⟩:=uj (l:=l) (i:=m) (by omega);(conv=>whnf)
   refine yQ (P:=Pg) (f:=T8.f) (body:=cM_L2) (λz:Nat×Nat=>aDe sz (clo E g) N m z.1 z.2 (eL (en E) l)) (λz=>z.2 - z.1)
    (λz=>a<=z.1 /\z.1<=z.2 /\z.2<=m /\(z.1=a\/ ∃u,l[z.1 - 1]? =some u /\c u x<=0)/\(z.2=m\/ ∃u,l[z.2]? =some u /\c x u<=0))
    ⟨(a,m),⟨by omega,by omega,by omega,.inl rfl,.inl rfl⟩,zf ?_⟩ ?_
   ·exact rfl
   ·rintro⟨i,j⟩ hR;have hS:a<=i /\i<=j /\j<=m /\(i=a\/ ∃u,l[i - 1]? =some u /\c u x<=0)/\(j=m\/ ∃u,l[j]? =some u /\c x u<=0):=hR;clear hR;obtain⟨g1,g2,g3,g4,g5⟩:=hS;refine zh (λk1=>?_) (λk1=>?_)
    ·have aa:i<j:=by have k1:decide ((i:Int)<(j:Int))=true:=k1;have:=of_decide_eq_true k1;omega
     have wh:=an5 i j (by omega);obtain⟨h,hh⟩: ∃h,h=(i+j)/2:=⟨_,rfl⟩;rw[<- hh]at wh;obtain⟨u,hu⟩:=uj (l:=l) (i:=h) (by omega);have w1:IntKind.i64.wrap ((h:Int)+1)=((h+1:Nat):Int):=zt (n:=b) (by omega) (by omega);(conv=>whnf);refine⟨by decide,?_⟩;(conv=>whnf);refine⟨by omega,by omega,?_⟩;(conv=>whnf);refine⟨_,w9 (en E) hx,?_⟩;(conv=>whnf);rw[wh];refine⟨by omega,by omega,?_⟩;(conv=>whnf);refine⟨_,w9 (en E) hu,?_⟩;(conv=>whnf);refine Sat.mono (hg u x (ae h m u x (by omega) (by omega) (Nat.le_refl _) (by omega) hu hx)) ?_;rintro _ ⟨z,rfl,hz⟩;refine zh (λk2=>?_) (λk2=>?_)
     ·have ak: ¬c x u<0:=by
       have k2:(!decide (z<0))=true:=k2;rw[<- hz];simpa using k2
      (conv=>whnf);refine⟨(h+1,j),⟨⟨by show a<=h+1;omega,by show h+1<=j;omega,g3,.inr ⟨u,hu,ac.ge.1 (by omega)⟩,g5⟩,by show j -(h+1)<j - i;omega⟩,zf ?_⟩;(conv=>whnf);rw[w1];rfl
     ·have an:c x u<0:=by
       have k2:(!decide (z<0))=false:=k2;rw[<- hz];simpa using k2
      (conv=>whnf);refine⟨(i,h),⟨⟨g1,by show i<=h;omega,by show h<=m;omega,g4,.inr ⟨u,hu,by omega⟩⟩,by show h - i<j - i;omega⟩,zf ?_⟩;exact rfl
    ·have aa:j=i:=by have k1:decide ((i:Int)<(j:Int))=false:=k1;have:=of_decide_eq_false k1;omega
     subst aa;(conv=>whnf)
     refine yQ (P:=Pg) (f:=T8.f) (body:=cM_L3) (λz:Nat×List α=>aCb sz N j z.1 (eL (en E) z.2)) (λz=>z.1)
      (λz=>j<=z.1 /\z.1<=m /\PermW a b l z.2 /\ ∀p,z.2[p]? =if z.1<p /\p<=m then l[p - 1]? else if p=z.1 then l[m]? else l[p]?)
      ⟨(m,l),⟨g3,Nat.le_refl _,PermW.refl _ _ _,λp=>?_⟩,zf ?_⟩ ?_
     ·rw[if_neg (by omega)];split
      ·rename_i e;rw[e]
      ·rfl
     ·exact rfl
     ·rintro⟨q,U⟩ hR;have hS:j<=q /\q<=m /\PermW a b l U /\ ∀p,U[p]? =if q<p /\p<=m then l[p - 1]? else if p=q then l[m]? else l[p]? :=hR
      clear hR;obtain⟨r1,r2,r3,r4⟩:=hS;have r5:=r3.len;refine zh (λk3=>?_) (λk3=>?_)
      ·have hq:j<q:=by
        have k3:decide ((q:Int)>(j:Int))=true:=k3;have:=of_decide_eq_true k3;omega
       have wq:IntKind.i64.wrap ((q:Int) - 1)=((q - 1:Nat):Int):=amV (by omega) (by omega);obtain⟨u,hu⟩:=uj (l:=U) (i:=q) (by omega);obtain⟨v,hv⟩:=uj (l:=U) (i:=q - 1) (by omega);obtain⟨z,hz⟩:=ahm (en E) (i:=q) (x:=v) hv;(conv=>whnf);rw[wq];refine⟨by omega,by omega,?_⟩;(conv=>whnf);refine⟨_,w9 (en E) hv,?_⟩;(conv=>whnf);refine⟨by show(0:Int)<=(q:Int);omega,by show(q:Int)<(N:Int);omega,?_⟩;(conv=>whnf);refine⟨_,w9 (en E) hu,?_⟩;(conv=>whnf);refine⟨by show(0:Int)<=(q:Int);omega,by show(q:Int)<(N:Int);omega,?_⟩;(conv=>whnf);refine⟨_,w9 (en E) hu,Nat.le_refl _,?_⟩;(conv=>whnf);refine⟨by omega,by omega,?_⟩;(conv=>whnf);refine⟨_,hz,Nat.le_refl _,?_⟩;(conv=>whnf);refine⟨(q - 1,WC U q (q - 1) u v),⟨⟨by show j<=q - 1;omega,by show q - 1<=m;omega,r3.trans (atJ hu hv (by omega) (by omega) (by omega) (by omega)),λp=>?_⟩,by show q - 1<q;omega⟩,zf ?_⟩
       ·rw[r4]at hu hv;rw[if_neg (by omega),if_pos rfl]at hu;rw[if_neg (by omega),if_neg (by omega)]at hv;show(WC U q (q - 1) u v)[p]? =if q - 1<p /\p<=m then l[p - 1]? else if p=q - 1 then l[m]? else l[p]?
        have av:U[q]? =some u:=by rw[r4,if_neg (by omega),if_pos rfl];exact hu
        have aw:U[q - 1]? =some v:=by rw[r4,if_neg (by omega),if_neg (by omega)];exact hv
        rw[Jd av aw,r4 p];by_cases p1:p=q - 1
        ·rw[if_pos p1,if_neg (by omega),if_pos p1,hu]
        ·rw[if_neg p1];by_cases J:p=q
         ·rw[if_pos J,if_pos (by omega),J,hv]
         ·rw[if_neg J];by_cases p3:q<p /\p<=m
          ·rw[if_pos p3,if_pos (by omega)]
          ·rw[if_neg p3,if_neg J,if_neg (by omega),if_neg p1]
       ·(conv=>whnf);rw[wq];exact congrArg (aCb sz N j (q - 1)) (apM (en E) u v)
      ·have hq:q=j:=by
        have k3:decide ((q:Int)>(j:Int))=false:=k3;have:=of_decide_eq_false k3;omega
       subst hq;(conv=>whnf);exact⟨U,r3,by rw[ax];exact av1 ac hx g1 g3 ar r4 g4 g5,rfl⟩
  ·have ax:m+1<b:=by
    have e2:(IntKind.i64.wrap ((b:Int) -(m:Int))==1)=false:=e2;rw[xj (by omega) (by omega),beq_eq_false_iff_ne]at e2;omega
   have wh:=an5 a b (by omega);obtain⟨o,ay⟩: ∃o,o=(a+b)/2:=⟨_,rfl⟩;rw[<- ay]at wh;have wn:IntKind.i64.wrap ((o:Int)+(m:Int))=((o+m:Nat):Int):=by rw[xj (by omega) (by omega)];omega
   have a0:IntKind.i64.wrap (((o+m:Nat):Int) -(b:Int))=((o+m - b:Nat):Int)\/m<=o:=by
    by_cases h:m<=o
    ·exact .inr h
    ·exact .inl (by rw[xj (by omega) (by omega)];omega)
   have wp:IntKind.i64.wrap (((o+m:Nat):Int) - 1)=((o+m - 1:Nat):Int):=amV (by omega) (by omega);(conv=>whnf);refine⟨by decide,?_⟩;(conv=>whnf);rw[wh];refine zp (λe3=>?_) (λe3=>?_)
   ·have az:o<m:=by
     have e3:decide ((m:Int)>(o:Int))=true:=e3;have:=of_decide_eq_true e3;omega
    (conv=>whnf);rw[wn]
    refine yQ (P:=Pg) (f:=T8.f) (body:=cM_L4) (λz:Nat×Nat=>aCc sz (clo E g) N a m b o (o+m) z.1 z.2 (o+m - 1) (eL (en E) l)) (λz=>z.2 - z.1)
     (λz=>o+m - b<=z.1 /\z.1<=z.2 /\z.2<=o /\(z.1=o+m - b\/VV c l (z.1 - 1) (o+m - z.1))/\(z.2=o\/VV c l (o+m - 1 - z.2) z.2))
     ⟨(o+m - b,o),⟨Nat.le_refl _,by show o+m - b<=o;omega,Nat.le_refl _,.inl rfl,.inl rfl⟩,zf ?_⟩ ?_
    ·(conv=>whnf);rw[wp,a0.resolve_right (by omega)];rfl
    ·rintro⟨s,r⟩ hR;have hS:o+m - b<=s /\s<=r /\r<=o /\(s=o+m - b\/VV c l (s - 1) (o+m - s))/\(r=o\/VV c l (o+m - 1 - r) r):=hR;clear hR;obtain⟨g1,g2,g3,g4,g5⟩:=hS;refine zh (λk1=>?_) (λk1=>?_)
     ·have aa:s<r:=by have k1:decide ((s:Int)<(r:Int))=true:=k1;have:=of_decide_eq_true k1;omega
      have wq:=an5 s r (by omega);obtain⟨h,hh⟩: ∃h,h=(s+r)/2:=⟨_,rfl⟩;rw[<- hh]at wq;obtain⟨u,hu⟩:=uj (l:=l) (i:=h) (by omega);obtain⟨v,hv⟩:=uj (l:=l) (i:=o+m - 1 - h) (by omega);have w1:IntKind.i64.wrap ((h:Int)+1)=((h+1:Nat):Int):=zt (n:=b) (by omega) (by omega);have wv:IntKind.i64.wrap (((o+m - 1:Nat):Int) -(h:Int))=((o+m - 1 - h:Nat):Int):=by rw[xj (by omega) (by omega)];omega
      (conv=>whnf);refine⟨by decide,?_⟩;(conv=>whnf);rw[wq,wv];refine⟨by omega,by omega,?_⟩;(conv=>whnf);refine⟨_,w9 (en E) hv,?_⟩;(conv=>whnf);refine⟨by omega,by omega,?_⟩;(conv=>whnf);refine⟨_,w9 (en E) hu,?_⟩;(conv=>whnf);refine Sat.mono (hg u v (ae h (o+m - 1 - h) u v (by omega) (by omega) (by omega) (by omega) hu hv)) ?_;rintro _ ⟨z,rfl,hz⟩;refine zh (λk2=>?_) (λk2=>?_)
      ·have ak: ¬c v u<0:=by
        have k2:(!decide (z<0))=true:=k2;rw[<- hz];simpa using k2
       (conv=>whnf);refine⟨(h+1,r),⟨⟨by show o+m - b<=h+1;omega,by show h+1<=r;omega,g3,.inr ⟨u,v,hu,?_,ac.ge.1 (by omega)⟩,g5⟩,by show r -(h+1)<r - s;omega⟩,zf ?_⟩
       ·rw[<- hv];congr 1;show o+m -(h+1)=_;omega
       (conv=>whnf);rw[w1];rfl
      ·have an:c v u<0:=by
        have k2:(!decide (z<0))=false:=k2;rw[<- hz];simpa using k2
       (conv=>whnf);refine⟨(s,h),⟨⟨g1,by show s<=h;omega,by show h<=o;omega,g4,.inr ⟨v,u,hv,hu,by omega⟩⟩,by show h - s<r - s;omega⟩,zf ?_⟩;exact rfl
     ·have aa:r=s:=by have k1:decide ((s:Int)<(r:Int))=false:=k1;have:=of_decide_eq_false k1;omega
      subst aa;obtain⟨e,he⟩: ∃e,e=o+m - r:=⟨_,rfl⟩;have we:IntKind.i64.wrap (((o+m:Nat):Int) -(r:Int))=(e:Int):=by rw[xj (by omega) (by omega)];omega
      have ai:r=a\/e=b\/VV c l (r - 1) e:=by
       rcases g4 with g4|⟨u,v,q1,q2,q3⟩
       ·right;left;omega
       ·exact .inr (.inr ⟨u,v,q1,by rw[he];exact q2,q3⟩)
      have aj:r=m\/e=m\/VV c l (e - 1) r:=by
       rcases g5 with g5|⟨u,v,q1,q2,q3⟩
       ·right;left;omega
       ·refine .inr (.inr ⟨u,v,?_,q2,q3⟩);rw[<- q1];congr 1;omega
      have ab:=λ(U:List α) (hr:XZ r m e l U)=>ak1 ac (show a<=r by omega) (show r<=m by omega) (show m<=e by omega) (show e<=b by omega) hr ar au ai aj
      have af:r+(e - m)=o:=by omega
      simp only[af]at ab;have ad:=λ(U:List α) (hr:XZ r m e l U)=>ae.rot (show a<=r by omega) (show r<=m by omega) (show m<=e by omega) (show e<=b by omega) hr
      simp only[af]at ad;(conv=>whnf);rw[we];refine zp (λf1=>?_) (λf1=>?_)
      ·have f1:r<m /\m<e:=Yh f1;(conv=>whnf);refine zQ.mono (rotate' E g l N r m e f1.1 f1.2 (by omega) hN hl) ?_;rintro _ rfl;have ag:XZ r m e l (af7 r m e l):=ajO (by omega) (by omega) (by omega);have ah:PermW r e l (af7 r m e l):=azM (by omega) (by omega) (by omega);obtain⟨U,al⟩: ∃U,U=af7 r m e l:=⟨_,rfl⟩;rw[<- al]at ag ah⊢;have hr:=ag;have hw:=ah;have hrel:=ad U hr;obtain⟨s1,s2,s3,s4,s5⟩:=ab U hr;have ao:=hw.len;refine zh (λf2=>?_) (λf2=>?_)
       ·have f2:a<r /\r<o:=Yh f2;(conv=>whnf);refine zQ.mono (ih U a r o (by omega) f2.1 f2.2 (by omega) (by omega) s1 s2 hrel.1) ?_;rintro _ ⟨l2,J,t2,rfl⟩;have aq:=J.len;refine zh (λI=>?_) (λI=>?_)
        ·have I:o<e /\e<b:=Yh I;(conv=>whnf);refine zQ.mono (ih l2 o e b (by omega) I.1 I.2 (by omega) (by omega) (s3.same λi T _=>J.out i (.inr T)) (s4.same λi T _=>J.out i (.inr (by omega))) (hrel.2.same λi hi=>J.out i (.inr (by omega)))) ?_;rintro _ ⟨l3,p3,t3,rfl⟩;have fin:=vq hw (show a<=r by omega) (show e<=b by omega) J p3 (by omega) (by omega) t2 t3 s5;(conv=>whnf);exact⟨l3,fin.1,fin.2,rfl⟩
        ·have I:e<=o\/b<=e:=Yg I;have t3:yx c o b l2:=by
          rcases I with I|I
          ·exact(s4.mono (show e<=o by omega) (Nat.le_refl _)).same λi T _=>J.out i (.inr T)
          ·exact(s3.mono (Nat.le_refl _) (show b<=e by omega)).same λi T _=>J.out i (.inr T)
         have fin:=vq hw (show a<=r by omega) (show e<=b by omega) J (PermW.refl o b l2) (by omega) (by omega) t2 t3 s5;(conv=>whnf);exact⟨l2,fin.1,fin.2,rfl⟩
       ·have f2:r<=a\/o<=r:=Yg f2;have J:PermW a o U U:=PermW.refl _ _ _;have t2:yx c a o U:=by
         rcases f2 with f2|f2
         ·exact s2.mono (show r<=a by omega) (Nat.le_refl _)
         ·exact s1.mono (Nat.le_refl _) (show o<=r by omega)
        refine zh (λI=>?_) (λI=>?_)
        ·have I:o<e /\e<b:=Yh I;(conv=>whnf);refine zQ.mono (ih U o e b (by omega) I.1 I.2 (by omega) (by omega) (s3.same λi T _=>J.out i (.inr T)) (s4.same λi T _=>J.out i (.inr (by omega))) (hrel.2.same λi hi=>J.out i (.inr (by omega)))) ?_;rintro _ ⟨l3,p3,t3,rfl⟩;have fin:=vq hw (show a<=r by omega) (show e<=b by omega) J p3 (by omega) (by omega) t2 t3 s5;(conv=>whnf);exact⟨l3,fin.1,fin.2,rfl⟩
        ·have I:e<=o\/b<=e:=Yg I;have t3:yx c o b U:=by
          rcases I with I|I
          ·exact(s4.mono (show e<=o by omega) (Nat.le_refl _)).same λi T _=>J.out i (.inr T)
          ·exact(s3.mono (Nat.le_refl _) (show b<=e by omega)).same λi T _=>J.out i (.inr T)
         have fin:=vq hw (show a<=r by omega) (show e<=b by omega) J (PermW.refl o b U) (by omega) (by omega) t2 t3 s5;(conv=>whnf);exact⟨U,fin.1,fin.2,rfl⟩
      ·have f1:m<=r\/e<=m:=Yg f1;have hr:XZ r m e l l:=XZ.same (by omega) (by omega) (by omega);have hw:PermW r e l l:=PermW.refl _ _ _;have hrel:=ad l hr;obtain⟨s1,s2,s3,s4,s5⟩:=ab l hr;have ao:=hw.len;refine zh (λf2=>?_) (λf2=>?_)
       ·have f2:a<r /\r<o:=Yh f2;(conv=>whnf);refine zQ.mono (ih l a r o (by omega) f2.1 f2.2 (by omega) (by omega) s1 s2 hrel.1) ?_;rintro _ ⟨l2,J,t2,rfl⟩;have aq:=J.len;refine zh (λI=>?_) (λI=>?_)
        ·have I:o<e /\e<b:=Yh I;(conv=>whnf);refine zQ.mono (ih l2 o e b (by omega) I.1 I.2 (by omega) (by omega) (s3.same λi T _=>J.out i (.inr T)) (s4.same λi T _=>J.out i (.inr (by omega))) (hrel.2.same λi hi=>J.out i (.inr (by omega)))) ?_;rintro _ ⟨l3,p3,t3,rfl⟩;have fin:=vq hw (show a<=r by omega) (show e<=b by omega) J p3 (by omega) (by omega) t2 t3 s5;(conv=>whnf);exact⟨l3,fin.1,fin.2,rfl⟩
        ·have I:e<=o\/b<=e:=Yg I;have t3:yx c o b l2:=by
          rcases I with I|I
          ·exact(s4.mono (show e<=o by omega) (Nat.le_refl _)).same λi T _=>J.out i (.inr T)
          ·exact(s3.mono (Nat.le_refl _) (show b<=e by omega)).same λi T _=>J.out i (.inr T)
         have fin:=vq hw (show a<=r by omega) (show e<=b by omega) J (PermW.refl o b l2) (by omega) (by omega) t2 t3 s5;(conv=>whnf);exact⟨l2,fin.1,fin.2,rfl⟩
       ·have f2:r<=a\/o<=r:=Yg f2;have J:PermW a o l l:=PermW.refl _ _ _;have t2:yx c a o l:=by
         rcases f2 with f2|f2
         ·exact s2.mono (show r<=a by omega) (Nat.le_refl _)
         ·exact s1.mono (Nat.le_refl _) (show o<=r by omega)
        refine zh (λI=>?_) (λI=>?_)
        ·have I:o<e /\e<b:=Yh I;(conv=>whnf);refine zQ.mono (ih l o e b (by omega) I.1 I.2 (by omega) (by omega) (s3.same λi T _=>J.out i (.inr T)) (s4.same λi T _=>J.out i (.inr (by omega))) (hrel.2.same λi hi=>J.out i (.inr (by omega)))) ?_;rintro _ ⟨l3,p3,t3,rfl⟩;have fin:=vq hw (show a<=r by omega) (show e<=b by omega) J p3 (by omega) (by omega) t2 t3 s5;(conv=>whnf);exact⟨l3,fin.1,fin.2,rfl⟩
        ·have I:e<=o\/b<=e:=Yg I;have t3:yx c o b l:=by
          rcases I with I|I
          ·exact(s4.mono (show e<=o by omega) (Nat.le_refl _)).same λi T _=>J.out i (.inr T)
          ·exact(s3.mono (Nat.le_refl _) (show b<=e by omega)).same λi T _=>J.out i (.inr T)
         have fin:=vq hw (show a<=r by omega) (show e<=b by omega) J (PermW.refl o b l) (by omega) (by omega) t2 t3 s5;(conv=>whnf);exact⟨l,fin.1,fin.2,rfl⟩
   ·have az:m<=o:=by
     have e3:decide ((m:Int)>(o:Int))=false:=e3;have:=of_decide_eq_false e3;omega
    (conv=>whnf);rw[wn]
    refine yQ (P:=Pg) (f:=T8.f) (body:=cM_L4) (λz:Nat×Nat=>aCc sz (clo E g) N a m b o (o+m) z.1 z.2 (o+m - 1) (eL (en E) l)) (λz=>z.2 - z.1)
     (λz=>a<=z.1 /\z.1<=z.2 /\z.2<=m /\(z.1=a\/VV c l (z.1 - 1) (o+m - z.1))/\(z.2=m\/VV c l (o+m - 1 - z.2) z.2))
     ⟨(a,m),⟨Nat.le_refl _,by show a<=m;omega,Nat.le_refl _,.inl rfl,.inl rfl⟩,zf ?_⟩ ?_
    ·(conv=>whnf);rw[wp];rfl
    ·rintro⟨s,r⟩ hR;have hS:a<=s /\s<=r /\r<=m /\(s=a\/VV c l (s - 1) (o+m - s))/\(r=m\/VV c l (o+m - 1 - r) r):=hR;clear hR;obtain⟨g1,g2,g3,g4,g5⟩:=hS;refine zh (λk1=>?_) (λk1=>?_)
     ·have aa:s<r:=by have k1:decide ((s:Int)<(r:Int))=true:=k1;have:=of_decide_eq_true k1;omega
      have wq:=an5 s r (by omega);obtain⟨h,hh⟩: ∃h,h=(s+r)/2:=⟨_,rfl⟩;rw[<- hh]at wq;obtain⟨u,hu⟩:=uj (l:=l) (i:=h) (by omega);obtain⟨v,hv⟩:=uj (l:=l) (i:=o+m - 1 - h) (by omega);have w1:IntKind.i64.wrap ((h:Int)+1)=((h+1:Nat):Int):=zt (n:=b) (by omega) (by omega);have wv:IntKind.i64.wrap (((o+m - 1:Nat):Int) -(h:Int))=((o+m - 1 - h:Nat):Int):=by rw[xj (by omega) (by omega)];omega
      (conv=>whnf);refine⟨by decide,?_⟩;(conv=>whnf);rw[wq,wv];refine⟨by omega,by omega,?_⟩;(conv=>whnf);refine⟨_,w9 (en E) hv,?_⟩;(conv=>whnf);refine⟨by omega,by omega,?_⟩;(conv=>whnf);refine⟨_,w9 (en E) hu,?_⟩;(conv=>whnf);refine Sat.mono (hg u v (ae h (o+m - 1 - h) u v (by omega) (by omega) (by omega) (by omega) hu hv)) ?_;rintro _ ⟨z,rfl,hz⟩;refine zh (λk2=>?_) (λk2=>?_)
      ·have ak: ¬c v u<0:=by
        have k2:(!decide (z<0))=true:=k2;rw[<- hz];simpa using k2
       (conv=>whnf);refine⟨(h+1,r),⟨⟨by show a<=h+1;omega,by show h+1<=r;omega,g3,.inr ⟨u,v,hu,?_,ac.ge.1 (by omega)⟩,g5⟩,by show r -(h+1)<r - s;omega⟩,zf ?_⟩
       ·rw[<- hv];congr 1;show o+m -(h+1)=_;omega
       (conv=>whnf);rw[w1];rfl
      ·have an:c v u<0:=by
        have k2:(!decide (z<0))=false:=k2;rw[<- hz];simpa using k2
       (conv=>whnf);refine⟨(s,h),⟨⟨g1,by show s<=h;omega,by show h<=m;omega,g4,.inr ⟨v,u,hv,hu,by omega⟩⟩,by show h - s<r - s;omega⟩,zf ?_⟩;exact rfl
     ·have aa:r=s:=by have k1:decide ((s:Int)<(r:Int))=false:=k1;have:=of_decide_eq_false k1;omega
      subst aa;obtain⟨e,he⟩: ∃e,e=o+m - r:=⟨_,rfl⟩;have we:IntKind.i64.wrap (((o+m:Nat):Int) -(r:Int))=(e:Int):=by rw[xj (by omega) (by omega)];omega
      have ai:r=a\/e=b\/VV c l (r - 1) e:=by
       rcases g4 with g4|⟨u,v,q1,q2,q3⟩
       ·left;exact g4
       ·exact .inr (.inr ⟨u,v,q1,by rw[he];exact q2,q3⟩)
      have aj:r=m\/e=m\/VV c l (e - 1) r:=by
       rcases g5 with g5|⟨u,v,q1,q2,q3⟩
       ·left;exact g5
       ·refine .inr (.inr ⟨u,v,?_,q2,q3⟩);rw[<- q1];congr 1;omega
      have ab:=λ(U:List α) (hr:XZ r m e l U)=>ak1 ac (show a<=r by omega) (show r<=m by omega) (show m<=e by omega) (show e<=b by omega) hr ar au ai aj
      have af:r+(e - m)=o:=by omega
      simp only[af]at ab;have ad:=λ(U:List α) (hr:XZ r m e l U)=>ae.rot (show a<=r by omega) (show r<=m by omega) (show m<=e by omega) (show e<=b by omega) hr
      simp only[af]at ad;(conv=>whnf);rw[we];refine zp (λf1=>?_) (λf1=>?_)
      ·have f1:r<m /\m<e:=Yh f1;(conv=>whnf);refine zQ.mono (rotate' E g l N r m e f1.1 f1.2 (by omega) hN hl) ?_;rintro _ rfl;have ag:XZ r m e l (af7 r m e l):=ajO (by omega) (by omega) (by omega);have ah:PermW r e l (af7 r m e l):=azM (by omega) (by omega) (by omega);obtain⟨U,al⟩: ∃U,U=af7 r m e l:=⟨_,rfl⟩;rw[<- al]at ag ah⊢;have hr:=ag;have hw:=ah;have hrel:=ad U hr;obtain⟨s1,s2,s3,s4,s5⟩:=ab U hr;have ao:=hw.len;refine zh (λf2=>?_) (λf2=>?_)
       ·have f2:a<r /\r<o:=Yh f2;(conv=>whnf);refine zQ.mono (ih U a r o (by omega) f2.1 f2.2 (by omega) (by omega) s1 s2 hrel.1) ?_;rintro _ ⟨l2,J,t2,rfl⟩;have aq:=J.len;refine zh (λI=>?_) (λI=>?_)
        ·have I:o<e /\e<b:=Yh I;(conv=>whnf);refine zQ.mono (ih l2 o e b (by omega) I.1 I.2 (by omega) (by omega) (s3.same λi T _=>J.out i (.inr T)) (s4.same λi T _=>J.out i (.inr (by omega))) (hrel.2.same λi hi=>J.out i (.inr (by omega)))) ?_;rintro _ ⟨l3,p3,t3,rfl⟩;have fin:=vq hw (show a<=r by omega) (show e<=b by omega) J p3 (by omega) (by omega) t2 t3 s5;(conv=>whnf);exact⟨l3,fin.1,fin.2,rfl⟩
        ·have I:e<=o\/b<=e:=Yg I;have t3:yx c o b l2:=by
          rcases I with I|I
          ·exact(s4.mono (show e<=o by omega) (Nat.le_refl _)).same λi T _=>J.out i (.inr T)
          ·exact(s3.mono (Nat.le_refl _) (show b<=e by omega)).same λi T _=>J.out i (.inr T)
         have fin:=vq hw (show a<=r by omega) (show e<=b by omega) J (PermW.refl o b l2) (by omega) (by omega) t2 t3 s5;(conv=>whnf);exact⟨l2,fin.1,fin.2,rfl⟩
       ·have f2:r<=a\/o<=r:=Yg f2;have J:PermW a o U U:=PermW.refl _ _ _;have t2:yx c a o U:=by
         rcases f2 with f2|f2
         ·exact s2.mono (show r<=a by omega) (Nat.le_refl _)
         ·exact s1.mono (Nat.le_refl _) (show o<=r by omega)
        refine zh (λI=>?_) (λI=>?_)
        ·have I:o<e /\e<b:=Yh I;(conv=>whnf);refine zQ.mono (ih U o e b (by omega) I.1 I.2 (by omega) (by omega) (s3.same λi T _=>J.out i (.inr T)) (s4.same λi T _=>J.out i (.inr (by omega))) (hrel.2.same λi hi=>J.out i (.inr (by omega)))) ?_;rintro _ ⟨l3,p3,t3,rfl⟩;have fin:=vq hw (show a<=r by omega) (show e<=b by omega) J p3 (by omega) (by omega) t2 t3 s5;(conv=>whnf);exact⟨l3,fin.1,fin.2,rfl⟩
        ·have I:e<=o\/b<=e:=Yg I;have t3:yx c o b U:=by
          rcases I with I|I
          ·exact(s4.mono (show e<=o by omega) (Nat.le_refl _)).same λi T _=>J.out i (.inr T)
          ·exact(s3.mono (Nat.le_refl _) (show b<=e by omega)).same λi T _=>J.out i (.inr T)
         have fin:=vq hw (show a<=r by omega) (show e<=b by omega) J (PermW.refl o b U) (by omega) (by omega) t2 t3 s5;(conv=>whnf);exact⟨U,fin.1,fin.2,rfl⟩
      ·have f1:m<=r\/e<=m:=Yg f1;have hr:XZ r m e l l:=XZ.same (by omega) (by omega) (by omega);have hw:PermW r e l l:=PermW.refl _ _ _;have hrel:=ad l hr;obtain⟨s1,s2,s3,s4,s5⟩:=ab l hr;have ao:=hw.len;refine zh (λf2=>?_) (λf2=>?_)
       ·have f2:a<r /\r<o:=Yh f2;(conv=>whnf);refine zQ.mono (ih l a r o (by omega) f2.1 f2.2 (by omega) (by omega) s1 s2 hrel.1) ?_;rintro _ ⟨l2,J,t2,rfl⟩;have aq:=J.len;refine zh (λI=>?_) (λI=>?_)
        ·have I:o<e /\e<b:=Yh I;(conv=>whnf);refine zQ.mono (ih l2 o e b (by omega) I.1 I.2 (by omega) (by omega) (s3.same λi T _=>J.out i (.inr T)) (s4.same λi T _=>J.out i (.inr (by omega))) (hrel.2.same λi hi=>J.out i (.inr (by omega)))) ?_;rintro _ ⟨l3,p3,t3,rfl⟩;have fin:=vq hw (show a<=r by omega) (show e<=b by omega) J p3 (by omega) (by omega) t2 t3 s5;(conv=>whnf);exact⟨l3,fin.1,fin.2,rfl⟩
        ·have I:e<=o\/b<=e:=Yg I;have t3:yx c o b l2:=by
          rcases I with I|I
          ·exact(s4.mono (show e<=o by omega) (Nat.le_refl _)).same λi T _=>J.out i (.inr T)
          ·exact(s3.mono (Nat.le_refl _) (show b<=e by omega)).same λi T _=>J.out i (.inr T)
         have fin:=vq hw (show a<=r by omega) (show e<=b by omega) J (PermW.refl o b l2) (by omega) (by omega) t2 t3 s5;(conv=>whnf);exact⟨l2,fin.1,fin.2,rfl⟩
       ·have f2:r<=a\/o<=r:=Yg f2;have J:PermW a o l l:=PermW.refl _ _ _;have t2:yx c a o l:=by
         rcases f2 with f2|f2
         ·exact s2.mono (show r<=a by omega) (Nat.le_refl _)
         ·exact s1.mono (Nat.le_refl _) (show o<=r by omega)
        refine zh (λI=>?_) (λI=>?_)
        ·have I:o<e /\e<b:=Yh I;(conv=>whnf);refine zQ.mono (ih l o e b (by omega) I.1 I.2 (by omega) (by omega) (s3.same λi T _=>J.out i (.inr T)) (s4.same λi T _=>J.out i (.inr (by omega))) (hrel.2.same λi hi=>J.out i (.inr (by omega)))) ?_;rintro _ ⟨l3,p3,t3,rfl⟩;have fin:=vq hw (show a<=r by omega) (show e<=b by omega) J p3 (by omega) (by omega) t2 t3 s5;(conv=>whnf);exact⟨l3,fin.1,fin.2,rfl⟩
        ·have I:e<=o\/b<=e:=Yg I;have t3:yx c o b l:=by
          rcases I with I|I
          ·exact(s4.mono (show e<=o by omega) (Nat.le_refl _)).same λi T _=>J.out i (.inr T)
          ·exact(s3.mono (Nat.le_refl _) (show b<=e by omega)).same λi T _=>J.out i (.inr T)
         have fin:=vq hw (show a<=r by omega) (show e<=b by omega) J (PermW.refl o b l) (by omega) (by omega) t2 t3 s5;(conv=>whnf);exact⟨l,fin.1,fin.2,rfl⟩):p:=h
theorem apV {p:Prop}(h:p:=by
 intro g c aa R hg l n hn hl ad;refine uG T8 cS_ok (by kernel_rfl) (by simp) ?_
 conv=>whnf
 refine yQ (P:=Pg) (f:=T8.f) (body:=cS_L0) (λz:Nat×List α=>stS sz (clo E g) n n 20 (z.1*20) (z.1*20+20) (eL (en E) z.2)) (λz=>n - z.1*20)
  (λz=>z.1*20<=n /\PermW 0 n l z.2 /\jf c 20 (z.1*20) z.2 /\uO R 20 (z.1*20) z.2)
  ⟨(0,l),⟨by show 0*20<=n;omega,PermW.refl _ _ _,by show jf c 20 (0*20) l;rw[Nat.zero_mul];exact jf.zero _ _,by show uO R 20 (0*20) l;rw[Nat.zero_mul];exact uO.start ad hn⟩,zf ?_⟩ ?_
 ·exact rfl
 ·rintro⟨q,l1⟩ hR;have hS:q*20<=n /\PermW 0 n l l1 /\jf c 20 (q*20) l1 /\uO R 20 (q*20) l1:=hR;clear hR;obtain⟨g1,g2,g3,g6⟩:=hS;have g7:=g6.pair (n:=n);have g4:=g2.len;obtain⟨a,j⟩: ∃a,a=q*20:=⟨_,rfl⟩;show mwpR Pg T8.f cS_L0 _ (stS sz (clo E g) n n 20 (q*20) (q*20+20) (eL (en E) l1));rw[<- j]at g1 g3 g6 g7⊢;refine zh (λk1=>?_) (λk1=>?_)
  ·have I:a+20<=n:=by have k1:decide (((a+20:Nat):Int)<=(n:Int))=true:=k1;have:=of_decide_eq_true k1;omega
   have wb:IntKind.i64.wrap (((a+20:Nat):Int)+((20:Nat):Int))=((a+20+20:Nat):Int):=by rw[xj (by omega) (by omega)];omega
   (conv=>whnf);refine zQ.mono (insSort' E g c aa R hg n l1 a (a+20) (by omega) (by omega) I hl (g7.mono (Nat.le_refl _) I)) ?_;rintro _ ⟨T,o,r,rfl⟩;(conv=>whnf);have e1:(q+1)*20=a+20:=by omega
   refine⟨(q+1,T),⟨⟨by show(q+1)*20<=n;omega,g2.trans (o.mono (Nat.zero_le _) I),?_,?_⟩,by show n -(q+1)*20<n - a;omega⟩,zf ?_⟩
   ·show jf c 20 ((q+1)*20) T;rw[j]at g3 o r;exact g3.ext (e:=(q+1)*20) (by rw[Nat.succ_mul];exact o) (by rw[Nat.succ_mul];exact r) (by omega) (Nat.le_refl _)
   ·show uO R 20 ((q+1)*20) T;rw[j]at g6 o;exact g6.next (e:=(q+1)*20) (by rw[Nat.succ_mul];exact o) (by omega) (Nat.le_refl _)
   ·(conv=>whnf);rw[wb];show stS sz (clo E g) n n 20 (a+20) (a+20+20) (eL (en E) T)=stS sz (clo E g) n n 20 ((q+1)*20) ((q+1)*20+20) (eL (en E) T);rw[e1]
  ·have ac:n<a+20:=by have k1:decide (((a+20:Nat):Int)<=(n:Int))=false:=k1;have:=of_decide_eq_false k1;omega
   (conv=>whnf);refine zQ.mono (insSort' E g c aa R hg n l1 a n (by omega) g1 (Nat.le_refl _) hl g7) ?_;rintro _ ⟨T,o,r,rfl⟩;have b2:jf c 20 n T:=by
    rw[j]at g3 o r;exact g3.ext o r (by omega) (by rw[Nat.succ_mul];omega)
   have b3:uO R 20 n T:=by
    rw[j]at g6 o g1;exact g6.next o g1 (by omega)
   have q2:PermW 0 n l T:=g2.trans (o.mono (Nat.zero_le _) (Nat.le_refl _));have b4:=b3.blk;clear o r g3 g2 g4 g6 g7 b3;(conv=>whnf)
   refine yQ (P:=Pg) (f:=T8.f) (body:=cS_L2) (λz:Nat×List α=>stT sz (clo E g) n n z.1 (eL (en E) z.2)) (λz=>n - z.1)
    (λz=>0<z.1 /\z.1<=2000000 /\PermW 0 n l z.2 /\jf c z.1 n z.2 /\aiL R z.1 z.2)
    ⟨(20,T),⟨by show 0<20;omega,by show 20<=2000000;omega,q2,b2,b4⟩,zf ?_⟩ ?_
   ·exact rfl
   ·rintro⟨i,U⟩ hR;have hS:0<i /\i<=2000000 /\PermW 0 n l U /\jf c i n U /\aiL R i U:=hR;clear hR;obtain⟨g1,g2,g3,g4,g6⟩:=hS;refine zh (λk2=>?_) (λk2=>?_)
    ·have ab:i<n:=by have k2:decide ((i:Int)<(n:Int))=true:=k2;have:=of_decide_eq_true k2;omega
     have w2:IntKind.i64.wrap (2*(i:Int))=((2*i:Nat):Int):=by rw[xj (by omega) (by omega)];omega
     have w3:IntKind.i64.wrap ((i:Int)*2)=((2*i:Nat):Int):=by rw[xj (by omega) (by omega)];omega
     conv=>whnf
     refine yQ (P:=Pg) (f:=T8.f) (body:=cS_L1) (λz:Nat×List α=>stS sz (clo E g) n n i (z.1*(2*i)) (z.1*(2*i)+2*i) (eL (en E) z.2)) (λz=>n - z.1*(2*i))
      (λz=>z.1*(2*i)<=n /\PermW 0 n l z.2 /\jf c (2*i) (z.1*(2*i)) z.2 /\VU c i (z.1*(2*i)) n z.2 /\XO R i (z.1*(2*i)) z.2)
      ⟨(0,U),⟨by show 0*(2*i)<=n;omega,g3,by show jf c (2*i) (0*(2*i)) U;rw[Nat.zero_mul];exact jf.zero _ _,by show VU c i (0*(2*i)) n U;rw[Nat.zero_mul];exact g4.blkF,by show XO R i (0*(2*i)) U;rw[Nat.zero_mul];exact g6.pass⟩,zf ?_⟩ ?_
     ·(conv=>whnf);rw[w2];show stS sz (clo E g) n n i 0 (2*i) (eL (en E) U)=stS sz (clo E g) n n i (0*(2*i)) (0*(2*i)+2*i) (eL (en E) U);rw[Nat.zero_mul,Nat.zero_add]
     ·rintro⟨q,l4⟩ hR;have hS:q*(2*i)<=n /\PermW 0 n l l4 /\jf c (2*i) (q*(2*i)) l4 /\VU c i (q*(2*i)) n l4 /\XO R i (q*(2*i)) l4:=hR;clear hR;obtain⟨r1,r2,r3,r4,r6⟩:=hS;have r7:=λe=>r6.rel (e:=e)
      have r8:=r6.blk;have r9:=λe J=>r6.next (e:=e) (n:=n) (l':=J)
      have r5:=r2.len;have s1:=r4.at0;have r:=r4.at1;obtain⟨a,j⟩: ∃a,a=q*(2*i):=⟨_,rfl⟩;show mwpR Pg T8.f cS_L1 _ (stS sz (clo E g) n n i (q*(2*i)) (q*(2*i)+2*i) (eL (en E) l4));have ae:(q+1)*(2*i)=a+2*i:=by rw[Nat.succ_mul,j]
      rw[<- j]at r1 r3 r4 s1 r r7 r9⊢;rw[ae]at r9;have w4:IntKind.i64.wrap ((a:Int)+(i:Int))=((a+i:Nat):Int):=by rw[xj (by omega) (by omega)];omega
      refine zh (λk3=>?_) (λk3=>?_)
      ·have I:a+2*i<=n:=by have k3:decide (((a+2*i:Nat):Int)<=(n:Int))=true:=k3;have:=of_decide_eq_true k3;omega
       have w5:IntKind.i64.wrap (((a+2*i:Nat):Int)+((2*i:Nat):Int))=((a+2*i+2*i:Nat):Int):=by rw[xj (by omega) (by omega)];omega
       rw[Nat.min_eq_left (by omega)]at s1 r;(conv=>whnf);rw[w4];refine zQ.mono (symMerge E g c aa R hg n hl _ l4 a (a+i) (a+2*i) (Nat.le_refl _) (by omega) (by omega) (by omega) (by omega) s1 (r.mono (Nat.le_refl _) (by omega)) (r7 _)) ?_;rintro _ ⟨J,p5,t5,rfl⟩;have e1:(q+1)*(2*i)=a+2*i:=by rw[Nat.succ_mul,j]
       (conv=>whnf);refine⟨(q+1,J),⟨⟨by show(q+1)*(2*i)<=n;omega,r2.trans (p5.mono (Nat.zero_le _) I),?_,?_,?_⟩,by show n -(q+1)*(2*i)<n - a;rw[e1];omega⟩,zf ?_⟩
       ·show jf c (2*i) ((q+1)*(2*i)) J;rw[e1];have e2:=e1;subst j;exact r3.ext p5 t5 (by omega) (by omega)
       ·show VU c i ((q+1)*(2*i)) n J;rw[e1];exact r4.next p5 (by omega)
       ·show XO R i ((q+1)*(2*i)) J;rw[e1];exact r9 _ _ p5 (Nat.le_refl _) (.inl rfl)
       ·(conv=>whnf);rw[w2,w5];show stS sz (clo E g) n n i (a+2*i) (a+2*i+2*i) (eL (en E) J)=stS sz (clo E g) n n i ((q+1)*(2*i)) ((q+1)*(2*i)+2*i) (eL (en E) J);rw[e1]
      ·have ac:n<a+2*i:=by have k3:decide (((a+2*i:Nat):Int)<=(n:Int))=false:=k3;have:=of_decide_eq_false k3;omega
       have e1:(q+1)*(2*i)=a+2*i:=by rw[Nat.succ_mul,j]
       (conv=>whnf);rw[w4];refine zp (λk4=>?_) (λk4=>?_)
       ·have hm:a+i<n:=by have k4:decide (((a+i:Nat):Int)<(n:Int))=true:=k4;have:=of_decide_eq_true k4;omega
        rw[Nat.min_eq_left (by omega)]at s1;rw[Nat.min_eq_right (by omega)]at r;(conv=>whnf);refine zQ.mono (symMerge E g c aa R hg n hl _ l4 a (a+i) n (Nat.le_refl _) (by omega) (by omega) (by omega) (by omega) s1 r (r7 _)) ?_;rintro _ ⟨J,p5,t5,rfl⟩;(conv=>whnf);refine⟨(2*i,J),⟨⟨by show 0<2*i;omega,by show 2*i<=2000000;omega,r2.trans (p5.mono (Nat.zero_le _) (Nat.le_refl _)),?_,(r9 _ _ p5 (by omega) (.inr ⟨rfl,by rw[r5];exact hn⟩)).blk⟩,by show n - 2*i<n - i;omega⟩,zf ?_⟩
        ·show jf c (2*i) n J;subst j;exact r3.ext p5 t5 r1 (by omega)
        ·(conv=>whnf);rw[w3];rfl
       ·have hm:n<=a+i:=by have k4:decide (((a+i:Nat):Int)<(n:Int))=false:=k4;have:=of_decide_eq_false k4;omega
        rw[Nat.min_eq_right (by omega)]at s1;(conv=>whnf);refine⟨(2*i,l4),⟨⟨by show 0<2*i;omega,by show 2*i<=2000000;omega,r2,?_,r8⟩,by show n - 2*i<n - i;omega⟩,zf ?_⟩
        ·show jf c (2*i) n l4;subst j;exact r3.ext (PermW.refl _ _ _) s1 r1 (by omega)
        ·(conv=>whnf);rw[w3];rfl
    ·have ab:n<=i:=by have k2:decide ((i:Int)<(n:Int))=false:=k2;have:=of_decide_eq_false k2;omega
     have s0:=g4 0;rw[Nat.zero_mul,Nat.zero_add,Nat.one_mul,Nat.min_eq_right ab]at s0;(conv=>whnf);exact⟨U,g3,s0,rfl⟩):p:=h
theorem adH {p:Prop}(h:p:=by
 intro g c i R I l n P J j;refine uG T8 cT_ok (by kernel_rfl) (by simp) ?_
 conv=>whnf
 refine zQ.mono (stable E g c i R I l n P J j) ?_;rintro _ ⟨l',o,r,rfl⟩
 conv=>whnf
 exact⟨l',o,r,rfl⟩):p:=h
end So
namespace So.R
structure En (α:Type) where
 d:α ->D
 c0:List D
 c1:List D
abbrev en {α:Type}(E:En α)(x:α):List D:=[E.d x]
abbrev sz:Nat:=1
abbrev cal {α:Type}(E:En α)(x y:α):List W:=[.c (.d (E.d x)),.c (.d (E.d y)),.c (.fp E.c0),.c (.fp E.c1)]
abbrev clo {α:Type}(E:En α)(g:FuncId):W:=.c (.d (.fn g [E.c0,E.c1]))
noncomputable abbrev cI_L0:=(xm.l 0)
noncomputable abbrev cI_L1:=(xm.l 1)
abbrev cI_ok:=xm.ok
noncomputable abbrev cM_L0:=(xl.l 0)
noncomputable abbrev cM_L1:=(xl.l 1)
noncomputable abbrev cM_L2:=(xl.l 2)
noncomputable abbrev cM_L3:=(xl.l 3)
noncomputable abbrev cM_L4:=(xl.l 4)
abbrev cM_ok:=xl.ok
noncomputable abbrev cO_L0:=(j8.l 0)
abbrev cO_ok:=j8.ok
noncomputable abbrev cS_L0:=(y9.l 0)
noncomputable abbrev cS_L1:=(y9.l 1)
noncomputable abbrev cS_L2:=(y9.l 2)
abbrev cS_ok:=y9.ok
abbrev cT_ok:=jt.ok
noncomputable abbrev cW_L0:=(uQ.l 0)
abbrev cW_ok:=uQ.ok
theorem ajg {α:Type}(E:En α):adI vX sz (en E) (cal E) (clo E):=alx
abbrev insSort' {α:Type}(E:En α):=(ajg E).p
theorem adA {α:Type}(E:En α):J5 Qf sz (en E) (clo E):=afs
abbrev swapRange' {α:Type}(E:En α):=(adA E).p
theorem ao0 {α:Type}(E:En α):agQ Ww sz (en E) (clo E):=apU
abbrev rotate' {α:Type}(E:En α):=(ao0 E).p
theorem symMerge {α:Type}(E:En α):am1 QI sz (en E) (cal E) (clo E):=aiK
theorem stable {α:Type}(E:En α):aua Za sz (en E) (cal E) (clo E):=apV
theorem SortStable {α:Type}(E:En α):SortStable vf sz (en E) (cal E) (clo E):=adH
end So.R
abbrev axd {α:Type}(d:α ->D)(l:List α):List (List D):=l.map λx=> [d x]
abbrev age {α:Type}(d:α ->D)(g i:List D):=So.R.SortStable ⟨d,g,i⟩
def aax (s:Srt)(x y:Val):Int:=bif s.desc then zX y x else zX x y
def kk:List Srt ->List Val ->List Val ->Int
 |s::r,x::xs,y::ys=>bif aax s x y !=0 then aax s x y else kk r xs ys
 |_,_,_=>0
theorem aAX {l:List Srt}{i:Nat}(h:i<l.length):(yN l)[((i:Nat):Int).toNat]? =some l[i].ds:=by
 grind[yN]
theorem ajT (l:List Srt)(i:Nat)(j:i<l.length)(x y:Val):Sat Pg YG [.c (int i),x.w,y.w,.c (.fp [.sl (yN l)])] (λr=>r=rI (aax l[i] x y)):=by
 have g:=aAX j;obtain⟨I,J,P⟩:=x;obtain⟨R,T,U⟩:=y;unfold aax;generalize l[i]=s at*;obtain⟨p,o⟩:=s;refine acn.s T8 ?_;refine zI g ?_;cases o
 ·exact rfl
 ·exact rfl
def cpS (l:List Srt)(xs ys:List Val)(n i:Nat):S:=⟨[(0,.w (zC xs)),(1,.w (zC ys)),(2,.w (.c (.d (.fn YG [[.sl (yN l)]])))),(13,zj n),(14,zj i)],[]⟩
theorem ape (l:List Srt)(xs ys:List Val)(T:xs.length=l.length)(U:ys.length=l.length)(hl:l.length<=1000000):
 Sat Pg kq [zC xs,zC ys,.c (.d (.fn YG [[.sl (yN l)]]))] (λr=>r=rI (kk l xs ys)):=by
 have R:yH false (rowD xs).length (rowD ys).length=(l.length:Int):=by
  grind[zn,asX]
 have hC:xZ (l.length:Int) l.length=0:=by simp[xZ]
 refine jS.s T8 ?_;rw[R];refine vu T8 (jS.l 0) l.length (λi=>cpS l xs ys l.length i) (λi=>kk l xs ys=kk (l.drop i) (xs.drop i) (ys.drop i)) ?_
 ·intro i hi g;have g:kk l xs ys=kk (l.drop i) (xs.drop i) (ys.drop i):=g;show mwpR Pg T8.f (jS.l 0) _ (cpS l xs ys l.length i);unfold cpS;refine vB (λj=>?_) (λp=>?_)
  ·have P:=ajT l i j xs[i] ys[i];have I:=ym (r:=xs) (i:=i) (by omega);have J:=ym (r:=ys) (i:=i) (by omega);rw[zo j,zo (show i<xs.length by omega),zo (show i<ys.length by omega)]at g;simp only[kk]at g;generalize aax l[i] xs[i] ys[i]=c at*;generalize xs[i]=x at*;generalize ys[i]=y at*;obtain⟨x1,x2,x3⟩:=x;obtain⟨y1,y2,y3⟩:=y;refine zI I ?_;refine zI J ?_;refine Sat.w P ?_;refine zp (λo=>?_) (λo=>?_)
   ·rw[show(c !=0)=true from o]at g;(conv=>whnf);exact congrArg rI g.symm
   ·rw[show(c !=0)=false from o]at g;refine yt j g ?_;rw[zt j (by omega)];rfl
  ·rw[List.drop_eq_nil_of_le p]at g;have g:kk l xs ys=0:=g;rw[g];(conv=>whnf);rw[zn,zn,T,U];rw[hC];rfl
def kyS (row:List Val)(at_:List Int)(i:Nat)(g:List Val):S:=⟨[(0,.w (zC row)),(4,cV (.own 19 3 g.length)),(7,.w (.c (.d (.sl (zw at_))))),(8,zj (zw at_).length),(9,zj i)],
 [(19,.arr 3 (rowD g) false)]⟩
theorem apg (row:List Val)(at_:List Int)(hn:at_.length<=1000000)(R:yu row.length at_):Sat Pg ZH [zC row,.c (.fp [.sl (zw at_)])] (λr=>r=rC (.d (.sl (rowD (pickL row at_))))):=by
 refine zE ?_;refine X7.s T8 ?_;refine zF (P:=Pg) (f:=T8.f) (body:=(X7.l 0)) at_.length (λi=>kyS row at_ i (pickL row (at_.take i))) (λ_=>True) ⟨trivial,⟨_,zu 4 19 3 (by omega) (by omega) rfl,?_⟩⟩ ?_
 ·exact rfl
 ·intro i hi _;have aa:(pickL row (at_.take i)).length=i:=by grind[pickL]
  have j: ∀h:i<at_.length,pickL row (at_.take (i+1))=pickL row (at_.take i)++[at0 row (at_[i]).toNat]:=λh=>by
   grind[pickL,zA]
  have o:at_.length<=i ->pickL row at_=pickL row (at_.take i):=λh=>by grind
  show mwpR Pg T8.f (X7.l 0) _ (kyS row at_ i (pickL row (at_.take i)));generalize pickL row (at_.take i)=T at*;have p:(rowD T).take T.length=rowD T:=by grind[zn]
  unfold kyS;refine zh (λU=>?_) (λU=>?_)
  ·have g:i<at_.length:=by simp_all[y0]
   have hg:=jA g;have j:=j g;have hk:=R _ (List.getElem_mem g);generalize at_[i]=k at*;have J:(rowD row)[k.toNat]? =some (at0 row k.toNat).ds:=by
    grind[at0,rowD]
   generalize at0 row k.toNat=v at*;obtain⟨v1,v2,v3⟩:=v;refine zI hg ?_;refine zI J ?_ (hA:=hk.1);refine qN ?_;refine yt g trivial ?_;rw[zt g (by omega),p,j,<- uW,List.length_append];rfl
  ·have I:at_.length<=i:=by grind[y0]
   rw[o I];refine vT ?_;show Res.mk (.w (.c (.d (.sl ((rowD T).take T.length))))) []=_;rw[p];rfl
def xA (at_:List Int)(l:List Srt)(a b:List Val):Int:=kk l (pickL a at_) (pickL b at_)
theorem apa (at_:List Int)(l:List Srt)(a b:List Val)(o:yu a.length at_)(p:yu b.length at_)(J:at_.length=l.length)(I:l.length<=1000000):
 Sat Pg Qg [zC a,zC b,.c (.fp [.fn ZH [[.sl (zw at_)]]]),.c (.fp [.sl (yN l)])] (λr=>r=rI (xA at_ l a b)):=by
 have g:=apg a at_ (by omega) o;have i:=apg b at_ (by omega) p;have j:=ape l (pickL a at_) (pickL b at_) (by grind[pickL]) (by grind[pickL]) I;unfold xA;generalize kk l (pickL a at_) (pickL b at_)=c at*;generalize pickL a at_=x at*;generalize pickL b at_=y at*;refine afE.s T8 ?_
 repeat' (first
  |(refine And.intro ?_ ?_<;>conv=>whnf)
  |(refine Sat.mono g ?_;rintro _ rfl;conv=>whnf)
  |(refine Sat.mono i ?_;rintro _ rfl;conv=>whnf)
  |(refine Sat.mono j ?_;rintro _ rfl;conv=>whnf))
 all_goals rfl
theorem CmpOK.both {α:Type}{c d:α ->α ->Int}(h:CmpOK c)(k:CmpOK d):CmpOK (λx y=>bif c x y !=0 then c x y else d x y):=by
 have e: ∀x y,(bif c x y !=0 then c x y else d x y)=if c x y=0 then d x y else c x y:=λx y=>by
  simp_all
 refine⟨λx=>?_,λx y=>?_,λx y z j i=>?_⟩
 ·simp only[e];rw[if_pos (h.refl x)];exact k.refl x
 ·simp only[e];have p:=h.anti x y;have r:=h.anti y x;have a3:=k.anti x y;omega
 ·simp only[e]at j i⊢;by_cases l:c x y=0
  ·rw[if_pos l]at j;by_cases g:c y z=0
   ·rw[if_pos g]at i;have I:=h.trans x y z (by omega) (by omega);have o:=h.trans z y x (by have:=h.zero.1 g;omega) (by have:=h.zero.1 l;omega);have J:=h.ge.2 o;rw[if_pos (by omega)];exact k.trans _ _ _ j i
   ·rw[if_neg g]at i;have:=h.lt_of2 (x:=x) (y:=y) (z:=z) (by omega) (by omega);omega
  ·rw[if_neg l]at j;by_cases g:c y z=0
   ·have:=h.lt_of (x:=x) (y:=y) (z:=z) (by omega) (by omega);omega
   ·rw[if_neg g]at i;have:=h.lt_of (x:=x) (y:=y) (z:=z) (by omega) (by omega);omega
theorem CmpOK.onF {α β:Type}{c:α ->α ->Int}(h:CmpOK c)(f:β ->α):CmpOK (λx y=>c (f x) (f y)):=⟨λx=>h.refl _,λx y=>h.anti _ _,λx y z=>h.trans _ _ _⟩
theorem CmpOK.flip {α:Type}{c:α ->α ->Int}(h:CmpOK c):CmpOK (λx y=>c y x):=⟨λx=>h.refl _,λx y=>h.anti _ _,λx y z g i=>h.trans _ _ _ i g⟩
theorem aAc (s:Srt):CmpOK (aax s):=by
 obtain⟨i,g⟩:=s;cases g
 ·exact U9
 ·exact U9.flip
theorem WP: ∀(at_:List Int) (l:List Srt),CmpOK (xA at_ l)
 | [],l=>by
   have e:xA [] l= λ_ _=>0:=by funext a b;cases l<;>rfl
   rw[e];exact⟨λ_=>rfl,λ_ _=>by omega,λ_ _ _ _ _=>Int.le_refl _⟩
 |k::at_,[]=>by
  have e:xA (k::at_) []= λ_ _=>0:=by funext a b;rfl
  rw[e];exact⟨λ_=>rfl,λ_ _=>by omega,λ_ _ _ _ _=>Int.le_refl _⟩
 |k::at_,s::l=>((aAc s).onF (λrow=>at0 row k.toNat)).both (WP at_ l)
theorem avG (l:List (List Val)): ∀x∈zd l,x.length=1:=by
 grind[zd]
theorem Uz (l:List (List Val))(g:l.length<=1000000):Sat Pg gD [.c (.d (.sl (zd l)))] (λr=>(l=[]/\r=rC .nil)\/r=ac7 1 (zd l)):=by
 refine kV.s T8 ?_;refine⟨λh=>?_,?_⟩
 ·conv=>whnf
  left
  refine⟨?_,rfl⟩;cases l with
  |nil=>rfl
  |cons a r=>cases h
 ·(conv=>whnf);refine⟨avG l,by grind[zS,zq],by grind[zq],?_⟩;(conv=>whnf)
  right
  show Res.mk (.w (.c (.own 0 1 (([]:List (List D)).length+(zd l).length)))) [.arr 1 (([]:List (List D)).take ([]:List (List D)).length++zd l) false]=_;simp_all[ac7]
theorem aqH (g:FuncId)(cp:List (List D)):zQ Pg vX [.c .nil,.c (int 0),.c (int 0),.c (.d (.fn g cp))] [] (λr=>r=⟨.tup [],[]⟩):=by
 refine uG T8 xm.ok (by kernel_rfl) (by simp) ?_
 conv=>whnf
 refine yQ (P:=Pg) (f:=T8.f) (body:=(xm.l 1)) (λ_:Unit=>⟨[(0,cV .nil),(1,zj 0),(2,zj 0),(3,.w (.c (.d (.fn g cp)))),(8,zj 1)],[]⟩) (λ_=>0) (λ_=>True) ⟨(),trivial,zf ?_⟩ ?_
 ·exact rfl
 ·rintro _ _;exact rfl
theorem aj6 (g:FuncId)(cp:List (List D)):zQ Pg Za [.c .nil,.c (int 0),.c (.d (.fn g cp))] [] (λr=>r=⟨.tup [],[]⟩):=by
 refine uG T8 y9.ok (by kernel_rfl) (by simp) ?_
 conv=>whnf
 refine yQ (P:=Pg) (f:=T8.f) (body:=(y9.l 0)) (λ_:Unit=>⟨[(0,cV .nil),(1,zj 0),(2,.w (.c (.d (.fn g cp)))),(6,zj 20),(7,zj 0),(8,zj 20)],[]⟩) (λ_=>0) (λ_=>True) ⟨(),trivial,zf ?_⟩ ?_
 ·exact rfl
 ·rintro _ _;(conv=>whnf);refine zQ.mono (aqH g cp) ?_;rintro _ rfl;(conv=>whnf);refine yQ (P:=Pg) (f:=T8.f) (body:=(y9.l 2)) (λ_:Unit=>⟨[(0,cV .nil),(1,zj 0),(2,.w (.c (.d (.fn g cp)))),(6,zj 20)],[]⟩) (λ_=>0) (λ_=>True) ⟨(),trivial,zf ?_⟩ ?_
  ·exact rfl
  ·rintro _ _;exact rfl
theorem VN (g:FuncId)(cp:List (List D)):zQ Pg vf [.c .nil,.c (.d (.fn g cp))] [] (λr=>r=⟨.tup [],[]⟩):=by
 refine uG T8 jt.ok (by kernel_rfl) (by simp) ?_
 conv=>whnf
 refine zQ.mono (aj6 g cp) ?_;rintro _ rfl;exact rfl
theorem afh (d:List Nmd)(i:ByteArray)(st:Stp)(t:Tbl)(g:List Col)(T:xp d=0)(U:Qry.err ⟨i,[st]⟩=0)(hf:zO i d=some t)(p:t.cols.length<=1000000)(hs:st.sorts.length<=1000000)
 (hT:Sat Pg yL [.c (.d (.sl (zK d))),.c (.d (.sl (zi t.cols))),st.w] (λr=>r=rCs g)):Sat Pg uK [.c (.d (.sl (zK d))),Qry.w ⟨i,[st]⟩] (λr=>r=rCs g):=by
 have hc:=uY d;have hq:=adh ⟨i,[st]⟩ (by grind);have j:=qT d i;have o:=wQ t.cols p;rw[T]at hc;rw[U]at hq;rw[hf]at j;clear T U hf;obtain⟨tc,tr⟩:=t;obtain⟨op,⟨eo,nm,⟨vk,vn,vs⟩,ks⟩,I,aa,J,R,sn,tb⟩:=st;refine vF.s T8 ?_;refine Sat.w hc ?_;refine Sat.w hq ?_;refine Sat.w j ?_;refine Sat.w o ?_;refine vG (P:=Pg) (f:=T8.f) (body:=(vF.l 0)) 2 ?_;refine xN ?_;refine Sat.w hT ?_;rfl
theorem ao9 (d:List Nmd)(g:ByteArray)(st:Stp)(t R:Tbl)(i:List Col)(J:zO g d=some t)(T:Sat Pg uK [.c (.d (.sl (zK d))),Qry.w ⟨g,[st]⟩] (λr=>r=rCs i))
 (U:Sat Pg uT [.c (.d (.sl (zK d))),t.w,st.w] (λr=>r=qb R 0)):Sat Pg Z6 [.c (.d (.sl (zK d))),Qry.w ⟨g,[st]⟩] (λr=>r=qb R 0):=by
 have j:=qT d g;rw[J]at j;clear J;obtain⟨tc,tr⟩:=t;obtain⟨rc,rr⟩:=R;obtain⟨op,⟨eo,nm,⟨vk,vn,vs⟩,ks⟩,o,aa,p,I,sn,tb⟩:=st;refine Xz.s T8 ?_;refine Sat.w T ?_;refine Sat.w j ?_;refine vG (P:=Pg) (f:=T8.f) (body:=(Xz.l 0)) 2 ?_;refine xN ?_;refine Sat.w U ?_;rfl
end
theorem yU (a b:ByteArray):zl a b=decide (a.data=b.data):=by
 by_cases h:a=b
 ·grind[AM.beqS_self]
 ·have g:zl a b=false:=by
   grind[AM.beqS_iff]
  rw[g];have:a.data≠b.data:=λe=>h (by cases a;simp_all)
  grind
theorem ajx (a b:ByteArray):XI a b=Op.bytesLess a.data.toList b.data.toList:=by
 grind[XI,ByteArray.toList_eq]
def xt (s:ByteArray):Val:=⟨3,0,s⟩
def xn (n:Int):Val:=⟨2,n,⟨#[]⟩⟩
def sA:ByteArray:=⟨#[97]⟩
def sB:ByteArray:=⟨#[98]⟩
def sK:ByteArray:=⟨#[107]⟩
def sN:ByteArray:=⟨#[110]⟩
def sM:ByteArray:=⟨#[109]⟩
def sS:ByteArray:=⟨#[115]⟩
def sC:ByteArray:=⟨#[99]⟩
def sT:ByteArray:=⟨#[116]⟩
def sU:ByteArray:=⟨#[117]⟩
def jo:List (List Val):=[[xt sA,xn 1],[xt sB,xn 2],[xt sA,xn 3]]
def qp:Tbl:=⟨[⟨sK,3⟩,⟨sN,2⟩],jo⟩
def Ul:Tbl:=⟨[⟨sK,3⟩,⟨sM,2⟩],jo⟩
def Xw:List Nmd:=[⟨sT,qp⟩,⟨sU,Ul⟩]
def ex0:Ex:=⟨0,⟨#[]⟩,⟨0,0,⟨#[]⟩⟩,[]⟩
def vT:Stp:=⟨3,ex0,[],[sK],[⟨Wk,sN,sS⟩],[],0,⟨#[]⟩⟩
def wD:Stp:=⟨6,ex0,[],[sK],[],[],0,sU⟩
def kQ:Stp:=⟨3,ex0,[],[],[⟨qI,⟨#[]⟩,sC⟩],[],0,⟨#[]⟩⟩
theorem ann:zJ qp=0:=by
 simp only[zJ,qp,jo,xt,xn,sA,sB,sK,sN,List.map,List.take,ja,qy,ze,z6,Zh,wW,yS,yU]
 decide+kernel
theorem aBp:zJ Ul=0:=by
 simp only[zJ,Ul,jo,xt,xn,sA,sB,sK,sM,List.map,List.take,ja,qy,ze,z6,Zh,wW,yS,yU]
 decide+kernel
theorem aBo:zJ ⟨qp.cols,[]⟩=0:=by
 simp only[zJ,qp,jo,xt,xn,sA,sB,sK,sN,List.map,List.take,ja,qy,ze,z6,Zh,wW,yS,yU]
 decide+kernel
theorem ag1:xp Xw=0:=by
 simp only[xp,Xw,Zq,ann,aBp,zO,U7,List.nil_append,List.length_cons,List.length_nil];simp only[qy,sT,sU,yU]
 decide+kernel
theorem aun:vT.err=0:=by
 simp only[vT,Stp.err,Stp.uses,ZP,ex0,Ex.zero,Yp,yB,uB,jW,xD,ZU,ZT,zL,x9,zT,Uw,hasB,Up,Xo,List.any,sK,sN,sS,Wk,yU]
 decide+kernel
theorem auo:wD.err=0:=by
 simp only[wD,Stp.err,Stp.uses,ZP,ex0,Ex.zero,Yp,yB,uB,x9,yG,zL,zT,Uw,hasB,List.any,sK,sU,yU]
 decide+kernel
theorem aBn:kQ.err=0:=by
 simp only[kQ,Stp.err,Stp.uses,ZP,ex0,Ex.zero,Yp,yB,uB,jW,yG,xD,ZU,ZT,zL,zT,Uw,hasB,Up,Xo,List.any,sC,qI,yU]
 decide+kernel
theorem au1:zT sT=true:=by
 simp only[zT,Uw,hasB,List.any,sT,yU]
 decide+kernel
theorem az8:Qry.err ⟨sT,[vT]⟩=0:=by
 grind[Qry.err,uv,au1,aun]
theorem az9:Qry.err ⟨sT,[wD]⟩=0:=by
 grind[Qry.err,uv,au1,auo]
theorem ahq:zO sT Xw=some qp:=by
 grind[zO,Xw,yU]
theorem anX:zO sU Xw=some Ul:=by
 simp_all[zl,sT,sU,zO,Xw]
theorem axa:ze qp.cols sK=0:=by
 grind[ze,qp,z6,yU]
theorem aBv:ze qp.cols sN=1:=by
 simp only[ze,qp,z6,yU]
 decide+kernel
theorem azE:ze Ul.cols sK=0:=by
 grind[ze,Ul,z6,yU]
theorem aCZ:JD qp.cols vT.cols vT.aggs=rCs [⟨sK,3⟩,⟨sS,2⟩]:=by
 have g:zl Wk qI=false:=by rw[yU];decide
 have i:xz qp.cols 0=⟨sK,3⟩:=rfl;have j:xz qp.cols 1=⟨sN,2⟩:=rfl
 grind[JD,vT,takeErr,takeC,z7,uz,axa,aBv]
theorem aC0:JD qp.cols kQ.cols kQ.aggs=rCs [⟨sC,2⟩]:=by
 grind[JD,kQ,takeErr,takeC,z7,uz,AM.beqS_self]
theorem jn2:jnT Xw qp.cols wD.cols wD.table=rCs [⟨sK,3⟩,⟨sN,2⟩,⟨sM,2⟩]:=by
 have o:zl sK sK=true:=AM.beqS_self _;have p:zl sM sK=false:=by rw[yU];decide
 have g:zl sK sN=false:=by rw[yU];decide
 have i:zl sK sM=false:=by grind[yU]
 have j:zl sN sM=false:=by rw[yU];decide
 have hk:qY [sK] Ul.cols=[⟨sM,2⟩]:=by
  simp_all[qY,Ul,hasB]
 have l:dupL [] (qp.cols++[⟨sM,2⟩])=false:=by
  simp only[qp,List.cons_append,List.nil_append,dupL,ze,z6,g,i,j]
  decide+kernel
 simp only[jnT,wD,anX,jnQ,jnErr,axa,azE,hk,l];rfl
theorem avb:keyC [xt sA] [xt sA]=0:=by
 simp only[keyC,uR,zX,xt,jT,sA,yU,ajx]
 decide+kernel
theorem aBL:keyC [xt sA] [xt sB]= -1:=by
 simp only[keyC,uR,zX,xt,jT,sA,sB,yU,ajx]
 decide+kernel
theorem aBM:keyC [xt sB] [xt sA]=1:=by
 simp only[keyC,uR,zX,xt,jT,sA,sB,yU,ajx]
 decide+kernel
def gQ:List Val:=[xt sA,xn 1]
def rB2:List Val:=[xt sB,xn 2]
def rA3:List Val:=[xt sA,xn 3]
theorem aC5 (g:Gr)(k:List Val):yM [g] k=(bif decide (keyC g.key k<0)then 1 else 0):=by
 show jq (qx [g.gp] k) 1 0 1=_;have h:qx [g.gp] k ((0+1)/2)=decide (keyC g.key k<0):=rfl
 grind[jq]
theorem as8:yM [⟨[xt sA],[gQ]⟩] [xt sB]=1 /\wL [⟨[xt sA],[gQ]⟩] [xt sB]=false:=by
 have h:yM [⟨[xt sA],[gQ]⟩] [xt sB]=1:=by grind[aC5,aBL]
 exact⟨h,by unfold wL;rw[h];rfl⟩
theorem ah7:yM [⟨[xt sA],[gQ]⟩,⟨[xt sB],[rB2]⟩] [xt sA]=0 /\wL [⟨[xt sA],[gQ]⟩,⟨[xt sB],[rB2]⟩] [xt sA]=true:=by
 have h:yM [⟨[xt sA],[gQ]⟩,⟨[xt sB],[rB2]⟩] [xt sA]=0:=by
  show jq (qx [Gr.gp ⟨[xt sA],[gQ]⟩,Gr.gp ⟨[xt sB],[rB2]⟩] [xt sA]) 2 0 2=0
  grind[qx,Gr.gp,aBM,avb,jq]
 refine⟨h,?_⟩;unfold wL;rw[h];show(keyC [xt sA] [xt sA]==0)=true
 grind[avb]
theorem g1:qw [0] (jo.take 1)=[⟨[xt sA],[gQ]⟩]:=rfl
theorem g2:qw [0] (jo.take 2)=[⟨[xt sA],[gQ]⟩,⟨[xt sB],[rB2]⟩]:=by
 have e:qw [0] (jo.take 2)=vd [0] (qw [0] (jo.take 1)) rB2:=rfl;rw[e,g1];unfold vd wO;rw[show pickL rB2 [0]=[xt sB]from rfl,as8.1,as8.2];rfl
theorem g3:qw [0] jo=[⟨[xt sA],[gQ,rA3]⟩,⟨[xt sB],[rB2]⟩]:=by
 have e:qw [0] jo=vd [0] (qw [0] (jo.take 2)) rA3:=rfl;rw[e,g2];unfold vd wO;rw[show pickL rA3 [0]=[xt sA]from rfl,ah7.1,ah7.2];rfl
def awG:List Gr:=[⟨[xt sA],[gQ,rA3]⟩,⟨[xt sB],[rB2]⟩]
def awI:List (List Val):=[[xt sA,xn 4],[xt sB,xn 2]]
theorem awJ:awG.map (xP qp.cols vT.aggs)=awI:=by
 have j:zl Wk qI=false:=by rw[yU];decide
 have i: ∀g:Gr,xP qp.cols vT.aggs g=g.key++[Yd (zD (g.rows.map λr=>at0 r 1))]:=λg=>by
  simp_all[xP,vT,jm,w6,w8,aBv,AM.beqS_self]
 simp only[awG,List.map,i];rfl
def anl:List (List Val):=[[xt sA,xn 1,xn 1],[xt sA,xn 1,xn 3],[xt sB,xn 2,xn 2],[xt sA,xn 3,xn 1],[xt sA,xn 3,xn 3]]
theorem aCu:yO [xt sA] [xt sA]=true:=by
 grind[yO,xT,yB,yU]
theorem aCv:yO [xt sA] [xt sB]=false:=by
 grind[yO,xT,yB,xt,sA,sB,yU]
theorem aCw:yO [xt sB] [xt sA]=false:=by
 grind[yO,xT,yB,xt,sA,sB,yU]
theorem aCx:yO [xt sB] [xt sB]=true:=by
 grind[yO,xT,yB,yU]
theorem aC2:([xt sA].any (yB zB))=false:=rfl
theorem aC3:([xt sB].any (yB zB))=false:=rfl
theorem aBY:oth [sK] 0 Ul.cols=[1]:=by
 grind[sK,sM,yU,oth,Ul,hasB]
theorem aAv:wH [0] [0] [1] jo jo=anl:=by
 have g:pickL [xt sA,xn 1] [0]=[xt sA]:=rfl;have i:pickL [xt sB,xn 2] [0]=[xt sB]:=rfl;have j:pickL [xt sA,xn 3] [0]=[xt sA]:=rfl;simp only[wH,jo,List.flatMap_cons,List.flatMap_nil,acE,jb,g,i,j,aC2,aC3,aCu,aCv,aCw,aCx,List.filter,List.map,cond_false];rfl
section
attribute [local irreducible] Sat zQ yv zl
theorem aCo: ∀(i:Nat) (h:i<jo.length),wL (qw [0] (jo.take i)) (pickL jo[i] [0])=false ->agO (qw [0] (jo.take i)).length (yM (qw [0] (jo.take i)) (pickL jo[i] [0]))
 |0,_,_=>ajh (n:=0) (by omega)
 |1,_,_=>by
  rw[g1];rw[show yM [⟨[xt sA],[gQ]⟩] (pickL jo[1] [0])=1 from as8.1];simp_all[ajh]
 |2,_,h=>by
  rw[g2]at h;have:=ah7.2;rw[show wL [⟨[xt sA],[gQ]⟩,⟨[xt sB],[rB2]⟩] (pickL jo[2] [0])=true from ah7.2]at h;cases h
 |n+3,h,_=>absurd h (by show¬n+3<3;omega)
theorem awK:zg qp.cols [sK]=[0]:=by
 show [ze qp.cols sK]=[0];rw[axa]
theorem azB:zg Ul.cols [sK]=[0]:=by
 show [ze Ul.cols sK]=[0];rw[azE]
theorem ar9: ∀r∈jo,r.length=2:=by
 simp_all[jo]
theorem aup:Sat Pg Zt [.agg [.d (.sl (zi qp.cols)),.d (.sl (zd qp.rows))],.c (.d (.sl (zw (zg qp.cols vT.cols))))] (λr=>r=rC (.d (.sl (V7 awG)))):=by
 have h:=abc qp.cols jo [0] (by decide) (λr hr=>by rw[ar9 r hr];intro k hk;grind) (by decide) aCo;have e:qX [0] jo=awG:=by unfold qX;rw[if_neg (by decide),g3];rfl
 rw[e]at h;rw[show zg qp.cols vT.cols=[0]from awK];exact h
theorem az6:Sat Pg Z6 [.c (.d (.sl (zK Xw))),Qry.w ⟨sT,[vT]⟩] (λr=>r=qb ⟨[⟨sK,3⟩,⟨sS,2⟩],awI⟩ 0):=by
 have i:=adv Xw qp.cols vT rfl (by decide) (by decide) (by decide);rw[aun,aCZ]at i;have p:=kF qp.cols qp.rows vT awG (by decide) (by decide) (by decide) (by decide) (by decide) (by decide) aup;have j:=Vi Xw qp vT rfl awG p;rw[awJ]at j;have o:=aae Xw qp vT [⟨sK,3⟩,⟨sS,2⟩] awI rfl (by decide) j;have g:=Vu Xw qp vT _ _ ag1 ann i o;have l:=afh Xw sT vT qp _ ag1 az8 ahq (by decide) (by decide) i;exact ao9 Xw sT vT qp _ _ ahq l g
theorem auq:Sat Pg WX [.agg [.d (.sl (zi qp.cols)),.d (.sl (zd qp.rows))],.agg [.d (.sl (zi Ul.cols)),.d (.sl (zd Ul.rows))],.c (.d (.sl (zm wD.cols)))] (λr=>r=rRT anl):=by
 have h:=afg qp.cols jo Ul.cols jo [sK] (by decide) (by decide) (by decide) (by decide) ar9 (by decide) ar9 (by rw[awK];intro k hk;rw[List.mem_singleton.1 hk];decide) (by rw[azB];intro k hk;rw[List.mem_singleton.1 hk];decide);rw[awK,azB,aBY,aAv]at h;exact h
theorem az7:Sat Pg Z6 [.c (.d (.sl (zK Xw))),Qry.w ⟨sT,[wD]⟩] (λr=>r=qb ⟨[⟨sK,3⟩,⟨sN,2⟩,⟨sM,2⟩],anl⟩ 0):=by
 have i:=aqJ Xw qp.cols wD rfl (by decide) (by decide) (by decide) (λt j=>by rw[show wD.table=sU from rfl,anX]at j;cases j;decide);rw[auo,jn2]at i;have o:=abP Xw qp wD rfl Ul anX anl auq;have p:=amG Xw qp wD [⟨sK,3⟩,⟨sN,2⟩,⟨sM,2⟩] anl rfl (by decide) o;have g:=Vu Xw qp wD _ _ ag1 ann i p;have l:=afh Xw sT wD qp _ ag1 az9 ahq (by decide) (by decide) i;exact ao9 Xw sT wD qp _ _ ahq l g
theorem awL:Sat Pg uT [.c (.d (.sl (zK []))),Tbl.w ⟨qp.cols,[]⟩,kQ.w] (λr=>r=qb ⟨[⟨sC,2⟩],[[xn 0]]⟩ 0):=by
 have j:=adv [] qp.cols kQ rfl (by decide) (by decide) (by decide);rw[aBn,aC0]at j;have l:=abc qp.cols [] [] (by decide) (λr hr=>by cases hr) (by decide) (λi h=>absurd h (Nat.not_lt_zero i));have p:=kF qp.cols [] kQ [⟨[],[]⟩] (by decide) (by decide) (by decide) (by decide) (by decide) (by decide) l;have e: [(⟨[],[]⟩:Gr)].map (xP qp.cols kQ.aggs)=[[xn 0]]:=by
  simp only[List.map,xP,kQ,jm,w6,w8,AM.beqS_self,cond_true,Bool.not_true,Bool.and_false];rfl
 rw[e]at p;have g:=Vi [] ⟨qp.cols,[]⟩ kQ rfl [⟨[],[]⟩] (by grind);rw[e]at g;have o:=aae [] ⟨qp.cols,[]⟩ kQ [⟨sC,2⟩] [[xn 0]] rfl (by decide) g;exact Vu [] ⟨qp.cols,[]⟩ kQ _ _ rfl aBo j o
theorem KT (s:ByteArray):Sat Pg aof [.c (str s)] (λr=>r=rV (xt s)):=by
 refine zY T8 ant.ok (by kernel_rfl) ?_;exact rfl
theorem Ve (n:Int):Sat Pg aqk [.c (int n)] (λr=>r=rV (xn n)):=by
 refine zY T8 ap4.ok (by kernel_rfl) ?_;exact rfl
theorem ak8:Sat Pg al0 [] (λr=>r=rB true):=by
 refine alE.s T8 ?_;refine Sat.w (KT sA) ?_;refine Sat.w (Ve 1) ?_;refine Sat.w (KT sB) ?_;refine Sat.w (Ve 2) ?_;refine Sat.w (KT sA) ?_;refine Sat.w (Ve 3) ?_;refine Sat.w az6 ?_;refine Sat.w az7 ?_;refine Sat.w awL ?_;refine⟨by decide,_,rfl,rfl,?_⟩
 conv=>whnf
 refine⟨by decide,_,rfl,rfl,?_⟩
 conv=>whnf
 refine⟨by decide,_,rfl,rfl,?_⟩
 conv=>whnf
 refine⟨by decide,_,rfl,rfl,?_⟩
 conv=>whnf
 refine Sat.cal (KT sA) ?_;generalize xt sA=l at*;obtain⟨o,p,I⟩:=l
 conv=>whnf
 refine zp (λ_=>?_) (λh=>absurd h (by simp[AM.beqS_self]))
 conv=>whnf
 refine⟨by decide,_,rfl,rfl,?_⟩
 conv=>whnf
 refine⟨by decide,_,rfl,rfl,?_⟩
 conv=>whnf
 refine Sat.cal (Ve 4) ?_;generalize xn 4=J at*;obtain⟨P,R,T⟩:=J
 conv=>whnf
 refine zp (λ_=>?_) (λh=>absurd h (by simp[AM.beqS_self]))
 conv=>whnf
 refine⟨by decide,_,rfl,rfl,?_⟩
 conv=>whnf
 refine⟨by decide,_,rfl,rfl,?_⟩
 conv=>whnf
 refine Sat.cal (Ve 2) ?_;generalize xn 2=U at*;obtain⟨aa,ab,ac⟩:=U
 conv=>whnf
 refine zp (λ_=>?_) (λh=>absurd h (by simp[AM.beqS_self];exact⟨rfl,rfl⟩))
 conv=>whnf
 refine⟨by decide,_,rfl,rfl,?_⟩
 conv=>whnf
 refine⟨by decide,_,rfl,rfl,?_⟩
 conv=>whnf
 refine⟨by decide,_,rfl,rfl,?_⟩
 conv=>whnf
 refine Sat.cal (Ve 0) ?_;generalize xn 0=x4 at*;obtain⟨g,i,j⟩:=x4
 conv=>whnf
 refine congrArg rB (?_:(bif true then(bif false then !((g==g)&&((i==i)&&(zl j j&&true)))else((g==g)&&((i==i)&&(zl j j&&true))))else false)=true);simp[AM.beqS_self]
theorem aap {α:Type}{e:α ->α ->Bool}(h: ∀x,e x x=true): ∀l:List α,xT e l l=true
 | []=>rfl
 |x::r=>by simp only[xT,h,Bool.not_true,cond_false];exact aap h r
theorem WS (v:Val):yB v v=true:=by grind[yB,AM.beqS_self]
theorem axe (v:Col):eqC v v=true:=by grind[eqC,AM.beqS_self]
theorem ade (r:List Val):yO r r=true:=by
 grind[yO,aap,WS]
theorem aih (t:Tbl):amQ t t=true:=by
 grind[amQ,aap,axe,ade]
end
end Go.Proofs.YtnlbmefhdiabcaaGreat
