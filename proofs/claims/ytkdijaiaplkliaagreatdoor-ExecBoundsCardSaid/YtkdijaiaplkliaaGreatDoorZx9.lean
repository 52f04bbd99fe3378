import Derived.Sort.Statements
import Derived.Test.YtkdijaiaplkliaaGreatDoorZx8
set_option linter.unusedSimpArgs false
set_option linter.unusedVariables false
set_option maxRecDepth 100000
set_option maxHeartbeats 4000000
namespace Go.Proofs.YtkdijaiaplkliaaGreatDoor
open Go Go.AM
section
attribute [local irreducible] Sat zD yk
theorem uD (l:List Val)(g:l.length<=1000000):Sat Pg UX [yb l] (λr=>(l=[]/\r=rC .nil)\/r=KU 3 (rowD l)):=by
 refine yK T3 UI.ok (by kernel_rfl) ?_;refine⟨λh=>?_,?_⟩
 ·conv=>whnf
  left
  refine⟨?_,rfl⟩;cases l with
  |nil=>rfl
  |cons a r=>cases h
 ·(conv=>whnf);refine⟨Xq l,by grind[yP,zm],by grind[zm],?_⟩
  right
  show Res.mk (.w (.c (.own 0 3 (([]:List (List D)).length+(rowD l).length)))) [.arr 3 (([]:List (List D)).take ([]:List (List D)).length++rowD l) false]=_;simp_all[KU]
def UK (cols:List Col)(rows:List (List Val))(a:Agg):List Val:=
 bif decide (zj cols a.col>=0)&& !zl a.fn Wr then rows.map λr=>at0 r (zj cols a.col).toNat else List.replicate rows.length yJ
def Yj (cols:List Col)(rows:List (List Val))(g:List Agg):List Val:=g.map λa=>gM a.fn (UK cols rows a)
def qf (cols:List Col)(i:List Agg)(g:Gr):List Val:=g.key++Yj cols g.rows i
def Stp.cs (s:Stp):List C:=match s.cond with| .mk g i v ks=>wF s.op g i v ks (y9 s.items) (zq s.cols) (qN s.aggs) (xA s.sorts) s.n s.table
def gdA (cols:List Col)(rows:D)(st:Stp)(gs:List Gr)(i:Nat)(g:List (List Val)):S:=⟨[(2,cV (.ptr 2 0)),(3,cV (.ptr 3 0)),(5,cV (.own 78 1 g.length)),(20,.w (.c (.d (.sl (Wc gs))))),(21,zg gs.length),(22,zg i)],
 [(2,.box [.d (.sl (zi cols)),.d rows]),(3,.box st.cs),(78,.arr 1 (zh g) false)]⟩
def gdB (cols:List Col)(rows:D)(st:Stp)(gs:List Gr)(i:Nat)(o:List (List Val))(g:Gr)(l:List Agg)(j:Nat)(row:List Val):S:=⟨[(2,cV (.ptr 2 0)),(3,cV (.ptr 3 0)),(5,cV (.own 78 1 o.length)),(7,cV (.ptr 7 0)),(8,cV (.own 73 3 row.length)),(20,.w (.c (.d (.sl (Wc gs))))),(21,zg gs.length),(22,zg i),(30,.w (.c (.d (.sl (qN l))))),(31,zg l.length),(32,zg j)],
 [(2,.box [.d (.sl (zi cols)),.d rows]),(3,.box st.cs),(7,.box [.d (.sl (rowD g.key)),.d (.sl (zh g.rows))]),(73,.arr 3 (rowD row) false),(78,.arr 1 (zh o) false)]⟩
def gdC (cols:List Col)(rows:D)(st:Stp)(gs:List Gr)(i:Nat)(p:List (List Val))(g:Gr)(o:List Agg)(j:Nat)(row:List Val)(a:Agg)(k:Int)(m:Nat)(l:List Val):S:=⟨[(2,cV (.ptr 2 0)),(3,cV (.ptr 3 0)),(5,cV (.own 78 1 p.length)),(7,cV (.ptr 7 0)),(8,cV (.own 73 3 row.length)),(10,cV (.ptr 10 0)),(11,cV (.own 39 3 g.rows.length)),(12,zg k),(20,.w (.c (.d (.sl (Wc gs))))),(21,zg gs.length),(22,zg i),(30,.w (.c (.d (.sl (qN o))))),(31,zg o.length),(32,zg j),(52,.w (.c (.d (.sl (zh g.rows))))),(53,zg g.rows.length),(54,zg m)],
 [(2,.box [.d (.sl (zi cols)),.d rows]),(3,.box st.cs),(7,.box [.d (.sl (rowD g.key)),.d (.sl (zh g.rows))]),(10,.box [str a.fn,str a.col,str a.nm]),(39,.arr 3 (rowD l) false),(73,.arr 3 (rowD row) false),(78,.arr 1 (zh p) false)]⟩
def uG (s:S)(k:Nat)(v:V):S:=⟨s.sl++[(k,v)],s.pl⟩
theorem anB (l:List Val)(i:Nat)(v:Val):(rowD l).set i v.ds=rowD (l.set i v):=by grind[rowD,List.map_set]
def part (rows:List (List Val))(k:Int)(m:Nat):List Val:=(rows.take m).map (λr=>at0 r k.toNat)++List.replicate (rows.length - m) yJ
theorem ann (rows:List (List Val))(k:Int){m:Nat}(h:m<=rows.length):(part rows k m).length=rows.length:=by grind[part]
theorem ano (rows:List (List Val))(k:Int){m:Nat}(h:m<rows.length):(part rows k m).set m (at0 rows[m] k.toNat)=part rows k (m+1):=by
 unfold part;have g:((rows.take m).map λr=>at0 r k.toNat).length=m:=by simp;omega
 rw[List.set_append_right _ _ (by omega),g,Nat.sub_self,zM h,List.map_append];obtain⟨n,i⟩: ∃n,rows.length - m=n+1:=⟨rows.length - m - 1,by omega⟩
 grind
theorem aqH {Q:E ->S ->Prop}{s:S}(cols:List Col)(rows:D)(st:Stp)(gs:List Gr)(i:Nat)(I:List (List Val))(g:Gr)(o:List Agg)(j:Nat)(row:List Val)(a:Agg)(k:Int)(hk:0<=k /\k<cols.length)(ac:g.rows.length<=500000)(hw: ∀r∈g.rows,r.length=cols.length)
 (h0:xm s [2,3,5,7,8,10,11,12,20,21,22,30,31,32,52,53,54] (· =gdC cols rows st gs i I g o j row a k 0 (List.replicate g.rows.length yJ)))
 (hQ:Q (.exit 4) (uG (gdC cols rows st gs i I g o j row a k g.rows.length (g.rows.map λr=>at0 r k.toNat)) 55 (zZ (decide ((g.rows.length:Int)<g.rows.length))))):
 yk (mwpR Pg T8.f (xB.l 0)) [2,3,5,7,8,10,11,12,20,21,22,30,31,32,52,53,54] Q s:=by
 refine yl (P:=Pg) (f:=T8.f) (body:=(xB.l 0)) g.rows.length (λm=>gdC cols rows st gs i I g o j row a k m (part g.rows k m)) (λ_=>True) ⟨trivial,?_⟩ ?_
 ·grind[part]
 ·intro m hm _;have J:=λh:m<g.rows.length=>ano g.rows k h
  have ab:=ann g.rows k hm;have T:m=g.rows.length ->part g.rows k m=g.rows.map λr=>at0 r k.toNat:=λh=>by simp_all[part]
  show mwpR Pg T8.f (xB.l 0) _ (gdC cols rows st gs i I g o j row a k m (part g.rows k m));generalize part g.rows k m=l at*;obtain⟨key,R⟩:=g;obtain⟨op,⟨eo,nm,⟨v1,v2,v3⟩,ks⟩,ad,ai,ae,af,sn,tb⟩:=st;simp only at J ab T hm ac hw hQ;unfold gdC Stp.cs wF;refine ze (λh1=>?_) (λh1=>?_)
  ·have p:m<R.length:=by have h1:decide ((m:Int)<(R.length:Int))=true:=h1;simp_all
   have hg:=xy p;have J:=J p;have ah:=hw _ (List.getElem_mem p);have wi:=zA p (by omega);generalize R[m]=r at*;have aa:(rowD r)[k.toNat]? =some (at0 r k.toNat).ds:=by
    grind[acd,rowD]
   generalize at0 r k.toNat=v at*;obtain⟨u1,u2,u3⟩:=v;have ag:(m:Int)<(rowD l).length:=by grind[zm]
   refine zX hg ?_;refine zX aa ?_ (hA:=hk.1);refine xq ?_ (hA:=by omega) (hB:=by grind);refine⟨_,yQ (r:=l) (i:=m) (by omega),Nat.le_refl _,?_⟩;refine yF p trivial ?_;rw[wi,<- J,<- anB];rfl
  ·have U:m=R.length:=by grind
   have hf:=T U;subst U;subst hf;exact hQ
theorem amS (cols:List Col)(rows:List (List Val))(a:Agg):(UK cols rows a).length=rows.length:=by
 grind[UK]
theorem aqI {Q:E ->S ->Prop}{s:S}(cols:List Col)(rows:List (List Val))(st:Stp)(gs:List Gr)(i:Nat)(J:List (List Val))(g:Gr)(R:st.aggs.length<=100000)(ao:g.key.length<=500000)(aj:g.rows.length<=500000)(hw: ∀r∈g.rows,r.length=cols.length)
 (h0:xm s [2,3,5,7,8,20,21,22,30,31,32] (· =gdB cols (.sl (zh rows)) st gs i J g st.aggs 0 g.key))
 (hQ:Q (.exit 2) (uG (gdB cols (.sl (zh rows)) st gs i J g st.aggs st.aggs.length (qf cols st.aggs g)) 33 (zZ (decide ((st.aggs.length:Int)<st.aggs.length))))):
 yk (mwpR Pg T8.f (xB.l 1)) [2,3,5,7,8,20,21,22,30,31,32] Q s:=by
 refine yl (P:=Pg) (f:=T8.f) (body:=(xB.l 1)) st.aggs.length (λj=>gdB cols (.sl (zh rows)) st gs i J g st.aggs j (g.key++Yj cols g.rows (st.aggs.take j))) (λ_=>True) ⟨trivial,?_⟩ ?_
 ·grind[Yj]
 ·intro j hj _;have an:(g.key++Yj cols g.rows (st.aggs.take j)).length=g.key.length+j:=by grind[Yj]
  have I: ∀h:j<st.aggs.length,g.key++Yj cols g.rows (st.aggs.take (j+1))=(g.key++Yj cols g.rows (st.aggs.take j))++[gM (st.aggs[j]).fn (UK cols g.rows st.aggs[j])]:=λh=>by
   grind[Yj,zM]
  have ad:j=st.aggs.length ->qf cols st.aggs g=g.key++Yj cols g.rows (st.aggs.take j):=λh=>by rw[h,List.take_length];rfl
  show mwpR Pg T8.f (xB.l 1) _ (gdB cols (.sl (zh rows)) st gs i J g st.aggs j (g.key++Yj cols g.rows (st.aggs.take j)));generalize au:g.key++Yj cols g.rows (st.aggs.take j)=T at*;have ak:(rowD T).take T.length=rowD T:=by grind[zm]
  have al:=λ(Q':E ->S ->Prop) (s':S) (a:Agg) (k:Int) (hk:0<=k /\k<cols.length)=>aqH (Q:=Q') (s:=s') cols (.sl (zh rows)) st gs i J g st.aggs j T a k hk aj hw
  obtain⟨key,o⟩:=g;obtain⟨op,⟨eo,nm,⟨v1,v2,v3⟩,ks⟩,aq,aw,p,ar,sn,tb⟩:=st;simp only at I ad hj ao aj hw hQ an R;unfold gdB Stp.cs wF;refine ze (λh1=>?_) (λh1=>?_)
  ·have ab:j<p.length:=by have h1:decide ((j:Int)<(p.length:Int))=true:=h1;have:=of_decide_eq_true h1;omega
   have hg:=UB ab;have I:=I ab;have wi:=zA ab (by omega);generalize p[j]=a at*;have ac:=xK cols (.d (.sl (zh rows))) a.col ⟨_,rfl⟩;have av:=amS cols o a;have R:=ao5 a.fn (UK cols o a) (by omega);have af:=Q8 (λx=>zl x.name a.col) cols 0 (Int.le_refl _);have af:0<=zj cols a.col ->zj cols a.col<cols.length:=λh=>by grind[zj]
   have aa:UK cols o a=bif decide (zj cols a.col>=0)&& !zl a.fn Wr then o.map (λr=>at0 r (zj cols a.col).toNat)else List.replicate o.length yJ:=rfl
   have ae:(rowD (UK cols o a)).take o.length=rowD (UK cols o a):=by grind[zm]
   have ag:rowD (List.replicate o.length yJ)=List.replicate o.length yJ.ds:=by simp[rowD]
   generalize UK cols o a=l at*;obtain⟨a1,a2,a3⟩:=a;simp only at ac R af aa I;generalize zj cols a2=k at*;refine zX hg ?_;rw[show(zh (Gr.mk key o).rows).length=o.length from zy o];refine⟨by omega,by omega,by unfold yP;simp;omega,by omega,?_⟩;refine Sat.w ac ?_;refine zt (b:=decide (k>=0)&& !zl a1 Wr) (λh2=>?_) (λh2=>?_)
   ·rw[h2,cond_true]at aa;(conv=>whnf);have ai:0<=k:=by
     simp_all
    refine al _ _ ⟨a1,a2,a3⟩ k ⟨ai,af ai⟩ (zf ?_) ?_
    ·(conv=>whnf);unfold gdC;rw[ag,zy];rfl
    simp only[];rw[<- aa];have U:Sat Pg UW [.c (str a1),.c (.d (.sl ((rowD l).take o.length)))] (λr=>r=rV (gM a1 l)):=by rw[ae];exact R
    generalize gM a1 l=u at*;obtain⟨u1,u2,u3⟩:=u;refine Sat.w U ?_;refine qj ?_;refine yF ab trivial ?_;rw[wi,ak,I,<- wX,List.length_append];rfl
   ·rw[h2,cond_false]at aa;rw[<- aa]at ag;have U:Sat Pg UW [.c (str a1),.c (.d (.sl ((List.replicate o.length yJ.ds).take o.length)))] (λr=>r=rV (gM a1 l)):=by rw[<- ag,ae];exact R
    refine Sat.w U ?_;refine qj ?_;refine yF ab trivial ?_;rw[wi,ak,I,<- wX,List.length_append];rfl
  ·have ah:j=p.length:=by grind
   rw[ad ah]at hQ;subst ah;exact hQ
theorem ahR (cols:List Col)(rows:List (List Val))(st:Stp)(gs:List Gr)
 (ae:st.cols.length<=1000000) (ad:st.aggs.length<=100000) (au:gs.length<=1000000) (ab: ∀g∈gs,g.key.length<=500000) (ao: ∀g∈gs,g.rows.length<=500000) (hw: ∀g∈gs,∀r∈g.rows,r.length=cols.length)
 (af:Sat Pg jP [.agg [.d (.sl (zi cols)),.d (.sl (zh rows))],.c (.d (.sl (zp (zn cols st.cols))))] (λr=>r=rC (.d (.sl (Wc gs))))):
 Sat Pg W5 [.agg [.d (.sl (zi cols)),.d (.sl (zh rows))],.agg st.cs] (λr=>r=rC (.d (.sl (zh (gs.map (qf cols st.aggs)))))):=by
 have ag:=Jk cols (.sl (zh rows)) st.cols ae;have aa:=λ(Q:E ->S ->Prop) (s:S) (i:Nat) (aj:List (List Val)) (g:Gr) (h1:g.key.length<=500000) (h2:g.rows.length<=500000) (h3: ∀r∈g.rows,r.length=cols.length)=>aqI (Q:=Q) (s:=s) cols rows st gs i aj g ad h1 h2 h3
 have p: ∀i,∀h:i<gs.length,(gs.take (i+1)).map (qf cols st.aggs)=(gs.take i).map (qf cols st.aggs)++[qf cols st.aggs gs[i]]:=λi h=>by grind[zM]
 have I: ∀i,gs.length<=i ->gs.map (qf cols st.aggs)=(gs.take i).map (qf cols st.aggs):=λi h=>by rw[List.take_of_length_le h]
 refine zC ?_;obtain⟨op,⟨eo,nm,⟨v1,v2,v3⟩,ks⟩,J,ai,j,U,sn,tb⟩:=st;simp only at p I ae ad ag af;unfold Stp.cs wF;refine xB.s T8 ?_;refine Sat.w ag ?_;refine Sat.w af ?_;rw[am2];refine yl (P:=Pg) (f:=T8.f) (body:=(xB.l 2)) gs.length (λi=>gdA cols (.sl (zh rows)) ⟨op,⟨eo,nm,⟨v1,v2,v3⟩,ks⟩,J,ai,j,U,sn,tb⟩ gs i ((gs.take i).map (qf cols j))) (λ_=>True) ⟨trivial,⟨_,z7 5 78 1 (by omega) (by omega) rfl,?_⟩⟩ ?_
 ·exact rfl
 ·intro i hi _;show mwpR Pg T8.f (xB.l 2) _ (gdA cols (.sl (zh rows)) ⟨op,⟨eo,nm,⟨v1,v2,v3⟩,ks⟩,J,ai,j,U,sn,tb⟩ gs i ((gs.take i).map (qf cols j)));have ar:((gs.take i).map (qf cols j)).length=i:=by simp;omega
  have p:=p i;have I:=I i;generalize(gs.take i).map (qf cols j)=T at*;have ac:(zh T).take T.length=zh T:=by grind[zy]
  unfold gdA Stp.cs wF;refine um (λo=>?_) (λal=>?_)
  ·have hg:=am1 o;have p:=p o;have aa:=λQ s=>aa Q s i T gs[i] (ab _ (List.getElem_mem o)) (ao _ (List.getElem_mem o)) (hw _ (List.getElem_mem o))
   have ab:=ab _ (List.getElem_mem o);have wi:=zA o (by omega);generalize gs[i]=g at*;have ah:(rowD (qf cols j g)).take (qf cols j g).length=rowD (qf cols j g):=by rw[<- zm,List.take_length]
   obtain⟨key,aq⟩:=g;have ak:=uD key (by simp only at ab;omega);refine zX hg ?_;refine Sat.mono ak ?_;rintro _ (⟨an,rfl⟩|rfl)
   ·(conv=>whnf);refine aa _ _ ⟨_,z7 8 73 3 (by omega) (by omega) rfl,?_⟩ ?_
    ·(conv=>whnf);unfold gdB;rw[uv];simp only[an];rfl
    simp only[];unfold uG gdB Stp.cs wF;generalize qf cols j ⟨key,aq⟩=R at*;refine qj ?_;refine yF o trivial ?_;rw[wi,ac,ah,p,qW,List.length_append];rfl
   ·(conv=>whnf);refine aa _ _ ⟨_,vK 8 600448 73 3 _ _ (by omega) rfl rfl,?_⟩ ?_
    ·(conv=>whnf);rw[uv,zm];rfl
    refine qj ?_;refine yF o trivial ?_;rw[wi,ac,ah,p,qW,List.length_append];rfl
  ·rw[I al];refine Jy ?_;show Res.mk (.w (.c (.d (.sl ((zh T).take T.length))))) []=_;rw[ac];rfl
structure Nmd where
 nm:ByteArray
 t:Tbl
def Nmd.ds (x:Nmd):List D:=[.lit (.string x.nm),.sl (zi x.t.cols),.sl (zh x.t.rows)]
def zu (l:List Nmd):List (List D):=l.map Nmd.ds
theorem jz (l:List Nmd):(zu l).length=l.length:=by simp[zu]
theorem aah {r:List Nmd}{i:Nat}(h:i<r.length):(zu r)[((i:Int)).toNat]? =some (r[i]).ds:=by grind[zu]
theorem alx (l:List Nmd)(i:Nat):(zu l).take i=zu (l.take i):=by grind[zu,List.map_take]
def zI (g:ByteArray):List Nmd ->Option Tbl
 | []=>none
 |x::r=>bif zl x.nm g then some x.t else zI g r
def rF (x:Option Tbl):Res:=match x with
 |some t=>⟨.tup [t.w,.c (bool true)],[]⟩
 |none=>⟨.tup [.agg [.nil,.nil],.c (bool false)],[]⟩
theorem xg (d:List Nmd)(p:ByteArray):Sat Pg jq [.c (.d (.sl (zu d))),.c (str p)] (λr=>r=rF (zI p d)):=by
 refine wg 0 (by kernel_rfl) rfl λo=>?_
 rw[jz]at o;refine Kh.s T8 ?_;rw[jz];refine XV T8 (Kh.l 0) d.length (λi=>⟨[(1,.w (.c (str p))),(4,cV (.ptr 4 0)),(8,.w (.c (.d (.sl (zu d))))),(9,zg d.length),(10,zg i)],[(4,.box [.nil,.nil])]⟩) (λi=>zI p d=zI p (d.drop i)) ?_
 ·intro i hi g;refine um (λj=>?_) (λJ=>?_)
  ·rw[zo j]at g;simp only[zI]at g;have P:=aah j;have R:=zA j o;generalize d[i]=x at*;obtain⟨xn,⟨T,U⟩⟩:=x;simp only at g;refine zX P ?_;refine ze (b:=zl xn p) (λI=>?_) (λI=>?_)
   ·rw[I,cond_true]at g;(conv=>whnf);rw[g];rfl
   ·rw[I,cond_false]at g;refine yF j g ?_;rw[R];rfl
  ·rw[List.drop_eq_nil_of_le J]at g;(conv=>whnf);rw[g];rfl
def kA (x:Option Tbl):Bool:=match x with|some _=>true|none=>false
def uO (pre:List Nmd):List Nmd ->Int
 | []=>0
 |x::r=>bif wW x.nm !=0 then wW x.nm else bif kA (zI x.nm pre)then 4 else bif zR x.t !=0 then zR x.t else uO (pre++[x]) r
def yu (d:List Nmd):Int:=bif decide ((d.length:Int)>32)then 7 else uO [] d
theorem qv (d:List Nmd):Sat Pg qE [.c (.d (.sl (zu d)))] (λr=>r=rI (yu d)):=by
 refine wg 0 (by kernel_rfl) rfl λo=>?_
 rw[jz]at o;unfold yu;refine Q5.s T8 ?_;rw[jz];refine zt (b:=decide ((d.length:Int)>32)) (λh0=>?_) (λh0=>?_)
 ·rw[h0];exact rfl
 ·rw[h0];simp only[cond_false];(conv=>whnf);rw[jz];refine XV T8 (Q5.l 0) d.length (λi=>⟨[(0,.w (.c (.d (.sl (zu d))))),(12,.w (.c (.d (.sl (zu d))))),(13,zg d.length),(14,zg i)],[]⟩) (λi=>uO [] d=uO (d.take i) (d.drop i)) ?_
  ·intro i hi g;refine um (λj=>?_) (λR=>?_)
   ·rw[zo j]at g;simp only[uO]at g;rw[<- zM j]at g;have hg:=aah j;have wi:=zA j o;have I:=xX d[i].t;have p:=xg (d.take i) d[i].nm;have T:=Vg d[i].nm;rw[<- alx]at p;generalize d[i]=x at*;obtain⟨xn,⟨xc,xr⟩⟩:=x;simp only at g I p T;generalize zI xn (d.take i)=f at*;generalize zR ⟨xc,xr⟩=te at*;generalize aa:uO (d.take (i+1)) (d.drop (i+1))=rest at*;refine zX hg ?_;refine ze (b:=wW xn !=0) (λJ=>?_) (λJ=>?_)
    ·rw[J,cond_true]at g;(conv=>whnf);rw[g];rfl
    ·rw[J,cond_false]at g;have ab:i<=(zu d).length:=by grind
     refine xq ?_ (hA:=by show(0:Int)<=(i:Int);omega) (hB:=by show(i:Int)<=((zu d).length:Int);omega);refine Sat.cal (p) ?_;cases f with
     |some U=>
      obtain⟨fc,fr⟩:=U;simp only[kA,cond_true]at g;(conv=>whnf);rw[g];rfl
     |none=>
      simp only[kA,cond_false]at g;refine Sat.w I ?_;refine zt (b:=te !=0) (λP=>?_) (λP=>?_)
      ·rw[P,cond_true]at g;(conv=>whnf);rw[g];rfl
      ·rw[P,cond_false]at g;refine yF j g ?_;rw[wi];rfl
   ·rw[List.drop_eq_nil_of_le R]at g;simp only[uO]at g;(conv=>whnf);rw[g];rfl
def wz (cols:List Col)(i:Int):Col:=cols.getD i.toNat ⟨⟨#[]⟩,0⟩
def takeErr (cols:List Col)(g:List ByteArray):Bool:=g.any λs=>decide (zj cols s<0)
def takeC (cols:List Col)(g:List ByteArray):List Col:=g.map λs=>wz cols (zj cols s)
def Qo (e:Int):Res:=⟨.tup [.c (.d (.sl [])),.c (int e)],[]⟩
def rCs (l:List Col):Res:=⟨.tup [.c (.d (.sl (zi l))),.c (int 0)],[]⟩
theorem Z2 {cols:List Col}{k:Int}(h:0<=k)(g:k<cols.length):(zi cols)[k.toNat]? =some (wz cols k).ds:=by
 grind[wz,zi]
theorem xW (cols:List Col)(s:ByteArray): ¬zj cols s<0 ->0<=zj cols s /\zj cols s<cols.length:=λh=>by
 have:=Q8 (λx=>zl x.name s) cols 0 (Int.le_refl _)
 grind[zj]
def tkS (cols:List Col)(j:List ByteArray)(i:Nat)(g:List Col):S:=⟨[(0,.w (.c (.d (.sl (zi cols))))),(6,cV (.own 27 2 g.length)),(10,.w (.c (.d (.sl (zq j))))),(11,zg j.length),(12,zg i)],[(27,.arr 2 (zi g) false)]⟩
def rNE (e:Int):Res:=⟨.tup [.c .nil,.c (int e)],[]⟩
def rCo (l:List Col):Res:=⟨.tup [.c (.own 0 2 l.length),.c (int 0)],[.arr 2 (zi l) false]⟩
theorem K4 (cols:List Col)(g:List ByteArray)(hn:g.length<=1000000):Sat Pg aeB [.c (.d (.sl (zi cols))),.c (.d (.sl (zq g)))] (λr=>r=bif takeErr cols g then rNE 16 else rCo (takeC cols g)):=by
 refine X5.s T8 ?_;rw[zT];refine yl (P:=Pg) (f:=T8.f) (body:=(X5.l 0)) g.length (λi=>tkS cols g i (takeC cols (g.take i))) (λi=>takeErr cols (g.take i)=false) ⟨rfl,⟨_,z7 6 27 2 (by omega) (by omega) rfl,?_⟩⟩ ?_
 ·exact rfl
 ·intro i hi hR;have ae:(takeC cols (g.take i)).length=i:=by grind[takeC]
  have R: ∀h:i<g.length,takeC cols (g.take (i+1))=takeC cols (g.take i)++[wz cols (zj cols g[i])]:=λh=>by
   grind[takeC,zM]
  have I: ∀h:i<g.length,takeErr cols (g.take (i+1))=decide (zj cols g[i]<0):=λh=>by
   grind[takeErr,zM]
  have ab:g.length<=i ->(bif takeErr cols g then rNE 16 else rCo (takeC cols g))=rCo (takeC cols (g.take i)):=λh=>by
   grind
  have o: ∀h:i<g.length,decide (zj cols g[i]<0)=true ->(bif takeErr cols g then rNE 16 else rCo (takeC cols g))=rNE 16:=λh U=>by
   grind[takeErr]
  show mwpR Pg T8.f (X5.l 0) _ (tkS cols g i (takeC cols (g.take i)));generalize takeC cols (g.take i)=T at*;have ad:(zi T).take T.length=zi T:=by grind[zP]
  unfold tkS;refine um (λj=>?_) (λac=>?_)
  ·have hg:=qY j;have R:=R j;have I:=I j;have o:=o j;have aa:=xd cols g[i];have p:=xW cols g[i];have wi:=zA j (by omega);have J:=λh=>Z2 (p h).1 (p h).2
   generalize g[i]=x at*;generalize zj cols x=k at*;refine zX hg ?_;refine Sat.w aa ?_;refine zt (b:=decide (k<0)) (λU=>?_) (λU=>?_)
   ·rw[o U];exact rfl
   ·have h3:=of_decide_eq_false U;have J:=J h3;have hb:=p h3;refine zX J ?_ (hA:=hb.1);refine qj ?_;refine yF j (I.trans U) ?_;rw[wi,ad,R,List.length_append];simp only[zi,List.map_append];rfl
  ·rw[ab ac];exact rfl
def gL (cols:List Col)(a:Agg):Int×Col:=
 bif !zl a.fn Wr then
  bif decide (zj cols a.col<0)then(16,⟨a.nm,0⟩)else
  bif zl a.fn aj3&&(wz cols (zj cols a.col)).t !=2 then(14,⟨a.nm,0⟩)else(0,⟨a.nm,(wz cols (zj cols a.col)).t⟩)
 else(0,⟨a.nm,2⟩)
def y5 (cols:List Col):List Agg ->Int×List Col
 | []=>(0,[])
 |a::r=>bif (gL cols a).1 !=0 then((gL cols a).1,[])else((y5 cols r).1,(gL cols a).2::(y5 cols r).2)
def ajA (cols:List Col)(i:List ByteArray)(g:List Agg):Res:=
 bif takeErr cols i then Qo 16 else bif (y5 cols g).1 !=0 then Qo (y5 cols g).1 else rCs (takeC cols i++(y5 cols g).2)
def tgS (cols:List Col)(g:List Agg)(j:Nat)(i:List Col):S:=⟨[(0,.w (.c (.d (.sl (zi cols))))),(6,cV (.own 65 2 i.length)),(24,.w (.c (.d (.sl (qN g))))),(25,zg g.length),(26,zg j)],[(65,.arr 2 (zi i) false)]⟩
theorem agO (cols:List Col)(st:Stp)(aa:st.cols.length<=1000000)(ag:st.aggs.length<=100000):Sat Pg Wl [.c (.d (.sl (zi cols))),.agg st.cs] (λr=>r=ajA cols st.cols st.aggs):=by
 have J:=K4 cols st.cols aa;have ab:(takeC cols st.cols).length=st.cols.length:=by simp[takeC]
 unfold ajA;obtain⟨op,⟨eo,nm,⟨v1,v2,v3⟩,ks⟩,ai,af,g,aj,sn,tb⟩:=st;simp only at J ab aa ag;refine zC ?_;unfold Stp.cs wF;simp only;cases ad:takeErr cols af with
 |true=>
  rw[ad,cond_true]at J;refine uw.s T8 ?_;refine Sat.w J ?_;exact⟨rfl,rfl⟩
 |false=>
  rw[ad,cond_false]at J;simp only[cond_false];generalize takeC cols af=T0 at*;refine uw.s T8 ?_;refine Sat.w J ?_;rw[uv];refine yx (P:=Pg) (f:=T8.f) (body:=(uw.l 0)) (λx:Nat×List Col=>tgS cols g x.1 x.2) (λx=>g.length - x.1) (λx=>x.1<=g.length /\x.2.length<=1000000+x.1 /\(y5 cols g).1=(y5 cols (g.drop x.1)).1 /\((y5 cols (g.drop x.1)).1=0 ->T0++(y5 cols g).2=x.2++(y5 cols (g.drop x.1)).2)) ⟨(0,T0),⟨Nat.zero_le _,by grind,rfl,λ_=>rfl⟩,⟨_,vK 6 600272 65 2 _ _ (by omega) rfl rfl,?_⟩⟩ ?_
  ·exact rfl
  ·rintro⟨j,T⟩ hx;obtain⟨hj,ak,i,o⟩:j<=g.length /\T.length<=1000000+j /\(y5 cols g).1=(y5 cols (g.drop j)).1 /\((y5 cols (g.drop j)).1=0 ->T0++(y5 cols g).2=T++(y5 cols (g.drop j)).2):=hx;show mwpR Pg T8.f (uw.l 0) _ (tgS cols g j T);have R:(zi T).take T.length=zi T:=by grind[zP]
   unfold tgS;refine um (λI=>?_) (λah=>?_)
   ·have hg:=UB I;rw[zo I]at i o;simp only[y5]at i o;have wi:=zA I (by omega);generalize g[j]=a at*;obtain⟨a1,U,a3⟩:=a;unfold gL at i o;simp only at i o;have p:=K4 cols [U] (by simp);have ae:takeErr cols [U]=decide (zj cols U<0):=by simp[takeErr]
    have ac:takeC cols [U]=[wz cols (zj cols U)]:=rfl;rw[ae,ac]at p;generalize wz cols (zj cols U)=c at*;obtain⟨c1,c2⟩:=c;simp only at i o;refine zX hg ?_;refine ze (b:=!zl a1 Wr) (λh2=>?_) (λh2=>?_)
    ·rw[h2]at i o;simp only[cond_true]at i o;(conv=>whnf);cases hb:decide (zj cols U<0)with
     |true=>
      rw[hb]at i p;have i:(y5 cols g).1=16:=i;rw[i];simp only[cond_true]at p;refine Sat.w p ?_;exact⟨rfl,rfl⟩
     |false=>
      rw[hb]at i o p;simp only[cond_false]at i o p;refine Sat.w p ?_;refine zt (b:=zl a1 aj3) (λh3=>?_) (λh3=>?_)
      ·rw[h3,Bool.true_and]at i o;refine xq ?_ (hA:=by omega) (hB:=by grind);refine⟨_,rfl,?_⟩;refine ze (b:=c2 !=2) (λh4=>?_) (λh4=>?_)
       ·rw[h4]at i;have i:(y5 cols g).1=14:=i;rw[i];exact⟨rfl,rfl⟩
       ·rw[h4]at i o;have i:(y5 cols g).1=(y5 cols (g.drop (j+1))).1:=i;have o:(y5 cols (g.drop (j+1))).1=0 ->T0++(y5 cols g).2=T++(⟨a3,c2⟩::(y5 cols (g.drop (j+1))).2):=o;refine xq ?_ (hA:=by omega) (hB:=by grind);refine⟨_,rfl,?_⟩;refine qj ?_;refine⟨(j+1,T++[⟨a3,c2⟩]),⟨⟨I,by grind,i,λh=>by grind⟩,by grind⟩,zf ?_⟩;rw[wi,R,List.length_append];simp only[zi,List.map_append];rfl
      ·rw[h3,Bool.false_and]at i o;have i:(y5 cols g).1=(y5 cols (g.drop (j+1))).1:=i;refine xq ?_ (hA:=by omega) (hB:=by grind);refine⟨_,rfl,?_⟩;refine qj ?_;refine⟨(j+1,T++[⟨a3,c2⟩]),⟨⟨I,by grind,i,λh=>by grind⟩,by grind⟩,zf ?_⟩;rw[wi,R,List.length_append];simp only[zi,List.map_append];rfl
    ·rw[h2]at i o;refine qj ?_;refine⟨(j+1,T++[⟨a3,2⟩]),⟨⟨I,by show(T++[(⟨a3,2⟩:Col)]).length<=1000000+(j+1);simp;omega,i,λh=>by rw[o h];simp⟩,by show g.length -(j+1)<g.length - j;omega⟩,zf ?_⟩;rw[wi,R,List.length_append];simp only[zi,List.map_append];rfl
   ·rw[List.drop_eq_nil_of_le ah]at i o;simp only[y5,List.append_nil]at i o;simp only[forall_const]at o;rw[i,o];refine Jy ?_;show Res.mk (.tup [.c (.d (.sl ((zi T).take T.length))),.c (int 0)]) []=_;rw[R];rfl
theorem Qq (l:List Col)(g:l.length<=1000000):Sat Pg Z6 [.c (.d (.sl (zi l)))] (λr=>(l=[]/\r=rC .nil)\/r=KU 2 (zi l)):=by
 refine yK T3 ZZ.ok (by kernel_rfl) ?_;refine⟨λh=>?_,?_⟩
 ·conv=>whnf
  left
  refine⟨?_,rfl⟩;cases l with
  |nil=>rfl
  |cons a r=>cases h
 ·(conv=>whnf);refine⟨aig l,by grind[yP,zP],by grind[zP],?_⟩
  right
  show Res.mk (.w (.c (.own 0 2 (([]:List (List D)).length+(zi l).length)))) [.arr 2 (([]:List (List D)).take ([]:List (List D)).length++zi l) false]=_;simp_all[KU]
theorem k9 (g:FuncId)(cap:List (List D)):Sat Pg jd [.c (.d (.sl [])),.c (.d (.fn g cap))] (λr=>r=rI (-1)):=by
 refine yK T8 qg.ok (by kernel_rfl) ?_;refine qq (P:=Pg) (f:=T8.f) (body:=(qg.l 0)) 1 ?_;exact rfl
theorem Jg (g:FuncId)(cap:List (List D)):Sat Pg uk [.c (.d (.sl [])),.c (.d (.fn g cap))] (λr=>r=rB false):=by
 refine ua.s T8 ?_;refine Sat.w (k9 g cap) ?_;rfl
def jnErr (cols g:List Col):List ByteArray ->Int
 | []=>0
 |s::r=>bif decide (zj cols s<0)||decide (zj g s<0)then 16 else bif (wz cols (zj cols s)).t !=(wz g (zj g s)).t then 14 else jnErr cols g r
def qp (g:List ByteArray)(l:List Col):List Col:=l.filter λc=>!hasB g c.name
def dupL (pre:List Col):List Col ->Bool
 | []=>false
 |c::r=>bif decide (zj pre c.name>=0)then true else dupL (pre++[c]) r
def jnQ (cols g:List Col)(i:List ByteArray):Res:=
 bif jnErr cols g i !=0 then Qo (jnErr cols g i)else bif dupL [] (cols++qp i g)then Qo 4 else bif decide (((cols++qp i g).length:Int)>32)then Qo 7 else rCs (cols++qp i g)
def jnT (d:List Nmd)(cols:List Col)(g:List ByteArray)(tb:ByteArray):Res:=match zI tb d with
 |none=>Qo 17
 |some t=>jnQ cols t.cols g
def jfb (o:Int)(p:ByteArray)(v1 I:Int)(v3:ByteArray)(ks:List Ex)(g:List Itm)(l:List ByteArray)(i:List Agg)(j:List Srt)(r:Int)(tb:ByteArray):Pl:=
 .fbox [.lit (.int .i64 6),.lit (.int .i64 o),.lit (.string p),.lit (.int .i64 v1),.lit (.int .i64 I),.lit (.string v3),.sl (exsD ks),.sl (y9 g),.sl (zq l),.sl (qN i),.sl (xA j),.lit (.int .i64 r),.lit (.string tb)]
def tjS (I:Int)(J:ByteArray)(v1 R:Int)(v3:ByteArray)(ks:List Ex)(g:List Itm)(p:List ByteArray)(j:List Agg)(l:List Srt)(P:Int)(tb:ByteArray)(r:List Col)(i:Nat)(o:List Col):S:=
 ⟨[(5,cV (.ptr 5 0)),(10,cV .nil),(20,cV (.own 128 2 o.length)),(106,.w (.c (.d (.sl (zi r))))),(107,zg r.length),(108,zg i)],[(5,jfb I J v1 R v3 ks g p j l P tb),(128,.arr 2 (zi o) false)]⟩
theorem aov {Q:E ->S ->Prop}{s:S}(eo:Int)(nm:ByteArray)(v1 v2:Int)(v3:ByteArray)(ks:List Ex)(o:List Itm)(g:List ByteArray)(p:List Agg)(r:List Srt)(sn:Int)(tb:ByteArray)(cols j:List Col)(ae:cols.length<=1000000)(af:j.length<=1000000)
 (h0:xm s [5,10,20,106,107,108] (· =tjS eo nm v1 v2 v3 ks o g p r sn tb j 0 cols))
 (hQ:Q (.exit 8) (uG (tjS eo nm v1 v2 v3 ks o g p r sn tb j j.length (cols++qp g j)) 109 (zZ (decide ((j.length:Int)<j.length))))):
 yk (mwpR Pg T8.f (zB.l 3)) [5,10,20,106,107,108] Q s:=by
 refine yl (P:=Pg) (f:=T8.f) (body:=(zB.l 3)) j.length (λi=>tjS eo nm v1 v2 v3 ks o g p r sn tb j i (cols++qp g (j.take i))) (λ_=>True) ⟨trivial,?_⟩ ?_
 ·grind[qp]
 ·intro i hi _;have ad:(cols++qp g (j.take i)).length<=1000000+i:=by
   grind[qp]
  have I: ∀h:i<j.length,cols++qp g (j.take (i+1))=(cols++qp g (j.take i))++(bif !hasB g j[i].name then [j[i]]else []):=λh=>by
   grind[qp,uU]
  have R:i=j.length ->cols++qp g j=cols++qp g (j.take i):=λh=>by grind
  show mwpR Pg T8.f (zB.l 3) _ (tjS eo nm v1 v2 v3 ks o g p r sn tb j i (cols++qp g (j.take i)));generalize cols++qp g (j.take i)=T at*;have ac:(zi T).take T.length=zi T:=by grind[zP]
  unfold tjS jfb;refine rgE (λJ=>?_) (λU=>?_)
  ·have hg:=xj J;have I:=I J;have ab:=z8 g j[i].name;have aa:=z8 [] j[i].name;have wi:=zA J (by omega);generalize j[i]=c at*;obtain⟨c1,c2⟩:=c;generalize hasB g c1=b at*;refine zX hg ?_;refine Sat.w ab ?_;refine zt (b:=!b) (λh2=>?_) (λh2=>?_)
   ·rw[h2,cond_true]at I;refine Sat.w aa ?_;refine qj ?_;refine yF J trivial ?_;rw[wi,ac,I,List.length_append];simp only[zi,List.map_append];rfl
   ·rw[h2,cond_false,List.append_nil]at I;refine yF J trivial ?_;rw[wi,I];rfl
  ·rw[R U]at hQ;subst U;exact hQ
theorem ahV (d:List Nmd)(cols:List Col)(st:Stp)(aj:st.op=6)(ar:st.cols.length<=1000000)(af:cols.length<=1000000)(R: ∀t,zI st.table d=some t ->t.cols.length<=1000000):
 Sat Pg wc [.c (.d (.sl (zu d))),.c (.d (.sl (zi cols))),.agg st.cs] (λr=>r=jnT d cols st.cols st.table):=by
 have U:=xg d st.table;unfold jnT;obtain⟨op,⟨eo,nm,⟨v1,v2,v3⟩,ks⟩,aa,p,ab,ac,sn,tb⟩:=st;simp only at aj ar R U;subst aj;refine zC ?_;unfold Stp.cs wF;simp only;cases hf:zI tb d with
 |none=>
  rw[hf]at U;refine zB.s T8 ?_;refine Sat.w U ?_;exact⟨rfl,rfl⟩
 |some t=>
  rw[hf]at U;have R:=R t hf;obtain⟨T,tr⟩:=t;simp only at R;unfold jnQ;refine zB.s T8 ?_;refine Sat.w U ?_;refine Sat.w (Jg Qm _) ?_;rw[zT];refine XV T8 (zB.l 0) p.length (λi=>⟨[(1,.w (.c (.d (.sl (zi cols))))),(5,cV (.ptr 5 0)),(8,cV (.ptr 8 0)),(10,cV .nil),(46,.w (.c (.d (.sl (zq p))))),(47,zg p.length),(48,zg i)],[(5,jfb eo nm v1 v2 v3 ks aa p ab ac sn tb),(8,.box [.d (.sl (zi T)),.d (.sl (zh tr))])]⟩) (λi=>jnErr cols T p=jnErr cols T (p.drop i)) ?_
  ·intro i hi g;unfold jfb;refine um (λj=>?_) (λJ=>?_)
   ·rw[zo j]at g;simp only[jnErr]at g;have hg:=qY j;have wi:=zA j (by omega);have ao:=xd cols p[i];have aq:=xd T p[i];have ad:=xW cols p[i];have ae:=xW T p[i];have ah:=λh=>Z2 (ad h).1 (ad h).2
    have ai:=λh=>Z2 (ae h).1 (ae h).2
    generalize p[i]=x at*;generalize zj cols x=k1 at*;generalize zj T x=k2 at*;refine zX hg ?_;refine Sat.w ao ?_;refine Sat.w aq ?_;refine zt (b:=decide (k1<0)||decide (k2<0)) (λI=>?_) (λI=>?_)
    ·rw[I]at g;have g:jnErr cols T p=16:=g;simp only[g];exact⟨rfl,rfl⟩
    ·rw[I,cond_false]at g;rw[Bool.or_eq_false_iff]at I;have n1:=of_decide_eq_false I.1;have n2:=of_decide_eq_false I.2;have ad:=ad n1;have ae:=ae n2;have ah:=ah n1;have ai:=ai n2;generalize wz cols k1=c1 at*;generalize wz T k2=c2 at*;obtain⟨av,ak⟩:=c1;obtain⟨aw,al⟩:=c2;simp only at g;refine zX ah ?_ (hA:=ad.1);refine zX ai ?_ (hA:=ae.1);refine ze (b:=ak !=al) (λh3=>?_) (λh3=>?_)
     ·rw[h3]at g;have g:jnErr cols T p=14:=g;simp only[g];exact⟨rfl,rfl⟩
     ·rw[h3,cond_false]at g;refine yF j g ?_;rw[wi];rfl
   ·rw[List.drop_eq_nil_of_le J]at g;have g:jnErr cols T p=0:=g;simp only[g];clear g;(conv=>whnf);refine qq (P:=Pg) (f:=T8.f) (body:=(zB.l 2)) 3 ?_;refine xq ?_ (hA:=by omega) (hB:=by grind);refine⟨_,rfl,?_⟩;(conv=>whnf);refine qq (P:=Pg) (f:=T8.f) (body:=(zB.l 1)) 1 ?_;refine xq ?_ (hA:=by decide) (hB:=by show(1:Int)<((2:Nat):Int);omega);refine⟨_,rfl,?_⟩;(conv=>whnf);refine qq (P:=Pg) (f:=T8.f) (body:=(zB.l 1)) 1 ?_;(conv=>whnf);refine Sat.mono (Qq cols af) ?_;rintro _ (⟨au,rfl⟩|rfl)
    ·(conv=>whnf);refine aov eo nm v1 v2 v3 ks aa p ab ac sn tb cols T af R ⟨_,z7 20 128 2 (by omega) (by omega) rfl,?_⟩ ?_
     ·(conv=>whnf);unfold tjS;rw[zP,au];rfl
     unfold uG tjS jfb;have an:(cols++qp p T).length<=2000000:=by
      grind[qp]
     clear R af U;generalize cols++qp p T=O at*;(conv=>whnf);refine yl (P:=Pg) (f:=T8.f) (body:=(zB.l 4)) O.length (λi=>⟨[(20,cV (.own 128 2 O.length)),(130,cV (.own 128 2 O.length)),(131,zg O.length),(132,zg i)],[(128,.arr 2 (zi O) false)]⟩) (λi=>dupL [] O=dupL (O.take i) (O.drop i)) ⟨rfl,zf ?_⟩ ?_
     ·exact rfl
     ·intro i hi g;cases i with
      |zero=>
       refine ze (b:=decide ((0:Nat)<(O.length:Int))) (λh1=>?_) (λh1=>?_)
       ·have j:0<O.length:=by simp_all
        rw[zo j]at g;simp only[dupL]at g;rw[<- zM j]at g;have hg:=xj j;have wi:=zA j (by omega);have o:=xd (O.take (0)) O[0].name;have ht:zi (O.take (0))=(zi O).take (0):=by grind[zi]
        rw[ht]at o;generalize ag:dupL (O.take (0+1)) (O.drop (0+1))=rest at*;generalize O[0]=c at*;obtain⟨c1,c2⟩:=c;simp only at g o;generalize zj (O.take (0)) c1=k at*;(conv=>whnf);refine⟨by omega,by omega,?_⟩;(conv=>whnf);refine⟨_,hg,?_⟩;(conv=>whnf);refine⟨by show(0:Int)<=((0:Nat):Int);omega,by show((0:Nat):Int)<=(O.length:Int);omega,?_⟩;refine Sat.w o ?_;refine zt (b:=decide (k>=0)) (λI=>?_) (λI=>?_)
        ·rw[I]at g;have g:dupL [] O=true:=g;rw[g];exact⟨rfl,rfl⟩
        ·rw[I]at g;have g:dupL [] O=rest:=g;(conv=>whnf);refine⟨j,g,zf ?_⟩;(conv=>whnf);rw[wi];rfl
       ·have J:O.length<=0:=by grind
        rw[List.drop_eq_nil_of_le J]at g;have g:dupL [] O=false:=g;rw[g];refine ze (b:=decide ((O.length:Int)>32)) (λh5=>?_) (λh5=>?_)
        ·grind
        ·rw[h5];(conv=>whnf);refine⟨rfl,?_⟩;show Res.mk (.tup [.c (.d (.sl ((zi O).take O.length))),.c (int 0)]) []=_;rw[<- zP,List.take_length];rfl
      |succ i=>
       refine ze (b:=decide ((i+1:Nat)<(O.length:Int))) (λh1=>?_) (λh1=>?_)
       ·have j:i+1<O.length:=by have:=of_decide_eq_true h1;omega
        rw[zo j]at g;simp only[dupL]at g;rw[<- zM j]at g;have hg:=xj j;have wi:=zA j (by omega);have o:=xd (O.take (i+1)) O[i+1].name;have ht:zi (O.take (i+1))=(zi O).take (i+1):=by grind[zi,List.map_take]
        rw[ht]at o;generalize ag:dupL (O.take (i+1+1)) (O.drop (i+1+1))=rest at*;generalize O[i+1]=c at*;obtain⟨c1,c2⟩:=c;simp only at g o;generalize zj (O.take (i+1)) c1=k at*;(conv=>whnf);refine⟨by omega,by omega,?_⟩;(conv=>whnf);refine⟨_,hg,?_⟩;(conv=>whnf);refine⟨by show(0:Int)<=((i+1:Nat):Int);omega,by show((i+1:Nat):Int)<=(O.length:Int);omega,?_⟩;refine Sat.w o ?_;refine zt (b:=decide (k>=0)) (λI=>?_) (λI=>?_)
        ·rw[I]at g;have g:dupL [] O=true:=g;rw[g];exact⟨rfl,rfl⟩
        ·rw[I]at g;have g:dupL [] O=rest:=g;(conv=>whnf);refine⟨j,g,zf ?_⟩;(conv=>whnf);rw[wi];rfl
       ·have J:O.length<=i+1:=by grind
        rw[List.drop_eq_nil_of_le J]at g;have g:dupL [] O=false:=g;rw[g];refine ze (b:=decide ((O.length:Int)>32)) (λh5=>?_) (λh5=>?_)
        ·rw[h5];exact⟨rfl,rfl⟩
        ·rw[h5];(conv=>whnf);refine⟨rfl,?_⟩;show Res.mk (.tup [.c (.d (.sl ((zi O).take O.length))),.c (int 0)]) []=_;rw[<- zP,List.take_length];rfl
    ·(conv=>whnf);refine aov eo nm v1 v2 v3 ks aa p ab ac sn tb cols T af R ⟨_,vK 20 601664 128 2 _ _ (by omega) rfl rfl,?_⟩ ?_
     ·(conv=>whnf);unfold tjS;rw[zP,zP];rfl
     unfold uG tjS jfb;have an:(cols++qp p T).length<=2000000:=by
      grind[qp]
     clear R af U;generalize cols++qp p T=O at*;(conv=>whnf);refine yl (P:=Pg) (f:=T8.f) (body:=(zB.l 4)) O.length (λi=>⟨[(20,cV (.own 128 2 O.length)),(130,cV (.own 128 2 O.length)),(131,zg O.length),(132,zg i)],[(128,.arr 2 (zi O) false)]⟩) (λi=>dupL [] O=dupL (O.take i) (O.drop i)) ⟨rfl,zf ?_⟩ ?_
     ·exact rfl
     ·intro i hi g;cases i with
      |zero=>
       refine ze (b:=decide ((0:Nat)<(O.length:Int))) (λh1=>?_) (λh1=>?_)
       ·have j:0<O.length:=by simp_all
        rw[zo j]at g;simp only[dupL]at g;rw[<- zM j]at g;have hg:=xj j;have wi:=zA j (by omega);have o:=xd (O.take (0)) O[0].name;have ht:zi (O.take (0))=(zi O).take (0):=by grind[zi]
        rw[ht]at o;generalize ag:dupL (O.take (0+1)) (O.drop (0+1))=rest at*;generalize O[0]=c at*;obtain⟨c1,c2⟩:=c;simp only at g o;generalize zj (O.take (0)) c1=k at*;(conv=>whnf);refine⟨by omega,by omega,?_⟩;(conv=>whnf);refine⟨_,hg,?_⟩;(conv=>whnf);refine⟨by show(0:Int)<=((0:Nat):Int);omega,by show((0:Nat):Int)<=(O.length:Int);omega,?_⟩;refine Sat.w o ?_;refine zt (b:=decide (k>=0)) (λI=>?_) (λI=>?_)
        ·rw[I]at g;have g:dupL [] O=true:=g;rw[g];exact⟨rfl,rfl⟩
        ·rw[I]at g;have g:dupL [] O=rest:=g;(conv=>whnf);refine⟨j,g,zf ?_⟩;(conv=>whnf);rw[wi];rfl
       ·have J:O.length<=0:=by grind
        rw[List.drop_eq_nil_of_le J]at g;have g:dupL [] O=false:=g;rw[g];refine ze (b:=decide ((O.length:Int)>32)) (λh5=>?_) (λh5=>?_)
        ·grind
        ·rw[h5];(conv=>whnf);refine⟨rfl,?_⟩;show Res.mk (.tup [.c (.d (.sl ((zi O).take O.length))),.c (int 0)]) []=_;rw[<- zP,List.take_length];rfl
      |succ i=>
       refine ze (b:=decide ((i+1:Nat)<(O.length:Int))) (λh1=>?_) (λh1=>?_)
       ·have j:i+1<O.length:=by have:=of_decide_eq_true h1;omega
        rw[zo j]at g;simp only[dupL]at g;rw[<- zM j]at g;have hg:=xj j;have wi:=zA j (by omega);have o:=xd (O.take (i+1)) O[i+1].name;have ht:zi (O.take (i+1))=(zi O).take (i+1):=by grind[zi,List.map_take]
        rw[ht]at o;generalize ag:dupL (O.take (i+1+1)) (O.drop (i+1+1))=rest at*;generalize O[i+1]=c at*;obtain⟨c1,c2⟩:=c;simp only at g o;generalize zj (O.take (i+1)) c1=k at*;(conv=>whnf);refine⟨by omega,by omega,?_⟩;(conv=>whnf);refine⟨_,hg,?_⟩;(conv=>whnf);refine⟨by show(0:Int)<=((i+1:Nat):Int);omega,by show((i+1:Nat):Int)<=(O.length:Int);omega,?_⟩;refine Sat.w o ?_;refine zt (b:=decide (k>=0)) (λI=>?_) (λI=>?_)
        ·rw[I]at g;have g:dupL [] O=true:=g;rw[g];exact⟨rfl,rfl⟩
        ·rw[I]at g;have g:dupL [] O=rest:=g;(conv=>whnf);refine⟨j,g,zf ?_⟩;(conv=>whnf);rw[wi];rfl
       ·have J:O.length<=i+1:=by grind
        rw[List.drop_eq_nil_of_le J]at g;have g:dupL [] O=false:=g;rw[g];refine ze (b:=decide ((O.length:Int)>32)) (λh5=>?_) (λh5=>?_)
        ·rw[h5];exact⟨rfl,rfl⟩
        ·rw[h5];(conv=>whnf);refine⟨rfl,?_⟩;show Res.mk (.tup [.c (.d (.sl ((zi O).take O.length))),.c (int 0)]) []=_;rw[<- zP,List.take_length];rfl
theorem YN (a b:List Val):Sat Pg UY [yb a,yb b] (λr=>r=rB (xN a b)):=by
 refine wg 0 (by kernel_rfl) rfl λj=>?_
 rw[zm]at j;unfold xN;refine Ys.s T8 ?_;rw[zm,zm];refine zt (λh=>?_) (λh=>?_)
 ·rw[h];rfl
 ·rw[h];have P:=lens h;(conv=>whnf);rw[zm];refine XV T8 (Ys.l 0) a.length (λi=>⟨[(0,.w (yb a)),(1,.w (yb b)),(12,zg a.length),(13,zg i)],[]⟩) (λi=>qH xF a b=qH xF (a.drop i) (b.drop i)) ?_
  ·intro i hi o;refine um (λg=>?_) (λJ=>?_)
   ·have p:i<b.length:=by omega
    rw[zo g,zo p]at o;refine zX (yQ g) ?_;refine zX (yQ p) ?_;refine ze (b:=!xF a[i] b[i]) (λI=>?_) (λI=>?_)
    ·simp only[qH,I,cond_true]at o;exact congrArg rB o.symm
    ·simp only[qH,I,cond_false]at o;refine yF g o ?_;rw[zA g j];rfl
   ·rw[WM _ J P]at o;exact congrArg rB o.symm
theorem abG (l:List Val)(v:Val):Sat Pg UZ [yb l,v.w] (λr=>r=rI (yv (xF v) 0 l)):=by
 refine wg 0 (by kernel_rfl) rfl λo=>?_
 rw[zm]at o;obtain⟨v1,p,v3⟩:=v;refine Yt.s T8 ?_;rw[zm];refine XV T8 (Yt.l 0) l.length (λi=>⟨[(0,.w (yb l)),(3,cV (.ptr 3 0)),(7,zg l.length),(8,zg i)],[(3,.box [int v1,int p,str v3])]⟩) (λi=>yv (xF ⟨v1,p,v3⟩) 0 l=yv (xF ⟨v1,p,v3⟩) i (l.drop i)) ?_
 ·intro i hi j;refine um (λg=>?_) (λJ=>?_)
  ·rw[zo g]at j;simp only[yv]at j;have P:=yQ g;have R:=zA g o;generalize l[i]=x at*;obtain⟨T,U,x3⟩:=x;refine zX P ?_;refine ze (b:=xF ⟨v1,p,v3⟩ ⟨T,U,x3⟩) (λI=>?_) (λI=>?_)
   ·rw[I]at j;rw[j];exact rfl
   ·rw[I]at j;refine yF g j ?_;rw[R];rfl
  ·rw[List.drop_eq_nil_of_le J]at j;rw[j];exact rfl
theorem XY (l:List Val)(v:Val):Sat Pg WG [yb l,v.w] (λr=>r=rB (l.any (xF v))):=by
 have h:=abG l v;have g:decide (yv (xF v) 0 l>=0)=l.any (xF v):=ZL (xF v) l 0;rw[<- g];refine WF.s T8 ?_;refine Sat.w h ?_;rfl
theorem alI (a b:List Val):rowD a++rowD b=rowD (a++b):=by simp[rowD]
def Vm:List D:=[.lit (.int .i64 0),.lit (.int .i64 0),.lit (.string ⟨#[]⟩)]
theorem acX (n:Nat)(j:n<=1000000):zD Pg JY [.c .nil,.c (int n)] [] (λr=>(n=0 /\r=⟨.w (.c .nil),[]⟩)\/(0<n /\r=⟨.w (.c (.own 0 3 0)),[.arr 3 (List.replicate n Vm) false]⟩)):=by
 refine qA T8 JV.ok (by kernel_rfl) (by simp) ?_;have h0:IntKind.i64.wrap ((0:Int) - 0)=0:=ya (by omega) (by omega);have i:IntKind.i64.wrap ((n:Int) - IntKind.i64.wrap (0 - 0))=n:=by grind[ya]
 conv=>whnf
 rw[i];refine zt (λg=>?_) (λg=>?_)
 ·have g:=of_decide_eq_true g;refine⟨by simp[zQ],by simp[zQ],by simp[zQ],?_⟩;refine⟨by omega,by grind[yP],by omega,?_⟩;refine xq ?_ (hA:=by simp[zQ]) (hB:=by simp[zQ]);exact .inr ⟨by omega,rfl⟩
 ·have g:=of_decide_eq_false g;exact .inl ⟨by omega,rfl⟩
def cvC (xs g:List Val):W:=.c (.d (.sl [[.sl (rowD xs)],[.sl (rowD g)]]))
def cvS (xs g:List Val)(a b:Int):S:=⟨[(0,.w (cvC xs g)),(3,zg a),(9,.w (cvC xs g)),(10,zg 2),(11,zg b)],[]⟩
def cvT (xs i:List Val)(p n:Nat)(g:List (List D))(b:Int):S:=⟨[(6,cV (.own p 3 n)),(25,.w (cvC xs i)),(26,zg 2),(27,zg b)],[(p,.arr 3 g false)]⟩
def cvF (xs g:List Val)(x:Nat×List (List D)):S:=match x.1 with|0=>cvT xs g 33 0 x.2 0|1=>cvT xs g 33 xs.length x.2 1|_=>cvT xs g 33 (xs++g).length x.2 2
theorem aii {xs j:List Val}(J:xs.length<=100000)(R:j.length<=100000){Q:E ->S ->Prop}{s:S}(g:List (List D))(h0:xm s [6,25,26,27] (· =cvT xs j 33 0 g 0))
 (p:Q (.exit 2) ⟨[(6,cV (.own 33 3 (xs++j).length)),(25,.w (cvC xs j)),(26,zg 2),(27,zg 2),(28,zZ (decide ((2:Int)<2)))],[(33,.arr 3 (rowD (xs++j)) false)]⟩):
 yk (mwpR Pg T8.f (q8.l 1)) [6,25,26,27] Q s:=by
 have v1:IntKind.i64.wrap ((0:Int)+1)=1:=ya (by omega) (by omega);have I:IntKind.i64.wrap ((1:Int)+1)=2:=ya (by omega) (by omega);refine yx (P:=Pg) (f:=T8.f) (body:=(q8.l 1)) (cvF xs j) (λx=>2 - x.1) (λx=>x.1=0\/(x.1=1 /\x.2=rowD xs)\/(x.1=2 /\x.2=rowD (xs++j))) ⟨(0,g),.inl rfl,h0⟩ ?_;rintro⟨i,g⟩ r;have o:i=0\/(i=1 /\g=rowD xs)\/(i=2 /\g=rowD (xs++j)):=r;rcases o with rfl|⟨rfl,o⟩|⟨rfl,o⟩
 ·refine qQ ?_;refine⟨Xq xs,by grind[yP,zm],by grind[zm],?_⟩;(conv=>whnf);refine⟨(1,g.take 0++rowD xs),⟨.inr (.inl ⟨rfl,by simp⟩),by grind⟩,zf ?_⟩;rw[v1,Nat.zero_add,zm];rfl
 ·refine qQ ?_;refine⟨Xq j,by grind[yP,zm],by grind[zm],?_⟩;refine⟨(2,g.take xs.length++rowD j),⟨.inr (.inr ⟨rfl,by grind[zm,alI]⟩),by grind⟩,zf ?_⟩;rw[I,zm,<- List.length_append];rfl
 ·(conv=>whnf);subst o;exact p
theorem aam (xs g:List Val)(j:xs.length<=100000)(o:g.length<=100000):
 Sat Pg Ui [cvC xs g] (λr=>r=⟨.w (.c (.own 0 3 (xs++g).length)),[.arr 3 (rowD (xs++g)) false]⟩):=by
 refine yK T8 q8.ok (by kernel_rfl) ?_;have I:IntKind.i64.wrap ((0:Int)+((rowD xs).length:Nat))=((xs.length:Nat):Int):=by grind[zm,ya]
 have J:IntKind.i64.wrap (((xs.length:Nat):Int)+((rowD g).length:Nat))=((xs.length+g.length:Nat):Int):=by grind[zm,ya]
 refine XV T8 (q8.l 0) 2 (λi=>match i with|0=>cvS xs g 0 0|1=>cvS xs g xs.length 1|_=>cvS xs g ((xs.length+g.length:Nat):Int) 2) (λ_=>True) ?_
 ·intro i hi _;obtain rfl|rfl|rfl:i=0\/i=1\/i=2:=by omega
  ·refine qQ ?_;rw[I];refine⟨by omega,trivial,zf ?_⟩;rfl
  ·refine qQ ?_;rw[J];refine⟨by omega,trivial,zf ?_⟩;rfl
  ·(conv=>whnf);refine zD.mono (acX (xs.length+g.length) (by omega)) ?_;rintro r (⟨p,rfl⟩|⟨p,rfl⟩)
   ·(conv=>whnf);refine aii j o [] ⟨_,z7 6 33 3 (by omega) (by omega) rfl,?_⟩ ?_
    ·exact rfl
    ·exact rfl
   ·(conv=>whnf);refine aii j o (List.replicate (xs.length+g.length) Vm) ⟨_,vK 6 600384 33 3 0 _ (by omega) rfl rfl,?_⟩ ?_
    ·exact rfl
    ·exact rfl
theorem ahZ (s:S)(p:Nat):Y6 s (s.withPl (qx s.pl p)):=λ_ _ ι _ _ hr=>⟨ι,hr.freeze p⟩
def x9 (g:List ByteArray):Nat ->List Col ->List Int
 |_,[]=> []
 |i,c::r=>(bif !hasB g c.name then [(i:Int)]else [])++x9 g (i+1) r
theorem acM (g:List ByteArray): ∀(l:List Col) (i:Nat),∀k∈x9 g i l,(i:Int)<=k /\k<i+l.length
 | [],_,k,h=>by cases h
 |c::r,i,k,h=>by
  simp only[x9,List.mem_append]at h;rcases h with h|h
  ·cases j:(!hasB g c.name)
   ·grind
   ·rw[j,cond_true,List.mem_singleton]at h;simp;omega
  ·have:=acM g r (i+1) k h<;>grind
def uC (x:List Val)(key:List Val)(right g:List Int)(i:List (List Val)):List (List Val):=(i.filter λy=>xN key (zw y right)).map λy=>x++zw y g
def afW (left right g:List Int)(i:List (List Val))(x:List Val):List (List Val):=bif (zw x left).any (xF yJ)then []else uC x (zw x left) right g i
def va (left right g:List Int)(xs i:List (List Val)):List (List Val):=xs.flatMap (afW left right g i)
theorem adG (x key:List Val)(right g:List Int)(i:List (List Val)):(uC x key right g i).length<=i.length:=by
 grind[uC]
theorem am5 (left right g:List Int)(i:List (List Val))(x:List Val):(afW left right g i x).length<=i.length:=by
 unfold afW;cases(zw x left).any (xF yJ)<;>simp_all[adG]
theorem Ky (left right g:List Int)(i:List (List Val)): ∀xs,(va left right g xs i).length<=xs.length*i.length
 | []=>by simp[va]
 |x::r=>by
  have l:=am5 left right g i x;have j:=Ky left right g i r;simp only[va,List.flatMap_cons,List.length_append,List.length_cons]at j⊢;rw[Nat.add_mul];omega
def jnC (o:List Col)(br:List (List Val))(left right g:List Int)(l:List (List Val))(i:Nat)(x key:List Val)(j:Nat)(out:List (List Val)):S:=
 ⟨[(4,cV (.ptr 4 0)),(8,.w (.c (.d (.sl (zp left))))),(9,.w (.c (.d (.sl (zp right))))),(10,cV (.own 41 1 g.length)),(13,cV (.own 80 1 out.length)),(15,.w (yb x)),(16,.w (yb key)),(44,.w (.c (.d (.sl (zh l))))),(45,zg l.length),(46,zg i),(57,.w (.c (.d (.sl (zh br))))),(58,zg br.length),(59,zg j)],
 [(4,.box [.d (.sl (zi o)),.d (.sl (zh br))]),(41,.arr 1 (zp g) true),(80,.arr 1 (zh out) false)]⟩
theorem aqK {Q:E ->S ->Prop}{s:S}(bc:List Col)(br:List (List Val))(left right g:List Int)(ar:List (List Val))(i:Nat)(x key:List Val)(out:List (List Val))
 (ag:out.length+br.length<=20000) (aj:right.length<=100000) (ai:g.length<=100000) (af:x.length<=100000) (hr: ∀y∈br,yT y.length right) (ho: ∀y∈br,yT y.length g)
 (h0:xm s [4,8,9,10,13,15,16,44,45,46,57,58,59] (· =jnC bc br left right g ar i x key 0 out))
 (hQ:Q (.exit 4) (uG (jnC bc br left right g ar i x key br.length (out++uC x key right g br)) 60 (zZ (decide ((br.length:Int)<br.length))))):
 yk (mwpR Pg T8.f (qd.l 1)) [4,8,9,10,13,15,16,44,45,46,57,58,59] Q s:=by
 refine yl (P:=Pg) (f:=T8.f) (body:=(qd.l 1)) br.length (λj=>jnC bc br left right g ar i x key j (out++uC x key right g (br.take j))) (λ_=>True) ⟨trivial,?_⟩ ?_
 ·grind[uC]
 ·intro j hj _;have ah:(out++uC x key right g (br.take j)).length<=out.length+j:=by
   grind[adG]
  have p: ∀h:j<br.length,out++uC x key right g (br.take (j+1))=(out++uC x key right g (br.take j))++(bif xN key (zw br[j] right)then [x++zw br[j] g]else []):=λh=>by
   grind[uC,uU]
  have J:j=br.length ->out++uC x key right g br=out++uC x key right g (br.take j):=λh=>by grind
  show mwpR Pg T8.f (qd.l 1) _ (jnC bc br left right g ar i x key j (out++uC x key right g (br.take j)));generalize out++uC x key right g (br.take j)=T at*;have ad:(zh T).take T.length=zh T:=by grind[zy]
  have ae:(zp g).take g.length=zp g:=by grind[ym]
  unfold jnC;refine rgE (λo=>?_) (λR=>?_)
  ·have hg:=xy o;have p:=p o;have ab:=Jj br[j] right (by omega) (hr _ (List.getElem_mem o));have U:=Jj br[j] g (by omega) (ho _ (List.getElem_mem o));have heq:=YN key (zw br[j] right);have aa:=aam x (zw br[j] g) af (by grind[zw]);have wi:=zA o (by omega);have I:((T.length:Int)==20000)=false:=by simp;omega
   rw[<- ae]at U;generalize br[j]=y at*;generalize xN key (zw y right)=b at*;refine zX hg ?_;refine Sat.w ab ?_;refine Sat.w heq ?_;cases b with
   |true=>
    have ac:(rowD (x++zw y g)).take (x++zw y g).length=rowD (x++zw y g):=by grind[zm]
    refine ze (λr=>?_) (λr=>?_)
    ·have r:((T.length:Int)==20000)=true:=r;rw[I]at r;cases r
    ·refine Sat.w U ?_;refine Sat.w aa ?_;refine qj ?_;refine yF o trivial ?_;rw[wi,ad,ac,p,qW,List.length_append];rfl
   |false=>
    rw[cond_false,List.append_nil]at p;refine yF o trivial ?_;rw[wi,p];rfl
  ·rw[J R]at hQ;subst R;exact hQ
def jnA (l:List Col)(o:List (List Val))(p:List ByteArray)(j:List Col)(br:List (List Val))(left right:List Int)(i:Nat)(g:List Int):S:=
 ⟨[(2,.w (.c (.d (.sl (zq p))))),(3,cV (.ptr 3 0)),(4,cV (.ptr 4 0)),(8,.w (.c (.d (.sl (zp left))))),(9,.w (.c (.d (.sl (zp right))))),(10,cV (.own 41 1 g.length)),(26,.w (.c (.d (.sl (zi j))))),(27,zg j.length),(28,zg i)],
 [(3,.box [.d (.sl (zi l)),.d (.sl (zh o))]),(4,.box [.d (.sl (zi j)),.d (.sl (zh br))]),(41,.arr 1 (zp g) false)]⟩
def jnB (l:List Col)(br:List (List Val))(left right g:List Int)(j:List (List Val))(i:Nat)(out:List (List Val)):S:=
 ⟨[(4,cV (.ptr 4 0)),(8,.w (.c (.d (.sl (zp left))))),(9,.w (.c (.d (.sl (zp right))))),(10,cV (.own 41 1 g.length)),(13,cV (.own 80 1 out.length)),(44,.w (.c (.d (.sl (zh j))))),(45,zg j.length),(46,zg i)],
 [(4,.box [.d (.sl (zi l)),.d (.sl (zh br))]),(41,.arr 1 (zp g) true),(80,.arr 1 (zh out) false)]⟩
theorem ahT (R:List Col)(g:List (List Val))(j:List Col)(br:List (List Val))(o:List ByteArray)(a2:o.length<=100000)(az:j.length<=100000)
 (aw:g.length*br.length<=20000) (ay:g.length<=1000000) (ai: ∀x∈g,x.length=R.length) (av:R.length<=100000) (aj: ∀y∈br,y.length=j.length) (a0:yT R.length (zn R o)) (a3:yT j.length (zn j o)):
 Sat Pg Ue [.agg [.d (.sl (zi R)),.d (.sl (zh g))],.agg [.d (.sl (zi j)),.d (.sl (zh br))],.c (.d (.sl (zq o)))]
  (λr=>r=⟨.tup [.c (.d (.sl (zh (va (zn R o) (zn j o) (x9 o 0 j) g br)))),.c (bool true)],[]⟩):=by
 have al:=Jk R (.sl (zh g)) o (by omega);have an:=Jk j (.sl (zh br)) o (by omega);have a1:(zn R o).length=o.length:=by simp[zn]
 have a4:(zn j o).length=o.length:=by simp[zn]
 have ah:=acM o j 0;have ae:(x9 o 0 j).length<=j.length:=by
  have gen: ∀(l:List Col) (i:Nat),(x9 o i l).length<=l.length:=by
   intro l;induction l with
   |nil=>intro i;exact Nat.le_refl _
   |cons c r ih=>
    grind[x9]
  grind
 generalize zn R o=left at*;generalize zn j o=right at*;refine zC ?_;refine qd.s T8 ?_;refine Sat.w al ?_;refine Sat.w an ?_;rw[zP];refine yx (P:=Pg) (f:=T8.f) (body:=(qd.l 0)) (λx:Nat×List Int=>jnA R g o j br left right x.1 x.2) (λx=>j.length - x.1) (λx=>x.1<=j.length /\x.2.length<=x.1 /\x9 o 0 j=x.2++x9 o x.1 (j.drop x.1)) ⟨(0,[]),⟨Nat.zero_le _,Nat.le_refl _,rfl⟩,⟨_,z7 10 41 1 (by omega) (by omega) rfl,?_⟩⟩ ?_
 ·exact rfl
 ·rintro⟨i,T⟩ hx;obtain⟨hi,ax,J⟩:i<=j.length /\T.length<=i /\x9 o 0 j=T++x9 o i (j.drop i):=hx;show mwpR Pg T8.f (qd.l 0) _ (jnA R g o j br left right i T);have aq:(zp T).take T.length=zp T:=by grind[ym]
  unfold jnA;refine um (λp=>?_) (λad=>?_)
  ·rw[zo p]at J;simp only[x9]at J;have hg:=xj p;have wi:=zA p (by omega);have af:=z8 o j[i].name;generalize j[i]=c at*;obtain⟨c1,c2⟩:=c;simp only at J af;generalize hasB o c1=b at*;refine zX hg ?_;refine Sat.w af ?_;cases b with
   |false=>
    have J:x9 o 0 j=T++([(i:Int)]++x9 o (i+1) (j.drop (i+1))):=J;refine qj ?_;refine⟨(i+1,T++[(i:Int)]),⟨⟨p,by grind,by grind⟩,by grind⟩,zf ?_⟩;(conv=>whnf);rw[wi,aq,List.length_append,<- XP];rfl
   |true=>
    have J:x9 o 0 j=T++x9 o (i+1) (j.drop (i+1)):=J;(conv=>whnf);refine⟨(i+1,T),⟨⟨p,by grind,J⟩,by grind⟩,zf ?_⟩;(conv=>whnf);rw[wi];rfl
  ·rw[List.drop_eq_nil_of_le ad]at J;have J:x9 o 0 j=T:=by rw[J];exact List.append_nil _
   rw[J]at ah ae⊢;(conv=>whnf);rw[zy];refine yl (P:=Pg) (f:=T8.f) (body:=(qd.l 2)) g.length (λk=>jnB j br left right T g k (va left right T (g.take k) br)) (λ_=>True) ⟨trivial,⟨_,(ahZ _ 41).trans (z7 13 80 1 (by omega) (by omega) rfl),?_⟩⟩ ?_
   ·exact rfl
   ·intro k hk _;have I: ∀h:k<g.length,va left right T (g.take (k+1)) br=va left right T (g.take k) br++afW left right T br g[k]:=λh=>by
     grind[va,zM]
    have ag:g.length<=k ->va left right T g br=va left right T (g.take k) br:=λh=>by grind
    have ab:k<g.length ->(va left right T (g.take k) br).length+br.length<=20000:=λh=>by
     have h1:=Ky left right T br (g.take k);rw[List.length_take,Nat.min_eq_left (by omega)]at h1;have h2:(k+1)*br.length<=g.length*br.length:=Nat.mul_le_mul_right _ h
     grind
    have aa:=λ(Q':E ->S ->Prop) (s':S) (x key:List Val)=>aqK (Q:=Q') (s:=s') j br left right T g k x key (va left right T (g.take k) br)
    show mwpR Pg T8.f (qd.l 2) _ (jnB j br left right T g k (va left right T (g.take k) br));generalize va left right T (g.take k) br=U at*;have au:(zh U).take U.length=zh U:=by grind[zy]
    refine um (λp=>?_) (λad=>?_)
    ·have hg:=xy p;have I:=I p;have ab:=ab p;have a5:=ai _ (List.getElem_mem p);have wi:=zA p (by omega);have ao:=Jj g[k] left (by omega) (by grind);have ak:=XY (zw g[k] left) yJ;generalize g[k]=x at*;unfold afW at I;generalize zw x left=key at*;have aa:=λQ' s'=>aa Q' s' x key ab (by omega) (by omega) (by omega) (λy hy=>by grind) (λy hy=>by rw[aj y hy];intro z hz;grind)
     generalize key.any (xF yJ)=b at*;refine zX hg ?_;refine Sat.w ao ?_;refine Sat.w ak ?_;cases b with
     |true=>
      have I:va left right T (g.take (k+1)) br=U:=by rw[I];exact List.append_nil _
      refine yF p trivial ?_;rw[wi,I];rfl
     |false=>
      have I:va left right T (g.take (k+1)) br=U++uC x key right T br:=I;(conv=>whnf);refine aa _ _ (zf ?_) ?_
      ·(conv=>whnf);unfold jnC;rw[zy];rfl
      refine yF p trivial ?_;rw[wi,I];rfl
    ·rw[ag ad];refine Jy ?_;show Res.mk (.tup [.c (.d (.sl ((zh U).take U.length))),.c (bool true)]) []=_;rw[au]
theorem agR (d:List Nmd)(cols:List Col)(st:Stp)(i:st.op=5)(hs:st.sorts.length<=1000000)(g:cols.length<=1000000):Sat Pg yp [.c (.d (.sl (zu d))),.c (.d (.sl (zi cols))),st.w] (λr=>r=bif st.err !=0 then Qo st.err else rCs cols):=by
 have I:=wY st hs;have hC:=qF cols g;generalize st.err=e at*;refine zC ?_;obtain⟨op,⟨P,R,⟨U,vn,vs⟩,ks⟩,j,J,l,o,T,tb⟩:=st;subst i;cases p:(e !=0)with
 |true=>
  refine yM.s T8 ?_;refine Sat.w I ?_;rw[p];exact⟨rfl,rfl⟩
 |false=>
  refine yM.s T8 ?_;refine Sat.w I ?_;rw[p];refine Sat.w hC ?_;exact⟨rfl,rfl⟩
theorem aoo (a b:Int):xG false a b=min a b:=by
 show(if b<a then b else a)=_;omega
def rRT (l:List (List Val)):Res:=⟨.tup [.c (.d (.sl (zh l))),.c (bool true)],[]⟩
theorem ac6 (d:List Nmd)(t:Tbl)(st:Stp)(g:st.op=3)(gs:List Gr)(o:Sat Pg W5 [.agg [.d (.sl (zi t.cols)),.d (.sl (zh t.rows))],.agg st.cs] (λr=>r=rC (.d (.sl (zh (gs.map (qf t.cols st.aggs))))))):Sat Pg ui [.c (.d (.sl (zu d))),t.w,.agg st.cs] (λr=>r=rRT (gs.map (qf t.cols st.aggs))):=by
 refine zC ?_;obtain⟨op,⟨I,J,⟨R,T,vs⟩,ks⟩,i,p,j,l,P,tb⟩:=st;subst g;refine xw.s T8 ?_;refine Sat.w o ?_;exact⟨rfl,rfl⟩
theorem ac7 (d:List Nmd)(t:Tbl)(st:Stp)(j:st.op=5)(T:0<=st.n):Sat Pg ui [.c (.d (.sl (zu d))),t.w,.agg st.cs] (λr=>r=rRT (t.rows.take (xG false st.n t.rows.length).toNat)):=by
 refine zC ?_;obtain⟨tc,g⟩:=t;obtain⟨op,⟨P,U,⟨vk,vn,vs⟩,ks⟩,o,J,p,I,i,tb⟩:=st;simp only at*;subst j;refine xw.s T8 ?_;rw[zy];have R:=aoo i g.length;have l:zh (g.take (xG false i g.length).toNat)=((zh g).drop 0).take ((xG false i g.length).toNat - 0):=by grind[zh,List.map_take]
 refine xq ?_ (hA:=by show(0:Int)<=xG false i g.length;omega) (hB:=by show xG false i g.length<=(g.length:Int);omega);exact⟨rfl,by unfold rRT;rw[l];rfl⟩
theorem aeR (d:List Nmd)(t:Tbl)(st:Stp)(g:st.op=6)(b:Tbl)(p:zI st.table d=some b)(R:List (List Val))(I:Sat Pg Ue [.agg [.d (.sl (zi t.cols)),.d (.sl (zh t.rows))],.agg [.d (.sl (zi b.cols)),.d (.sl (zh b.rows))],.c (.d (.sl (zq st.cols)))] (λr=>r=rRT R)):Sat Pg ui [.c (.d (.sl (zu d))),t.w,.agg st.cs] (λr=>r=rRT (R)):=by
 have o:=xg d st.table;rw[p]at o;refine zC ?_;obtain⟨op,⟨P,T,⟨vk,vn,vs⟩,ks⟩,i,J,j,l,U,tb⟩:=st;subst g;refine xw.s T8 ?_;refine Sat.w o ?_;refine Sat.w I ?_;exact⟨rfl,rfl⟩
theorem ahO (d:List Nmd)(t:Tbl)(st:Stp)(g:List Col)(R:Tbl)(p:yu d=0)(I:zR t=0)(P:Sat Pg yp [.c (.d (.sl (zu d))),.c (.d (.sl (zi t.cols))),st.w] (λr=>r=rCs g))
 (J:Sat Pg wU [.c (.d (.sl (zu d))),t.w,.agg st.cs,.c (.d (.sl (zi g)))] (λr=>r=vh R 0)):
 Sat Pg uh [.c (.d (.sl (zu d))),t.w,st.w] (λr=>r=vh R 0):=by
 have o:=qv d;have hk:=xX t;rw[p]at o;rw[I]at hk;obtain⟨op,⟨U,nm,⟨vk,vn,vs⟩,ks⟩,i,T,j,l,sn,tb⟩:=st;refine Yr.s T8 ?_;refine Sat.w o ?_;refine Sat.w hk ?_;refine Sat.w P ?_;refine Sat.w J ?_;rfl
theorem agC (d:List Nmd)(t:Tbl)(st:Stp)(e:Int)(p:yu d=0)(I:zR t=0)(o:e≠0)(J:Sat Pg yp [.c (.d (.sl (zu d))),.c (.d (.sl (zi t.cols))),st.w] (λr=>r=Qo e)):
 Sat Pg uh [.c (.d (.sl (zu d))),t.w,st.w] (λr=>r=rNT e):=by
 have l:=qv d;have hk:=xX t;rw[p]at l;rw[I]at hk;have o:(e !=0)=true:=by grind
 obtain⟨op,⟨R,T,⟨vk,vn,vs⟩,ks⟩,g,P,i,j,U,tb⟩:=st;refine Yr.s T8 ?_;refine Sat.w l ?_;refine Sat.w hk ?_;refine Sat.w J ?_;rw[o];exact rfl
theorem WB {s:S}(d:Nat)(c:C)(x:D)(j:List (Nat×Pl))(h:aget s.sl d=some (cV c))(I:YR s.pl c=some (x,j)):Y6 s ((s.withPl j).put (some d) (cV (.d x))):=by
 intro F N ι a w hr;obtain⟨y,l,o⟩:=hr.slots d _ h;obtain⟨i,r,p⟩:=kf hr (c:=c) (v:=y) o I;refine⟨ι,{i with slots:=λk v g=>?_}⟩;have g:aget (yj d (cV (.d x)) s.sl) k=some v:=g;rw[yf]at g;by_cases e:d=k
 ·rw[if_pos e]at g;cases g;subst e;exact⟨y,l,p⟩
 ·rw[if_neg e]at g;exact i.slots k v g
def xJ:ACode ->ACode
 | .seq _ b=>b
 |x=>x
def sFrom:ByteArray:=⟨#[102,114,111,109]⟩
def sTo:ByteArray:=⟨#[116,111]⟩
theorem Jh (g:FuncId)(cap:List D)(p:ByteArray ->Bool)(U: ∀x:ByteArray,Sat Pg g [.c (str x),.c (.fp cap)] (λr=>r=rB (p x)))(l:List ByteArray)(R:l.length<=1000000):
 Sat Pg jd [.c (.d (.sl (zq l))),.c (.d (.fn g [cap]))] (λr=>r=rI (yv p 0 l)):=by
 refine yK T8 qg.ok (by kernel_rfl) ?_
 refine yl (P:=Pg) (f:=T8.f) (body:=(qg.l 0)) l.length (λi=>⟨[(0,.w (.c (.d (.sl (zq l))))),(1,.w (.c (.d (.fn g [cap])))),(7,zg (zq l).length),(8,zg i)],[]⟩)
  (λi=>yv p 0 l=yv p i (l.drop i)) ⟨rfl,zf ?_⟩ ?_
 ·exact rfl
 ·intro i hi o;refine ze (λT=>?_) (λT=>?_)
  ·have j:i<l.length:=by simp_all[zT]
   refine⟨by omega,_,qY j,rfl,?_⟩;refine Sat.cal (U l[i]) ?_;rw[zo j]at o;refine ze (λI=>?_) (λI=>?_)
   ·simp only[yv,I,cond_true]at o;exact congrArg rI o.symm
   ·simp only[yv,I,cond_false]at o;refine yF j o ?_;rw[zA j (by omega)];rfl
  ·have J:l.length<=i:=by grind[zT]
   rw[List.drop_eq_nil_of_le J]at o;exact congrArg rI o.symm
theorem j7 (g:FuncId)(cap:List D)(p:ByteArray ->Bool)(j: ∀x:ByteArray,Sat Pg g [.c (str x),.c (.fp cap)] (λr=>r=rB (p x)))(l:List ByteArray)(i:l.length<=1000000):
 Sat Pg uk [.c (.d (.sl (zq l))),.c (.d (.fn g [cap]))] (λr=>r=rB (l.any p)):=by
 refine ua.s T8 ?_;refine Sat.w (Jh g cap p j l i) ?_;exact congrArg rB (ZL _ l 0)
theorem K0 (x:ByteArray)(i j l o p I J P:D)(g:List ByteArray)(rest:List D):Sat Pg Qm [.c (str x),.c (.fp (i::j::l::o::p::I::J::P:: .sl (zq g)::rest))] (λr=>r=rB (hasB g x)):=by
 refine kU.s T8 ?_;refine Sat.w (z8 g x) ?_;rfl
def colInt (cols:List Col)(s:ByteArray):Int:=bif decide (zj cols s<0)then 16 else bif (wz cols (zj cols s)).t !=2 then 14 else 0
theorem XF (cols:List Col)(s:ByteArray):Sat Pg aaf [.c (.d (.sl (zi cols))),.c (str s)] (λr=>r=rI (colInt cols s)):=by
 have p:=xd cols s;have i:=xW cols s;have l:=λh=>Z2 (i h).1 (i h).2
 unfold colInt;generalize zj cols s=k at*;refine gW.s T8 ?_;refine Sat.w p ?_;refine zt (b:=decide (k<0)) (λg=>?_) (λg=>?_)
 ·rw[g];exact rfl
 ·rw[g];have l:=l (of_decide_eq_false g);have i:=i (of_decide_eq_false g);generalize wz cols k=c at*;obtain⟨I,o⟩:=c;refine zX l ?_ (hA:=i.1);refine ze (b:=o !=2) (λj=>?_) (λj=>?_)
  ·simp only[j];exact rfl
  ·simp only[j];exact rfl
def intErr (cols:List Col):List ByteArray ->Int
 | []=>0
 |s::r=>bif colInt cols s !=0 then colInt cols s else intErr cols r
def keepS (i g:List ByteArray)(l:List Col):List Col:=l.filter λc=>!hasB g c.name&& !hasB i c.name
def ajG (i:List ByteArray)(cols g:List Col)(j:List ByteArray):Res:=
 bif jnErr cols g j !=0 then Qo (jnErr cols g j)else bif intErr cols i !=0 then Qo (intErr cols i)else bif intErr g i !=0 then Qo (intErr g i)else
 bif dupL [] (cols++keepS i j g)then Qo 4 else bif decide (((cols++keepS i j g).length:Int)>32)then Qo 7 else rCs (cols++keepS i j g)
def ajF (j:List ByteArray)(cols g:List Col)(i:List ByteArray):Res:=bif j.any (hasB i)then Qo 4 else ajG j cols g i
def acw (i:List ByteArray)(d:List Nmd)(cols:List Col)(g:List ByteArray)(tb:ByteArray):Res:=match zI tb d with
 |none=>Qo 17
 |some t=>ajF i cols t.cols g
def Qa (op:Int)(o:Int)(p:ByteArray)(v1 I:Int)(v3:ByteArray)(ks:List Ex)(g:List Itm)(l:List ByteArray)(i:List Agg)(j:List Srt)(r:Int)(tb:ByteArray):Pl:=
 .fbox [.lit (.int .i64 op),.lit (.int .i64 o),.lit (.string p),.lit (.int .i64 v1),.lit (.int .i64 I),.lit (.string v3),.sl (exsD ks),.sl (y9 g),.sl (zq l),.sl (qN i),.sl (xA j),.lit (.int .i64 r),.lit (.string tb)]
def Jr (op:Int)(R:List ByteArray)(I:Int)(J:ByteArray)(v1 T:Int)(v3:ByteArray)(ks:List Ex)(g:List Itm)(p:List ByteArray)(j:List Agg)(l:List Srt)(P:Int)(tb:ByteArray)(r:List Col)(i:Nat)(o:List Col):S:=
 ⟨[(5,cV (.ptr 5 0)),(10,.w (.c (.d (.sl (zq R))))),(20,cV (.own 128 2 o.length)),(106,.w (.c (.d (.sl (zi r))))),(107,zg r.length),(108,zg i)],[(5,Qa op I J v1 T v3 ks g p j l P tb),(128,.arr 2 (zi o) false)]⟩
theorem amm {Q:E ->S ->Prop}{s:S}(op:Int)(J:List ByteArray)(eo:Int)(nm:ByteArray)(v1 v2:Int)(v3:ByteArray)(ks:List Ex)(p:List Itm)(g:List ByteArray)(r:List Agg)(I:List Srt)(sn:Int)(tb:ByteArray)(cols j:List Col)(af:cols.length<=1000000)(ag:j.length<=1000000)
 (h0:xm s [5,10,20,106,107,108] (· =Jr op J eo nm v1 v2 v3 ks p g r I sn tb j 0 cols))
 (hQ:Q (.exit 8) (uG (Jr op J eo nm v1 v2 v3 ks p g r I sn tb j j.length (cols++keepS J g j)) 109 (zZ (decide ((j.length:Int)<j.length))))):
 yk (mwpR Pg T8.f (zB.l 3)) [5,10,20,106,107,108] Q s:=by
 refine yl (P:=Pg) (f:=T8.f) (body:=(zB.l 3)) j.length (λi=>Jr op J eo nm v1 v2 v3 ks p g r I sn tb j i (cols++keepS J g (j.take i))) (λ_=>True) ⟨trivial,?_⟩ ?_
 ·grind[keepS]
 ·intro i hi _;have ae:(cols++keepS J g (j.take i)).length<=1000000+i:=by
   grind[keepS]
  have o: ∀h:i<j.length,cols++keepS J g (j.take (i+1))=(cols++keepS J g (j.take i))++(bif !hasB g j[i].name&& !hasB J j[i].name then [j[i]]else []):=λh=>by
   grind[keepS,uU]
  have U:i=j.length ->cols++keepS J g j=cols++keepS J g (j.take i):=λh=>by grind
  show mwpR Pg T8.f (zB.l 3) _ (Jr op J eo nm v1 v2 v3 ks p g r I sn tb j i (cols++keepS J g (j.take i)));generalize cols++keepS J g (j.take i)=T at*;have ad:(zi T).take T.length=zi T:=by grind[zP]
  unfold Jr Qa;refine rgE (λR=>?_) (λaa=>?_)
  ·have hg:=xj R;have o:=o R;have ac:=z8 g j[i].name;have ab:=z8 J j[i].name;have wi:=zA R (by omega);generalize j[i]=c at*;obtain⟨c1,c2⟩:=c;simp only at o ac ab;generalize hasB g c1=b at*;generalize hasB J c1=b2 at*;refine zX hg ?_;refine Sat.w ac ?_;refine zt (b:=!b) (λh2=>?_) (λh2=>?_)
   ·rw[h2,Bool.true_and]at o;refine Sat.w ab ?_;refine zt (b:=!b2) (λh3=>?_) (λh3=>?_)
    ·rw[h3,cond_true]at o;refine qj ?_;refine yF R trivial ?_;rw[wi,ad,o,List.length_append];simp only[zi,List.map_append];rfl
    ·rw[h3,cond_false,List.append_nil]at o;refine yF R trivial ?_;rw[wi,o];rfl
   ·rw[h2,Bool.false_and,cond_false,List.append_nil]at o;refine yF R trivial ?_;rw[wi,o];rfl
  ·rw[U aa]at hQ;subst aa;exact hQ
noncomputable def tjRest:ACode:=xJ (xJ (xJ (xJ (xJ (xJ (xJ zB.A.code))))))
def aqk (op:Int)(P:List ByteArray)(r:Int)(I:ByteArray)(v1 T:Int)(v3:ByteArray)(ks:List Ex)(g:List Itm)(o:List ByteArray)(j:List Agg)(l:List Srt)(J:Int)(tb:ByteArray)(cols p:List Col)(R:List (List Val))(i:Nat):S:=
 ⟨[(1,.w (.c (.d (.sl (zi cols))))),(5,cV (.ptr 5 0)),(8,cV (.ptr 8 0)),(10,.w (.c (.d (.sl (zq P))))),(83,.w (.c (.d (.sl [[.sl (zi cols)],[.sl (zi p)]])))),(84,zg 2),(85,zg i)],[(5,Qa op r I v1 T v3 ks g o j l J tb),(8,.box [.d (.sl (zi p)),.d (.sl (zh R))])]⟩
def akt (op:Int)(I:List ByteArray)(P:Int)(R:ByteArray)(v1 v2:Int)(v3:ByteArray)(ks:List Ex)(g:List Itm)(r:List ByteArray)(l:List Agg)(o:List Srt)(T:Int)(tb:ByteArray)(cols J:List Col)(U:List (List Val))(p:List Col)(i j:Nat):S:=
 ⟨[(1,.w (.c (.d (.sl (zi cols))))),(5,cV (.ptr 5 0)),(8,cV (.ptr 8 0)),(10,.w (.c (.d (.sl (zq I))))),(16,.w (.c (.d (.sl (zi p))))),(83,.w (.c (.d (.sl [[.sl (zi cols)],[.sl (zi J)]])))),(84,zg 2),(85,zg i),(89,.w (.c (.d (.sl (zq I))))),(90,zg I.length),(91,zg j)],[(5,Qa op P R v1 v2 v3 ks g r l o T tb),(8,.box [.d (.sl (zi J)),.d (.sl (zh U))])]⟩
theorem aiU {s:S}(op:Int)(I:List ByteArray)(ay:I.length<=1000)(eo:Int)(nm:ByteArray)(v1 v2:Int)(v3:ByteArray)(ks:List Ex)(T:List Itm)(p:List ByteArray)(U:List Agg)(aa:List Srt)(sn:Int)(tb:ByteArray)(cols R:List Col)(tr:List (List Val))(ax:p.length<=1000000)(af:cols.length<=1000000)(ah:R.length<=1000000)
 (h0:xm s [1,5,8,10,46,47,48] (· =⟨[(1,.w (.c (.d (.sl (zi cols))))),(5,cV (.ptr 5 0)),(8,cV (.ptr 8 0)),(10,.w (.c (.d (.sl (zq I))))),(46,.w (.c (.d (.sl (zq p))))),(47,zg p.length),(48,zg (0:Nat))],[(5,Qa op eo nm v1 v2 v3 ks T p U aa sn tb),(8,.box [.d (.sl (zi R)),.d (.sl (zh tr))])]⟩)):
 yk (mwpR Pg T8.f (zB.l 0)) [1,5,8,10,46,47,48] (Ym 1 (Jm (mwpR Pg T8.f tjRest) (Wa zB.A.res [] (DQ (ajG I cols R p))))) s:=by
 unfold ajG;refine yl (P:=Pg) (f:=T8.f) (body:=(zB.l 0)) p.length (λi=>⟨[(1,.w (.c (.d (.sl (zi cols))))),(5,cV (.ptr 5 0)),(8,cV (.ptr 8 0)),(10,.w (.c (.d (.sl (zq I))))),(46,.w (.c (.d (.sl (zq p))))),(47,zg p.length),(48,zg i)],[(5,Qa op eo nm v1 v2 v3 ks T p U aa sn tb),(8,.box [.d (.sl (zi R)),.d (.sl (zh tr))])]⟩) (λi=>jnErr cols R p=jnErr cols R (p.drop i)) ⟨rfl,h0⟩ ?_
 ·intro i hi g;unfold Qa;refine um (λo=>?_) (λab=>?_)
  ·rw[zo o]at g;simp only[jnErr]at g;have hg:=qY o;have wi:=zA o (by omega);have aq:=xd cols p[i];have ar:=xd R p[i];have ad:=xW cols p[i];have ae:=xW R p[i];have aj:=λh=>Z2 (ad h).1 (ad h).2
   have ak:=λh=>Z2 (ae h).1 (ae h).2
   generalize p[i]=x at*;generalize zj cols x=k1 at*;generalize zj R x=k2 at*;refine zX hg ?_;refine Sat.w aq ?_;refine Sat.w ar ?_;refine zt (b:=decide (k1<0)||decide (k2<0)) (λJ=>?_) (λJ=>?_)
   ·rw[J]at g;have g:jnErr cols R p=16:=g;simp only[g];exact⟨rfl,rfl⟩
   ·rw[J,cond_false]at g;rw[Bool.or_eq_false_iff]at J;have n1:=of_decide_eq_false J.1;have n2:=of_decide_eq_false J.2;have ad:=ad n1;have ae:=ae n2;have aj:=aj n1;have ak:=ak n2;generalize wz cols k1=c1 at*;generalize wz R k2=c2 at*;obtain⟨av,al⟩:=c1;obtain⟨aw,an⟩:=c2;simp only at g;refine zX aj ?_ (hA:=ad.1);refine zX ak ?_ (hA:=ae.1);refine ze (b:=al !=an) (λh3=>?_) (λh3=>?_)
    ·rw[h3]at g;have g:jnErr cols R p=14:=g;simp only[g];exact⟨rfl,rfl⟩
    ·rw[h3,cond_false]at g;refine yF o g ?_;rw[wi];rfl
  ·rw[List.drop_eq_nil_of_le ab]at g;have g:jnErr cols R p=0:=g;simp only[g];clear g;(conv=>whnf);refine yl (P:=Pg) (f:=T8.f) (body:=(zB.l 2)) 2 (λi=>aqk op I eo nm v1 v2 v3 ks T p U aa sn tb cols R tr i) (λi=>(1<=i ->intErr cols I=0)/\(2<=i ->intErr R I=0)) ⟨⟨λh=>by omega,λh=>by omega⟩,⟨_,WB 83 _ _ _ rfl rfl,?_⟩⟩ ?_
   ·exact rfl
   intro i hi g;obtain⟨ac,ag⟩:(1<=i ->intErr cols I=0)/\(2<=i ->intErr R I=0):=g;unfold aqk Qa
   match i,hi with
   |0,_=>
    (conv=>whnf);refine⟨by decide,_,rfl,rfl,?_⟩;(conv=>whnf);rw[zT];refine yl (P:=Pg) (f:=T8.f) (body:=(zB.l 1)) I.length (λj=>akt op I eo nm v1 v2 v3 ks T p U aa sn tb cols R tr cols 0 j) (λj=>intErr cols I=intErr cols (I.drop j)) ⟨rfl,zf ?_⟩ ?_
    ·exact rfl
    ·intro j hj g;have g:intErr cols I=intErr cols (I.drop j):=g;unfold akt Qa;refine ze (λh1=>?_) (λh1=>?_)
     ·have o:j<I.length:=by simp_all
      rw[zo o]at g;simp only[intErr]at g;have hg:=qY o;have wj:=zA o (by omega);have hint:=XF cols I[j];generalize I[j]=x at*;generalize colInt cols x=c at*;(conv=>whnf);refine⟨by omega,_,hg,rfl,?_⟩;refine Sat.w hint ?_;refine zt (b:=c !=0) (λJ=>?_) (λJ=>?_)
      ·rw[J,cond_true]at g;simp only[g,J];exact⟨rfl,rfl⟩
      ·rw[J,cond_false]at g;(conv=>whnf);refine⟨o,g,zf ?_⟩;(conv=>whnf);rw[wj];rfl
     ·have ab:I.length<=j:=by grind
      rw[List.drop_eq_nil_of_le ab]at g;have g:intErr cols I=0:=g;(conv=>whnf);refine⟨by decide,?_,zf ?_⟩
      ·grind
      exact rfl
   |1,_=>
    have ac:=ac (Nat.le_refl _);(conv=>whnf);refine⟨by decide,_,rfl,rfl,?_⟩;(conv=>whnf);rw[zT];refine yl (P:=Pg) (f:=T8.f) (body:=(zB.l 1)) I.length (λj=>akt op I eo nm v1 v2 v3 ks T p U aa sn tb cols R tr R 1 j) (λj=>intErr R I=intErr R (I.drop j)) ⟨rfl,zf ?_⟩ ?_
    ·exact rfl
    ·intro j hj g;have g:intErr R I=intErr R (I.drop j):=g;unfold akt Qa;refine ze (λh1=>?_) (λh1=>?_)
     ·have o:j<I.length:=by simp_all
      rw[zo o]at g;simp only[intErr]at g;have hg:=qY o;have wj:=zA o (by omega);have hint:=XF R I[j];generalize I[j]=x at*;generalize colInt R x=c at*;(conv=>whnf);refine⟨by omega,_,hg,rfl,?_⟩;refine Sat.w hint ?_;refine zt (b:=c !=0) (λJ=>?_) (λJ=>?_)
      ·rw[J,cond_true]at g;simp only[ac,g,J];exact⟨rfl,rfl⟩
      ·rw[J,cond_false]at g;(conv=>whnf);refine⟨o,g,zf ?_⟩;(conv=>whnf);rw[wj];rfl
     ·have ab:I.length<=j:=by grind
      rw[List.drop_eq_nil_of_le ab]at g;have g:intErr R I=0:=g;(conv=>whnf);refine⟨by decide,?_,zf ?_⟩
      ·grind
      exact rfl
   |2,_=>
    have ac:=ac (by omega);have ag:=ag (by omega);rw[ac,ag];clear ac ag;(conv=>whnf);refine Sat.mono (Qq cols af) ?_;rintro _ (⟨au,rfl⟩|rfl)
    ·(conv=>whnf);refine amm op I eo nm v1 v2 v3 ks T p U aa sn tb cols R af ah ⟨_,z7 20 128 2 (by omega) (by omega) rfl,?_⟩ ?_
     ·(conv=>whnf);unfold Jr;rw[zP,au];rfl
     unfold uG Jr Qa;have ao:(cols++keepS I p R).length<=2000000:=by
      grind[keepS]
     clear ah af;generalize cols++keepS I p R=O at*;(conv=>whnf);refine yl (P:=Pg) (f:=T8.f) (body:=(zB.l 4)) O.length (λi=>⟨[(20,cV (.own 128 2 O.length)),(130,cV (.own 128 2 O.length)),(131,zg O.length),(132,zg i)],[(128,.arr 2 (zi O) false)]⟩) (λi=>dupL [] O=dupL (O.take i) (O.drop i)) ⟨rfl,zf ?_⟩ ?_
     ·exact rfl
     ·intro i hi g;cases i with
      |zero=>
       refine ze (b:=decide ((0:Nat)<(O.length:Int))) (λh1=>?_) (λh1=>?_)
       ·have o:0<O.length:=by simp_all
        rw[zo o]at g;simp only[dupL]at g;rw[<- zM o]at g;have hg:=xj o;have wi:=zA o (by omega);have r:=xd (O.take (0)) O[0].name;have ht:zi (O.take (0))=(zi O).take (0):=by grind[zi]
        rw[ht]at r;generalize ai:dupL (O.take (0+1)) (O.drop (0+1))=rest at*;generalize O[0]=c at*;obtain⟨c1,c2⟩:=c;simp only at g r;generalize zj (O.take (0)) c1=k at*;(conv=>whnf);refine⟨by omega,by omega,?_⟩;(conv=>whnf);refine⟨_,hg,?_⟩;(conv=>whnf);refine⟨by show(0:Int)<=((0:Nat):Int);omega,by show((0:Nat):Int)<=(O.length:Int);omega,?_⟩;refine Sat.w r ?_;refine zt (b:=decide (k>=0)) (λJ=>?_) (λJ=>?_)
        ·rw[J]at g;have g:dupL [] O=true:=g;rw[g];exact⟨rfl,rfl⟩
        ·rw[J]at g;have g:dupL [] O=rest:=g;(conv=>whnf);refine⟨o,g,zf ?_⟩;(conv=>whnf);rw[wi];rfl
       ·have ab:O.length<=0:=by grind
        rw[List.drop_eq_nil_of_le ab]at g;have g:dupL [] O=false:=g;rw[g];refine ze (b:=decide ((O.length:Int)>32)) (λh5=>?_) (λh5=>?_)
        ·grind
        ·rw[h5];(conv=>whnf);refine⟨rfl,?_⟩;show Res.mk (.tup [.c (.d (.sl ((zi O).take O.length))),.c (int 0)]) []=_;rw[<- zP,List.take_length];rfl
      |succ i=>
       refine ze (b:=decide ((i+1:Nat)<(O.length:Int))) (λh1=>?_) (λh1=>?_)
       ·have o:i+1<O.length:=by have:=of_decide_eq_true h1;omega
        rw[zo o]at g;simp only[dupL]at g;rw[<- zM o]at g;have hg:=xj o;have wi:=zA o (by omega);have r:=xd (O.take (i+1)) O[i+1].name;have ht:zi (O.take (i+1))=(zi O).take (i+1):=by grind[zi,List.map_take]
        rw[ht]at r;generalize ai:dupL (O.take (i+1+1)) (O.drop (i+1+1))=rest at*;generalize O[i+1]=c at*;obtain⟨c1,c2⟩:=c;simp only at g r;generalize zj (O.take (i+1)) c1=k at*;(conv=>whnf);refine⟨by omega,by omega,?_⟩;(conv=>whnf);refine⟨_,hg,?_⟩;(conv=>whnf);refine⟨by show(0:Int)<=((i+1:Nat):Int);omega,by show((i+1:Nat):Int)<=(O.length:Int);omega,?_⟩;refine Sat.w r ?_;refine zt (b:=decide (k>=0)) (λJ=>?_) (λJ=>?_)
        ·rw[J]at g;have g:dupL [] O=true:=g;rw[g];exact⟨rfl,rfl⟩
        ·rw[J]at g;have g:dupL [] O=rest:=g;(conv=>whnf);refine⟨o,g,zf ?_⟩;(conv=>whnf);rw[wi];rfl
       ·have ab:O.length<=i+1:=by grind
        rw[List.drop_eq_nil_of_le ab]at g;have g:dupL [] O=false:=g;rw[g];refine ze (b:=decide ((O.length:Int)>32)) (λh5=>?_) (λh5=>?_)
        ·rw[h5];exact⟨rfl,rfl⟩
        ·rw[h5];(conv=>whnf);refine⟨rfl,?_⟩;show Res.mk (.tup [.c (.d (.sl ((zi O).take O.length))),.c (int 0)]) []=_;rw[<- zP,List.take_length];rfl
    ·(conv=>whnf);refine amm op I eo nm v1 v2 v3 ks T p U aa sn tb cols R af ah ⟨_,vK 20 601664 128 2 _ _ (by omega) rfl rfl,?_⟩ ?_
     ·(conv=>whnf);unfold Jr;rw[zP,zP];rfl
     unfold uG Jr Qa;have ao:(cols++keepS I p R).length<=2000000:=by
      grind[keepS]
     clear ah af;generalize cols++keepS I p R=O at*;(conv=>whnf);refine yl (P:=Pg) (f:=T8.f) (body:=(zB.l 4)) O.length (λi=>⟨[(20,cV (.own 128 2 O.length)),(130,cV (.own 128 2 O.length)),(131,zg O.length),(132,zg i)],[(128,.arr 2 (zi O) false)]⟩) (λi=>dupL [] O=dupL (O.take i) (O.drop i)) ⟨rfl,zf ?_⟩ ?_
     ·exact rfl
     ·intro i hi g;cases i with
      |zero=>
       refine ze (b:=decide ((0:Nat)<(O.length:Int))) (λh1=>?_) (λh1=>?_)
       ·have o:0<O.length:=by simp_all
        rw[zo o]at g;simp only[dupL]at g;rw[<- zM o]at g;have hg:=xj o;have wi:=zA o (by omega);have r:=xd (O.take (0)) O[0].name;have ht:zi (O.take (0))=(zi O).take (0):=by grind[zi]
        rw[ht]at r;generalize ai:dupL (O.take (0+1)) (O.drop (0+1))=rest at*;generalize O[0]=c at*;obtain⟨c1,c2⟩:=c;simp only at g r;generalize zj (O.take (0)) c1=k at*;(conv=>whnf);refine⟨by omega,by omega,?_⟩;(conv=>whnf);refine⟨_,hg,?_⟩;(conv=>whnf);refine⟨by show(0:Int)<=((0:Nat):Int);omega,by show((0:Nat):Int)<=(O.length:Int);omega,?_⟩;refine Sat.w r ?_;refine zt (b:=decide (k>=0)) (λJ=>?_) (λJ=>?_)
        ·rw[J]at g;have g:dupL [] O=true:=g;rw[g];exact⟨rfl,rfl⟩
        ·rw[J]at g;have g:dupL [] O=rest:=g;(conv=>whnf);refine⟨o,g,zf ?_⟩;(conv=>whnf);rw[wi];rfl
       ·have ab:O.length<=0:=by grind
        rw[List.drop_eq_nil_of_le ab]at g;have g:dupL [] O=false:=g;rw[g];refine ze (b:=decide ((O.length:Int)>32)) (λh5=>?_) (λh5=>?_)
        ·grind
        ·rw[h5];(conv=>whnf);refine⟨rfl,?_⟩;show Res.mk (.tup [.c (.d (.sl ((zi O).take O.length))),.c (int 0)]) []=_;rw[<- zP,List.take_length];rfl
      |succ i=>
       refine ze (b:=decide ((i+1:Nat)<(O.length:Int))) (λh1=>?_) (λh1=>?_)
       ·have o:i+1<O.length:=by have:=of_decide_eq_true h1;omega
        rw[zo o]at g;simp only[dupL]at g;rw[<- zM o]at g;have hg:=xj o;have wi:=zA o (by omega);have r:=xd (O.take (i+1)) O[i+1].name;have ht:zi (O.take (i+1))=(zi O).take (i+1):=by grind[zi,List.map_take]
        rw[ht]at r;generalize ai:dupL (O.take (i+1+1)) (O.drop (i+1+1))=rest at*;generalize O[i+1]=c at*;obtain⟨c1,c2⟩:=c;simp only at g r;generalize zj (O.take (i+1)) c1=k at*;(conv=>whnf);refine⟨by omega,by omega,?_⟩;(conv=>whnf);refine⟨_,hg,?_⟩;(conv=>whnf);refine⟨by show(0:Int)<=((i+1:Nat):Int);omega,by show((i+1:Nat):Int)<=(O.length:Int);omega,?_⟩;refine Sat.w r ?_;refine zt (b:=decide (k>=0)) (λJ=>?_) (λJ=>?_)
        ·rw[J]at g;have g:dupL [] O=true:=g;rw[g];exact⟨rfl,rfl⟩
        ·rw[J]at g;have g:dupL [] O=rest:=g;(conv=>whnf);refine⟨o,g,zf ?_⟩;(conv=>whnf);rw[wi];rfl
       ·have ab:O.length<=i+1:=by grind
        rw[List.drop_eq_nil_of_le ab]at g;have g:dupL [] O=false:=g;rw[g];refine ze (b:=decide ((O.length:Int)>32)) (λh5=>?_) (λh5=>?_)
        ·rw[h5];exact⟨rfl,rfl⟩
        ·rw[h5];(conv=>whnf);refine⟨rfl,?_⟩;show Res.mk (.tup [.c (.d (.sl ((zi O).take O.length))),.c (int 0)]) []=_;rw[<- zP,List.take_length];rfl
theorem agP (d:List Nmd)(cols:List Col)(st:Stp)(P:st.op=7)(J:st.cols.length<=1000000)(T:cols.length<=1000000)(j: ∀t,zI st.table d=some t ->t.cols.length<=1000000):
 Sat Pg wc [.c (.d (.sl (zu d))),.c (.d (.sl (zi cols))),.agg st.cs] (λr=>r=acw [sFrom,sTo] d cols st.cols st.table):=by
 have i:=xg d st.table;unfold acw;obtain⟨op,⟨eo,nm,⟨v1,v2,v3⟩,ks⟩,o,l,p,I,sn,tb⟩:=st;simp only at P J j i;subst P;refine zC ?_;unfold Stp.cs wF;simp only;cases U:zI tb d with
 |none=>
  rw[U]at i;refine zB.s T8 ?_;refine Sat.w i ?_;exact⟨rfl,rfl⟩
 |some t=>
  rw[U]at i;have j:=j t U;obtain⟨tc,tr⟩:=t;simp only at j;unfold ajF;have R:=λg cap hp=>j7 g cap (hasB l) hp [sFrom,sTo] (by simp)
  generalize aa:([sFrom,sTo]:List ByteArray).any (hasB l)=any at*;refine zB.s T8 ?_;refine Sat.w i ?_;refine Sat.w (R _ _ (λx=>K0 x _ _ _ _ _ _ _ _ l _)) ?_;cases any with
  |true=>
   exact⟨rfl,rfl⟩
  |false=>
   (conv=>whnf);rw[zT];refine aiU 7 [sFrom,sTo] (by simp) eo nm v1 v2 v3 ks o l p I sn tb cols tc tr J T j ⟨_,WB 10 _ _ _ rfl rfl,?_⟩;exact rfl
theorem agQ (d:List Nmd)(cols:List Col)(st:Stp)(P:st.op=8)(J:st.cols.length<=1000000)(T:cols.length<=1000000)(j: ∀t,zI st.table d=some t ->t.cols.length<=1000000):
 Sat Pg wc [.c (.d (.sl (zu d))),.c (.d (.sl (zi cols))),.agg st.cs] (λr=>r=acw [sFrom] d cols st.cols st.table):=by
 have i:=xg d st.table;unfold acw;obtain⟨op,⟨eo,nm,⟨v1,v2,v3⟩,ks⟩,o,l,p,I,sn,tb⟩:=st;simp only at P J j i;subst P;refine zC ?_;unfold Stp.cs wF;simp only;cases U:zI tb d with
 |none=>
  rw[U]at i;refine zB.s T8 ?_;refine Sat.w i ?_;exact⟨rfl,rfl⟩
 |some t=>
  rw[U]at i;have j:=j t U;obtain⟨tc,tr⟩:=t;simp only at j;unfold ajF;have R:=λg cap hp=>j7 g cap (hasB l) hp [sFrom] (by simp)
  generalize aa:([sFrom]:List ByteArray).any (hasB l)=any at*;refine zB.s T8 ?_;refine Sat.w i ?_;refine Sat.w (R _ _ (λx=>K0 x _ _ _ _ _ _ _ _ l _)) ?_;cases any with
  |true=>
   exact⟨rfl,rfl⟩
  |false=>
   (conv=>whnf);rw[zT];refine aiU 8 [sFrom] (by simp) eo nm v1 v2 v3 ks o l p I sn tb cols tc tr J T j ⟨_,WB 10 _ _ _ rfl rfl,?_⟩;exact rfl
def xI (x:Int×List Col):Res:=⟨.tup [.c (.d (.sl (zi x.2))),.c (int x.1)],[]⟩
def coT (cols:List Col)(g:List ByteArray):Int×List Col:=
 bif hasB g sFrom||hasB g sTo then(4,[])else bif takeErr cols g then(16,[])else bif colInt cols sFrom !=0 then(colInt cols sFrom,[])else bif colInt cols sTo !=0 then(colInt cols sTo,[])else(0,takeC cols g++[⟨sFrom,2⟩,⟨sTo,2⟩])
theorem aeL (cols:List Col)(st:Stp)(J:st.cols.length<=1000000):Sat Pg XU [.c (.d (.sl (zi cols))),.agg st.cs] (λr=>r=xI (coT cols st.cols)):=by
 have g:=K4 cols st.cols J;have ab:(takeC cols st.cols).length=st.cols.length:=by simp[takeC]
 have j:=z8 st.cols sFrom;have o:=z8 st.cols sTo;have I:=XF cols sFrom;have h4:=XF cols sTo;unfold coT;obtain⟨op,⟨eo,nm,⟨v1,v2,v3⟩,ks⟩,R,i,U,aa,sn,tb⟩:=st;simp only at*;generalize hasB i sFrom=b1 at*;generalize hasB i sTo=b2 at*;generalize colInt cols sFrom=c1 at*;generalize colInt cols sTo=c2 at*;generalize takeC cols i=T at*;generalize takeErr cols i=te at*;refine zC ?_;unfold Stp.cs wF;simp only;cases b1 with
 |true=>
  refine yZ.s T8 ?_;refine Sat.w j ?_;exact⟨rfl,rfl⟩
 |false=>
  cases b2 with
  |true=>
   refine yZ.s T8 ?_;refine Sat.w j ?_;refine Sat.w o ?_;exact⟨rfl,rfl⟩
  |false=>
   cases te with
   |true=>
    refine yZ.s T8 ?_;refine Sat.w j ?_;refine Sat.w o ?_;refine Sat.w g ?_;exact⟨rfl,rfl⟩
   |false=>
    have ac:(zi T).take T.length=zi T:=by grind[zP]
    cases p:(c1 !=0)with
    |true=>
     refine yZ.s T8 ?_;refine Sat.w j ?_;refine Sat.w o ?_;refine Sat.w g ?_;refine qq (P:=Pg) (f:=T8.f) (body:=(yZ.l 0)) 3 ?_;refine xq ?_ (hA:=by omega) (hB:=by grind);refine⟨_,rfl,?_⟩;refine Sat.w I ?_;rw[p];exact⟨rfl,rfl⟩
    |false=>
     cases e2:(c2 !=0)with
     |true=>
      refine yZ.s T8 ?_;refine Sat.w j ?_;refine Sat.w o ?_;refine Sat.w g ?_;refine qq (P:=Pg) (f:=T8.f) (body:=(yZ.l 0)) 3 ?_;refine xq ?_ (hA:=by omega) (hB:=by grind);refine⟨_,rfl,?_⟩;refine Sat.w I ?_;rw[p];refine qj ?_;refine xq ?_ (hA:=by decide) (hB:=by show(1:Int)<((2:Nat):Int);omega);refine⟨_,rfl,?_⟩;refine Sat.w h4 ?_;rw[e2];exact⟨rfl,rfl⟩
     |false=>
      refine yZ.s T8 ?_;refine Sat.w j ?_;refine Sat.w o ?_;refine Sat.w g ?_;refine qq (P:=Pg) (f:=T8.f) (body:=(yZ.l 0)) 3 ?_;refine xq ?_ (hA:=by omega) (hB:=by grind);refine⟨_,rfl,?_⟩;refine Sat.w I ?_;rw[p];refine qj ?_;refine xq ?_ (hA:=by decide) (hB:=by show(1:Int)<((2:Nat):Int);omega);refine⟨_,rfl,?_⟩;refine Sat.w h4 ?_;rw[e2];refine qj ?_;refine Jy ?_;refine Eq.trans (b:=⟨.tup [.c (.d (.sl ((((((zi T).take T.length)++[Col.ds ⟨sFrom,2⟩]).take (T.length+1))++[Col.ds ⟨sTo,2⟩]).take (T.length+1+1)))),.c (int 0)],[]⟩) rfl ?_;simp_all[zi,List.take_of_length_le,xI]
def uu (cols:List Col):List Itm ->Int×List Col
 | []=>(0,[])
 |x::r=>bif (x.e.ty cols).2 !=0 then((x.e.ty cols).2,[])else bif (x.e.ty cols).1==0 then(14,[])else bif (uu cols r).1 !=0 then((uu cols r).1,[])else(0,⟨x.nm,(x.e.ty cols).1⟩::(uu cols r).2)
theorem agU (cols:List Col): ∀l:List Itm,uu cols l=bif (uu cols l).1 !=0 then((uu cols l).1,[])else(0,(uu cols l).2)
 | []=>rfl
 |x::r=>by
  simp only[uu];cases g:((x.e.ty cols).2 !=0)
  ·cases j:((x.e.ty cols).1==0)
   ·cases i:((uu cols r).1 !=0)
    ·rfl
    ·simp only[cond_false,cond_true,i]
   ·rfl
  ·simp only[cond_true,g]
def seS (cols:List Col)(l:List Itm)(i:Nat)(g:List Col):S:=⟨[(0,.w (.c (.d (.sl (zi cols))))),(6,cV (.own 35 2 g.length)),(11,.w (.c (.d (.sl (y9 l))))),(12,zg l.length),(13,zg i)],[(35,.arr 2 (zi g) false)]⟩
theorem agL (cols:List Col)(l:List Itm)(he: ∀x∈l,x.e.err=0)(hl:l.length<=1000000):Sat Pg Qn [.c (.d (.sl (zi cols))),.c (.d (.sl (y9 l)))] (λr=>r=xI (uu cols l)):=by
 refine zC ?_;refine Za.s T8 ?_;rw[uq];refine yx (P:=Pg) (f:=T8.f) (body:=(Za.l 0)) (λx:Nat×List Col=>seS cols l x.1 x.2) (λx=>l.length - x.1) (λx=>x.1<=l.length /\x.2.length=x.1 /\xI (uu cols l)=xI (bif (uu cols (l.drop x.1)).1 !=0 then((uu cols (l.drop x.1)).1,[])else(0,x.2++(uu cols (l.drop x.1)).2))) ⟨(0,[]),⟨Nat.zero_le _,rfl,?_⟩,⟨_,z7 6 35 2 (by omega) (by omega) rfl,?_⟩⟩ ?_
 ·grind[agU]
 ·exact rfl
 ·rintro⟨i,A⟩ hx;obtain⟨hi,hA,g⟩:i<=l.length /\A.length=i /\xI (uu cols l)=xI (bif (uu cols (l.drop i)).1 !=0 then((uu cols (l.drop i)).1,[])else(0,A++(uu cols (l.drop i)).2)):=hx;have o:(zi A).take A.length=zi A:=by grind[zP]
  show mwpR Pg T8.f (Za.l 0) _ (seS cols l i A);refine um (λj=>?_) (λJ=>?_)
  ·rw[zo j]at g;simp only[uu]at g;have hg:=WZ j;have wi:=zA j (by omega);have hN:=Vh cols l[i].e (he _ (List.getElem_mem j));generalize l[i]=x at*;obtain⟨⟨T,nm,⟨vk,vn,vs⟩,ks⟩,s⟩:=x;generalize Ex.ty cols ⟨T,nm,⟨vk,vn,vs⟩,ks⟩=t at*;obtain⟨R,t2⟩:=t;refine zX hg ?_;refine Sat.w hN ?_;refine zt (b:=t2 !=0) (λp=>?_) (λp=>?_)
   ·rw[p]at g;simp only[cond_true,p]at g;rw[g];exact⟨rfl,rfl⟩
   ·rw[p,cond_false]at g;refine ze (b:=R==0) (λI=>?_) (λI=>?_)
    ·rw[I]at g;rw[g];exact⟨rfl,rfl⟩
    ·rw[I,cond_false]at g;refine qj ?_;refine⟨(i+1,A++[⟨s,R⟩]),⟨⟨j,by simp[hA],?_⟩,by grind⟩,zf ?_⟩
     ·rw[g];cases U:((uu cols (l.drop (i+1))).1 !=0)
      ·simp_all
      ·simp only[U,cond_true]
     ·(conv=>whnf);rw[wi,o];show _=seS cols l (i+1) (A++[⟨s,R⟩]);unfold seS;rw[List.length_append];simp only[zi,List.map_append];rfl
  ·rw[List.drop_eq_nil_of_le J]at g;have g:xI (uu cols l)=xI (0,A++[]):=g;rw[g,List.append_nil];refine Jy ?_;show Res.mk (.tup [.c (.d (.sl ((zi A).take A.length))),.c (int 0)]) []=_;rw[o];rfl
end
section
structure CmpOK {α:Type}(c:α ->α ->Int):Prop where
 refl: ∀x,c x x=0
 anti: ∀x y,c x y<0↔0<c y x
 trans: ∀x y z,c x y<=0 ->c y z<=0 ->c x z<=0
namespace CmpOK
variable {α:Type}{c:α ->α ->Int}
theorem ge (h:CmpOK c){x y:α}:0<=c x y↔c y x<=0:=by have:=h.anti x y;omega
theorem zero (h:CmpOK c){x y:α}:c x y=0↔c y x=0:=by have:=h.anti x y;have:=h.anti y x;omega
theorem lt_of (h:CmpOK c){x y z:α}(i:c x y<0)(g:c y z<=0):c x z<0:=by
 have l:=h.trans x y z (by omega) g;by_cases j:c x z=0
 ·have o:=h.zero.1 j;have p:=h.trans y z x g (by omega);have:=(h.anti x y).1 i;omega
 ·omega
theorem lt_of2 (h:CmpOK c){x y z:α}(g:c x y<=0)(i:c y z<0):c x z<0:=by
 have l:=h.trans x y z g (by omega);by_cases j:c x z=0
 ·have o:=h.zero.1 j;have p:=h.trans z x y (by omega) g;have:=(h.anti y z).1 i;omega
 ·omega
end CmpOK
theorem CmpOK.lex {α:Type}{c:α ->α ->Int}(h:CmpOK c):CmpOK (uf c):=by
 refine⟨λx=>?_,λx y=>?_,λx y z=>?_⟩
 ·induction x with
  |nil=>rfl
  |cons a r I=>simp only[uf,h.refl];exact I
 ·induction x generalizing y with
  |nil=>cases y<;>grind[uf]
  |cons a r I=>
   cases y with
   |nil=>simp[uf]
   |cons b s=>
    simp only[uf];by_cases g:c a b=0
    ·have i:=h.zero.1 g<;>simp_all
    ·have i: ¬c b a=0:=λe=>g (h.zero.1 e)
     have l:(c a b !=0)=true:=by grind
     have j:(c b a !=0)=true:=by grind
     simp only[l,j,cond_true];exact h.anti a b
 ·induction x generalizing y z with
  |nil=>intro _ _;cases z<;>grind[uf]
  |cons a r I=>
   intro g i;cases y with
   |nil=>grind[uf]
   |cons b s=>
    cases z with
    |nil=>grind[uf]
    |cons d t=>
     simp only[uf]at g i⊢;by_cases g1:c a b=0
     ·by_cases g2:c b d=0
      ·simp only[g1,g2,bne_self_eq_false,cond_false]at g i;have g3:c a d=0:=by
        have J:=h.trans a b d (by omega) (by omega);have P:=h.trans d b a (by rw[h.zero.1 g2];simp_all) (by rw[h.zero.1 g1];simp_all);have:=h.ge.2 P<;>grind
       simp only[g3,bne_self_eq_false,cond_false]
       grind
      ·have j:(c b d !=0)=true:=by grind
       simp only[j,cond_true]at i;have J:=h.lt_of2 (x:=a) (y:=b) (z:=d) (by omega) (by omega);have o:(c a d !=0)=true:=by simp;omega
       simp only[o,cond_true];omega
     ·have l:(c a b !=0)=true:=by grind
      simp only[l,cond_true]at g;have p:c b d<=0:=by
       by_cases g2:c b d=0
       ·omega
       ·have j:(c b d !=0)=true:=by grind
        simp_all
      have J:=h.lt_of (x:=a) (y:=b) (z:=d) (by omega) p;have o:(c a d !=0)=true:=by simp;omega
      simp only[o,cond_true];omega
theorem aie (a b:Int):qb a b=if a<b then -1 else if b<a then 1 else 0:=by
 grind[qb]
theorem aif:CmpOK qb:=by
 refine⟨λx=>?_,λx y=>?_,λx y z=>?_⟩<;>simp only[aie]
 ·simp
 ·grind
 grind
theorem aoP:CmpOK Vy:=by
 have key: ∀x y,(Z7 x y=true /\Z7 y x=false /\zl x y=false /\Vy x y= -1)\/(x=y /\Vy x y=0)\/(Z7 x y=false /\Z7 y x=true /\zl x y=false /\Vy x y=1):=by
  grind[aoY,Vy,ajh,alw]
 refine⟨λx=>?_,λx y=>?_,λx y z g i=>?_⟩
 ·grind
 ·grind
 grind[adB]
theorem CmpOK.by_key {α:Type}(key:α ->Int)(c:Int ->α ->α ->Int)(h: ∀k,CmpOK (c k)):CmpOK (λx y=>bif key x !=key y then qb (key x) (key y)else c (key x) x y):=by
 have j: ∀x y,(key x=key y /\(bif key x !=key y then qb (key x) (key y)else c (key x) x y)=c (key x) x y)\/(key x<key y /\(bif key x !=key y then qb (key x) (key y)else c (key x) x y)= -1)\/(key y<key x /\(bif key x !=key y then qb (key x) (key y)else c (key x) x y)=1):=by
  grind[aie]
 refine⟨λx=>?_,λx y=>?_,λx y z o l=>?_⟩
 ·rcases j x x with⟨_,e⟩|⟨e,_⟩|⟨e,_⟩
  ·show(bif key x !=key x then qb (key x) (key x)else c (key x) x x)=0;rw[e,(h _).refl]
  ·omega
  ·omega
 ·show(bif key x !=key y then qb (key x) (key y)else c (key x) x y)<0↔0<(bif key y !=key x then qb (key y) (key x)else c (key y) y x);rcases j x y with⟨e,e'⟩|⟨e,e'⟩|⟨e,e'⟩<;>rcases j y x with⟨f,i⟩|⟨f,i⟩|⟨f,i⟩<;>rw[e',i]<;>try omega
  rw[<- e];exact(h _).anti x y
 ·show(bif key x !=key z then qb (key x) (key z)else c (key x) x z)<=0;have o:(bif key x !=key y then qb (key x) (key y)else c (key x) x y)<=0:=o;have l:(bif key y !=key z then qb (key y) (key z)else c (key y) y z)<=0:=l;rcases j x y with⟨e,e'⟩|⟨e,e'⟩|⟨e,e'⟩<;>rcases j y z with⟨f,i⟩|⟨f,i⟩|⟨f,i⟩<;>rcases j x z with⟨g,p⟩|⟨g,p⟩|⟨g,p⟩<;>rw[e']at o<;>rw[i]at l<;>rw[p]<;>try omega
  rw[<- e]at l;exact(h _).trans x y z o l
def anl (k:Int)(a b:Val):Int:=bif k==3 then Vy a.s b.s else bif k==1||k==2 then qb a.n b.n else 0
theorem CmpOK.on {α β:Type}{c:β ->β ->Int}(h:CmpOK c)(f:α ->β):CmpOK (λx y=>c (f x) (f y)):=⟨λx=>h.refl _,λx y=>h.anti _ _,λx y z=>h.trans _ _ _⟩
theorem ao3 (k:Int):CmpOK (anl k):=by
 unfold anl;cases k==3
 ·cases k==1||k==2
  ·exact⟨λ_=>rfl,λ_ _=>by simp,λ_ _ _ _ _=>by simp⟩
  ·exact aif.on Val.n
 ·exact aoP.on Val.s
theorem acL:CmpOK xf:=CmpOK.by_key Val.k anl ao3
theorem aiB:CmpOK arw:=acL.lex
end
section
variable {α:Type}
structure PermW (a b:Nat)(l l':List α):Prop where
 len:l'.length=l.length
 perm:l'.Perm l
 out: ∀i,i<a\/b<=i ->l'[i]? =l[i]?
 mem: ∀i x,a<=i ->i<b ->l'[i]? =some x -> ∃j,a<=j /\j<b /\l[j]? =some x
namespace PermW
theorem refl (a b:Nat)(l:List α):PermW a b l l:=⟨rfl,List.Perm.refl _,λ_ _=>rfl,λi _ g j o=>⟨i,g,j,o⟩⟩
theorem trans {a b:Nat}{l l' g:List α}(h:PermW a b l l')(k:PermW a b l' g):PermW a b l g:=
 ⟨k.len.trans h.len,k.perm.trans h.perm,λi hi=>(k.out i hi).trans (h.out i hi),λi x o p r=>by
  obtain⟨j,I,J,P⟩:=k.mem i x o p r;exact h.mem j x I J P⟩
theorem mono {a b g o:Nat}{l l':List α}(h:PermW a b l l')(J:g<=a)(P:b<=o):PermW g o l l':=
 ⟨h.len,h.perm,λi hi=>h.out i (by omega),λi x r I p=>by
  by_cases hi:i<a\/b<=i
  ·exact⟨i,r,I,by rw[<- h.out i hi];exact p⟩
  ·obtain⟨j,R,T,U⟩:=h.mem i x (by omega) (by omega) p
   grind⟩
end PermW
def Y5 (l:List α)(i j:Nat)(x y:α):List α:=(l.set i y).set j x
theorem apo (l:List α)(i j:Nat)(x y:α):(Y5 l i j x y).length=l.length:=by simp[Y5]
theorem QR {l:List α}{i j:Nat}{x y:α}(hi:l[i]? =some x)(o:l[j]? =some y)(k:Nat):
 (Y5 l i j x y)[k]? =if k=j then some x else if k=i then some y else l[k]? :=by
 have g:i<l.length:=(List.getElem?_eq_some_iff.1 hi).1;have p:j<l.length:=(List.getElem?_eq_some_iff.1 o).1;simp only[Y5,List.getElem?_set,List.length_set];by_cases r:k=j
 ·grind
 ·by_cases I:k=i<;>simp_all[Ne.symm]
theorem aoc {l:List α}{i j:Nat}{x y:α}(hi:l[i]? =some x)(p:l[j]? =some y):(Y5 l i j x y).Perm l:=by
 obtain⟨g,rfl⟩:=List.getElem?_eq_some_iff.1 hi;obtain⟨o,rfl⟩:=List.getElem?_eq_some_iff.1 p;exact List.set_set_perm g o
theorem akq {l:List α}{i j a b:Nat}{x y:α}(hi:l[i]? =some x)(g:l[j]? =some y)(o:a<=i)(p:i<b)(r:a<=j)(I:j<b):PermW a b l (Y5 l i j x y):=by
 refine⟨apo ..,aoc hi g,λk hk=>?_,λk z J P R=>?_⟩
 ·rw[QR hi g,if_neg (by omega),if_neg (by omega)]
 grind[QR]
variable (c:α ->α ->Int)
def zY (a b:Nat)(l:List α):Prop:= ∀i j x y,a<=i ->i<j ->j<b ->l[i]? =some x ->l[j]? =some y ->c x y<=0
def LeW (a b g o:Nat)(l:List α):Prop:= ∀i j x y,a<=i ->i<b ->g<=j ->j<o ->l[i]? =some x ->l[j]? =some y ->c x y<=0
variable {c}
theorem zY.mono {a b g o:Nat}{l:List α}(h:zY c a b l)(r:a<=g)(I:o<=b):zY c g o l:=λi j x y J p i3=>h i j x y (by omega) p (by omega)
theorem zY.same {a b:Nat}{l l':List α}(h:zY c a b l)(p: ∀i,a<=i ->i<b ->l'[i]? =l[i]?):zY c a b l':=λi j x y g o i3 i4 i5=>h i j x y g o i3 (by grind) (by grind)
theorem zY.glue {a m b:Nat}{l:List α}(r:zY c a m l)(I:zY c m b l)(J:LeW c a m m b l):zY c a b l:=by
 intro i j x y g o i3 i4 i5;by_cases h:j<m
 ·exact r i j x y g o h i4 i5
 ·by_cases p:m<=i
  ·exact I i j x y p o i3 i4 i5
  ·exact J i j x y g (by omega) (by omega) i3 i4 i5
theorem zY.one (a b:Nat)(l:List α)(h:b<=a+1):zY c a b l:=λi j x y g o i3=>by omega
theorem LeW.perm {a m b:Nat}{l l':List α}(h:LeW c a m m b l)(g:PermW a m l l'):LeW c a m m b l':=by
 intro i j x y p r i3 i4 i5 o;obtain⟨k,I,J,P⟩:=g.mem i x p r i5;rw[g.out j (by omega)]at o;exact h k j x y I J i3 i4 P o
theorem LeW.perm2 {a m b:Nat}{l l':List α}(h:LeW c a m m b l)(g:PermW m b l l'):LeW c a m m b l':=by
 intro i j x y o p i3 i4 i5 r;obtain⟨k,I,J,P⟩:=g.mem j y i3 i4 r;rw[g.out i (by omega)]at i5;exact h i k x y o p I J i5 P
theorem zY.le {a b i j:Nat}{l:List α}{x y:α}(r:CmpOK c)(h:zY c a b l)(I:a<=i)(J:i<=j)(i3:j<b)(p:l[i]? =some x)(g:l[j]? =some y):c x y<=0:=by
 rcases Nat.lt_or_ge i j with o|o
 ·exact h i j x y I o i3 p g
 ·obtain rfl:i=j:=by omega
  rw[p]at g;cases g;rw[r.refl];simp_all
def Vp (c:α ->α ->Int)(a i j:Nat)(l:List α):Prop:= ∀p q x y,a<=p ->p<q ->q<=i ->q≠j ->l[p]? =some x ->l[q]? =some y ->c x y<=0
theorem Vp.start {a i:Nat}{l:List α}(h:zY c a i l):Vp c a i i l:=λp q x y g j o r=>h p q x y g j (by omega)
theorem Vp.step {a i j:Nat}{l:List α}{x y:α}(hc:CmpOK c)(h:Vp c a i j l)(aa:a<j)(ab:j<=i)(J:l[j - 1]? =some x)(R:l[j]? =some y)(ac:c y x<0):Vp c a i (j - 1) (Y5 l j (j - 1) y x):=by
 intro p q u v P U I h4 g o;rw[QR R J]at g o;by_cases r:q=j
 ·subst r;rw[if_neg (by omega),if_pos rfl]at o;cases o;split at g
  ·grind
  ·rw[if_neg (by omega)]at g;exact h p (q - 1) u x P (by omega) (by omega) (by omega) g J
 ·rw[if_neg h4,if_neg r]at o;split at g
  ·rename_i T;cases g;exact h j q y v (by omega) (by omega) I r R o
  ·split at g
   ·rename_i T e3;cases g;exact h (j - 1) q x v (by omega) (by omega) I r J o
   ·exact h p q u v P U I r g o
theorem Vp.stop {a i j:Nat}{l:List α}(I:CmpOK c)(h:Vp c a i j l)(U:j<=i)(hs:j<=a\/ ∃x y,l[j - 1]? =some x /\l[j]? =some y /\0<=c y x):zY c a (i+1) l:=by
 intro p q u v J T h3 o r;by_cases e:q=j
 ·subst e;rcases hs with h'|⟨x,y,P,hy,g⟩
  ·omega
  ·rw[hy]at r;cases r;by_cases R:p=q - 1
   ·subst R;rw[P]at o;cases o;exact I.ge.1 g
   ·exact I.trans _ _ _ (h p (q - 1) u x J (by omega) (by omega) (by omega) o P) (I.ge.1 g)
 ·exact h p q u v J T (by omega) e o r
end
section
attribute [local irreducible] Sat zD yk
theorem wl {α:Type}{l:List α}{i:Nat}(h:i<l.length): ∃x,l[i]? =some x:=⟨l[i],List.getElem?_eq_getElem h⟩
theorem ae9 {j:Nat}(h:0<j)(g:j<=9223372036854775807):IntKind.i64.wrap ((j:Int) - 1)=((j - 1:Nat):Int):=by
 grind[ya]
section
variable {α:Type}
theorem aoE (P R:List α)(x:α):(P++x::R)[P.length]? =some x:=by simp
theorem aoF (P Q R:List α)(x y:α):(P++x::(Q++y::R))[P.length+1+Q.length]? =some y:=by
 have h:P++x::(Q++y::R)=(P++x::Q)++y::R:=by simp
 have e:P.length+1+Q.length=(P++x::Q).length:=by simp;omega
 grind
theorem apn (P Q R:List α)(x y:α):Y5 (P++x::(Q++y::R)) P.length (P.length+1+Q.length) x y=P++y::(Q++x::R):=by
 grind[Y5]
def Qt (P X M Y S:List α)(i:Nat):List α:=P++(Y.take i++X.drop i)++M++(X.take i++Y.drop i)++S
theorem aob (P X M Y S:List α):Qt P X M Y S 0=P++X++M++Y++S:=by simp[Qt]
theorem apl (P X M Y S:List α)(h:X.length=Y.length):Qt P X M Y S X.length=P++Y++M++X++S:=by
 grind[Qt]
theorem apm (P X M Y S:List α)(i:Nat)(h:X.length=Y.length)(hi:i<=X.length):(Qt P X M Y S i).length=(P++X++M++Y++S).length:=by
 simp[Qt];omega
theorem aoa (P X M Y S:List α)(i:Nat)(h:X.length=Y.length)(hi:i<X.length): ∃x y,(Qt P X M Y S i)[P.length+i]? =some x /\(Qt P X M Y S i)[P.length+X.length+M.length+i]? =some y /\
 Y5 (Qt P X M Y S i) (P.length+i) (P.length+X.length+M.length+i) x y=Qt P X M Y S (i+1):=by
 have g:i<Y.length:=by omega
 have j:Qt P X M Y S i=(P++Y.take i)++X[i]::((X.drop (i+1)++M++X.take i)++Y[i]::(Y.drop (i+1)++S)):=by
  grind[Qt,zo]
 have l:(P++Y.take i).length=P.length+i:=by simp;omega
 have o:(P++Y.take i).length+1+(X.drop (i+1)++M++X.take i).length=P.length+X.length+M.length+i:=by simp;omega
 refine⟨X[i],Y[i],?_,?_,?_⟩
 ·grind[aoE]
 ·grind[aoF]
 ·rw[j,<- o,<- l,apn];unfold Qt;rw[List.take_succ_eq_append_getElem hi,List.take_succ_eq_append_getElem g];grind
end
end
section
variable {α:Type}{c:α ->α ->Int}
theorem aph (I:CmpOK c){l l':List α}{a i b:Nat}{x:α}(hx:l[a]? =some x)(h1:a<i)(h2:i<=b)(hs:zY c (a+1) b l)
 (r: ∀p,l'[p]? =if a<=p /\p<i - 1 then l[p+1]? else if p=i - 1 then l[a]? else l[p]?)
 (g1:i=a+1\/ ∃u,l[i - 1]? =some u /\c u x<=0) (g2:i=b\/ ∃u,l[i]? =some u /\c x u<=0):zY c a b l':=by
 intro p q u v p1 p2 J j g;rw[r]at j g;by_cases T:a<=p /\p<i - 1
 ·rw[if_pos T]at j;by_cases U:a<=q /\q<i - 1
  ·rw[if_pos U]at g;exact hs (p+1) (q+1) u v (by omega) (by omega) (by omega) j g
  ·rw[if_neg U]at g;by_cases o:q=i - 1
   ·rw[if_pos o,hx]at g;cases g;rcases g1 with g1|⟨w,P,R⟩
    ·omega
    ·exact I.trans _ _ _ (hs.le I (by omega) (show p+1<=i - 1 by omega) (by omega) j P) R
   ·rw[if_neg o]at g;exact hs (p+1) q u v (by omega) (by omega) J j g
 ·rw[if_neg T]at j;rw[if_neg (by omega)]at g;by_cases o:p=i - 1
  ·rw[if_pos o,hx]at j;cases j;rw[if_neg (by omega)]at g;rcases g2 with g2|⟨w,P,R⟩
   ·omega
   ·exact I.trans _ _ _ R (hs.le I (by omega) (show i<=q by omega) J P g)
  ·rw[if_neg o]at j;rw[if_neg (by omega)]at g;exact hs p q u v (by omega) p2 J j g
theorem al7 (r:CmpOK c){l l':List α}{a i m:Nat}{x:α}(hx:l[m]? =some x)(h1:a<=i)(h2:i<=m)(hs:zY c a m l)
 (o: ∀p,l'[p]? =if i<p /\p<=m then l[p - 1]? else if p=i then l[m]? else l[p]?)
 (g1:i=a\/ ∃u,l[i - 1]? =some u /\c u x<=0) (g2:i=m\/ ∃u,l[i]? =some u /\c x u<=0):zY c a (m+1) l':=by
 intro p q u v p1 p2 p3 j g;rw[o]at j g;by_cases P:i<p /\p<=m
 ·rw[if_pos P]at j;rw[if_pos (by omega)]at g;exact hs (p - 1) (q - 1) u v (by omega) (by omega) (by omega) j g
 ·rw[if_neg P]at j;by_cases T:p=i
  ·rw[if_pos T,hx]at j;cases j;rw[if_pos (by omega)]at g;rcases g2 with g2|⟨w,I,J⟩
   ·omega
   ·exact r.trans _ _ _ J (hs.le r (by omega) (show i<=q - 1 by omega) (by omega) I g)
  ·rw[if_neg T]at j;by_cases R:i<q /\q<=m
   ·rw[if_pos R]at g;exact hs p (q - 1) u v (by omega) (by omega) (by omega) j g
   ·rw[if_neg R]at g;by_cases U:q=i
    ·rw[if_pos U,hx]at g;cases g;rcases g1 with g1|⟨w,I,J⟩
     ·omega
     ·exact r.trans _ _ _ (hs.le r p1 (show p<=i - 1 by omega) (by omega) j I) J
    ·rw[if_neg U]at g;exact hs p q u v p1 p2 (by omega) j g
def ZG (s m e:Nat)(l g:List α):Prop:= ∀p,g[p]? =if s<=p /\p<s+(e - m)then l[p+(m - s)]? else if s+(e - m)<=p /\p<e then l[p -(e - m)]? else l[p]?
theorem ZG.same {s m e:Nat}{l:List α}(g:s<=m)(i:m<=e)(h:s=m\/m=e):ZG s m e l l:=by
 intro p;rcases h with rfl|rfl
 ·split
  ·simp_all
  simp_all[if_neg]
 ·rw[if_neg (by omega)];split
  ·simp_all
  ·rfl
theorem adM (r:CmpOK c){l P:List α}{a s m e b:Nat}(a1:a<=s)(a2:s<=m)(a3:m<=e)(a4:e<=b)(T:ZG s m e l P)(j:zY c a m l)(o:zY c m b l)
 (aa:s=a\/e=b\/ ∃x y,l[s - 1]? =some x /\l[e]? =some y /\c x y<=0) (ab:s=m\/e=m\/ ∃x y,l[e - 1]? =some x /\l[s]? =some y /\c x y<=0):
 zY c a s P /\zY c s (s+(e - m)) P /\zY c (s+(e - m)) e P /\zY c e b P /\LeW c a (s+(e - m)) (s+(e - m)) b P:=by
 refine⟨?_,?_,?_,?_,?_⟩
 ·intro p q u v J R U i g;rw[T,if_neg (by omega),if_neg (by omega)]at i g;exact j p q u v J R (by omega) i g
 ·intro p q u v J R U i g;rw[T,if_pos (by omega)]at i g;exact o _ _ u v (by omega) (by omega) (by omega) i g
 ·intro p q u v J R U i g;rw[T,if_neg (by omega),if_pos (by omega)]at i g;exact j _ _ u v (by omega) (by omega) (by omega) i g
 ·intro p q u v J R U i g;rw[T,if_neg (by omega),if_neg (by omega)]at i g;exact o p q u v (by omega) R U i g
 ·intro p q u v J R U p4 i g;rw[T]at i g;rw[if_neg (by omega)]at g;by_cases e1:p<s
  ·rw[if_neg (by omega),if_neg (by omega)]at i;by_cases e2:q<e
   ·rw[if_pos (by omega)]at g;exact j p _ u v J (by omega) (by omega) i g
   ·rw[if_neg (by omega)]at g;rcases aa with h|h|⟨x,y,hx,hy,I⟩
    ·omega
    ·omega
    ·exact r.trans _ _ _ (j.le r J (show p<=s - 1 by omega) (by omega) i hx) (r.trans _ _ _ I (o.le r (by omega) (show e<=q by omega) p4 hy g))
  ·rw[if_pos (by omega)]at i;by_cases e2:q<e
   ·rw[if_pos (by omega)]at g;rcases ab with h|h|⟨x,y,hx,hy,I⟩
    ·omega
    ·omega
    ·exact r.trans _ _ _ (o.le r (by omega) (show p+(m - s)<=e - 1 by omega) (by omega) i hx) (r.trans _ _ _ I (j.le r (by omega) (show s<=q -(e - m)by omega) (by omega) hy g))
   ·rw[if_neg (by omega)]at g;exact o _ q u v (by omega) (by omega) p4 i g
theorem JT {l:List α}{s m e:Nat}(g:s<=m)(o:m<=e)(p:e<=l.length):l.take s++(l.drop s).take (m - s)++(l.drop m).take (e - m)++l.drop e=l:=by
 have r:l.take s++(l.drop s).take (m - s)=l.take m:=by
  have:=List.take_add (l:=l) (i:=s) (j:=m - s);rw[<- this];congr 1;omega
 have I:l.take m++(l.drop m).take (e - m)=l.take e:=by
  have:=List.take_add (l:=l) (i:=m) (j:=e - m);rw[<- this];congr 1;omega
 grind[List.take_append_drop]
theorem acV {l:List α}{s m e:Nat}(o:s<=m)(r:m<=e)(I:e<=l.length):ZG s m e l (l.take s++(l.drop m).take (e - m)++(l.drop s).take (m - s)++l.drop e):=by
 intro p;simp only[List.getElem?_append,List.length_append,List.length_take,List.length_drop,List.getElem?_take,List.getElem?_drop];split
 ·split
  ·rename_i g i;split
   ·rename_i j;rw[if_pos (by omega),if_neg (by omega),if_neg (by omega)]
   ·rename_i j;rw[if_pos (by omega),if_pos (by omega)];congr 1;omega
  ·rename_i g i;rw[if_pos (by omega),if_neg (by omega),if_pos (by omega)];congr 1;omega
 ·rename_i g;rw[if_neg (by omega),if_neg (by omega)];congr 1;omega
theorem aos {l:List α}{s m e:Nat}(i:s<=m)(j:m<=e)(o:e<=l.length):PermW s e l (l.take s++(l.drop m).take (e - m)++(l.drop s).take (m - s)++l.drop e):=by
 have r:=acV i j o;refine⟨?_,?_,λp I=>?_,λp x J P g=>?_⟩
 ·simp;omega
 ·have:=JT i j o<;>grind[List.Perm.append_right,List.Perm.append_left,List.perm_append_comm]
 ·rw[r,if_neg (by omega),if_neg (by omega)]
 ·rw[r]at g;split at g
  ·grind
  ·rw[if_pos (by omega)]at g
   grind
end
section
variable {α:Type}{R:α ->α ->Prop}{c:α ->α ->Int}
def Uy (R:α ->α ->Prop)(a b g o:Nat)(l:List α):Prop:= ∀i j x y,a<=i ->i<b ->g<=j ->j<o ->l[i]? =some x ->l[j]? =some y ->R x y
def Yg (R:α ->α ->Prop)(a b:Nat)(l:List α):Prop:= ∀i j x y,a<=i ->i<j ->j<b ->l[i]? =some x ->l[j]? =some y ->R x y
def J4 (R:α ->α ->Prop)(a j:Nat)(l:List α):Prop:= ∀p x y,a<=p ->p<j ->l[p]? =some x ->l[j]? =some y ->R x y
theorem Uy.same {a b g o:Nat}{l l':List α}(h:Uy R a b g o l)(I: ∀i,(a<=i /\i<b)\/(g<=i /\i<o) ->l'[i]? =l[i]?):Uy R a b g o l':=
 λi j x y p r i3 i4 i5 J=>h i j x y p r i3 i4 (by grind) (by grind)
theorem Uy.rot {l o:List α}{a s m e b:Nat}(T:a<=s)(U:s<=m)(a3:m<=e)(a4:e<=b)(j:ZG s m e l o)(h:Uy R a m m b l):Uy R a s s (s+(e - m)) o /\Uy R (s+(e - m)) e e b o:=by
 refine⟨?_,?_⟩
 ·intro p q u v r J P I g i;rw[j,if_neg (by omega),if_neg (by omega)]at g;rw[j,if_pos (by omega)]at i;exact h p _ u v r (by omega) (by omega) (by omega) g i
 ·intro p q u v r J P I g i;rw[j,if_neg (by omega),if_pos (by omega)]at g;rw[j,if_neg (by omega),if_neg (by omega)]at i;exact h _ q u v (by omega) (by omega) (by omega) I g i
theorem Yg.mono {a b g o:Nat}{l:List α}(h:Yg R a b l)(r:a<=g)(I:o<=b):Yg R g o l:=λi j x y J p i3=>h i j x y (by omega) p (by omega)
theorem J4.start {a b i:Nat}{l o:List α}(h:Yg R a b l)(g:PermW a i l o)(hi:i<b):J4 R a i o:=by
 intro p x y I J r j;obtain⟨q,P,T,U⟩:=g.mem p x I J r;rw[g.out i (.inr (Nat.le_refl _))]at j;exact h q i x y P T hi U j
theorem J4.step {a j:Nat}{l:List α}{x y:α}(h:J4 R a j l)(r:a<j)(I:l[j - 1]? =some x)(o:l[j]? =some y):J4 R a (j - 1) (Y5 l j (j - 1) y x):=by
 intro p u v J P g i;rw[QR o I]at g i;rw[if_neg (by omega),if_neg (by omega)]at g;rw[if_pos rfl]at i;cases i;exact h p u y J (by omega) g o
def Cut (g i j:Nat):Prop:= ∃k,i<k*g /\k*g<=j
def ab3 (R:α ->α ->Prop)(g:Nat)(l:List α):Prop:= ∀i j x y,Cut g i j ->l[i]? =some x ->l[j]? =some y ->R x y
def Zt (R:α ->α ->Prop)(g a:Nat)(l:List α):Prop:= ∀i j x y,Cut (2*g) i j\/(a<=i /\Cut g i j) ->l[i]? =some x ->l[j]? =some y ->R x y
theorem ab3.pass {g:Nat}{l:List α}(h:ab3 R g l):Zt R g 0 l:=by
 rintro i j x y (⟨k,p,r⟩|⟨_,o⟩)
 ·exact h i j x y ⟨k*2,by grind,by grind⟩
 ·exact h i j x y o
theorem Zt.blk {g a:Nat}{l:List α}(h:Zt R g a l):ab3 R (2*g) l:=λi j x y o=>h i j x y (.inl o)
theorem Zt.rel {g q e:Nat}{l:List α}(h:Zt R g (q*(2*g)) l):Uy R (q*(2*g)) (q*(2*g)+g) (q*(2*g)+g) e l:=by
 intro i j x y o p i3 i4;refine h i j x y (.inr ⟨o,2*q+1,?_,?_⟩)
 ·grind
 grind
theorem Zt.next {g q e n:Nat}{l l':List α}(h:Zt R g (q*(2*g)) l)(P:PermW (q*(2*g)) e l l')(h2:e<=(q+1)*(2*g))(hn:e=(q+1)*(2*g)\/(e=n /\l.length=n)):Zt R g ((q+1)*(2*g)) l':=by
 intro i j x y hc hx hy;have key: ∀o p:Nat,(q*(2*g)<=o /\o<e /\q*(2*g)<=i /\i<e)\/o=i ->(q*(2*g)<=p /\p<e /\q*(2*g)<=j /\j<e)\/p=j ->Cut (2*g) o p\/(q*(2*g)<=o /\Cut g o p):=by
  intro o p hi J;rcases hc with⟨k,k1,k2⟩|⟨ha,hc⟩
  ·left
   refine⟨k,?_,?_⟩
   ·rcases hi with⟨T,U,i3,i4⟩|rfl
    ·have:q<k:=by
      rcases Nat.lt_or_ge q k with r|r
      ·exact r
      ·have:=Nat.mul_le_mul_right (2*g) r;omega
     have:=Nat.mul_le_mul_right (2*g) (show q+1<=k from this);omega
    ·exact k1
   ·rcases J with⟨T,U,i3,i4⟩|rfl
    ·have:k<=q:=by
      rcases Nat.lt_or_ge q k with r|r
      ·have:=Nat.mul_le_mul_right (2*g) (show q+1<=k from r);omega
      ·exact r
     have:=Nat.mul_le_mul_right (2*g) this;omega
    ·exact k2
  ·right
   have e0:(q+1)*(2*g)=q*(2*g)+2*g:=Nat.succ_mul _ _;obtain⟨k,k1,k2⟩:=hc;rcases hi with⟨T,U,i3,i4⟩|rfl
   ·omega
   ·rcases J with⟨j1,j2,j3,j4⟩|rfl
    ·omega
    ·exact⟨by omega,k,k1,k2⟩
 have hi: ∃o,((q*(2*g)<=o /\o<e /\q*(2*g)<=i /\i<e)\/o=i)/\l[o]? =some x:=by
  by_cases I:q*(2*g)<=i /\i<e
  ·obtain⟨o,T,U,i3⟩:=P.mem i x I.1 I.2 hx
   grind
  ·rw[P.out i (by omega)]at hx
   grind
 have J: ∃p,((q*(2*g)<=p /\p<e /\q*(2*g)<=j /\j<e)\/p=j)/\l[p]? =some y:=by
  by_cases I:q*(2*g)<=j /\j<e
  ·obtain⟨o,T,U,i3⟩:=P.mem j y I.1 I.2 hy
   grind
  ·rw[P.out j (by omega)]at hy
   grind
 obtain⟨o,aa,ab⟩:=hi;obtain⟨p,ac,ad⟩:=J;exact h o p x y (key o p aa ac) ab ad
def wO (R:α ->α ->Prop)(g e:Nat)(l:List α):Prop:= ∀i j x y,i<j ->(Cut g i j\/e<=j) ->l[i]? =some x ->l[j]? =some y ->R x y
theorem wO.start {g n:Nat}{l:List α}(h:Yg R 0 n l)(I:l.length=n):wO R g 0 l:=by
 intro i j x y o _ p r;exact h i j x y (Nat.zero_le _) o (by grind) p r
theorem wO.pair {g e n:Nat}{l:List α}(h:wO R g e l):Yg R e n l:=λi j x y p o _=>h i j x y o (.inr (by omega))
theorem wO.next {g q e:Nat}{l l':List α}(h:wO R g (q*g) l)(o:PermW (q*g) e l l')(h0:q*g<=e)(h2:e<=(q+1)*g):wO R g e l':=by
 intro i j x y J P p r;by_cases T:q*g<=j /\j<e
 ·obtain⟨j0,j1,j2,j3⟩:=o.mem j y T.1 T.2 r;rcases P with⟨k,k1,k2⟩|P
  ·have hk:k<=q:=by
    rcases Nat.lt_or_ge q k with I|I
    ·have:=Nat.mul_le_mul_right g (show q+1<=k from I);omega
    ·exact I
   have U:=Nat.mul_le_mul_right g hk;rw[o.out i (.inl (by omega))]at p;exact h i j0 x y (by omega) (.inr j1) p j3
  ·omega
 ·rw[o.out j (by omega)]at r;by_cases hi:q*g<=i /\i<e
  ·obtain⟨i0,i1,i2,i3⟩:=o.mem i x hi.1 hi.2 p;exact h i0 j x y (by omega) (.inr (by omega)) i3 r
  ·rw[o.out i (by omega)]at p;refine h i j x y J ?_ p r<;>grind
theorem wO.blk {g e:Nat}{l:List α}(h:wO R g e l):ab3 R g l:=λi j x y o=>h i j x y (by obtain⟨k,p,r⟩:=o;omega) (.inl o)
end
section
variable {α:Type}
def YA (c:α ->α ->Int)(x:α):List α ->List α
 | []=> [x]
 |y::r=>if c x y<0 then x::y::r else y::YA c x r
def xh (c:α ->α ->Int)(l:List α):List α:=l.foldl (λg x=>YA c x g) []
def WJ (c:α ->α ->Int)(l:List α):Prop:=List.Pairwise (λx y=>c x y<=0) l
theorem WY (c:α ->α ->Int)(x:α): ∀l:List α,(YA c x l).Perm (x::l)
 | []=>List.Perm.refl _
 |y::r=>by
  unfold YA;split
  ·exact List.Perm.refl _
  ·exact((WY c x r).cons y).trans (List.Perm.swap x y r)
theorem ady {c:α ->α ->Int}(i:CmpOK c)(x:α): ∀{l:List α},WJ c l ->WJ c (YA c x l)
 | [],_=>List.pairwise_singleton _ _
 |y::r,h=>by
  unfold YA;have j: ∀z∈r,c y z<=0:=λz g=>List.rel_of_pairwise_cons h g
  have o:=List.Pairwise.of_cons h;split
  ·rename_i I;refine List.Pairwise.cons (λz g=>?_) h;simp only[List.mem_cons]at g;rcases g with rfl|g
   ·omega
   ·exact i.trans _ _ _ (by omega:c x y<=0) (j z g)
  ·rename_i p;refine List.Pairwise.cons (λz g=>?_) (ady i x o);have g:=(WY c x r).mem_iff.1 g;simp only[List.mem_cons]at g;rcases g with rfl|g
   ·exact i.ge.1 (by omega)
   grind
theorem akj (c:α ->α ->Int)(l:List α)(x:α):xh c (l++[x])=YA c x (xh c l):=by simp[xh]
theorem abN (c:α ->α ->Int){l:List α}{i:Nat}{x:α}(h:l[i]? =some x):xh c (l.take (i+1))=YA c x (xh c (l.take i)):=by
 grind[List.take_add_one,akj]
theorem Ko (c:α ->α ->Int)(i:CmpOK c): ∀(l g:List α),WJ c g ->(l.foldl (λg x=>YA c x g) g).Perm (g++l)/\WJ c (l.foldl (λg x=>YA c x g) g)
 | [],g,h=>⟨by simp,h⟩
 |x::r,g,h=>by
  obtain⟨j,o⟩:=Ko c i r (YA c x g) (ady i x h);refine⟨j.trans ?_,o⟩;exact((WY c x g).append_right r).trans (List.perm_middle.symm)
theorem QH {c:α ->α ->Int}(g:CmpOK c)(l:List α):(xh c l).Perm l:=(Ko c g l [] List.Pairwise.nil).1
theorem akk {c:α ->α ->Int}(g:CmpOK c)(l:List α):WJ c (xh c l):=(Ko c g l [] List.Pairwise.nil).2
def vT (c:α ->α ->Int)(x y:α×Nat):Int:=if c x.1 y.1=0 then(if x.2<y.2 then -1 else if y.2<x.2 then 1 else 0)else c x.1 y.1
theorem kN {c:α ->α ->Int}(g:CmpOK c):CmpOK (vT c):=by
 refine⟨λx=>?_,λx y=>?_,λx y z j l=>?_⟩
 ·simp[vT,g.refl]
 ·have h0:=g.zero (x:=x.1) (y:=y.1);have j:=g.anti x.1 y.1;unfold vT;omega
 ·have h0:=g.zero (x:=x.1) (y:=y.1);have r:=g.zero (x:=y.1) (y:=z.1);have I:=g.trans x.1 y.1 z.1;unfold vT at j l⊢;by_cases p:c x.1 y.1=0
  ·by_cases i:c y.1 z.1=0
   ·omega
   ·rw[if_neg i]at l;have o:=g.lt_of2 (x:=x.1) (y:=y.1) (z:=z.1) (by omega) (by omega);omega
  ·rw[if_neg p]at j;by_cases i:c y.1 z.1=0
   ·have o:=g.lt_of (x:=x.1) (y:=y.1) (z:=z.1) (by omega) (by omega);omega
   ·rw[if_neg i]at l;have o:=g.lt_of (x:=x.1) (y:=y.1) (z:=z.1) (by omega) (by omega);omega
theorem aiS {c:α ->α ->Int}(g:CmpOK c){x y:α×Nat}(h:x.2<y.2):c y.1 x.1<0↔vT c y x<0:=by
 unfold vT;omega
theorem afR (c:α ->α ->Int)(x:α)(n:Nat): ∀l:List (α×Nat),(∀y∈l,y.2<n) ->(YA (vT c) (x,n) l).map Prod.fst=YA c x (l.map Prod.fst)
 | [],_=>rfl
 |y::r,h=>by
  have g:=h y (List.mem_cons_self ..);have o:=afR c x n r (λz i=>h z (List.mem_cons_of_mem _ i));have e:vT c (x,n) y<0↔c x y.1<0:=by
   unfold vT;by_cases e:c x y.1=0
   ·rw[if_pos e,if_neg (by grind),if_pos (show y.2<n from g)];omega
   simp_all
  simp only[YA,List.map_cons];by_cases j:c x y.1<0
  ·simp_all
  simp_all[if_neg]
def qw (l:List α):List (α×Nat):=l.zipIdx
theorem al6 {c:α ->α ->Int}(r:CmpOK c)(l:List α):(xh (vT c) (qw l)).map Prod.fst=xh c l:=by
 have h: ∀n,n<=l.length ->(xh (vT c) ((qw l).take n)).map Prod.fst=xh c (l.take n)/\ ∀y∈xh (vT c) ((qw l).take n),y.2<n:=by
  intro n;induction n with
  |zero=>grind[xh]
  |succ n p=>
   intro I;obtain⟨i,j⟩:=p (by omega);have g:(qw l)[n]? =some (l[n],n):=by
    grind[qw]
   rw[abN _ g,abN c (List.getElem?_eq_getElem (by omega:n<l.length)),afR c _ _ _ j,i];refine⟨rfl,λy o=>?_⟩;have:=(WY _ _ _).mem_iff.1 o;simp only[List.mem_cons]at this;rcases this with rfl|h
   ·simp_all
   grind
 have:=(h l.length (Nat.le_refl _)).1<;>simp_all[List.take_of_length_le,qw]
theorem apg {c:α ->α ->Int}{l:List α}{n:Nat}(h:zY c 0 n l)(p:l.length=n):WJ c l:=by
 refine List.pairwise_iff_getElem.2 λi j hi o g=>?_
 exact h i j _ _ (Nat.zero_le _) g (by omega) (List.getElem?_eq_getElem hi) (List.getElem?_eq_getElem o)
theorem gF (l:List α)(n:Nat):Yg (λx y:α×Nat=>x.2<y.2) 0 n (qw l):=by
 intro i j x y _ g _ o p<;>grind[qw]
theorem Jq (l:List α):(qw l).length=l.length:=by simp[qw]
theorem Jp (l:List α):(qw l).map Prod.fst=l:=by
 simp_all[qw]
theorem amj {c:α ->α ->Int}(j:CmpOK c){x y:α×Nat}(i:vT c x y<=0)(g:vT c y x<=0):x.2=y.2:=by
 have h0:=j.zero (x:=x.1) (y:=y.1);unfold vT at i g;by_cases e:c x.1 y.1=0
 ·omega
 ·rw[if_neg e]at i;rw[if_neg (λe'=>e (h0.2 e'))]at g;have:=j.ge.2 g;omega
theorem aeb {c:α ->α ->Int}(o:CmpOK c){l:List α}{l':List (α×Nat)}{n:Nat}(hn:l.length=n)(j:PermW 0 n (qw l) l')(hs:zY (vT c) 0 n l'):l'.map Prod.fst=xh c l:=by
 have aa:l'.length=n:=by rw[j.len,Jq,hn]
 rw[<- al6 o l];congr 1
 have p:l'.Perm (xh (vT c) (qw l)):=j.perm.trans (QH (kN o) _).symm;have U: ∀x∈l',∀y∈l',x.2=y.2 ->x=y:=by
  intro x g y i e;have g:=j.perm.mem_iff.1 g;have i:=j.perm.mem_iff.1 i;have g:=List.mem_zipIdx g;have i:=List.mem_zipIdx i<;>grind
 have gen: ∀{u v:List (α×Nat)},WJ (vT c) u ->WJ (vT c) v ->u.Perm v ->(∀x∈u,∀y∈u,x.2=y.2 ->x=y) ->u=v:=by
  intro u;induction u with
  |nil=>grind[List.Perm.nil_eq]
  |cons x r ih=>
   intro v P R j T;cases v with
   |nil=>exact absurd j.length_eq (by simp)
   |cons y r'=>
    have I:x=y:=by
     have g:x∈y::r':=j.mem_iff.1 (List.mem_cons_self ..);have i:y∈x::r:=j.mem_iff.2 (List.mem_cons_self ..);have J:=i;simp only[List.mem_cons]at g i;rcases g with g|g
     ·exact g
     ·rcases i with i|i
      ·grind
      ·exact T _ (List.mem_cons_self ..) _ J (amj o (List.rel_of_pairwise_cons P i) (List.rel_of_pairwise_cons R g))
    subst I;rw[ih (List.Pairwise.of_cons P) (List.Pairwise.of_cons R) (List.Perm.cons_inv j) (λa ha b hb=>T a (List.mem_cons_of_mem _ ha) b (List.mem_cons_of_mem _ hb))]
 grind[apg,akk,kN]
end
section
attribute [local irreducible] Sat zD yk
theorem afQ (i j:Nat)(h:i+j<=4611686018427387904):IntKind.i64.wrap (Vi false IntKind.u64 (IntKind.u64.wrap (IntKind.i64.wrap ((i:Int)+(j:Int)))) 1)=(((i+j)/2:Nat):Int):=by
 grind[ya,IntKind.wrap,IntKind.bits,Vi]
theorem u9 {a b c d:Nat}(h:(decide ((a:Int)<(b:Int))&&decide ((c:Int)<(d:Int)))=true):a<b /\c<d:=by
 simp_all
theorem u7 {a b c d:Nat}(h:(decide ((a:Int)<(b:Int))&&decide ((c:Int)<(d:Int)))=false):b<=a\/d<=c:=by
 grind
section
variable {α:Type}{c:α ->α ->Int}
def vi (c:α ->α ->Int)(g e:Nat)(l:List α):Prop:= ∀k,zY c (k*g) (min ((k+1)*g) e) l
def X2 (c:α ->α ->Int)(g a n:Nat)(l:List α):Prop:= ∀k,a<=k*g ->zY c (k*g) (min ((k+1)*g) n) l
theorem vi.zero (g:Nat)(l:List α):vi c g 0 l:=λk=>zY.one _ _ _ (by omega)
theorem vi.ext {g q e:Nat}{l l':List α}(h:vi c g (q*g) l)(p:PermW (q*g) e l l')(hs:zY c (q*g) e l')(o:q*g<=e)(r:e<=(q+1)*g):vi c g e l':=by
 intro k;rcases Nat.lt_trichotomy k q with hk|hk|hk
 ·have j:(k+1)*g<=q*g:=Nat.mul_le_mul_right _ hk;have:=h k;rw[Nat.min_eq_left j]at this;rw[Nat.min_eq_left (Nat.le_trans j o)];exact this.same λi _ I=>p.out i (.inl (by omega))
 ·grind
 ·have j:(q+1)*g<=k*g:=Nat.mul_le_mul_right _ hk
  grind[zY.one]
theorem vi.blkF {g n:Nat}{l:List α}(h:vi c g n l):X2 c g 0 n l:=λk _=>h k
theorem X2.next {g a e n:Nat}{l l':List α}(h:X2 c g a n l)(j:PermW a e l l')(o:a<=e):X2 c g e n l':=λk hk=>(h k (by omega)).same λi p _=>j.out i (.inr (by omega))
theorem X2.at0 {g q n:Nat}{l:List α}(h:X2 c g (q*(2*g)) n l):zY c (q*(2*g)) (min (q*(2*g)+g) n) l:=by
 have i:q*(2*g)=(2*q)*g:=by grind
 have j:(2*q+1)*g=2*q*g+g:=Nat.succ_mul (2*q) g;have:=h (2*q) (by omega)<;>grind
theorem X2.at1 {g q n:Nat}{l:List α}(h:X2 c g (q*(2*g)) n l):zY c (q*(2*g)+g) (min (q*(2*g)+g+g) n) l:=by
 have i:q*(2*g)=(2*q)*g:=by grind
 have j:(2*q+1)*g=2*q*g+g:=Nat.succ_mul (2*q) g;have o:(2*q+1+1)*g=2*q*g+g+g:=by grind
 have:=h (2*q+1) (by grind)
 grind
end
namespace So
def eL {α:Type}(en:α ->List D)(l:List α):List (List D):=l.map en
section
variable {α:Type}(en:α ->List D)
theorem qn {l:List α}{i:Nat}{x:α}(h:l[i]? =some x):(eL en l)[i]? =some (en x):=by simp[eL,h]
theorem Q9 (l:List α)(i:Nat)(x:α):(eL en l).set i (en x)=eL en (l.set i x):=by simp[eL]
theorem aa1 {l:List α}{i j:Nat}{x y:α}(h:l[j]? =some y): ∃z:α,((eL en l).set i (en x))[j]? =some (en z):=by
 have g:j<l.length:=(List.getElem?_eq_some_iff.1 h).1;rw[Q9];exact⟨(l.set i x)[j]'(by simpa using g),qn en (List.getElem?_eq_getElem _)⟩
theorem ag7 {l:List α}{i j:Nat}(x y:α):((eL en l).set i (en y)).set j (en x)=eL en (Y5 l i j x y):=by rw[Q9,Q9];rfl
end
structure Rt (α:Type) where
 P:List α
 A:List α
 B:List α
 S:List α
def Rt.l {α:Type}(x:Rt α):List α:=x.P++x.A++x.B++x.S
def Rt.t {α:Type}(x:Rt α):List α:=x.P++x.B++x.A++x.S
def aq6 (sz:Nat)(f:W)(n a b i:Nat)(g:List (List D)):S:=⟨[(0,cV (.own 100000 sz n)),(1,zg a),(2,zg b),(3,.w f),(8,zg i)],[(100000,.arr sz g false)]⟩
def ap3 (sz:Nat)(f:W)(n a b i j:Nat)(g:List (List D)):S:=⟨[(0,cV (.own 100000 sz n)),(1,zg a),(2,zg b),(3,.w f),(8,zg i),(9,zg j)],[(100000,.arr sz g false)]⟩
def swS (sz n a b k i:Nat)(g:List (List D)):S:=⟨[(0,cV (.own 100000 sz n)),(1,zg a),(2,zg b),(3,zg k),(10,zg i)],[(100000,.arr sz g false)]⟩
def agq (sz:Nat)(f:W)(n m i j:Nat)(g:List (List D)):S:=⟨[(0,cV (.own 100000 sz n)),(2,zg m),(4,.w f),(10,zg i),(11,zg j)],[(100000,.arr sz g false)]⟩
def ary (sz:Nat)(f:W)(n a i j:Nat)(g:List (List D)):S:=⟨[(0,cV (.own 100000 sz n)),(1,zg a),(4,.w f),(10,zg i),(11,zg j)],[(100000,.arr sz g false)]⟩
def aqh (sz n i k:Nat)(g:List (List D)):S:=⟨[(0,cV (.own 100000 sz n)),(10,zg i),(13,zg k)],[(100000,.arr sz g false)]⟩
def arz (sz:Nat)(f:W)(n m i j:Nat)(g:List (List D)):S:=⟨[(0,cV (.own 100000 sz n)),(2,zg m),(4,.w f),(14,zg i),(15,zg j)],[(100000,.arr sz g false)]⟩
def aqi (sz n i k:Nat)(g:List (List D)):S:=⟨[(0,cV (.own 100000 sz n)),(14,zg i),(17,zg k)],[(100000,.arr sz g false)]⟩
def aqj (sz:Nat)(f:W)(N a m b i n s r p:Nat)(g:List (List D)):S:=⟨[(0,cV (.own 100000 sz N)),(1,zg a),(2,zg m),(3,zg b),(4,.w f),(18,zg i),(19,zg n),(20,zg s),(21,zg r),(22,zg p)],[(100000,.arr sz g false)]⟩
def gE (sz:Nat)(f:W)(N n i a b:Nat)(g:List (List D)):S:=⟨[(0,cV (.own 100000 sz N)),(1,zg n),(2,.w f),(6,zg i),(7,zg a),(8,zg b)],[(100000,.arr sz g false)]⟩
def stT (sz:Nat)(f:W)(N n i:Nat)(g:List (List D)):S:=⟨[(0,cV (.own 100000 sz N)),(1,zg n),(2,.w f),(6,zg i)],[(100000,.arr sz g false)]⟩
section
variable {α:Type}(k sz:Nat) (en:α ->List D) (cal:α ->α ->List W) (clo:FuncId ->W)
def aaE (g:FuncId)(c:α ->α ->Int)(R:α ->α ->Prop):Prop:= ∀x y:α,R x y ->Sat Pg g (cal y x) (λr=> ∃z,r=rI z /\(z<0↔c y x<0))
def aff (c:α ->α ->Int)(a b:Nat)(l:List α)(r:Res):Prop:= ∃l':List α,PermW a b l l' /\zY c a b l' /\r=⟨.tup [],[.arr sz (eL en l') false]⟩
def kj:Prop:= ∀(g:FuncId) (c:α ->α ->Int) (_:CmpOK c) (R:α ->α ->Prop) (_:aaE cal g c R) (l:List α) (a b:Nat) (_:a<=b) (_:b<=l.length) (_:l.length<=1000000) (_:Yg R a b l),
    zD Pg k [.c (.own 0 sz l.length),.c (int a),.c (int b),clo g] [.arr sz (eL en l) false] (aff sz en c a b l)
def WK:Prop:= ∀(g:FuncId) (P X M Y S:List α) (_:X.length=Y.length) (N a b n:Nat) (_:N=(P++X++M++Y++S).length) (_:a=P.length) (_:n=X.length) (_:b=P.length+X.length+M.length) (_:N<=1000000),
    zD Pg k [.c (.own 0 sz N),.c (int a),.c (int b),.c (int n),clo g] [.arr sz (eL en (P++X++M++Y++S)) false] (λr=>r=⟨.tup [],[.arr sz (eL en (P++Y++M++X++S)) false]⟩)
def aaG:Prop:= ∀(g:FuncId) (i:Rt α) (N a m b:Nat) (_:N=i.l.length) (_:a=i.P.length) (_:m=a+i.A.length) (_:b=m+i.B.length) (_:0<i.A.length) (_:0<i.B.length) (_:N<=1000000),
    zD Pg k [.c (.own 0 sz N),.c (int a),.c (int m),.c (int b),clo g] [.arr sz (eL en i.l) false] (λr=>r=⟨.tup [],[.arr sz (eL en i.t) false]⟩)
def aq0 (g:FuncId)(c:α ->α ->Int)(R:α ->α ->Prop)(N n:Nat):Prop:= ∀(l:List α) (a m b:Nat),b - a<=n ->a<m ->m<b ->b<=l.length ->l.length=N ->zY c a m l ->zY c m b l ->Uy R a m m b l ->
    zD Pg k [.c (.own 0 sz N),.c (int a),.c (int m),.c (int b),clo g] [.arr sz (eL en l) false] (aff sz en c a b l)
def afg:Prop:= ∀(g:FuncId) (c:α ->α ->Int) (_:CmpOK c) (R:α ->α ->Prop) (_:aaE cal g c R) (N:Nat) (_:N<=1000000) (n:Nat),aq0 k sz en clo g c R N n
def akO:Prop:= ∀(g:FuncId) (c:α ->α ->Int) (_:CmpOK c) (R:α ->α ->Prop) (_:aaE cal g c R) (l:List α) (n:Nat) (_:l.length=n) (_:n<=1000000) (_:Yg R 0 n l),
    zD Pg k [.c (.own 0 sz n),.c (int n),clo g] [.arr sz (eL en l) false] (aff sz en c 0 n l)
def SortStable:Prop:= ∀(g:FuncId) (c:α ->α ->Int) (_:CmpOK c) (R:α ->α ->Prop) (_:aaE cal g c R) (l:List α) (n:Nat) (_:l.length=n) (_:n<=1000000) (_:Yg R 0 n l),
    zD Pg k [.c (.own 0 sz n),clo g] [.arr sz (eL en l) false] (aff sz en c 0 n l)
variable {k sz en cal clo}
theorem kj.p (r:kj k sz en cal clo)(g:FuncId)(c:α ->α ->Int)(j:CmpOK c)(R:α ->α ->Prop)(P:aaE cal g c R)(N:Nat)(l:List α)(a b:Nat)(I:l.length=N)(i:a<=b)(J:b<=N)(T:N<=1000000)(o:Yg R a b l):
 zD Pg k [.c (.own 0 sz N),.c (int a),.c (int b),clo g] [.arr sz (eL en l) false] (aff sz en c a b l):=by
 subst I;exact r g c j R P l a b i J T o
theorem WK.p (o:WK k sz en clo)(g:FuncId)(P X M Y S l l':List α)(i:l=P++X++M++Y++S)(j:l'=P++Y++M++X++S)(h:X.length=Y.length)(N a b n:Nat)(I:N=l.length)(J:a=P.length)(U:n=X.length)(R:b=P.length+X.length+M.length)(T:N<=1000000):
 zD Pg k [.c (.own 0 sz N),.c (int a),.c (int b),.c (int n),clo g] [.arr sz (eL en l) false] (λr=>r=⟨.tup [],[.arr sz (eL en l') false]⟩):=by
 subst i j;exact o g P X M Y S h N a b n I J U R T
def X3 (c:α ->α ->Int)(l:List α)(i j:Nat):Prop:= ∃u v,l[i]? =some u /\l[j]? =some v /\c u v<=0
def aak (s m e:Nat)(l:List α):List α:=l.take s++(l.drop m).take (e - m)++(l.drop s).take (m - s)++l.drop e
theorem aaG.p (I:aaG k sz en clo)(g:FuncId)(l:List α)(N s m e:Nat)(i:s<m)(j:m<e)(o:e<=l.length)(J:l.length=N)(P:N<=1000000):
 zD Pg k [.c (.own 0 sz N),.c (int s),.c (int m),.c (int e),clo g] [.arr sz (eL en l) false] (λr=>r=⟨.tup [],[.arr sz (eL en (aak s m e l)) false]⟩):=by
 have h:=I g ⟨l.take s,(l.drop s).take (m - s),(l.drop m).take (e - m),l.drop e⟩ N s m e;simp only[Rt.l,Rt.t,JT (Nat.le_of_lt i) (Nat.le_of_lt j) o]at h;refine h J.symm ?_ ?_ ?_ ?_ ?_ P<;>simp<;>omega
theorem qy {c:α ->α ->Int}{l o p j:List α}{a r g e b:Nat}(hw:PermW r e l o)(P:a<=r)(R:e<=b)(J:PermW a g o p)(I:PermW g b p j)(T:a<=g)(U:g<=b)
 (t2:zY c a g p) (t3:zY c g b j) (s5:LeW c a g g b o):PermW a b l j /\zY c a b j:=
 ⟨(hw.mono P R).trans ((J.mono (Nat.le_refl _) U).trans (I.mono T (Nat.le_refl _))),zY.glue (t2.same λi _ i2=>I.out i (.inl i2)) t3 ((s5.perm J).perm2 I)⟩
end
end So
namespace So
theorem aed {p:Prop}(h:p:=by
 intro g c aa R hg l a b ae hb hl ac;have wa:IntKind.i64.wrap ((a:Int)+1)=((a+1:Nat):Int):=zA (n:=1000001) (by omega) (by omega);refine qA T8 cI_ok (by kernel_rfl) (by simp) ?_
 conv=>whnf
 refine yx (P:=Pg) (f:=T8.f) (body:=cI_L1) (λx:Nat×List α=>aq6 sz (clo E g) l.length a b x.1 (eL (en E) x.2)) (λx=>b - x.1)
  (λx=>a<x.1 /\(x.1<=b\/(x.1=a+1 /\x.2=l))/\PermW a x.1 l x.2 /\zY c a x.1 x.2)
  ⟨(a+1,l),⟨by show a<a+1;omega,.inr ⟨rfl,rfl⟩,PermW.refl _ _ _,zY.one _ _ _ (Nat.le_refl _)⟩,zf ?_⟩ ?_
 ·(conv=>whnf);rw[wa];rfl
 ·rintro⟨i,l1⟩ hR;have hS:a<i /\(i<=b\/(i=a+1 /\l1=l))/\PermW a i l l1 /\zY c a i l1:=hR;clear hR;obtain⟨g1,g2,g3,g4⟩:=hS;refine ze (λU=>?_) (λU=>?_)
  ·have r:i<b:=by have U:decide ((i:Int)<(b:Int))=true:=U;have:=of_decide_eq_true U;omega
   have wi:IntKind.i64.wrap ((i:Int)+1)=((i+1:Nat):Int):=zA r (by omega);(conv=>whnf)
   refine yx (P:=Pg) (f:=T8.f) (body:=cI_L0) (λx:Nat×List α=>ap3 sz (clo E g) l.length a b i x.1 (eL (en E) x.2)) (λx=>x.1)
    (λx=>a<=x.1 /\x.1<=i /\PermW a (i+1) l x.2 /\Vp c a i x.1 x.2 /\J4 R a x.1 x.2)
    ⟨(i,l1),⟨by show a<=i;omega,Nat.le_refl _,g3.mono (Nat.le_refl _) (by omega),Vp.start g4,J4.start ac g3 r⟩,zf ?_⟩ ?_
   ·exact rfl
   ·rintro⟨j,o⟩ hR;have hS:a<=j /\j<=i /\PermW a (i+1) l o /\Vp c a i j o /\J4 R a j o:=hR;clear hR;obtain⟨k1,k2,k3,k4,k6⟩:=hS;have k5:=k3.len;refine ze (λh2=>?_) (λh2=>?_)
    ·have I:a<j:=by have h2:decide ((j:Int)>(a:Int))=true:=h2;have:=of_decide_eq_true h2;omega
     have wj:IntKind.i64.wrap ((j:Int) - 1)=((j - 1:Nat):Int):=ae9 (by omega) (by omega);obtain⟨x,J⟩:=wl (l:=o) (i:=j - 1) (by omega);obtain⟨y,T⟩:=wl (l:=o) (i:=j) (by omega);refine xq ?_ (hA:=by show(0:Int)<=(j:Int);omega) (hB:=by show(j:Int)<(l.length:Int);omega);refine⟨_,qn (en E) T,?_⟩;(conv=>whnf);rw[wj];refine xq ?_ (hA:=by omega) (hB:=by omega);refine⟨_,qn (en E) J,?_⟩;(conv=>whnf);refine Sat.mono (hg x y (k6 (j - 1) x y (by omega) (by omega) J T)) ?_;rintro _ ⟨z,rfl,hz⟩;refine ze (λh3=>?_) (λh3=>?_)
     ·have ab:c y x<0:=hz.1 (of_decide_eq_true h3);(conv=>whnf);rw[wj];refine xq ?_ (hA:=by omega) (hB:=by omega);refine⟨_,qn (en E) J,?_⟩;(conv=>whnf);refine xq ?_ (hA:=by show(0:Int)<=(j:Int);omega) (hB:=by show(j:Int)<(l.length:Int);omega);refine⟨_,qn (en E) T,?_⟩;(conv=>whnf);refine xq ?_ (hA:=by show(0:Int)<=(j:Int);omega) (hB:=by show(j:Int)<(l.length:Int);omega);refine⟨_,qn (en E) T,Nat.le_refl _,?_⟩;refine xq ?_ (hA:=by omega) (hB:=by omega);obtain⟨z1,ad⟩:=aa1 (en E) (i:=j) (x:=x) J;(conv=>whnf);refine⟨_,ad,Nat.le_refl _,?_⟩;(conv=>whnf);refine⟨(j - 1,Y5 o j (j - 1) y x),⟨⟨by show a<=j - 1;omega,by show j - 1<=i;omega,k3.trans (akq T J (by omega) (by omega) (by omega) (by omega)),k4.step aa I k2 J T ab,k6.step I J T⟩,by show j - 1<j;omega⟩,zf ?_⟩;(conv=>whnf);rw[wj];have e:((eL (en E) o).set j (en E x)).set (j - 1) (en E y)=eL (en E) (Y5 o j (j - 1) y x):=by rw[Q9,Q9];rfl
      exact congrArg (ap3 sz (clo E g) l.length a b i (j - 1)) e
     ·have af: ¬c y x<0:=λh=>(of_decide_eq_false h3: ¬z<0) (hz.2 h)
      (conv=>whnf);refine⟨(i+1,o),⟨⟨by show a<i+1;omega,.inl (by show i+1<=b;omega),k3,?_⟩,by show b -(i+1)<b - i;omega⟩,zf ?_⟩
      ·exact k4.stop aa k2 (.inr ⟨x,y,J,T,by omega⟩)
      ·(conv=>whnf);rw[wi];rfl
    ·have I:j<=a:=by have h2:decide ((j:Int)>(a:Int))=false:=h2;have:=of_decide_eq_false h2;omega
     (conv=>whnf);refine⟨(i+1,o),⟨⟨by show a<i+1;omega,.inl (by show i+1<=b;omega),k3,?_⟩,by show b -(i+1)<b - i;omega⟩,zf ?_⟩
     ·exact k4.stop aa k2 (.inl I)
     ·(conv=>whnf);rw[wi];rfl
  ·have r:b<=i:=by have U:decide ((i:Int)<(b:Int))=false:=U;have:=of_decide_eq_false U;omega
   (conv=>whnf);refine⟨l1,?_,g4.mono (Nat.le_refl _) r,rfl⟩;rcases g2 with g2|⟨_,g2⟩
   ·exact g3.mono (Nat.le_refl _) g2
   ·rw[g2];exact PermW.refl _ _ _):p:=h
theorem gI {p:Prop}(h:p:=by
 intro g P X M Y S h N a b n U ha hn hb hl;have ab:P.length+X.length+M.length+Y.length+S.length=N:=by rw[U];simp;omega
 obtain⟨l0,o⟩: ∃l0,l0=P++X++M++Y++S:=⟨_,rfl⟩;rw[<- o];refine qA T8 cW_ok (by kernel_rfl) (by simp) ?_
 conv=>whnf
 refine yl (P:=Pg) (f:=T8.f) (body:=cW_L0) n (λi=>swS sz N a b n i (eL (en E) (Qt P X M Y S i))) (λ_=>True) ⟨trivial,zf ?_⟩ ?_
 ·(conv=>whnf);rw[o,<- aob];rfl
 ·intro i hi _;have r:=apm P X M Y S i h (by omega);rw[<- U]at r;refine ze (λj=>?_) (λj=>?_)
  ·have I:i<n:=by have j:decide ((i:Int)<(n:Int))=true:=j;have:=of_decide_eq_true j;omega
   obtain⟨x,y,J,R,hs⟩:=aoa P X M Y S i h (by omega);rw[<- hb]at R hs;rw[<- ha]at J hs;have wi:IntKind.i64.wrap ((i:Int)+1)=((i+1:Nat):Int):=zA I (by omega);have wa:IntKind.i64.wrap ((a:Int)+(i:Int))=((a+i:Nat):Int):=by rw[ya (by omega) (by omega)];omega
   have wb:IntKind.i64.wrap ((b:Int)+(i:Int))=((b+i:Nat):Int):=by rw[ya (by omega) (by omega)];omega
   (conv=>whnf);rw[wb];refine xq ?_ (hA:=by omega) (hB:=by omega);refine⟨_,qn (en E) R,?_⟩;(conv=>whnf);rw[wa];refine xq ?_ (hA:=by omega) (hB:=by omega);refine⟨_,qn (en E) J,?_⟩;(conv=>whnf);refine xq ?_ (hA:=by omega) (hB:=by omega);refine⟨_,qn (en E) J,Nat.le_refl _,?_⟩;refine xq ?_ (hA:=by omega) (hB:=by omega);obtain⟨z1,T⟩:=aa1 (en E) (i:=a+i) (x:=y) R;(conv=>whnf);refine⟨_,T,Nat.le_refl _,?_⟩;refine yF I trivial ?_;rw[wi];have e:((eL (en E) (Qt P X M Y S i)).set (a+i) (en E y)).set (b+i) (en E x)=eL (en E) (Qt P X M Y S (i+1)):=by rw[Q9,Q9,<- hs];rfl
   exact congrArg (swS sz N a b n (i+1)) e
  ·have aa:n<=i:=by have j:decide ((i:Int)<(n:Int))=false:=j;have:=of_decide_eq_false j;omega
   obtain rfl:i=n:=by omega
   (conv=>whnf);have e:=apl P X M Y S h;rw[<- hn]at e;exact congrArg (λl=>(⟨.tup [],[.arr sz (eL (en E) l) false]⟩:Res)) e):p:=h
theorem ahg {p:Prop}(h:p:=by
 intro g j N a m b hN ha hm hb hA hB hl;have ag:j.P.length+j.A.length+j.B.length+j.S.length=N:=by rw[hN];simp[Rt.l];omega
 have w1:IntKind.i64.wrap ((m:Int) -(a:Int))=((j.A.length:Nat):Int):=by rw[ya (by omega) (by omega)];omega
 have w2:IntKind.i64.wrap ((b:Int) -(m:Int))=((j.B.length:Nat):Int):=by rw[ya (by omega) (by omega)];omega
 refine qA T8 cO_ok (by kernel_rfl) (by simp) ?_
 conv=>whnf
 refine yx (P:=Pg) (f:=T8.f) (body:=cO_L0) (λx:Rt α=>agq sz (clo E g) N m x.A.length x.B.length (eL (en E) x.l)) (λx=>x.A.length+x.B.length)
  (λx=>x.P.length+x.A.length=m /\0<x.A.length /\0<x.B.length /\x.l.length=N /\x.t=j.t)
  ⟨j,⟨by omega,hA,hB,hN.symm,rfl⟩,zf ?_⟩ ?_
 ·(conv=>whnf);rw[w1,w2];rfl
 ·rintro⟨P,A,B,S⟩ hR;have hS:P.length+A.length=m /\0<A.length /\0<B.length /\(P++A++B++S).length=N /\P++B++A++S=j.t:=hR;clear hR;obtain⟨g1,g2,g3,U,g5⟩:=hS;have g6:P.length+A.length+B.length+S.length=N:=by rw[<- U];simp;omega
  have J:IntKind.i64.wrap ((m:Int) -(A.length:Int))=((P.length:Nat):Int):=by rw[ya (by omega) (by omega)];omega
  refine ze (λo=>?_) (λo=>?_)
  ·have af:A.length≠B.length:=by
    intro e;have o:(((A.length:Nat):Int) !=((B.length:Nat):Int))=true:=o;rw[e]at o;simp at o
   refine ze (λI=>?_) (λI=>?_)
   ·have ad:B.length<A.length:=by have I:decide ((A.length:Int)>(B.length:Int))=true:=I;have:=of_decide_eq_true I;omega
    have aa:IntKind.i64.wrap ((A.length:Int) -(B.length:Int))=(((A.drop B.length).length:Nat):Int):=by rw[ya (by omega) (by omega),List.length_drop];omega
    have r:(A.take B.length).length=B.length:=by rw[List.length_take];omega
    have R:(A.drop B.length).length=A.length - B.length:=List.length_drop;have T:A.take B.length++A.drop B.length=A:=List.take_append_drop _ _;(conv=>whnf);rw[J];obtain⟨l',i⟩: ∃l',l'=(P++B)++A.drop B.length++A.take B.length++S:=⟨_,rfl⟩;refine zD.mono (swapRange' E g P (A.take B.length) (A.drop B.length) B S (P++A++B++S) l' ?_ i r N P.length m B.length U.symm rfl r.symm (by omega) hl) ?_
    ·rw[List.append_assoc P (A.take _),T]
    rintro _ rfl;(conv=>whnf);refine⟨⟨P++B,A.drop B.length,A.take B.length,S⟩,⟨⟨?_,?_,?_,?_,?_⟩,?_⟩,zf ?_⟩
    ·show(P++B).length+(A.drop B.length).length=m;rw[R,List.length_append];omega
    ·show 0<(A.drop B.length).length;omega
    ·show 0<(A.take B.length).length;omega
    ·show((P++B)++A.drop B.length++A.take B.length++S).length=N;simp only[List.length_append,r,R];omega
    ·show(P++B)++A.take B.length++A.drop B.length++S=j.t;rw[<- g5,List.append_assoc (P++B) (A.take _),T]
    ·show(A.drop B.length).length+(A.take B.length).length<A.length+B.length;omega
    ·(conv=>whnf);rw[aa];show agq sz (clo E g) N m (A.drop B.length).length B.length (eL (en E) l')=agq sz (clo E g) N m (A.drop B.length).length (A.take B.length).length (eL (en E) ((P++B)++A.drop B.length++A.take B.length++S));rw[r,i]
   ·have ae:A.length<B.length:=by have I:decide ((A.length:Int)>(B.length:Int))=false:=I;have:=of_decide_eq_false I;omega
    have r:(B.take (B.length - A.length)).length=B.length - A.length:=by rw[List.length_take];omega
    have R:(B.drop (B.length - A.length)).length=A.length:=by rw[List.length_drop];omega
    have T:B.take (B.length - A.length)++B.drop (B.length - A.length)=B:=List.take_append_drop _ _;have ab:IntKind.i64.wrap ((B.length:Int) -(A.length:Int))=(((B.take (B.length - A.length)).length:Nat):Int):=by rw[ya (by omega) (by omega),r];omega
    have ac:IntKind.i64.wrap ((m:Int)+(B.length:Int))=((m+B.length:Nat):Int):=by rw[ya (by omega) (by omega)];omega
    have wk:IntKind.i64.wrap (((m+B.length:Nat):Int) -(A.length:Int))=((m+B.length - A.length:Nat):Int):=by rw[ya (by omega) (by omega)];omega
    (conv=>whnf);rw[J,ac,wk];obtain⟨l',i⟩: ∃l',l'=P++B.drop (B.length - A.length)++B.take (B.length - A.length)++(A++S):=⟨_,rfl⟩;refine zD.mono (swapRange' E g P A (B.take (B.length - A.length)) (B.drop (B.length - A.length)) S (P++A++B++S) l' ?_ ?_ R.symm N P.length (m+B.length - A.length) A.length U.symm rfl rfl (by omega) hl) ?_
    ·rw[List.append_assoc (P++A) (B.take _),T]
    ·rw[i];simp only[List.append_assoc]
    rintro _ rfl;(conv=>whnf);refine⟨⟨P,B.drop (B.length - A.length),B.take (B.length - A.length),A++S⟩,⟨⟨?_,?_,?_,?_,?_⟩,?_⟩,zf ?_⟩
    ·show P.length+(B.drop (B.length - A.length)).length=m;omega
    ·show 0<(B.drop (B.length - A.length)).length;omega
    ·show 0<(B.take (B.length - A.length)).length;omega
    ·show(P++B.drop (B.length - A.length)++B.take (B.length - A.length)++(A++S)).length=N;simp only[List.length_append,r,R];omega
    ·show P++B.take (B.length - A.length)++B.drop (B.length - A.length)++(A++S)=j.t;rw[<- g5,List.append_assoc P (B.take _),T];simp only[List.append_assoc]
    ·show(B.drop (B.length - A.length)).length+(B.take (B.length - A.length)).length<A.length+B.length;omega
    ·(conv=>whnf);rw[ab];show agq sz (clo E g) N m A.length (B.take (B.length - A.length)).length (eL (en E) l')=agq sz (clo E g) N m (B.drop (B.length - A.length)).length (B.take (B.length - A.length)).length (eL (en E) (P++B.drop (B.length - A.length)++B.take (B.length - A.length)++(A++S)));rw[R,i]
  ·have heq:A.length=B.length:=by
    have o:(((A.length:Nat):Int) !=((B.length:Nat):Int))=false:=o;rw[bne_eq_false_iff_eq]at o;omega
   (conv=>whnf);rw[J];refine zD.mono (swapRange' E g P A [] B S (P++A++B++S) (P++B++A++S) (by simp) (by simp) heq N P.length m A.length U.symm rfl rfl (by simp;omega) hl) ?_;rintro _ rfl;(conv=>whnf);exact congrArg (λl=>(⟨.tup [],[.arr sz (eL (en E) l) false]⟩:Res)) g5):p:=h
theorem ab2 {p:Prop}(h:p:=by
 intro g c ac R hg N hl;intro k;induction k with
 |zero=>intro l a m b h0 h1 h2;omega
 |succ k ih=>
 intro l a m b h0 h1 h2 hb hN ar au ae;refine qA T8 cM_ok (by kernel_rfl) (by simp) ?_;refine ze (λe1=>?_) (λe1=>?_)
 ·have hm:m=a+1:=by
   have e1:(IntKind.i64.wrap ((m:Int) -(a:Int))==1)=true:=e1;rw[ya (by omega) (by omega)]at e1;have:=eq_of_beq e1;omega
  obtain⟨x,hx⟩:=wl (l:=l) (i:=a) (by omega);(conv=>whnf)
  refine yx (P:=Pg) (f:=T8.f) (body:=cM_L0) (λz:Nat×Nat=>ary sz (clo E g) N a z.1 z.2 (eL (en E) l)) (λz=>z.2 - z.1)
   (λz=>m<=z.1 /\z.1<=z.2 /\z.2<=b /\(z.1=m\/ ∃u,l[z.1 - 1]? =some u /\c u x<=0)/\(z.2=b\/ ∃u,l[z.2]? =some u /\c x u<=0))
   ⟨(m,b),⟨by omega,by omega,by omega,.inl rfl,.inl rfl⟩,zf ?_⟩ ?_
  ·exact rfl
  ·rintro⟨i,j⟩ hR;have hS:m<=i /\i<=j /\j<=b /\(i=m\/ ∃u,l[i - 1]? =some u /\c u x<=0)/\(j=b\/ ∃u,l[j]? =some u /\c x u<=0):=hR;clear hR;obtain⟨g1,g2,g3,g4,g5⟩:=hS;refine ze (λk1=>?_) (λk1=>?_)
   ·have aa:i<j:=by have k1:decide ((i:Int)<(j:Int))=true:=k1;have:=of_decide_eq_true k1;omega
    have wh:=afQ i j (by omega);obtain⟨h,hh⟩: ∃h,h=(i+j)/2:=⟨_,rfl⟩;rw[<- hh]at wh;obtain⟨u,hu⟩:=wl (l:=l) (i:=h) (by omega);have w1:IntKind.i64.wrap ((h:Int)+1)=((h+1:Nat):Int):=zA (n:=b) (by omega) (by omega);(conv=>whnf);refine⟨by decide,?_⟩;(conv=>whnf);rw[wh];refine xq ?_ (hA:=by omega) (hB:=by omega);refine⟨_,qn (en E) hu,?_⟩;(conv=>whnf);refine xq ?_ (hA:=by omega) (hB:=by omega);refine⟨_,qn (en E) hx,?_⟩;(conv=>whnf);refine Sat.mono (hg x u (ae a h x u (Nat.le_refl _) (by omega) (by omega) (by omega) hx hu)) ?_;rintro _ ⟨z,rfl,hz⟩;refine ze (λk2=>?_) (λk2=>?_)
    ·have an:c u x<0:=hz.1 (of_decide_eq_true k2);(conv=>whnf);refine⟨(h+1,j),⟨⟨by show m<=h+1;omega,by show h+1<=j;omega,g3,.inr ⟨u,hu,by omega⟩,g5⟩,by show j -(h+1)<j - i;omega⟩,zf ?_⟩;(conv=>whnf);rw[w1];rfl
    ·have ak: ¬c u x<0:=λh=>(of_decide_eq_false k2: ¬z<0) (hz.2 h)
     (conv=>whnf);refine⟨(i,h),⟨⟨g1,by show i<=h;omega,by show h<=b;omega,g4,.inr ⟨u,hu,ac.ge.1 (by omega)⟩⟩,by show h - i<j - i;omega⟩,zf ?_⟩;exact rfl
   ·have aa:j=i:=by have k1:decide ((i:Int)<(j:Int))=false:=k1;have:=of_decide_eq_false k1;omega
    subst aa;have wi:IntKind.i64.wrap ((j:Int) - 1)=((j - 1:Nat):Int):=ae9 (by omega) (by omega);(conv=>whnf)
    refine yx (P:=Pg) (f:=T8.f) (body:=cM_L1) (λz:Nat×List α=>aqh sz N j z.1 (eL (en E) z.2)) (λz=>j - z.1)
     (λz=>a<=z.1 /\z.1<=j - 1 /\PermW a b l z.2 /\ ∀p,z.2[p]? =if a<=p /\p<z.1 then l[p+1]? else if p=z.1 then l[a]? else l[p]?)
     ⟨(a,l),⟨Nat.le_refl _,by omega,PermW.refl _ _ _,λp=>?_⟩,zf ?_⟩ ?_
    ·rw[if_neg (by omega)];split
     ·rename_i e;rw[e]
     ·rfl
    ·exact rfl
    ·rintro⟨q,U⟩ hR;have hS:a<=q /\q<=j - 1 /\PermW a b l U /\ ∀p,U[p]? =if a<=p /\p<q then l[p+1]? else if p=q then l[a]? else l[p]? :=hR
     clear hR;obtain⟨r1,r2,r3,r4⟩:=hS;have r5:=r3.len;refine ze (λk3=>?_) (λk3=>?_)
     ·have hq:q<j - 1:=by
       have k3:decide ((q:Int)<IntKind.i64.wrap ((j:Int) - 1))=true:=k3;rw[wi]at k3;have:=of_decide_eq_true k3;omega
      have wq:IntKind.i64.wrap ((q:Int)+1)=((q+1:Nat):Int):=zA (n:=b) (by omega) (by omega);obtain⟨u,hu⟩:=wl (l:=U) (i:=q) (by omega);obtain⟨v,hv⟩:=wl (l:=U) (i:=q+1) (by omega);obtain⟨z,hz⟩:=aa1 (en E) (i:=q) (x:=v) hv;(conv=>whnf);rw[wq];refine xq ?_ (hA:=by omega) (hB:=by omega);refine⟨_,qn (en E) hv,?_⟩;(conv=>whnf);refine xq ?_ (hA:=by show(0:Int)<=(q:Int);omega) (hB:=by show(q:Int)<(N:Int);omega);refine⟨_,qn (en E) hu,?_⟩;(conv=>whnf);refine xq ?_ (hA:=by show(0:Int)<=(q:Int);omega) (hB:=by show(q:Int)<(N:Int);omega);refine⟨_,qn (en E) hu,Nat.le_refl _,?_⟩;refine xq ?_ (hA:=by omega) (hB:=by omega);refine⟨_,hz,Nat.le_refl _,?_⟩;(conv=>whnf);refine⟨(q+1,Y5 U q (q+1) u v),⟨⟨by show a<=q+1;omega,by show q+1<=j - 1;omega,r3.trans (akq hu hv (by omega) (by omega) (by omega) (by omega)),λp=>?_⟩,by show j -(q+1)<j - q;omega⟩,zf ?_⟩
      ·rw[r4]at hu hv;rw[if_neg (by omega),if_pos rfl]at hu;rw[if_neg (by omega),if_neg (by omega)]at hv;show(Y5 U q (q+1) u v)[p]? =if a<=p /\p<q+1 then l[p+1]? else if p=q+1 then l[a]? else l[p]?
       have av:U[q]? =some u:=by rw[r4,if_neg (by omega),if_pos rfl];exact hu
       have aw:U[q+1]? =some v:=by rw[r4,if_neg (by omega),if_neg (by omega)];exact hv
       rw[QR av aw,r4 p];by_cases p1:p=q+1
       ·rw[if_pos p1,if_neg (by omega),if_pos p1,hu]
       ·rw[if_neg p1];by_cases J:p=q
        ·rw[if_pos J,if_pos (by omega),J,hv]
        ·rw[if_neg J];by_cases p3:a<=p /\p<q
         ·rw[if_pos p3,if_pos (by omega)]
         ·rw[if_neg p3,if_neg J,if_neg (by omega),if_neg p1]
      ·(conv=>whnf);rw[wq];exact congrArg (aqh sz N j (q+1)) (ag7 (en E) u v)
     ·have hq:q=j - 1:=by
       have k3:decide ((q:Int)<IntKind.i64.wrap ((j:Int) - 1))=false:=k3;rw[wi]at k3;have:=of_decide_eq_false k3;omega
      subst hq;(conv=>whnf);exact⟨U,r3,aph ac hx (by omega) g3 (au.mono (by omega) (Nat.le_refl _)) r4 (by rcases g4 with g4|g4;exact .inl (by omega);exact .inr g4) g5,rfl⟩
 ·have hm:a+1<m:=by
   have e1:(IntKind.i64.wrap ((m:Int) -(a:Int))==1)=false:=e1;rw[ya (by omega) (by omega),beq_eq_false_iff_ne]at e1;omega
  refine ze (λe2=>?_) (λe2=>?_)
  ·have ax:b=m+1:=by
    have e2:(IntKind.i64.wrap ((b:Int) -(m:Int))==1)=true:=e2;rw[ya (by omega) (by omega)]at e2;have:=eq_of_beq e2;omega
   obtain⟨x,hx⟩:=wl (l:=l) (i:=m) (by omega);(conv=>whnf)
   refine yx (P:=Pg) (f:=T8.f) (body:=cM_L2) (λz:Nat×Nat=>arz sz (clo E g) N m z.1 z.2 (eL (en E) l)) (λz=>z.2 - z.1)
    (λz=>a<=z.1 /\z.1<=z.2 /\z.2<=m /\(z.1=a\/ ∃u,l[z.1 - 1]? =some u /\c u x<=0)/\(z.2=m\/ ∃u,l[z.2]? =some u /\c x u<=0))
    ⟨(a,m),⟨by omega,by omega,by omega,.inl rfl,.inl rfl⟩,zf ?_⟩ ?_
   ·exact rfl
   ·rintro⟨i,j⟩ hR;have hS:a<=i /\i<=j /\j<=m /\(i=a\/ ∃u,l[i - 1]? =some u /\c u x<=0)/\(j=m\/ ∃u,l[j]? =some u /\c x u<=0):=hR;clear hR;obtain⟨g1,g2,g3,g4,g5⟩:=hS;refine ze (λk1=>?_) (λk1=>?_)
    ·have aa:i<j:=by have k1:decide ((i:Int)<(j:Int))=true:=k1;have:=of_decide_eq_true k1;omega
     have wh:=afQ i j (by omega);obtain⟨h,hh⟩: ∃h,h=(i+j)/2:=⟨_,rfl⟩;rw[<- hh]at wh;obtain⟨u,hu⟩:=wl (l:=l) (i:=h) (by omega);have w1:IntKind.i64.wrap ((h:Int)+1)=((h+1:Nat):Int):=zA (n:=b) (by omega) (by omega);(conv=>whnf);refine⟨by decide,?_⟩;refine xq ?_ (hA:=by omega) (hB:=by omega);refine⟨_,qn (en E) hx,?_⟩;(conv=>whnf);rw[wh];refine xq ?_ (hA:=by omega) (hB:=by omega);refine⟨_,qn (en E) hu,?_⟩;(conv=>whnf);refine Sat.mono (hg u x (ae h m u x (by omega) (by omega) (Nat.le_refl _) (by omega) hu hx)) ?_;rintro _ ⟨z,rfl,hz⟩;refine ze (λk2=>?_) (λk2=>?_)
     ·have ak: ¬c x u<0:=by
       have k2:(!decide (z<0))=true:=k2;rw[<- hz];simpa using k2
      (conv=>whnf);refine⟨(h+1,j),⟨⟨by show a<=h+1;omega,by show h+1<=j;omega,g3,.inr ⟨u,hu,ac.ge.1 (by omega)⟩,g5⟩,by show j -(h+1)<j - i;omega⟩,zf ?_⟩;(conv=>whnf);rw[w1];rfl
     ·have an:c x u<0:=by
       have k2:(!decide (z<0))=false:=k2;rw[<- hz];simpa using k2
      (conv=>whnf);refine⟨(i,h),⟨⟨g1,by show i<=h;omega,by show h<=m;omega,g4,.inr ⟨u,hu,by omega⟩⟩,by show h - i<j - i;omega⟩,zf ?_⟩;exact rfl
    ·have aa:j=i:=by have k1:decide ((i:Int)<(j:Int))=false:=k1;have:=of_decide_eq_false k1;omega
     subst aa;(conv=>whnf)
     refine yx (P:=Pg) (f:=T8.f) (body:=cM_L3) (λz:Nat×List α=>aqi sz N j z.1 (eL (en E) z.2)) (λz=>z.1)
      (λz=>j<=z.1 /\z.1<=m /\PermW a b l z.2 /\ ∀p,z.2[p]? =if z.1<p /\p<=m then l[p - 1]? else if p=z.1 then l[m]? else l[p]?)
      ⟨(m,l),⟨g3,Nat.le_refl _,PermW.refl _ _ _,λp=>?_⟩,zf ?_⟩ ?_
     ·rw[if_neg (by omega)];split
      ·rename_i e;rw[e]
      ·rfl
     ·exact rfl
     ·rintro⟨q,U⟩ hR;have hS:j<=q /\q<=m /\PermW a b l U /\ ∀p,U[p]? =if q<p /\p<=m then l[p - 1]? else if p=q then l[m]? else l[p]? :=hR
      clear hR;obtain⟨r1,r2,r3,r4⟩:=hS;have r5:=r3.len;refine ze (λk3=>?_) (λk3=>?_)
      ·have hq:j<q:=by
        have k3:decide ((q:Int)>(j:Int))=true:=k3;have:=of_decide_eq_true k3;omega
       have wq:IntKind.i64.wrap ((q:Int) - 1)=((q - 1:Nat):Int):=ae9 (by omega) (by omega);obtain⟨u,hu⟩:=wl (l:=U) (i:=q) (by omega);obtain⟨v,hv⟩:=wl (l:=U) (i:=q - 1) (by omega);obtain⟨z,hz⟩:=aa1 (en E) (i:=q) (x:=v) hv;(conv=>whnf);rw[wq];refine xq ?_ (hA:=by omega) (hB:=by omega);refine⟨_,qn (en E) hv,?_⟩;(conv=>whnf);refine xq ?_ (hA:=by show(0:Int)<=(q:Int);omega) (hB:=by show(q:Int)<(N:Int);omega);refine⟨_,qn (en E) hu,?_⟩;(conv=>whnf);refine xq ?_ (hA:=by show(0:Int)<=(q:Int);omega) (hB:=by show(q:Int)<(N:Int);omega);refine⟨_,qn (en E) hu,Nat.le_refl _,?_⟩;refine xq ?_ (hA:=by omega) (hB:=by omega);refine⟨_,hz,Nat.le_refl _,?_⟩;(conv=>whnf);refine⟨(q - 1,Y5 U q (q - 1) u v),⟨⟨by show j<=q - 1;omega,by show q - 1<=m;omega,r3.trans (akq hu hv (by omega) (by omega) (by omega) (by omega)),λp=>?_⟩,by show q - 1<q;omega⟩,zf ?_⟩
       ·rw[r4]at hu hv;rw[if_neg (by omega),if_pos rfl]at hu;rw[if_neg (by omega),if_neg (by omega)]at hv;show(Y5 U q (q - 1) u v)[p]? =if q - 1<p /\p<=m then l[p - 1]? else if p=q - 1 then l[m]? else l[p]?
        have av:U[q]? =some u:=by rw[r4,if_neg (by omega),if_pos rfl];exact hu
        have aw:U[q - 1]? =some v:=by rw[r4,if_neg (by omega),if_neg (by omega)];exact hv
        rw[QR av aw,r4 p];by_cases p1:p=q - 1
        ·rw[if_pos p1,if_neg (by omega),if_pos p1,hu]
        ·rw[if_neg p1];by_cases J:p=q
         ·rw[if_pos J,if_pos (by omega),J,hv]
         ·rw[if_neg J];by_cases p3:q<p /\p<=m
          ·rw[if_pos p3,if_pos (by omega)]
          ·rw[if_neg p3,if_neg J,if_neg (by omega),if_neg p1]
       ·(conv=>whnf);rw[wq];exact congrArg (aqi sz N j (q - 1)) (ag7 (en E) u v)
      ·have hq:q=j:=by
        have k3:decide ((q:Int)>(j:Int))=false:=k3;have:=of_decide_eq_false k3;omega
       subst hq;(conv=>whnf);exact⟨U,r3,by rw[ax];exact al7 ac hx g1 g3 ar r4 g4 g5,rfl⟩
  ·have ax:m+1<b:=by
    have e2:(IntKind.i64.wrap ((b:Int) -(m:Int))==1)=false:=e2;rw[ya (by omega) (by omega),beq_eq_false_iff_ne]at e2;omega
   have wh:=afQ a b (by omega);obtain⟨o,ay⟩: ∃o,o=(a+b)/2:=⟨_,rfl⟩;rw[<- ay]at wh;have wn:IntKind.i64.wrap ((o:Int)+(m:Int))=((o+m:Nat):Int):=by rw[ya (by omega) (by omega)];omega
   have a0:IntKind.i64.wrap (((o+m:Nat):Int) -(b:Int))=((o+m - b:Nat):Int)\/m<=o:=by
    by_cases h:m<=o
    ·exact .inr h
    ·exact .inl (by rw[ya (by omega) (by omega)];omega)
   have wp:IntKind.i64.wrap (((o+m:Nat):Int) - 1)=((o+m - 1:Nat):Int):=ae9 (by omega) (by omega);(conv=>whnf);refine⟨by decide,?_⟩;(conv=>whnf);rw[wh];refine zt (λe3=>?_) (λe3=>?_)
   ·have az:o<m:=by
     have e3:decide ((m:Int)>(o:Int))=true:=e3;have:=of_decide_eq_true e3;omega
    (conv=>whnf);rw[wn]
    refine yx (P:=Pg) (f:=T8.f) (body:=cM_L4) (λz:Nat×Nat=>aqj sz (clo E g) N a m b o (o+m) z.1 z.2 (o+m - 1) (eL (en E) l)) (λz=>z.2 - z.1)
     (λz=>o+m - b<=z.1 /\z.1<=z.2 /\z.2<=o /\(z.1=o+m - b\/X3 c l (z.1 - 1) (o+m - z.1))/\(z.2=o\/X3 c l (o+m - 1 - z.2) z.2))
     ⟨(o+m - b,o),⟨Nat.le_refl _,by show o+m - b<=o;omega,Nat.le_refl _,.inl rfl,.inl rfl⟩,zf ?_⟩ ?_
    ·(conv=>whnf);rw[wp,a0.resolve_right (by omega)];rfl
    ·rintro⟨s,r⟩ hR;have hS:o+m - b<=s /\s<=r /\r<=o /\(s=o+m - b\/X3 c l (s - 1) (o+m - s))/\(r=o\/X3 c l (o+m - 1 - r) r):=hR;clear hR;obtain⟨g1,g2,g3,g4,g5⟩:=hS;refine ze (λk1=>?_) (λk1=>?_)
     ·have aa:s<r:=by have k1:decide ((s:Int)<(r:Int))=true:=k1;have:=of_decide_eq_true k1;omega
      have wq:=afQ s r (by omega);obtain⟨h,hh⟩: ∃h,h=(s+r)/2:=⟨_,rfl⟩;rw[<- hh]at wq;obtain⟨u,hu⟩:=wl (l:=l) (i:=h) (by omega);obtain⟨v,hv⟩:=wl (l:=l) (i:=o+m - 1 - h) (by omega);have w1:IntKind.i64.wrap ((h:Int)+1)=((h+1:Nat):Int):=zA (n:=b) (by omega) (by omega);have wv:IntKind.i64.wrap (((o+m - 1:Nat):Int) -(h:Int))=((o+m - 1 - h:Nat):Int):=by rw[ya (by omega) (by omega)];omega
      (conv=>whnf);refine⟨by decide,?_⟩;(conv=>whnf);rw[wq,wv];refine xq ?_ (hA:=by omega) (hB:=by omega);refine⟨_,qn (en E) hv,?_⟩;(conv=>whnf);refine xq ?_ (hA:=by omega) (hB:=by omega);refine⟨_,qn (en E) hu,?_⟩;(conv=>whnf);refine Sat.mono (hg u v (ae h (o+m - 1 - h) u v (by omega) (by omega) (by omega) (by omega) hu hv)) ?_;rintro _ ⟨z,rfl,hz⟩;refine ze (λk2=>?_) (λk2=>?_)
      ·have ak: ¬c v u<0:=by
        have k2:(!decide (z<0))=true:=k2;rw[<- hz];simpa using k2
       (conv=>whnf);refine⟨(h+1,r),⟨⟨by show o+m - b<=h+1;omega,by show h+1<=r;omega,g3,.inr ⟨u,v,hu,?_,ac.ge.1 (by omega)⟩,g5⟩,by show r -(h+1)<r - s;omega⟩,zf ?_⟩
       ·rw[<- hv];congr 1;show o+m -(h+1)=_;omega
       (conv=>whnf);rw[w1];rfl
      ·have an:c v u<0:=by
        have k2:(!decide (z<0))=false:=k2;rw[<- hz];simpa using k2
       (conv=>whnf);refine⟨(s,h),⟨⟨g1,by show s<=h;omega,by show h<=o;omega,g4,.inr ⟨v,u,hv,hu,by omega⟩⟩,by show h - s<r - s;omega⟩,zf ?_⟩;exact rfl
     ·have aa:r=s:=by have k1:decide ((s:Int)<(r:Int))=false:=k1;have:=of_decide_eq_false k1;omega
      subst aa;obtain⟨e,he⟩: ∃e,e=o+m - r:=⟨_,rfl⟩;have we:IntKind.i64.wrap (((o+m:Nat):Int) -(r:Int))=(e:Int):=by rw[ya (by omega) (by omega)];omega
      have ai:r=a\/e=b\/X3 c l (r - 1) e:=by
       rcases g4 with g4|⟨u,v,q1,q2,q3⟩
       ·right;left;omega
       ·exact .inr (.inr ⟨u,v,q1,by rw[he];exact q2,q3⟩)
      have aj:r=m\/e=m\/X3 c l (e - 1) r:=by
       rcases g5 with g5|⟨u,v,q1,q2,q3⟩
       ·right;left;omega
       ·refine .inr (.inr ⟨u,v,?_,q2,q3⟩);rw[<- q1];congr 1;omega
      have ab:=λ(U:List α) (hr:ZG r m e l U)=>adM ac (show a<=r by omega) (show r<=m by omega) (show m<=e by omega) (show e<=b by omega) hr ar au ai aj
      have af:r+(e - m)=o:=by omega
      simp only[af]at ab;have ad:=λ(U:List α) (hr:ZG r m e l U)=>ae.rot (show a<=r by omega) (show r<=m by omega) (show m<=e by omega) (show e<=b by omega) hr
      simp only[af]at ad;(conv=>whnf);rw[we];refine zt (λf1=>?_) (λf1=>?_)
      ·have f1:r<m /\m<e:=u9 f1;(conv=>whnf);refine zD.mono (rotate' E g l N r m e f1.1 f1.2 (by omega) hN hl) ?_;rintro _ rfl;have ag:ZG r m e l (aak r m e l):=acV (by omega) (by omega) (by omega);have ah:PermW r e l (aak r m e l):=aos (by omega) (by omega) (by omega);obtain⟨U,al⟩: ∃U,U=aak r m e l:=⟨_,rfl⟩;rw[<- al]at ag ah⊢;have hr:=ag;have hw:=ah;have hrel:=ad U hr;obtain⟨s1,s2,s3,s4,s5⟩:=ab U hr;have ao:=hw.len;refine ze (λf2=>?_) (λf2=>?_)
       ·have f2:a<r /\r<o:=u9 f2;(conv=>whnf);refine zD.mono (ih U a r o (by omega) f2.1 f2.2 (by omega) (by omega) s1 s2 hrel.1) ?_;rintro _ ⟨l2,J,t2,rfl⟩;have aq:=J.len;refine ze (λI=>?_) (λI=>?_)
        ·have I:o<e /\e<b:=u9 I;(conv=>whnf);refine zD.mono (ih l2 o e b (by omega) I.1 I.2 (by omega) (by omega) (s3.same λi T _=>J.out i (.inr T)) (s4.same λi T _=>J.out i (.inr (by omega))) (hrel.2.same λi hi=>J.out i (.inr (by omega)))) ?_;rintro _ ⟨l3,p3,t3,rfl⟩;have fin:=qy hw (show a<=r by omega) (show e<=b by omega) J p3 (by omega) (by omega) t2 t3 s5;(conv=>whnf);exact⟨l3,fin.1,fin.2,rfl⟩
        ·have I:e<=o\/b<=e:=u7 I;have t3:zY c o b l2:=by
          rcases I with I|I
          ·exact(s4.mono (show e<=o by omega) (Nat.le_refl _)).same λi T _=>J.out i (.inr T)
          ·exact(s3.mono (Nat.le_refl _) (show b<=e by omega)).same λi T _=>J.out i (.inr T)
         have fin:=qy hw (show a<=r by omega) (show e<=b by omega) J (PermW.refl o b l2) (by omega) (by omega) t2 t3 s5;(conv=>whnf);exact⟨l2,fin.1,fin.2,rfl⟩
       ·have f2:r<=a\/o<=r:=u7 f2;have J:PermW a o U U:=PermW.refl _ _ _;have t2:zY c a o U:=by
         rcases f2 with f2|f2
         ·exact s2.mono (show r<=a by omega) (Nat.le_refl _)
         ·exact s1.mono (Nat.le_refl _) (show o<=r by omega)
        refine ze (λI=>?_) (λI=>?_)
        ·have I:o<e /\e<b:=u9 I;(conv=>whnf);refine zD.mono (ih U o e b (by omega) I.1 I.2 (by omega) (by omega) (s3.same λi T _=>J.out i (.inr T)) (s4.same λi T _=>J.out i (.inr (by omega))) (hrel.2.same λi hi=>J.out i (.inr (by omega)))) ?_;rintro _ ⟨l3,p3,t3,rfl⟩;have fin:=qy hw (show a<=r by omega) (show e<=b by omega) J p3 (by omega) (by omega) t2 t3 s5;(conv=>whnf);exact⟨l3,fin.1,fin.2,rfl⟩
        ·have I:e<=o\/b<=e:=u7 I;have t3:zY c o b U:=by
          rcases I with I|I
          ·exact(s4.mono (show e<=o by omega) (Nat.le_refl _)).same λi T _=>J.out i (.inr T)
          ·exact(s3.mono (Nat.le_refl _) (show b<=e by omega)).same λi T _=>J.out i (.inr T)
         have fin:=qy hw (show a<=r by omega) (show e<=b by omega) J (PermW.refl o b U) (by omega) (by omega) t2 t3 s5;(conv=>whnf);exact⟨U,fin.1,fin.2,rfl⟩
      ·have f1:m<=r\/e<=m:=u7 f1;have hr:ZG r m e l l:=ZG.same (by omega) (by omega) (by omega);have hw:PermW r e l l:=PermW.refl _ _ _;have hrel:=ad l hr;obtain⟨s1,s2,s3,s4,s5⟩:=ab l hr;have ao:=hw.len;refine ze (λf2=>?_) (λf2=>?_)
       ·have f2:a<r /\r<o:=u9 f2;(conv=>whnf);refine zD.mono (ih l a r o (by omega) f2.1 f2.2 (by omega) (by omega) s1 s2 hrel.1) ?_;rintro _ ⟨l2,J,t2,rfl⟩;have aq:=J.len;refine ze (λI=>?_) (λI=>?_)
        ·have I:o<e /\e<b:=u9 I;(conv=>whnf);refine zD.mono (ih l2 o e b (by omega) I.1 I.2 (by omega) (by omega) (s3.same λi T _=>J.out i (.inr T)) (s4.same λi T _=>J.out i (.inr (by omega))) (hrel.2.same λi hi=>J.out i (.inr (by omega)))) ?_;rintro _ ⟨l3,p3,t3,rfl⟩;have fin:=qy hw (show a<=r by omega) (show e<=b by omega) J p3 (by omega) (by omega) t2 t3 s5;(conv=>whnf);exact⟨l3,fin.1,fin.2,rfl⟩
        ·have I:e<=o\/b<=e:=u7 I;have t3:zY c o b l2:=by
          rcases I with I|I
          ·exact(s4.mono (show e<=o by omega) (Nat.le_refl _)).same λi T _=>J.out i (.inr T)
          ·exact(s3.mono (Nat.le_refl _) (show b<=e by omega)).same λi T _=>J.out i (.inr T)
         have fin:=qy hw (show a<=r by omega) (show e<=b by omega) J (PermW.refl o b l2) (by omega) (by omega) t2 t3 s5;(conv=>whnf);exact⟨l2,fin.1,fin.2,rfl⟩
       ·have f2:r<=a\/o<=r:=u7 f2;have J:PermW a o l l:=PermW.refl _ _ _;have t2:zY c a o l:=by
         rcases f2 with f2|f2
         ·exact s2.mono (show r<=a by omega) (Nat.le_refl _)
         ·exact s1.mono (Nat.le_refl _) (show o<=r by omega)
        refine ze (λI=>?_) (λI=>?_)
        ·have I:o<e /\e<b:=u9 I;(conv=>whnf);refine zD.mono (ih l o e b (by omega) I.1 I.2 (by omega) (by omega) (s3.same λi T _=>J.out i (.inr T)) (s4.same λi T _=>J.out i (.inr (by omega))) (hrel.2.same λi hi=>J.out i (.inr (by omega)))) ?_;rintro _ ⟨l3,p3,t3,rfl⟩;have fin:=qy hw (show a<=r by omega) (show e<=b by omega) J p3 (by omega) (by omega) t2 t3 s5;(conv=>whnf);exact⟨l3,fin.1,fin.2,rfl⟩
        ·have I:e<=o\/b<=e:=u7 I;have t3:zY c o b l:=by
          rcases I with I|I
          ·exact(s4.mono (show e<=o by omega) (Nat.le_refl _)).same λi T _=>J.out i (.inr T)
          ·exact(s3.mono (Nat.le_refl _) (show b<=e by omega)).same λi T _=>J.out i (.inr T)
         have fin:=qy hw (show a<=r by omega) (show e<=b by omega) J (PermW.refl o b l) (by omega) (by omega) t2 t3 s5;(conv=>whnf);exact⟨l,fin.1,fin.2,rfl⟩
   ·have az:m<=o:=by
     have e3:decide ((m:Int)>(o:Int))=false:=e3;have:=of_decide_eq_false e3;omega
    (conv=>whnf);rw[wn]
    refine yx (P:=Pg) (f:=T8.f) (body:=cM_L4) (λz:Nat×Nat=>aqj sz (clo E g) N a m b o (o+m) z.1 z.2 (o+m - 1) (eL (en E) l)) (λz=>z.2 - z.1)
     (λz=>a<=z.1 /\z.1<=z.2 /\z.2<=m /\(z.1=a\/X3 c l (z.1 - 1) (o+m - z.1))/\(z.2=m\/X3 c l (o+m - 1 - z.2) z.2))
     ⟨(a,m),⟨Nat.le_refl _,by show a<=m;omega,Nat.le_refl _,.inl rfl,.inl rfl⟩,zf ?_⟩ ?_
    ·(conv=>whnf);rw[wp];rfl
    ·rintro⟨s,r⟩ hR;have hS:a<=s /\s<=r /\r<=m /\(s=a\/X3 c l (s - 1) (o+m - s))/\(r=m\/X3 c l (o+m - 1 - r) r):=hR;clear hR;obtain⟨g1,g2,g3,g4,g5⟩:=hS;refine ze (λk1=>?_) (λk1=>?_)
     ·have aa:s<r:=by have k1:decide ((s:Int)<(r:Int))=true:=k1;have:=of_decide_eq_true k1;omega
      have wq:=afQ s r (by omega);obtain⟨h,hh⟩: ∃h,h=(s+r)/2:=⟨_,rfl⟩;rw[<- hh]at wq;obtain⟨u,hu⟩:=wl (l:=l) (i:=h) (by omega);obtain⟨v,hv⟩:=wl (l:=l) (i:=o+m - 1 - h) (by omega);have w1:IntKind.i64.wrap ((h:Int)+1)=((h+1:Nat):Int):=zA (n:=b) (by omega) (by omega);have wv:IntKind.i64.wrap (((o+m - 1:Nat):Int) -(h:Int))=((o+m - 1 - h:Nat):Int):=by rw[ya (by omega) (by omega)];omega
      (conv=>whnf);refine⟨by decide,?_⟩;(conv=>whnf);rw[wq,wv];refine⟨by omega,by omega,?_⟩;(conv=>whnf);refine⟨_,qn (en E) hv,?_⟩;(conv=>whnf);refine xq ?_ (hA:=by omega) (hB:=by omega);refine⟨_,qn (en E) hu,?_⟩;(conv=>whnf);refine Sat.mono (hg u v (ae h (o+m - 1 - h) u v (by omega) (by omega) (by omega) (by omega) hu hv)) ?_;rintro _ ⟨z,rfl,hz⟩;refine ze (λk2=>?_) (λk2=>?_)
      ·have ak: ¬c v u<0:=by
        have k2:(!decide (z<0))=true:=k2;rw[<- hz];simpa using k2
       (conv=>whnf);refine⟨(h+1,r),⟨⟨by show a<=h+1;omega,by show h+1<=r;omega,g3,.inr ⟨u,v,hu,?_,ac.ge.1 (by omega)⟩,g5⟩,by show r -(h+1)<r - s;omega⟩,zf ?_⟩
       ·rw[<- hv];congr 1;show o+m -(h+1)=_;omega
       (conv=>whnf);rw[w1];rfl
      ·have an:c v u<0:=by
        have k2:(!decide (z<0))=false:=k2;rw[<- hz];simpa using k2
       (conv=>whnf);refine⟨(s,h),⟨⟨g1,by show s<=h;omega,by show h<=m;omega,g4,.inr ⟨v,u,hv,hu,by omega⟩⟩,by show h - s<r - s;omega⟩,zf ?_⟩;exact rfl
     ·have aa:r=s:=by have k1:decide ((s:Int)<(r:Int))=false:=k1;have:=of_decide_eq_false k1;omega
      subst aa;obtain⟨e,he⟩: ∃e,e=o+m - r:=⟨_,rfl⟩;have we:IntKind.i64.wrap (((o+m:Nat):Int) -(r:Int))=(e:Int):=by rw[ya (by omega) (by omega)];omega
      have ai:r=a\/e=b\/X3 c l (r - 1) e:=by
       rcases g4 with g4|⟨u,v,q1,q2,q3⟩
       ·left;exact g4
       ·exact .inr (.inr ⟨u,v,q1,by rw[he];exact q2,q3⟩)
      have aj:r=m\/e=m\/X3 c l (e - 1) r:=by
       rcases g5 with g5|⟨u,v,q1,q2,q3⟩
       ·left;exact g5
       ·refine .inr (.inr ⟨u,v,?_,q2,q3⟩);rw[<- q1];congr 1;omega
      have ab:=λ(U:List α) (hr:ZG r m e l U)=>adM ac (show a<=r by omega) (show r<=m by omega) (show m<=e by omega) (show e<=b by omega) hr ar au ai aj
      have af:r+(e - m)=o:=by omega
      simp only[af]at ab;have ad:=λ(U:List α) (hr:ZG r m e l U)=>ae.rot (show a<=r by omega) (show r<=m by omega) (show m<=e by omega) (show e<=b by omega) hr
      simp only[af]at ad;(conv=>whnf);rw[we];refine zt (λf1=>?_) (λf1=>?_)
      ·have f1:r<m /\m<e:=u9 f1;(conv=>whnf);refine zD.mono (rotate' E g l N r m e f1.1 f1.2 (by omega) hN hl) ?_;rintro _ rfl;have ag:ZG r m e l (aak r m e l):=acV (by omega) (by omega) (by omega);have ah:PermW r e l (aak r m e l):=aos (by omega) (by omega) (by omega);obtain⟨U,al⟩: ∃U,U=aak r m e l:=⟨_,rfl⟩;rw[<- al]at ag ah⊢;have hr:=ag;have hw:=ah;have hrel:=ad U hr;obtain⟨s1,s2,s3,s4,s5⟩:=ab U hr;have ao:=hw.len;refine ze (λf2=>?_) (λf2=>?_)
       ·have f2:a<r /\r<o:=u9 f2;(conv=>whnf);refine zD.mono (ih U a r o (by omega) f2.1 f2.2 (by omega) (by omega) s1 s2 hrel.1) ?_;rintro _ ⟨l2,J,t2,rfl⟩;have aq:=J.len;refine ze (λI=>?_) (λI=>?_)
        ·have I:o<e /\e<b:=u9 I;(conv=>whnf);refine zD.mono (ih l2 o e b (by omega) I.1 I.2 (by omega) (by omega) (s3.same λi T _=>J.out i (.inr T)) (s4.same λi T _=>J.out i (.inr (by omega))) (hrel.2.same λi hi=>J.out i (.inr (by omega)))) ?_;rintro _ ⟨l3,p3,t3,rfl⟩;have fin:=qy hw (show a<=r by omega) (show e<=b by omega) J p3 (by omega) (by omega) t2 t3 s5;(conv=>whnf);exact⟨l3,fin.1,fin.2,rfl⟩
        ·have I:e<=o\/b<=e:=u7 I;have t3:zY c o b l2:=by
          rcases I with I|I
          ·exact(s4.mono (show e<=o by omega) (Nat.le_refl _)).same λi T _=>J.out i (.inr T)
          ·exact(s3.mono (Nat.le_refl _) (show b<=e by omega)).same λi T _=>J.out i (.inr T)
         have fin:=qy hw (show a<=r by omega) (show e<=b by omega) J (PermW.refl o b l2) (by omega) (by omega) t2 t3 s5;(conv=>whnf);exact⟨l2,fin.1,fin.2,rfl⟩
       ·have f2:r<=a\/o<=r:=u7 f2;have J:PermW a o U U:=PermW.refl _ _ _;have t2:zY c a o U:=by
         rcases f2 with f2|f2
         ·exact s2.mono (show r<=a by omega) (Nat.le_refl _)
         ·exact s1.mono (Nat.le_refl _) (show o<=r by omega)
        refine ze (λI=>?_) (λI=>?_)
        ·have I:o<e /\e<b:=u9 I;(conv=>whnf);refine zD.mono (ih U o e b (by omega) I.1 I.2 (by omega) (by omega) (s3.same λi T _=>J.out i (.inr T)) (s4.same λi T _=>J.out i (.inr (by omega))) (hrel.2.same λi hi=>J.out i (.inr (by omega)))) ?_;rintro _ ⟨l3,p3,t3,rfl⟩;have fin:=qy hw (show a<=r by omega) (show e<=b by omega) J p3 (by omega) (by omega) t2 t3 s5;(conv=>whnf);exact⟨l3,fin.1,fin.2,rfl⟩
        ·have I:e<=o\/b<=e:=u7 I;have t3:zY c o b U:=by
          rcases I with I|I
          ·exact(s4.mono (show e<=o by omega) (Nat.le_refl _)).same λi T _=>J.out i (.inr T)
          ·exact(s3.mono (Nat.le_refl _) (show b<=e by omega)).same λi T _=>J.out i (.inr T)
         have fin:=qy hw (show a<=r by omega) (show e<=b by omega) J (PermW.refl o b U) (by omega) (by omega) t2 t3 s5;(conv=>whnf);exact⟨U,fin.1,fin.2,rfl⟩
      ·have f1:m<=r\/e<=m:=u7 f1;have hr:ZG r m e l l:=ZG.same (by omega) (by omega) (by omega);have hw:PermW r e l l:=PermW.refl _ _ _;have hrel:=ad l hr;obtain⟨s1,s2,s3,s4,s5⟩:=ab l hr;have ao:=hw.len;refine ze (λf2=>?_) (λf2=>?_)
       ·have f2:a<r /\r<o:=u9 f2;(conv=>whnf);refine zD.mono (ih l a r o (by omega) f2.1 f2.2 (by omega) (by omega) s1 s2 hrel.1) ?_;rintro _ ⟨l2,J,t2,rfl⟩;have aq:=J.len;refine ze (λI=>?_) (λI=>?_)
        ·have I:o<e /\e<b:=u9 I;(conv=>whnf);refine zD.mono (ih l2 o e b (by omega) I.1 I.2 (by omega) (by omega) (s3.same λi T _=>J.out i (.inr T)) (s4.same λi T _=>J.out i (.inr (by omega))) (hrel.2.same λi hi=>J.out i (.inr (by omega)))) ?_;rintro _ ⟨l3,p3,t3,rfl⟩;have fin:=qy hw (show a<=r by omega) (show e<=b by omega) J p3 (by omega) (by omega) t2 t3 s5;(conv=>whnf);exact⟨l3,fin.1,fin.2,rfl⟩
        ·have I:e<=o\/b<=e:=u7 I;have t3:zY c o b l2:=by
          rcases I with I|I
          ·exact(s4.mono (show e<=o by omega) (Nat.le_refl _)).same λi T _=>J.out i (.inr T)
          ·exact(s3.mono (Nat.le_refl _) (show b<=e by omega)).same λi T _=>J.out i (.inr T)
         have fin:=qy hw (show a<=r by omega) (show e<=b by omega) J (PermW.refl o b l2) (by omega) (by omega) t2 t3 s5;(conv=>whnf);exact⟨l2,fin.1,fin.2,rfl⟩
       ·have f2:r<=a\/o<=r:=u7 f2;have J:PermW a o l l:=PermW.refl _ _ _;have t2:zY c a o l:=by
         rcases f2 with f2|f2
         ·exact s2.mono (show r<=a by omega) (Nat.le_refl _)
         ·exact s1.mono (Nat.le_refl _) (show o<=r by omega)
        refine ze (λI=>?_) (λI=>?_)
        ·have I:o<e /\e<b:=u9 I;(conv=>whnf);refine zD.mono (ih l o e b (by omega) I.1 I.2 (by omega) (by omega) (s3.same λi T _=>J.out i (.inr T)) (s4.same λi T _=>J.out i (.inr (by omega))) (hrel.2.same λi hi=>J.out i (.inr (by omega)))) ?_;rintro _ ⟨l3,p3,t3,rfl⟩;have fin:=qy hw (show a<=r by omega) (show e<=b by omega) J p3 (by omega) (by omega) t2 t3 s5;(conv=>whnf);exact⟨l3,fin.1,fin.2,rfl⟩
        ·have I:e<=o\/b<=e:=u7 I;have t3:zY c o b l:=by
          rcases I with I|I
          ·exact(s4.mono (show e<=o by omega) (Nat.le_refl _)).same λi T _=>J.out i (.inr T)
          ·exact(s3.mono (Nat.le_refl _) (show b<=e by omega)).same λi T _=>J.out i (.inr T)
         have fin:=qy hw (show a<=r by omega) (show e<=b by omega) J (PermW.refl o b l) (by omega) (by omega) t2 t3 s5;(conv=>whnf);exact⟨l,fin.1,fin.2,rfl⟩):p:=h
theorem ahh {p:Prop}(h:p:=by
 intro g c aa R hg l n hn hl ad;refine qA T8 cS_ok (by kernel_rfl) (by simp) ?_
 conv=>whnf
 refine yx (P:=Pg) (f:=T8.f) (body:=cS_L0) (λz:Nat×List α=>gE sz (clo E g) n n 20 (z.1*20) (z.1*20+20) (eL (en E) z.2)) (λz=>n - z.1*20)
  (λz=>z.1*20<=n /\PermW 0 n l z.2 /\vi c 20 (z.1*20) z.2 /\wO R 20 (z.1*20) z.2)
  ⟨(0,l),⟨by show 0*20<=n;omega,PermW.refl _ _ _,by show vi c 20 (0*20) l;rw[Nat.zero_mul];exact vi.zero _ _,by show wO R 20 (0*20) l;rw[Nat.zero_mul];exact wO.start ad hn⟩,zf ?_⟩ ?_
 ·exact rfl
 ·rintro⟨q,l1⟩ hR;have hS:q*20<=n /\PermW 0 n l l1 /\vi c 20 (q*20) l1 /\wO R 20 (q*20) l1:=hR;clear hR;obtain⟨g1,g2,g3,g6⟩:=hS;have g7:=g6.pair (n:=n);have g4:=g2.len;obtain⟨a,j⟩: ∃a,a=q*20:=⟨_,rfl⟩;show mwpR Pg T8.f cS_L0 _ (gE sz (clo E g) n n 20 (q*20) (q*20+20) (eL (en E) l1));rw[<- j]at g1 g3 g6 g7⊢;refine ze (λk1=>?_) (λk1=>?_)
  ·have I:a+20<=n:=by have k1:decide (((a+20:Nat):Int)<=(n:Int))=true:=k1;have:=of_decide_eq_true k1;omega
   have wb:IntKind.i64.wrap (((a+20:Nat):Int)+((20:Nat):Int))=((a+20+20:Nat):Int):=by rw[ya (by omega) (by omega)];omega
   (conv=>whnf);refine zD.mono (insSort' E g c aa R hg n l1 a (a+20) (by omega) (by omega) I hl (g7.mono (Nat.le_refl _) I)) ?_;rintro _ ⟨T,o,r,rfl⟩;(conv=>whnf);have e1:(q+1)*20=a+20:=by omega
   refine⟨(q+1,T),⟨⟨by show(q+1)*20<=n;omega,g2.trans (o.mono (Nat.zero_le _) I),?_,?_⟩,by show n -(q+1)*20<n - a;omega⟩,zf ?_⟩
   ·show vi c 20 ((q+1)*20) T;rw[j]at g3 o r;exact g3.ext (e:=(q+1)*20) (by rw[Nat.succ_mul];exact o) (by rw[Nat.succ_mul];exact r) (by omega) (Nat.le_refl _)
   ·show wO R 20 ((q+1)*20) T;rw[j]at g6 o;exact g6.next (e:=(q+1)*20) (by rw[Nat.succ_mul];exact o) (by omega) (Nat.le_refl _)
   ·(conv=>whnf);rw[wb];show gE sz (clo E g) n n 20 (a+20) (a+20+20) (eL (en E) T)=gE sz (clo E g) n n 20 ((q+1)*20) ((q+1)*20+20) (eL (en E) T);rw[e1]
  ·have ac:n<a+20:=by have k1:decide (((a+20:Nat):Int)<=(n:Int))=false:=k1;have:=of_decide_eq_false k1;omega
   (conv=>whnf);refine zD.mono (insSort' E g c aa R hg n l1 a n (by omega) g1 (Nat.le_refl _) hl g7) ?_;rintro _ ⟨T,o,r,rfl⟩;have b2:vi c 20 n T:=by
    rw[j]at g3 o r;exact g3.ext o r (by omega) (by rw[Nat.succ_mul];omega)
   have b3:wO R 20 n T:=by
    rw[j]at g6 o g1;exact g6.next o g1 (by omega)
   have q2:PermW 0 n l T:=g2.trans (o.mono (Nat.zero_le _) (Nat.le_refl _));have b4:=b3.blk;clear o r g3 g2 g4 g6 g7 b3;(conv=>whnf)
   refine yx (P:=Pg) (f:=T8.f) (body:=cS_L2) (λz:Nat×List α=>stT sz (clo E g) n n z.1 (eL (en E) z.2)) (λz=>n - z.1)
    (λz=>0<z.1 /\z.1<=2000000 /\PermW 0 n l z.2 /\vi c z.1 n z.2 /\ab3 R z.1 z.2)
    ⟨(20,T),⟨by show 0<20;omega,by show 20<=2000000;omega,q2,b2,b4⟩,zf ?_⟩ ?_
   ·exact rfl
   ·rintro⟨i,U⟩ hR;have hS:0<i /\i<=2000000 /\PermW 0 n l U /\vi c i n U /\ab3 R i U:=hR;clear hR;obtain⟨g1,g2,g3,g4,g6⟩:=hS;refine ze (λk2=>?_) (λk2=>?_)
    ·have ab:i<n:=by have k2:decide ((i:Int)<(n:Int))=true:=k2;have:=of_decide_eq_true k2;omega
     have w2:IntKind.i64.wrap (2*(i:Int))=((2*i:Nat):Int):=by rw[ya (by omega) (by omega)];omega
     have w3:IntKind.i64.wrap ((i:Int)*2)=((2*i:Nat):Int):=by rw[ya (by omega) (by omega)];omega
     conv=>whnf
     refine yx (P:=Pg) (f:=T8.f) (body:=cS_L1) (λz:Nat×List α=>gE sz (clo E g) n n i (z.1*(2*i)) (z.1*(2*i)+2*i) (eL (en E) z.2)) (λz=>n - z.1*(2*i))
      (λz=>z.1*(2*i)<=n /\PermW 0 n l z.2 /\vi c (2*i) (z.1*(2*i)) z.2 /\X2 c i (z.1*(2*i)) n z.2 /\Zt R i (z.1*(2*i)) z.2)
      ⟨(0,U),⟨by show 0*(2*i)<=n;omega,g3,by show vi c (2*i) (0*(2*i)) U;rw[Nat.zero_mul];exact vi.zero _ _,by show X2 c i (0*(2*i)) n U;rw[Nat.zero_mul];exact g4.blkF,by show Zt R i (0*(2*i)) U;rw[Nat.zero_mul];exact g6.pass⟩,zf ?_⟩ ?_
     ·(conv=>whnf);rw[w2];show gE sz (clo E g) n n i 0 (2*i) (eL (en E) U)=gE sz (clo E g) n n i (0*(2*i)) (0*(2*i)+2*i) (eL (en E) U);rw[Nat.zero_mul,Nat.zero_add]
     ·rintro⟨q,l4⟩ hR;have hS:q*(2*i)<=n /\PermW 0 n l l4 /\vi c (2*i) (q*(2*i)) l4 /\X2 c i (q*(2*i)) n l4 /\Zt R i (q*(2*i)) l4:=hR;clear hR;obtain⟨r1,r2,r3,r4,r6⟩:=hS;have r7:=λe=>r6.rel (e:=e)
      have r8:=r6.blk;have r9:=λe J=>r6.next (e:=e) (n:=n) (l':=J)
      have r5:=r2.len;have s1:=r4.at0;have r:=r4.at1;obtain⟨a,j⟩: ∃a,a=q*(2*i):=⟨_,rfl⟩;show mwpR Pg T8.f cS_L1 _ (gE sz (clo E g) n n i (q*(2*i)) (q*(2*i)+2*i) (eL (en E) l4));have ae:(q+1)*(2*i)=a+2*i:=by rw[Nat.succ_mul,j]
      rw[<- j]at r1 r3 r4 s1 r r7 r9⊢;rw[ae]at r9;have w4:IntKind.i64.wrap ((a:Int)+(i:Int))=((a+i:Nat):Int):=by rw[ya (by omega) (by omega)];omega
      refine ze (λk3=>?_) (λk3=>?_)
      ·have I:a+2*i<=n:=by have k3:decide (((a+2*i:Nat):Int)<=(n:Int))=true:=k3;have:=of_decide_eq_true k3;omega
       have w5:IntKind.i64.wrap (((a+2*i:Nat):Int)+((2*i:Nat):Int))=((a+2*i+2*i:Nat):Int):=by rw[ya (by omega) (by omega)];omega
       rw[Nat.min_eq_left (by omega)]at s1 r;(conv=>whnf);rw[w4];refine zD.mono (symMerge E g c aa R hg n hl _ l4 a (a+i) (a+2*i) (Nat.le_refl _) (by omega) (by omega) (by omega) (by omega) s1 (r.mono (Nat.le_refl _) (by omega)) (r7 _)) ?_;rintro _ ⟨J,p5,t5,rfl⟩;have e1:(q+1)*(2*i)=a+2*i:=by rw[Nat.succ_mul,j]
       (conv=>whnf);refine⟨(q+1,J),⟨⟨by show(q+1)*(2*i)<=n;omega,r2.trans (p5.mono (Nat.zero_le _) I),?_,?_,?_⟩,by show n -(q+1)*(2*i)<n - a;rw[e1];omega⟩,zf ?_⟩
       ·show vi c (2*i) ((q+1)*(2*i)) J;rw[e1];have e2:=e1;subst j;exact r3.ext p5 t5 (by omega) (by omega)
       ·show X2 c i ((q+1)*(2*i)) n J;rw[e1];exact r4.next p5 (by omega)
       ·show Zt R i ((q+1)*(2*i)) J;rw[e1];exact r9 _ _ p5 (Nat.le_refl _) (.inl rfl)
       ·(conv=>whnf);rw[w2,w5];show gE sz (clo E g) n n i (a+2*i) (a+2*i+2*i) (eL (en E) J)=gE sz (clo E g) n n i ((q+1)*(2*i)) ((q+1)*(2*i)+2*i) (eL (en E) J);rw[e1]
      ·have ac:n<a+2*i:=by have k3:decide (((a+2*i:Nat):Int)<=(n:Int))=false:=k3;have:=of_decide_eq_false k3;omega
       have e1:(q+1)*(2*i)=a+2*i:=by rw[Nat.succ_mul,j]
       (conv=>whnf);rw[w4];refine zt (λk4=>?_) (λk4=>?_)
       ·have hm:a+i<n:=by have k4:decide (((a+i:Nat):Int)<(n:Int))=true:=k4;have:=of_decide_eq_true k4;omega
        rw[Nat.min_eq_left (by omega)]at s1;rw[Nat.min_eq_right (by omega)]at r;(conv=>whnf);refine zD.mono (symMerge E g c aa R hg n hl _ l4 a (a+i) n (Nat.le_refl _) (by omega) (by omega) (by omega) (by omega) s1 r (r7 _)) ?_;rintro _ ⟨J,p5,t5,rfl⟩;(conv=>whnf);refine⟨(2*i,J),⟨⟨by show 0<2*i;omega,by show 2*i<=2000000;omega,r2.trans (p5.mono (Nat.zero_le _) (Nat.le_refl _)),?_,(r9 _ _ p5 (by omega) (.inr ⟨rfl,by rw[r5];exact hn⟩)).blk⟩,by show n - 2*i<n - i;omega⟩,zf ?_⟩
        ·show vi c (2*i) n J;subst j;exact r3.ext p5 t5 r1 (by omega)
        ·(conv=>whnf);rw[w3];rfl
       ·have hm:n<=a+i:=by have k4:decide (((a+i:Nat):Int)<(n:Int))=false:=k4;have:=of_decide_eq_false k4;omega
        rw[Nat.min_eq_right (by omega)]at s1;(conv=>whnf);refine⟨(2*i,l4),⟨⟨by show 0<2*i;omega,by show 2*i<=2000000;omega,r2,?_,r8⟩,by show n - 2*i<n - i;omega⟩,zf ?_⟩
        ·show vi c (2*i) n l4;subst j;exact r3.ext (PermW.refl _ _ _) s1 r1 (by omega)
        ·(conv=>whnf);rw[w3];rfl
    ·have ab:n<=i:=by have k2:decide ((i:Int)<(n:Int))=false:=k2;have:=of_decide_eq_false k2;omega
     have s0:=g4 0;rw[Nat.zero_mul,Nat.zero_add,Nat.one_mul,Nat.min_eq_right ab]at s0;(conv=>whnf);exact⟨U,g3,s0,rfl⟩):p:=h
theorem ki {p:Prop}(h:p:=by
 intro g c i R I l n P J j;refine qA T8 cT_ok (by kernel_rfl) (by simp) ?_
 conv=>whnf
 refine zD.mono (stable E g c i R I l n P J j) ?_;rintro _ ⟨l',o,r,rfl⟩
 conv=>whnf
 exact⟨l',o,r,rfl⟩):p:=h
end So
namespace So.R
structure En (α:Type) where
 d:α ->D
 c0:List D
 c1:List D
abbrev en {α:Type}(E:En α)(x:α):List D:=[E.d x]
abbrev sz:Nat:=1
abbrev cal {α:Type}(E:En α)(x y:α):List W:=[.c (.d (E.d x)),.c (.d (E.d y)),.c (.fp E.c0),.c (.fp E.c1)]
abbrev clo {α:Type}(E:En α)(g:FuncId):W:=.c (.d (.fn g [E.c0,E.c1]))
noncomputable abbrev cI_L0:=(yB.l 0)
noncomputable abbrev cI_L1:=(yB.l 1)
abbrev cI_ok:=yB.ok
noncomputable abbrev cM_L0:=(yz.l 0)
noncomputable abbrev cM_L1:=(yz.l 1)
noncomputable abbrev cM_L2:=(yz.l 2)
noncomputable abbrev cM_L3:=(yz.l 3)
noncomputable abbrev cM_L4:=(yz.l 4)
abbrev cM_ok:=yz.ok
noncomputable abbrev cO_L0:=(vU.l 0)
abbrev cO_ok:=vU.ok
noncomputable abbrev cS_L0:=(yt.l 0)
noncomputable abbrev cS_L1:=(yt.l 1)
noncomputable abbrev cS_L2:=(yt.l 2)
abbrev cS_ok:=yt.ok
abbrev cT_ok:=vw.ok
noncomputable abbrev cW_L0:=(wS.l 0)
abbrev cW_ok:=wS.ok
theorem acv {α:Type}(E:En α):kj qS sz (en E) (cal E) (clo E):=aed
abbrev insSort' {α:Type}(E:En α):=(acv E).p
theorem K9 {α:Type}(E:En α):WK ZS sz (en E) (clo E):=gI
abbrev swapRange' {α:Type}(E:En α):=(K9 E).p
theorem agr {α:Type}(E:En α):aaG YX sz (en E) (clo E):=ahg
abbrev rotate' {α:Type}(E:En α):=(agr E).p
theorem symMerge {α:Type}(E:En α):afg Ye sz (en E) (cal E) (clo E):=ab2
theorem stable {α:Type}(E:En α):akO vW sz (en E) (cal E) (clo E):=ahh
theorem SortStable {α:Type}(E:En α):SortStable qo sz (en E) (cal E) (clo E):=ki
end So.R
abbrev apV {α:Type}(d:α ->D)(l:List α):List (List D):=l.map λx=> [d x]
abbrev aaq {α:Type}(d:α ->D)(g i:List D):=So.R.SortStable ⟨d,g,i⟩
def acs (s:Srt)(x y:Val):Int:=bif s.desc then xf y x else xf x y
def Vx:List Srt ->List Val ->List Val ->Int
 |s::r,x::xs,y::g=>bif acs s x y !=0 then acs s x y else Vx r xs g
 |_,_,_=>0
theorem apj {l:List Srt}{i:Nat}(h:i<l.length):(xA l)[((i:Nat):Int).toNat]? =some l[i].ds:=by
 grind[xA]
theorem acY (l:List Srt)(i:Nat)(hi:i<l.length)(x y:Val):Sat Pg jr [.c (int i),x.w,y.w,.c (.fp [.sl (xA l)])] (λr=>r=rI (acs l[i] x y)):=by
 have g:=apj hi;obtain⟨p,I,J⟩:=x;obtain⟨P,R,T⟩:=y;unfold acs;generalize l[i]=s at*;obtain⟨o,j⟩:=s;refine Ki.s T8 ?_;refine zX g ?_;cases j
 ·exact rfl
 ·exact rfl
def cpS (l:List Srt)(xs g:List Val)(n i:Nat):S:=⟨[(0,.w (yb xs)),(1,.w (yb g)),(2,.w (.c (.d (.fn jr [[.sl (xA l)]])))),(13,zg n),(14,zg i)],[]⟩
theorem agF (l:List Srt)(xs g:List Val)(U:xs.length=l.length)(hy:g.length=l.length)(hl:l.length<=1000000):
 Sat Pg VC [yb xs,yb g,.c (.d (.fn jr [[.sl (xA l)]]))] (λr=>r=rI (Vx l xs g)):=by
 have T:xG false (rowD xs).length (rowD g).length=(l.length:Int):=by
  grind[zm,aoo]
 have hC:qb (l.length:Int) l.length=0:=by simp[qb]
 refine vP.s T8 ?_;rw[T];refine XV T8 (vP.l 0) l.length (λi=>cpS l xs g l.length i) (λi=>Vx l xs g=Vx (l.drop i) (xs.drop i) (g.drop i)) ?_
 ·intro i hi j;have j:Vx l xs g=Vx (l.drop i) (xs.drop i) (g.drop i):=j;show mwpR Pg T8.f (vP.l 0) _ (cpS l xs g l.length i);unfold cpS;refine um (λo=>?_) (λI=>?_)
  ·have R:=acY l i o xs[i] g[i];have J:=yQ (r:=xs) (i:=i) (by omega);have P:=yQ (r:=g) (i:=i) (by omega);rw[zo o,zo (show i<xs.length by omega),zo (show i<g.length by omega)]at j;simp only[Vx]at j;generalize acs l[i] xs[i] g[i]=c at*;generalize xs[i]=x at*;generalize g[i]=y at*;obtain⟨x1,x2,x3⟩:=x;obtain⟨y1,y2,y3⟩:=y;refine zX J ?_;refine zX P ?_;refine Sat.w R ?_;refine zt (λp=>?_) (λp=>?_)
   ·rw[show(c !=0)=true from p]at j;(conv=>whnf);exact congrArg rI j.symm
   ·rw[show(c !=0)=false from p]at j;refine yF o j ?_;rw[zA o (by omega)];rfl
  ·rw[List.drop_eq_nil_of_le I]at j;have j:Vx l xs g=0:=j;rw[j];(conv=>whnf);rw[zm,zm,U,hy];rw[hC];rfl
def kyS (row:List Val)(at_:List Int)(i:Nat)(g:List Val):S:=⟨[(0,.w (yb row)),(4,cV (.own 19 3 g.length)),(7,.w (.c (.d (.sl (zp at_))))),(8,zg (zp at_).length),(9,zg i)],
 [(19,.arr 3 (rowD g) false)]⟩
theorem agH (row:List Val)(at_:List Int)(hn:at_.length<=1000000)(R:yT row.length at_):Sat Pg uy [yb row,.c (.fp [.sl (zp at_)])] (λr=>r=rC (.d (.sl (rowD (zw row at_))))):=by
 refine zC ?_;refine ZK.s T8 ?_;refine yl (P:=Pg) (f:=T8.f) (body:=(ZK.l 0)) at_.length (λi=>kyS row at_ i (zw row (at_.take i))) (λ_=>True) ⟨trivial,⟨_,z7 4 19 3 (by omega) (by omega) rfl,?_⟩⟩ ?_
 ·exact rfl
 ·intro i hi _;have aa:(zw row (at_.take i)).length=i:=by grind[zw]
  have j: ∀h:i<at_.length,zw row (at_.take (i+1))=zw row (at_.take i)++[at0 row (at_[i]).toNat]:=λh=>by
   grind[zw,zM]
  have o:at_.length<=i ->zw row at_=zw row (at_.take i):=λh=>by grind
  show mwpR Pg T8.f (ZK.l 0) _ (kyS row at_ i (zw row (at_.take i)));generalize zw row (at_.take i)=T at*;have p:(rowD T).take T.length=rowD T:=by grind[zm]
  unfold kyS;refine ze (λU=>?_) (λU=>?_)
  ·have g:i<at_.length:=by simp_all[ym]
   have hg:=vA g;have j:=j g;have hk:=R _ (List.getElem_mem g);generalize at_[i]=k at*;have J:(rowD row)[k.toNat]? =some (at0 row k.toNat).ds:=by
    grind[at0,rowD]
   generalize at0 row k.toNat=v at*;obtain⟨v1,v2,v3⟩:=v;refine zX hg ?_;refine zX J ?_ (hA:=hk.1);refine qj ?_;refine yF g trivial ?_;rw[zA g (by omega),p,j,<- wX,List.length_append];rfl
  ·have I:at_.length<=i:=by grind[ym]
   rw[o I];refine Jy ?_;show Res.mk (.w (.c (.d (.sl ((rowD T).take T.length))))) []=_;rw[p];rfl
def u4 (at_:List Int)(l:List Srt)(a b:List Val):Int:=Vx l (zw a at_) (zw b at_)
theorem agB (at_:List Int)(l:List Srt)(a b:List Val)(o:yT a.length at_)(p:yT b.length at_)(J:at_.length=l.length)(I:l.length<=1000000):
 Sat Pg ZT [yb a,yb b,.c (.fp [.fn uy [[.sl (zp at_)]]]),.c (.fp [.sl (xA l)])] (λr=>r=rI (u4 at_ l a b)):=by
 have g:=agH a at_ (by omega) o;have i:=agH b at_ (by omega) p;have j:=agF l (zw a at_) (zw b at_) (by grind[zw]) (by grind[zw]) I;unfold u4;generalize Vx l (zw a at_) (zw b at_)=c at*;generalize zw a at_=x at*;generalize zw b at_=y at*;refine gV.s T8 ?_
 repeat' (first
  |(refine And.intro ?_ ?_<;>conv=>whnf)
  |(refine Sat.mono g ?_;rintro _ rfl;conv=>whnf)
  |(refine Sat.mono i ?_;rintro _ rfl;conv=>whnf)
  |(refine Sat.mono j ?_;rintro _ rfl;conv=>whnf))
 all_goals rfl
theorem CmpOK.both {α:Type}{c d:α ->α ->Int}(h:CmpOK c)(k:CmpOK d):CmpOK (λx y=>bif c x y !=0 then c x y else d x y):=by
 have e: ∀x y,(bif c x y !=0 then c x y else d x y)=if c x y=0 then d x y else c x y:=λx y=>by
  simp_all
 refine⟨λx=>?_,λx y=>?_,λx y z j i=>?_⟩
 ·simp only[e];rw[if_pos (h.refl x)];exact k.refl x
 ·simp only[e];have p:=h.anti x y;have r:=h.anti y x;have a3:=k.anti x y;omega
 ·simp only[e]at j i⊢;by_cases l:c x y=0
  ·rw[if_pos l]at j;by_cases g:c y z=0
   ·rw[if_pos g]at i;have I:=h.trans x y z (by omega) (by omega);have o:=h.trans z y x (by have:=h.zero.1 g;omega) (by have:=h.zero.1 l;omega);have J:=h.ge.2 o;rw[if_pos (by omega)];exact k.trans _ _ _ j i
   ·rw[if_neg g]at i;have:=h.lt_of2 (x:=x) (y:=y) (z:=z) (by omega) (by omega);omega
  ·rw[if_neg l]at j;by_cases g:c y z=0
   ·have:=h.lt_of (x:=x) (y:=y) (z:=z) (by omega) (by omega);omega
   ·rw[if_neg g]at i;have:=h.lt_of (x:=x) (y:=y) (z:=z) (by omega) (by omega);omega
theorem CmpOK.onF {α β:Type}{c:α ->α ->Int}(h:CmpOK c)(f:β ->α):CmpOK (λx y=>c (f x) (f y)):=⟨λx=>h.refl _,λx y=>h.anti _ _,λx y z=>h.trans _ _ _⟩
theorem CmpOK.flip {α:Type}{c:α ->α ->Int}(h:CmpOK c):CmpOK (λx y=>c y x):=⟨λx=>h.refl _,λx y=>h.anti _ _,λx y z g i=>h.trans _ _ _ i g⟩
theorem aoO (s:Srt):CmpOK (acs s):=by
 obtain⟨i,g⟩:=s;cases g
 ·exact acL
 ·exact acL.flip
theorem QK: ∀(at_:List Int) (l:List Srt),CmpOK (u4 at_ l)
 | [],l=>by
   have e:u4 [] l= λ_ _=>0:=by funext a b;cases l<;>rfl
   rw[e];exact⟨λ_=>rfl,λ_ _=>by omega,λ_ _ _ _ _=>Int.le_refl _⟩
 |k::at_,[]=>by
  have e:u4 (k::at_) []= λ_ _=>0:=by funext a b;rfl
  rw[e];exact⟨λ_=>rfl,λ_ _=>by omega,λ_ _ _ _ _=>Int.le_refl _⟩
 |k::at_,s::l=>((aoO s).onF (λrow=>at0 row k.toNat)).both (QK at_ l)
theorem alJ (l:List (List Val)): ∀x∈zh l,x.length=1:=by
 grind[zh]
theorem Qr (l:List (List Val))(g:l.length<=1000000):Sat Pg Ug [.c (.d (.sl (zh l)))] (λr=>(l=[]/\r=rC .nil)\/r=KU 1 (zh l)):=by
 refine VZ.s T8 ?_;refine⟨λh=>?_,?_⟩
 ·conv=>whnf
  left
  refine⟨?_,rfl⟩;cases l with
  |nil=>rfl
  |cons a r=>cases h
 ·(conv=>whnf);refine⟨alJ l,by grind[yP,zy],by grind[zy],?_⟩;(conv=>whnf)
  right
  show Res.mk (.w (.c (.own 0 1 (([]:List (List D)).length+(zh l).length)))) [.arr 1 (([]:List (List D)).take ([]:List (List D)).length++zh l) false]=_;simp_all[KU]
theorem ahS (g:FuncId)(cp:List (List D)):zD Pg qS [.c .nil,.c (int 0),.c (int 0),.c (.d (.fn g cp))] [] (λr=>r=⟨.tup [],[]⟩):=by
 refine qA T8 yB.ok (by kernel_rfl) (by simp) ?_
 conv=>whnf
 refine yx (P:=Pg) (f:=T8.f) (body:=(yB.l 1)) (λ_:Unit=>⟨[(0,cV .nil),(1,zg 0),(2,zg 0),(3,.w (.c (.d (.fn g cp)))),(8,zg 1)],[]⟩) (λ_=>0) (λ_=>True) ⟨(),trivial,zf ?_⟩ ?_
 ·exact rfl
 ·rintro _ _;exact rfl
theorem ac9 (g:FuncId)(cp:List (List D)):zD Pg vW [.c .nil,.c (int 0),.c (.d (.fn g cp))] [] (λr=>r=⟨.tup [],[]⟩):=by
 refine qA T8 yt.ok (by kernel_rfl) (by simp) ?_
 conv=>whnf
 refine yx (P:=Pg) (f:=T8.f) (body:=(yt.l 0)) (λ_:Unit=>⟨[(0,cV .nil),(1,zg 0),(2,.w (.c (.d (.fn g cp)))),(6,zg 20),(7,zg 0),(8,zg 20)],[]⟩) (λ_=>0) (λ_=>True) ⟨(),trivial,zf ?_⟩ ?_
 ·exact rfl
 ·rintro _ _;(conv=>whnf);refine zD.mono (ahS g cp) ?_;rintro _ rfl;(conv=>whnf);refine yx (P:=Pg) (f:=T8.f) (body:=(yt.l 2)) (λ_:Unit=>⟨[(0,cV .nil),(1,zg 0),(2,.w (.c (.d (.fn g cp)))),(6,zg 20)],[]⟩) (λ_=>0) (λ_=>True) ⟨(),trivial,zf ?_⟩ ?_
  ·exact rfl
  ·rintro _ _;exact rfl
theorem XZ (g:FuncId)(cp:List (List D)):zD Pg qo [.c .nil,.c (.d (.fn g cp))] [] (λr=>r=⟨.tup [],[]⟩):=by
 refine qA T8 vw.ok (by kernel_rfl) (by simp) ?_
 conv=>whnf
 refine zD.mono (ac9 g cp) ?_;rintro _ rfl;exact rfl
end
theorem xT (a b:ByteArray):zl a b=decide (a.data=b.data):=by
 by_cases h:a=b
 ·grind[AM.beqS_self]
 ·have g:zl a b=false:=by
   grind[AM.beqS_iff]
  rw[g];have:a.data≠b.data:=λe=>h (by cases a;simp_all)
  grind
def xn (n:Int):Val:=⟨2,n,⟨#[]⟩⟩
def sA:ByteArray:=⟨#[97]⟩
def sN:ByteArray:=⟨#[110]⟩
def ex0:Ex:=⟨0,⟨#[]⟩,⟨0,0,⟨#[]⟩⟩,[]⟩
section
attribute [local irreducible] Sat zD yk zl
theorem UC {α:Type}{e:α ->α ->Bool}(h: ∀x,e x x=true): ∀l:List α,qH e l l=true
 | []=>rfl
 |x::r=>by simp only[qH,h,Bool.not_true,cond_false];exact UC h r
theorem amW (v:Val):xF v v=true:=by grind[xF,AM.beqS_self]
theorem amV (v:Col):eqC v v=true:=by grind[eqC,AM.beqS_self]
theorem agv (r:List Val):xN r r=true:=by
 grind[xN,UC,amW]
theorem abF (t:Tbl):abE t t=true:=by
 grind[abE,UC,amV,agv]
end
theorem acF:CmpOK wV:=aiB
def SortG (gs:List Gr):Prop:=gs.Pairwise λa b=>wV a.key b.key<0
theorem gP (p:Nat ->Bool)(n:Nat)(J: ∀a b,a<=b ->b<n ->p b=true ->p a=true): ∀(f i j:Nat),(∀a,a<i ->p a=true) ->(∀a,j<=a ->a<n ->p a=false) ->j - i<=f ->i<=j ->j<=n ->
 (∀a,a<uL p f i j ->p a=true)/\(∀a,uL p f i j<=a ->a<n ->p a=false)
 |0,i,j,o,r,R,I,g=>by
  have e:i=j:=by omega
  subst e;exact⟨o,r⟩
 |f+1,i,j,o,r,R,I,g=>by
  simp only[uL];by_cases l:i<j
  ·rw[decide_eq_true l,cond_true];cases T:p ((i+j)/2)
   ·exact gP p n J f i ((i+j)/2) o (λa P U=>by
     grind) (by omega) (by omega) (by omega)
   ·exact gP p n J f ((i+j)/2+1) j (λa P=>J a ((i+j)/2) (by omega) (by omega) T) r (by omega) (by omega) g
  ·rw[decide_eq_false l,cond_false]
   grind
theorem W7 {gs:List Gr}(k:List Val){a:Nat}(h:a<gs.length):xZ (gs.map Gr.gp) k a=decide (wV gs[a].key k<0):=by
 unfold xZ;rw[List.getElem?_map,List.getElem?_eq_getElem h];rfl
theorem aiR {gs:List Gr}(hs:SortG gs){a b:Nat}(g:a<b)(i:b<gs.length):wV (gs[a]'(by omega)).key gs[b].key<0:=by
 grind[SortG,List.pairwise_iff_getElem]
theorem alE {gs:List Gr}(hs:SortG gs)(k:List Val):(∀a (h:a<gs.length),a<xV gs k ->wV gs[a].key k<0)/\(∀a (h:a<gs.length),xV gs k<=a -> ¬wV gs[a].key k<0):=by
 have J:(gs.map Gr.gp).length=gs.length:=List.length_map _;have h:=gP (xZ (gs.map Gr.gp) k) gs.length (λa b p l i=>by
  rw[W7 k l]at i;rw[W7 k (by omega)];have i:=of_decide_eq_true i;by_cases e:a=b
  ·grind
  ·exact decide_eq_true (acF.lt_of (aiR hs (by omega) l) (by omega))) gs.length 0 gs.length (λa h=>absurd h (Nat.not_lt_zero a)) (λa I o=>absurd o (by omega)) (by omega) (Nat.zero_le _) (Nat.le_refl _)
 have e:xV gs k=uL (xZ (gs.map Gr.gp) k) gs.length 0 gs.length:=by grind[xV,jU]
 rw[<- e]at h;refine⟨λa j g=>?_,λa j r=>?_⟩
 ·have:=h.1 a g;rw[W7 k j]at this;exact of_decide_eq_true this
 grind[W7]
theorem aoS {gs:List Gr}{k:List Val}(h:xV gs k<gs.length):ZM gs k=(wV gs[xV gs k].key k==0):=by
 unfold ZM Zy;rw[List.getElem?_map,List.getElem?_eq_getElem h];rfl
theorem ali {gs:List Gr}(hs:SortG gs)(k:List Val):SortG (YB gs k):=by
 obtain⟨T,o⟩:=alE hs k;unfold YB;cases hh:ZM gs k with
 |true=>exact hs
 |false=>
  simp only[cond_false];have P:=kH gs k;have I: ∀a (h:a<gs.length),xV gs k<=a ->wV k gs[a].key<0:=λa l r=>by
   have R:xV gs k<gs.length:=by omega
   have U:=o _ R (Nat.le_refl _);have h4:wV gs[xV gs k].key k≠0:=λe=>by
    grind[aoS]
   have p:wV k gs[xV gs k].key<0:=(acF.anti _ _).2 (by omega);by_cases e:xV gs k=a
   ·grind
   ·exact acF.lt_of p (by have:=aiR hs (show xV gs k<a by omega) l;omega)
  have e:gs.take (xV gs k)++gs.drop (xV gs k)=gs:=List.take_append_drop ..;have g:SortG (gs.take (xV gs k)++gs.drop (xV gs k)):=by grind
  unfold SortG at g⊢;rw[List.pairwise_append]at g;rw[List.append_assoc,List.pairwise_append,List.singleton_append,List.pairwise_cons];refine⟨g.1,⟨λb i=>?_,g.2.1⟩,λa l b i=>?_⟩
  ·obtain⟨j,J,rfl⟩:=List.getElem_of_mem i;simp_all
  ·rcases List.mem_cons.1 i with rfl|i
   ·obtain⟨j,J,rfl⟩:=List.getElem_of_mem l
    grind
   grind
theorem ajd (gs:List Gr)(p:Nat)(row:List Val):(Zu gs p row).map Gr.key=gs.map Gr.key:=by
 unfold Zu;split
 ·rename_i g i;obtain⟨h,rfl⟩:=List.getElem?_eq_some_iff.1 i;rw[List.map_set];apply List.ext_getElem
  ·simp
  grind
 ·rfl
theorem al8 {gs g:List Gr}(h:gs.map Gr.key=g.map Gr.key)(hs:SortG gs):SortG g:=by
 have e: ∀l:List Gr,SortG l↔(l.map Gr.key).Pairwise λa b=>wV a b<0:=λl=>by
  grind[SortG]
 grind
def sumG (gs:List Gr):Nat:=(gs.map λg=>g.rows.length).sum
theorem apk (a b:List Gr):sumG (a++b)=sumG a+sumG b:=by simp[sumG]
theorem am3 (gs:List Gr)(k:List Val):sumG (YB gs k)=sumG gs:=by
 unfold YB;cases ZM gs k
 ·simp only[cond_false,apk]
  grind[List.take_append_drop,sumG]
 ·rfl
theorem akT (gs:List Gr)(p:Nat)(g:p<gs.length)(row:List Val):sumG (Zu gs p row)=sumG gs+1:=by
 unfold Zu;rw[List.getElem?_eq_getElem g];simp only;rw[List.set_eq_take_append_cons_drop,if_pos g]
 grind[List.drop_eq_getElem_cons,List.take_append_drop,sumG]
theorem ais (at_:List Int)(rows:List (List Val)): ∀i,i<=rows.length ->SortG (wx at_ (rows.take i))/\sumG (wx at_ (rows.take i))=i /\(∀g∈wx at_ (rows.take i),g.key.length=at_.length /\ ∀r∈g.rows,r∈rows)
 |0,_=>⟨List.Pairwise.nil,rfl,λg j=>by cases j⟩
 |i+1,h=>by
  obtain⟨o,I,p⟩:=ais at_ rows i (by omega);rw[UU at_ (by omega)];unfold Kr;have hk:(zw rows[i] at_).length=at_.length:=by simp[zw]
  have hi:=afS (wx at_ (rows.take i)) (zw rows[i] at_);refine⟨al8 (ajd ..).symm (ali o _),by grind[akT,am3],?_⟩;have l: ∀g∈YB (wx at_ (rows.take i)) (zw rows[i] at_),g.key.length=at_.length /\ ∀r∈g.rows,r∈rows:=by
   unfold YB;cases ZM (wx at_ (rows.take i)) (zw rows[i] at_)
   ·intro g j;simp only[cond_false,List.mem_append,List.mem_singleton]at j
    grind
   ·exact p
  grind[Zu]
section
attribute [local irreducible] Sat zD yk zl
theorem aeJ (d:List Nmd)(t:Tbl)(st:Stp)(p:yu d=0)(l:zR t≠0):Sat Pg uh [.c (.d (.sl (zu d))),t.w,st.w] (λr=>r=rNT (zR t)):=by
 have o:=qv d;have hk:=xX t;rw[p]at o;have l:(zR t !=0)=true:=by grind
 generalize zR t=e at*;obtain⟨T,U⟩:=t;obtain⟨op,⟨J,P,⟨vk,vn,vs⟩,ks⟩,g,I,i,j,R,tb⟩:=st;refine Yr.s T8 ?_;refine Sat.w o ?_;refine Sat.w hk ?_;rw[l];exact rfl
def vl (m:Int):Stp:=⟨5,ex0,[],[],[],[],m,⟨#[]⟩⟩
theorem adO {cols:List Col}: ∀{rows:List (List Val)},ZC cols rows=0 -> ∀r∈rows,r.length=cols.length
 | [],_,r,hr=>by cases hr
 |x::j,h,r,hr=>by
  simp only[ZC]at h;cases g:(((x.length:Int)) !=cols.length)
  ·rw[g,cond_false]at h;cases i:(wK cols x !=0)
   ·rw[i,cond_false]at h;rcases List.mem_cons.1 hr with rfl|hr
    ·have:((r.length:Int))=cols.length:=by simpa using g
     omega
    ·exact adO h r hr
   simp_all
  grind
theorem uZ {t:Tbl}(h:zR t=0): ∀r∈t.rows,r.length=t.cols.length:=by
 unfold zR at h;obtain⟨_,h⟩:=zO (by omega) h;cases g:(jN t.cols 0 t.cols !=0)
 ·rw[g,cond_false]at h;exact adO h
 simp_all
theorem aiT {cols:List Col}{g:List ByteArray}(h:takeErr cols g=false):yT cols.length (zn cols g):=by
 intro k hk<;>grind[zn,takeErr,xW]
structure GOK (rows:List (List Val))(n:Nat)(G:List Gr):Prop where
 srt:SortG G
 sum:sumG G=rows.length
 key: ∀g∈G,g.key.length=n
 mem: ∀g∈G,∀r∈g.rows,r∈rows
 few:G.length<=rows.length+1
 cnt: ∀g∈G,g.rows.length<=rows.length
theorem alf (at_:List Int)(rows:List (List Val)):GOK rows at_.length (Xf at_ rows):=by
 unfold Xf;by_cases h:at_=[]
 ·subst h;rw[if_pos rfl];refine⟨List.pairwise_singleton _ _,by simp[sumG],λg i=>?_,λg i=>?_,by simp,λg i=>?_⟩;all_goals rw[List.mem_singleton.1 i]
  ·rfl
  ·grind
  simp_all
 ·rw[if_neg h];obtain⟨l,o,j⟩:=ais at_ rows rows.length (Nat.le_refl _);have r:=V8 at_ rows rows.length;have p:=UT at_ rows rows.length;rw[List.take_length]at l o j r p;exact⟨l,o,λg i=>(j g i).1,λg i=>(j g i).2,by omega,p⟩
theorem aix {m:Int}(h0:0<=m)(j:m<=50):(vl m).err=0:=by
 have g:(vl m).uses=true:=by
  show XH 5 ex0.zero 0 0 0 0 m ⟨#[]⟩=true;have i:ex0.zero=true:=by
   grind[ex0,Ex.zero,Vl,xF,AM.beqS_self]
  unfold XH;rw[AM.beqS_self,i];rfl
 unfold Stp.err;rw[g];show(bif decide (m<0)||decide (m>20000)then(2:Int)else 0)=0
 grind
end
section
attribute [local irreducible] Sat zD yk
def uH (cols:List Col)(l:List Srt):List Int:=l.map λs=>zj cols s.col
def qz (cols:List Col)(l:List Srt):Bool:=l.any λs=>decide (zj cols s.col<0)
def akl (t:Tbl)(l:List Srt):Res:=bif zR t !=0 then vh ⟨[],[]⟩ (zR t)else bif qz t.cols l then vh ⟨[],[]⟩ 16 else vh ⟨t.cols,xh (u4 (uH t.cols l) l) t.rows⟩ 0
def soS (cols:List Col)(rows:D)(l:List Srt)(i:Nat):List Int ->S
 | []=>⟨[(2,cV (.ptr 2 0)),(3,cV (.ptr 3 0)),(4,cV (.ptr 4 0)),(7,cV (.ptr 7 0)),(19,.w (.c (.d (.sl (xA l))))),(20,zg l.length),(21,zg i)],
  [(2,.box [.d (.sl (zi cols)),.d rows]),(3,.box [.d (.sl (xA l))]),(4,.box [.nil,.nil]),(7,.box [.nil])]⟩
 |a::r=>⟨[(2,cV (.ptr 2 0)),(3,cV (.ptr 3 0)),(4,cV (.ptr 4 0)),(7,cV (.ptr 7 0)),(19,.w (.c (.d (.sl (xA l))))),(20,zg l.length),(21,zg i)],
   [(2,.box [.d (.sl (zi cols)),.d rows]),(3,.box [.d (.sl (xA l))]),(4,.box [.nil,.nil]),(7,.box [.own 35 1 (a::r).length]),(35,.arr 1 (zp (a::r)) false)]⟩
theorem K3 (at_:List Int)(l:List Srt)(rows:List (List Val))(n:Nat)(hn:rows.length=n)(p:n<=1000000)(o: ∀r∈rows,yT r.length at_)(I:at_.length=l.length)(J:l.length<=1000000):
 zD Pg qo [.c (.own 0 1 n),.c (.d (.fn ZT [[.fn uy [[.sl (zp at_)]]],[.sl (xA l)]]))] [.arr 1 (zh rows) false]
  (λr=>r=⟨.tup [],[.arr 1 (zh (xh (u4 at_ l) rows)) false]⟩):=by
 have U: ∀L:List (List Val×Nat),apV (λx:List Val×Nat=>D.sl (rowD x.1)) L=zh (L.map Prod.fst):=λL=>by simp_all[zh]
 have e:zh rows=apV (λx:List Val×Nat=>D.sl (rowD x.1)) (qw rows):=by grind[Jp]
 rw[e];refine zD.mono (aaq (λx:List Val×Nat=>D.sl (rowD x.1)) [.fn uy [[.sl (zp at_)]]] [.sl (xA l)] ZT (vT (u4 at_ l)) (kN (QK at_ l)) (λx y=>x.2<y.2 /\yT x.1.length at_ /\yT y.1.length at_) (λx y g=>?_) (qw rows) n (by grind[Jq]) p ?_) ?_
 ·refine(agB at_ l y.1 x.1 g.2.2 g.2.1 I J).mono ?_;rintro _ rfl;exact⟨_,rfl,aiS (QK at_ l) g.1⟩
 ·intro i j x y P R h3 hx hy;have T: ∀(k:Nat) (z:List Val×Nat),(qw rows)[k]? =some z ->z.1∈rows:=λk z hz=>by
   have:=List.mem_of_getElem? hz;have h:=List.mem_map_of_mem (f:=Prod.fst) this
   grind[Jp]
  exact⟨gF rows n i j x y P R h3 hx hy,o _ (T i x hx),o _ (T j y hy)⟩
 ·rintro _ ⟨l',P,R,rfl⟩<;>grind[So.eL,aeb,QK]
theorem aj7 (t:Tbl)(l:List Srt)(hl:l.length<=1000000)(hr:t.rows.length<=1000000)(U:t.cols.length<=1000000):Sat Pg Un [t.w,.c (.d (.sl (xA l)))] (λr=>r=akl t l):=by
 have hk:=xX t;have hw:=@uZ t;unfold akl;generalize zR t=e at*;obtain⟨g,j⟩:=t;refine zC ?_;refine Xd.s T8 ?_;refine Sat.w hk ?_;refine zt (λh1=>?_) (λh1=>?_)
 ·rw[show(e !=0)=true from h1];exact⟨rfl,rfl⟩
 ·rw[show(e !=0)=false from h1];have hw: ∀r∈j,r.length=g.length:=hw (by grind);have hr:j.length<=1000000:=hr;have U:g.length<=1000000:=U;(conv=>whnf);rw[ZW];refine XV T8 (Xd.l 0) l.length (λi=>soS g (.sl (zh j)) l i (uH g (l.take i))) (λi=>qz g (l.take i)=false) ?_
  ·intro i hi hR;have hR:qz g (l.take i)=false:=hR;have ag:(uH g (l.take i)).length=i:=by grind[uH]
   have P: ∀h:i<l.length,uH g (l.take (i+1))=uH g (l.take i)++[zj g l[i].col]:=λh=>by
    grind[uH,zM]
   have I: ∀h:i<l.length,qz g (l.take (i+1))=decide (zj g l[i].col<0):=λh=>by
    grind[qz,zM]
   have J: ∀h:i<l.length,decide (zj g l[i].col<0)=true ->qz g l=true:=λh hb=>by
    grind[qz]
   have aa:l.length<=i ->uH g l=uH g (l.take i)/\qz g l=false:=λh=>by
    grind
   show mwpR Pg T8.f (Xd.l 0) _ (soS g (.sl (zh j)) l i (uH g (l.take i)));generalize uH g (l.take i)=A at*;have ae:(zp A).take A.length=zp A:=by grind[ym]
   cases A with
   |nil=>
    unfold soS;refine um (λo=>?_) (λac=>?_)
    ·have hg:=Wv o;have P:=P o;have I:=I o;have J:=J o;have p:=λs=>xK g (.d (.sl (zh j))) s ⟨_,rfl⟩
     generalize l[i]=s at*;obtain⟨sc,sd⟩:=s;have p:=p sc;generalize hc:zj g sc=c at*;refine zX hg ?_;refine Sat.w p ?_;refine zt (λh3=>?_) (λh3=>?_)
     ·rw[J (show decide (c<0)=true from h3)];exact⟨rfl,rfl⟩
     ·have I:qz g (l.take (i+1))=false:=I.trans h3;refine qj ?_ (hA:=by simp) (hB:=by grind[yP]) (hC:=by simp);refine yF o I ?_;rw[zA o (by omega),P];rfl
    ·obtain⟨e1,e2⟩:=aa ac;rw[e2,e1];have ad:=λhz=>K3 [] l j (zh j).length (zy j).symm (by grind[zy]) (λr hr k hk=>by cases hk) (by grind) hz
     have hS:(zh (xh (u4 [] l) j)).take (zh j).length=zh (xh (u4 [] l) j):=by
      rw[zy,<-(QH (QK [] l) j).length_eq,<- zy,List.take_length]
     have ab:j=[] ->xh (u4 [] l) j=[]:=λh=>by rw[h];rfl
     generalize xh (u4 [] l) j=S at*;have R:=qF g U;(conv=>whnf);refine Sat.mono (Qr j hr) ?_;rintro _ (⟨T,rfl⟩|rfl)
     ·rw[ab T];(conv=>whnf);refine zD.mono (XZ _ _) ?_;rintro _ rfl;refine Sat.w R ?_;exact⟨rfl,rfl⟩
     ·(conv=>whnf);refine zD.mono (ad hl) ?_;rintro _ rfl;refine Sat.w R ?_;refine⟨rfl,?_⟩;refine Eq.trans (b:=⟨.tup [.agg [.d (.sl (zi g)),.d (.sl ((zh S).take (zh j).length))],.c (int 0)],[]⟩) rfl ?_;rw[hS];rfl
   |cons a A=>
    unfold soS;refine um (λo=>?_) (λac=>?_)
    ·have hg:=Wv o;have P:=P o;have I:=I o;have J:=J o;have p:=λs=>xK g (.d (.sl (zh j))) s ⟨_,rfl⟩
     generalize l[i]=s at*;obtain⟨sc,sd⟩:=s;have p:=p sc;generalize hc:zj g sc=c at*;generalize hA:(a::A)=B at*;refine zX hg ?_;refine Sat.w p ?_;refine zt (λh3=>?_) (λh3=>?_)
     ·rw[J (show decide (c<0)=true from h3)];exact⟨rfl,rfl⟩
     ·have I:qz g (l.take (i+1))=false:=I.trans h3;refine qj ?_;refine yF o I ?_;have e5:zp B++List.take [[D.lit (Value.int IntKind.i64 c)]].length [[D.lit (Value.int IntKind.i64 c)]]=zp (B++[c]):=by simp[zp]
      have e6:B.length+(List.take [[D.lit (Value.int IntKind.i64 c)]].length [[D.lit (Value.int IntKind.i64 c)]]).length=(B++[c]).length:=by simp
      rw[zA o (by omega),ae,P,e5,e6];subst hA;rfl
    ·obtain⟨e1,e2⟩:=aa ac;have af:yT g.length (uH g l):=by
      intro k hk;unfold uH at hk;obtain⟨s,hs,rfl⟩:=List.mem_map.1 hk
      grind[qz,xW]
     rw[e2,e1];rw[e1]at af;generalize hA:(a::A)=B at*;have ad:=λhz=>K3 B l j (zh j).length (zy j).symm (by grind[zy]) (λr hr=>by grind) (by grind) hz
     have hS:(zh (xh (u4 B l) j)).take (zh j).length=zh (xh (u4 B l) j):=by
      rw[zy,<-(QH (QK B l) j).length_eq,<- zy,List.take_length]
     have ab:j=[] ->xh (u4 B l) j=[]:=λh=>by rw[h];rfl
     generalize xh (u4 B l) j=S at*;have R:=qF g U;(conv=>whnf);refine Sat.mono (Qr j hr) ?_;rintro _ (⟨T,rfl⟩|rfl)
     ·rw[ab T];(conv=>whnf);refine zD.mono (XZ _ _) ?_;rintro _ rfl;refine Sat.w R ?_;exact⟨rfl,rfl⟩
     ·rw[ae];(conv=>whnf);refine zD.mono (ad hl) ?_;rintro _ rfl;refine Sat.w R ?_;refine⟨rfl,?_⟩;refine Eq.trans (b:=⟨.tup [.agg [.d (.sl (zi g)),.d (.sl ((zh S).take (zh j).length))],.c (int 0)],[]⟩) rfl ?_;rw[hS];rfl
structure Stp.OK (st:Stp):Prop where
 sorts:st.sorts.length<=1000000
 cols:st.cols.length<=1000000
 aggs:st.aggs.length<=100000
 items:st.items.length<=1000000
def an4 (op:Int):List ByteArray:=bif op==7 then [sFrom,sTo]else bif op==8 then [sFrom]else []
def whT (cols:List Col)(e:Ex):Int×List Col:=bif ahb cols e !=0 then(ahb cols e,[])else(0,cols)
def soT (cols:List Col)(l:List Srt):Int×List Col:=bif qz cols l then(16,[])else(0,cols)
def grT (cols:List Col)(i:List ByteArray)(g:List Agg):Int×List Col:=
 bif takeErr cols i then(16,[])else bif (y5 cols g).1 !=0 then((y5 cols g).1,[])else(0,takeC cols i++(y5 cols g).2)
def ajH (i:List ByteArray)(cols g:List Col)(j:List ByteArray):Int×List Col:=
 bif jnErr cols g j !=0 then(jnErr cols g j,[])else bif intErr cols i !=0 then(intErr cols i,[])else bif intErr g i !=0 then(intErr g i,[])else
 bif dupL [] (cols++keepS i j g)then(4,[])else bif decide (((cols++keepS i j g).length:Int)>32)then(7,[])else(0,cols++keepS i j g)
def Xi (i:List ByteArray)(d:List Nmd)(cols:List Col)(g:List ByteArray)(tb:ByteArray):Int×List Col:=match zI tb d with
 |none=>(17,[])
 |some t=>bif i.any (hasB g)then(4,[])else ajH i cols t.cols g
theorem acf {b:Bool}{x y:Int×List Col}:(bif b then xI x else xI y)=xI (bif b then x else y):=by grind
theorem aiv (i:List ByteArray)(d:List Nmd)(cols:List Col)(g:List ByteArray)(tb:ByteArray):acw i d cols g tb=xI (Xi i d cols g tb):=by
 unfold acw Xi;cases zI tb d with
 |none=>rfl
 |some t=>
  simp only[ajF,ajG,ajH,<- acf];rfl
theorem alp (g:List ByteArray)(l:List Col):keepS [] g l=qp g l:=by
 unfold keepS qp;congr 1
 funext c;simp_all[hasB]
theorem ap6 (d:List Nmd)(cols:List Col)(g:List ByteArray)(tb:ByteArray):jnT d cols g tb=xI (Xi [] d cols g tb):=by
 unfold jnT Xi;cases zI tb d with
 |none=>rfl
 |some t=>
  simp only[jnQ,ajH,alp,<- acf];rfl
theorem ap1 (cols:List Col)(i:List ByteArray)(g:List Agg):ajA cols i g=xI (grT cols i g):=by
 unfold ajA grT;simp only[<- acf];rfl
def yI (d:List Nmd)(cols:List Col)(st:Stp):Int×List Col:=
 bif st.err !=0 then(st.err,[])else bif st.op==1 then whT cols st.cond else bif st.op==2 then uu cols st.items else bif st.op==3 then grT cols st.cols st.aggs else
 bif st.op==4 then soT cols st.sorts else bif st.op==5 then(0,cols)else bif st.op==9 then coT cols st.cols else Xi (an4 st.op) d cols st.cols st.table
theorem akd (d:List Nmd)(cols:List Col)(st:Stp)(hs:st.sorts.length<=1000000)(l:(st.err !=0)=true):Sat Pg yp [.c (.d (.sl (zu d))),.c (.d (.sl (zi cols))),st.w] (λr=>r=xI (st.err,[])):=by
 have o:=wY st hs;refine zC ?_;obtain⟨op,⟨I,J,⟨R,T,vs⟩,ks⟩,g,p,i,j,P,tb⟩:=st;refine yM.s T8 ?_;refine Sat.w o ?_;rw[l];exact⟨rfl,rfl⟩
theorem anM (d:List Nmd)(cols:List Col)(st:Stp)(g:st.op=2)(hs:st.sorts.length<=1000000)(o:(st.err !=0)=false)(x:Int×List Col)(p:Sat Pg Qn [.c (.d (.sl (zi cols))),.c (.d (.sl (y9 st.items)))] (λr=>r=xI x)):Sat Pg yp [.c (.d (.sl (zu d))),.c (.d (.sl (zi cols))),st.w] (λr=>r=xI x):=by
 have I:=wY st hs;refine zC ?_;obtain⟨op,⟨P,R,⟨U,vn,vs⟩,ks⟩,i,J,j,l,T,tb⟩:=st;subst g;refine yM.s T8 ?_;refine Sat.w I ?_;rw[o];refine Sat.w p ?_;exact⟨rfl,rfl⟩
theorem anN (d:List Nmd)(cols:List Col)(st:Stp)(g:st.op=3)(hs:st.sorts.length<=1000000)(o:(st.err !=0)=false)(x:Int×List Col)(p:Sat Pg Wl [.c (.d (.sl (zi cols))),.agg st.cs] (λr=>r=xI x)):Sat Pg yp [.c (.d (.sl (zu d))),.c (.d (.sl (zi cols))),st.w] (λr=>r=xI x):=by
 have I:=wY st hs;refine zC ?_;obtain⟨op,⟨P,R,⟨U,vn,vs⟩,ks⟩,i,J,j,l,T,tb⟩:=st;subst g;refine yM.s T8 ?_;refine Sat.w I ?_;rw[o];refine Sat.w p ?_;exact⟨rfl,rfl⟩
theorem anT (d:List Nmd)(cols:List Col)(st:Stp)(g:st.op=9)(hs:st.sorts.length<=1000000)(o:(st.err !=0)=false)(x:Int×List Col)(p:Sat Pg XU [.c (.d (.sl (zi cols))),.agg st.cs] (λr=>r=xI x)):Sat Pg yp [.c (.d (.sl (zu d))),.c (.d (.sl (zi cols))),st.w] (λr=>r=xI x):=by
 have I:=wY st hs;refine zC ?_;obtain⟨op,⟨P,R,⟨U,vn,vs⟩,ks⟩,i,J,j,l,T,tb⟩:=st;subst g;refine yM.s T8 ?_;refine Sat.w I ?_;rw[o];refine Sat.w p ?_;exact⟨rfl,rfl⟩
theorem anQ (d:List Nmd)(cols:List Col)(st:Stp)(g:st.op=6)(hs:st.sorts.length<=1000000)(o:(st.err !=0)=false)(x:Int×List Col)(p:Sat Pg wc [.c (.d (.sl (zu d))),.c (.d (.sl (zi cols))),.agg st.cs] (λr=>r=xI x)):Sat Pg yp [.c (.d (.sl (zu d))),.c (.d (.sl (zi cols))),st.w] (λr=>r=xI x):=by
 have I:=wY st hs;refine zC ?_;obtain⟨op,⟨P,R,⟨U,vn,vs⟩,ks⟩,i,J,j,l,T,tb⟩:=st;subst g;refine yM.s T8 ?_;refine Sat.w I ?_;rw[o];refine Sat.w p ?_;exact⟨rfl,rfl⟩
theorem anR (d:List Nmd)(cols:List Col)(st:Stp)(g:st.op=7)(hs:st.sorts.length<=1000000)(o:(st.err !=0)=false)(x:Int×List Col)(p:Sat Pg wc [.c (.d (.sl (zu d))),.c (.d (.sl (zi cols))),.agg st.cs] (λr=>r=xI x)):Sat Pg yp [.c (.d (.sl (zu d))),.c (.d (.sl (zi cols))),st.w] (λr=>r=xI x):=by
 have I:=wY st hs;refine zC ?_;obtain⟨op,⟨P,R,⟨U,vn,vs⟩,ks⟩,i,J,j,l,T,tb⟩:=st;subst g;refine yM.s T8 ?_;refine Sat.w I ?_;rw[o];refine Sat.w p ?_;exact⟨rfl,rfl⟩
theorem anS (d:List Nmd)(cols:List Col)(st:Stp)(g:st.op=8)(hs:st.sorts.length<=1000000)(o:(st.err !=0)=false)(x:Int×List Col)(p:Sat Pg wc [.c (.d (.sl (zu d))),.c (.d (.sl (zi cols))),.agg st.cs] (λr=>r=xI x)):Sat Pg yp [.c (.d (.sl (zu d))),.c (.d (.sl (zi cols))),st.w] (λr=>r=xI x):=by
 have I:=wY st hs;refine zC ?_;obtain⟨op,⟨P,R,⟨U,vn,vs⟩,ks⟩,i,J,j,l,T,tb⟩:=st;subst g;refine yM.s T8 ?_;refine Sat.w I ?_;rw[o];refine Sat.w p ?_;exact⟨rfl,rfl⟩
theorem anL (d:List Nmd)(cols:List Col)(st:Stp)(I:st.op=1)(hs:st.sorts.length<=1000000)(i:(st.err !=0)=false)(hl:cols.length<=1000000)(he:st.cond.err=0):Sat Pg yp [.c (.d (.sl (zu d))),.c (.d (.sl (zi cols))),st.w] (λr=>r=xI (whT cols st.cond)):=by
 have p:=wY st hs;have o:=Vh cols st.cond he;have hK:=qF cols hl;unfold whT ahb;generalize Ex.ty cols st.cond=t at*;obtain⟨U,g⟩:=t;refine zC ?_;obtain⟨op,⟨eo,nm,⟨vk,vn,vs⟩,ks⟩,J,aa,P,R,sn,tb⟩:=st;subst I;have T:=Xs U 1;generalize Xe U 1=f at*;cases h2:(g !=0)with
 |true=>
  have j:(g==0)=false:=by
   grind
  simp only[cond_true,h2];refine yM.s T8 ?_;refine Sat.w p ?_;rw[i];refine Sat.w o ?_;refine zt (λc=>?_) (λc=>?_)
  ·have c:(g==0)=true:=c;rw[j]at c;cases c
  ·refine ze (λd=>?_) (λd=>?_)
   ·exact⟨rfl,rfl⟩
   grind
 |false=>
  have l:g=0:=by grind
  subst l;cases f with
  |true=>
   refine yM.s T8 ?_;refine Sat.w p ?_;rw[i];refine Sat.w o ?_;refine Sat.w T ?_;refine Sat.w hK ?_;exact⟨rfl,rfl⟩
  |false=>
   refine yM.s T8 ?_;refine Sat.w p ?_;rw[i];refine Sat.w o ?_;refine Sat.w T ?_;exact⟨rfl,rfl⟩
theorem anP (d:List Nmd)(cols:List Col)(st:Stp)(g:st.op=5)(hs:st.sorts.length<=1000000)(i:(st.err !=0)=false)(j:cols.length<=1000000):Sat Pg yp [.c (.d (.sl (zu d))),.c (.d (.sl (zi cols))),st.w] (λr=>r=xI (0,cols)):=by
 have h:=agR d cols st g hs j;rw[i]at h;exact h
theorem anO (d:List Nmd)(cols:List Col)(st:Stp)(R:st.op=4)(hs:st.sorts.length<=1000000)(h1:(st.err !=0)=false)(hl:cols.length<=1000000):Sat Pg yp [.c (.d (.sl (zu d))),.c (.d (.sl (zi cols))),st.w] (λr=>r=xI (soT cols st.sorts)):=by
 have hS:=wY st hs;have hK:=qF cols hl;unfold soT;refine zC ?_;obtain⟨op,⟨eo,nm,⟨vk,vn,vs⟩,ks⟩,T,aa,U,g,sn,tb⟩:=st;simp only at*;subst R;refine yM.s T8 ?_;refine Sat.w hS ?_;rw[h1];refine XV T8 (yM.l 0) g.length (λi=>⟨[(1,.w (.c (.d (.sl (zi cols))))),(57,.w (.c (.d (.sl (xA g))))),(58,zg (xA g).length),(59,zg i)],[]⟩) (λi=>qz cols (g.take i)=false) ?_
 ·intro i hi hR;have p: ∀h:i<g.length,qz cols (g.take (i+1))=decide (zj cols g[i].col<0):=λh=>by
   grind[qz,zM]
  have j: ∀h:i<g.length,decide (zj cols g[i].col<0)=true ->qz cols g=true:=λh hb=>by
   exact List.any_eq_true.2 ⟨g[i],List.getElem_mem h,hb⟩
  refine ze (λh2=>?_) (λh2=>?_)
  ·have o:i<g.length:=by simp_all[ZW]
   have hg:=Wv o;have p:=p o;have j:=j o;have I:=xd cols g[i].col;have wi:=zA o (by omega);generalize g[i]=s at*;obtain⟨sc,sd⟩:=s;generalize zj cols sc=c at*;refine zX hg ?_;refine Sat.w I ?_;refine zt (λJ=>?_) (λJ=>?_)
   ·rw[j (show decide (c<0)=true from J)];exact⟨rfl,rfl⟩
   ·have p:qz cols (g.take (i+1))=false:=p.trans J;refine yF o p ?_;rw[wi];rfl
  ·have P:g.length<=i:=by grind[ZW]
   rw[List.take_of_length_le P]at hR;rw[hR];refine Sat.w hK ?_;exact⟨rfl,rfl⟩
theorem amY {st:Stp}(h:st.err=0):st.uses=true:=by
 unfold Stp.err at h;have:=(zO (by omega) h).1<;>simp_all
theorem afJ {st:Stp}(h:st.err=0):1<=st.op /\st.op<=9:=by
 have g:=amY h<;>grind[Stp.uses,XH]
theorem aqE {st:Stp}(h:st.err=0)(g:st.op=1):st.cond.err=0:=by
 unfold Stp.err at h;have h:=(zO (by omega) h).2<;>simp_all[kq]
theorem adA: ∀(l:List Itm) (g:List ByteArray),qc g l=0 -> ∀x∈l,x.e.chk=0
 | [],_,_,x,i=>by cases i
 |y::r,g,h,x,i=>by
  simp only[qc]at h;cases j:(y.e.chk !=0)
  ·rw[j,cond_false]at h;cases o:(z0 g y.nm !=0)
   ·rw[o,cond_false]at h;rcases List.mem_cons.1 i with rfl|i
    ·simpa using j
    ·exact adA r _ h x i
   simp_all
  simp_all
theorem aqF {st:Stp}(h:st.err=0)(g:st.op=2): ∀x∈st.items,x.e.chk=0:=by
 unfold Stp.err at h;have h:=(zO (by omega) h).2;rw[g]at h;have h:(bif ve st.items.length 1 !=0 then ve st.items.length 1 else qc [] st.items)=0:=h;cases i:(ve st.items.length 1 !=0)
 ·rw[i,cond_false]at h
  grind[adA]
 simp_all
theorem YP (d:List Nmd)(cols:List Col)(st:Stp)(hk:st.OK)(o:cols.length<=1000000)(l: ∀t,zI st.table d=some t ->t.cols.length<=1000000):Sat Pg yp [.c (.d (.sl (zu d))),.c (.d (.sl (zi cols))),st.w] (λr=>r=xI (yI d cols st)):=by
 unfold yI;cases j:(st.err !=0)with
 |true=>exact akd d cols st hk.sorts j
 |false=>
  have h0:st.err=0:=by grind
  have g:=afJ h0;have g:st.op=1\/st.op=2\/st.op=3\/st.op=4\/st.op=5\/st.op=6\/st.op=7\/st.op=8\/st.op=9:=by omega
  rcases g with g|g|g|g|g|g|g|g|g
  ·have:=anL d cols st g hk.sorts j o (aqE h0 g)
   grind
  ·have:=anM d cols st g hk.sorts j _ (agL cols st.items (λx p=>kq (aqF h0 g x p)) hk.items)
   grind
  ·have i:=agO cols st hk.cols hk.aggs;rw[ap1]at i;have:=anN d cols st g hk.sorts j _ i
   grind
  ·have:=anO d cols st g hk.sorts j o
   grind
  ·have:=anP d cols st g hk.sorts j o
   grind
  ·have i:=ahV d cols st g hk.cols o l;rw[ap6]at i;have:=anQ d cols st g hk.sorts j _ i;rw[g];exact this
  ·have i:=agP d cols st g hk.cols o l;rw[aiv]at i;have:=anR d cols st g hk.sorts j _ i;rw[g];exact this
  ·have i:=agQ d cols st g hk.cols o l;rw[aiv]at i;have:=anS d cols st g hk.sorts j _ i;rw[g];exact this
  ·have:=anT d cols st g hk.sorts j _ (aeL cols st hk.cols)
   grind
def Wy (d:List Nmd)(cols:List Col):List Stp ->Int×List Col
 | []=>(0,cols)
 |s::r=>bif (yI d cols s).1 !=0 then((yI d cols s).1,[])else Wy d (yI d cols s).2 r
def qZ (d:List Nmd)(q:Qry):Int×List Col:=
 bif yu d !=0 then(yu d,[])else bif q.err !=0 then(q.err,[])else match zI q.src d with
 |none=>(17,[])
 |some t=>Wy d t.cols q.steps
def akx (cols:List Col)(rows:D)(j:List ByteArray)(i:Nat)(g:List Int):S:=⟨[(2,cV (.ptr 2 0)),(5,cV (.own 19 1 g.length)),(8,.w (.c (.d (.sl (zq j))))),(9,zg (zq j).length),(10,zg i)],
 [(2,.box [.d (.sl (zi cols)),.d rows]),(19,.arr 1 (zp g) false)]⟩
theorem wE (cols:List Col)(rows:D)(g:List ByteArray)(hn:g.length<=1000000):Sat Pg k8 [.agg [.d (.sl (zi cols)),.d rows],.c (.d (.sl (zq g)))] (λr=>r=rC (.d (.sl (zp (zn cols g))))):=by
 refine zC ?_;refine j9.s T8 ?_;refine yl (P:=Pg) (f:=T8.f) (body:=(j9.l 0)) g.length (λi=>akx cols rows g i (zn cols (g.take i))) (λ_=>True) ⟨trivial,⟨_,z7 5 19 1 (by omega) (by omega) rfl,?_⟩⟩ ?_
 ·exact rfl
 ·intro i hi _;have aa:(zn cols (g.take i)).length=i:=by grind[zn]
  have R: ∀h:i<g.length,zn cols (g.take (i+1))=zn cols (g.take i)++[zj cols g[i]]:=λh=>by
   grind[zn,zM]
  have p:g.length<=i ->zn cols g=zn cols (g.take i):=λh=>by grind
  show mwpR Pg T8.f (j9.l 0) _ (akx cols rows g i (zn cols (g.take i)));generalize zn cols (g.take i)=T at*;have I:(zp T).take T.length=zp T:=by grind[ym]
  unfold akx;refine ze (λU=>?_) (λU=>?_)
  ·have j:i<g.length:=by simp_all[zT]
   have hg:=qY j;have o:=xK cols (.d rows) g[i] ⟨rows,rfl⟩;refine zX hg ?_;refine Sat.w o ?_;refine qj ?_;refine yF j trivial ?_;rw[zA j (by omega),I,R,<- XP,List.length_append];rfl
  ·have J:g.length<=i:=by grind[zT]
   rw[p J];refine⟨rfl,?_⟩;show Res.mk (.w (.c (.d (.sl ((zp T).take T.length))))) []=_;rw[I];rfl
def aha (row:List Val)(at_:List Int)(i:Nat)(g:List Val):S:=⟨[(0,.w (yb row)),(5,cV (.own 20 3 g.length)),(8,.w (.c (.d (.sl (zp at_))))),(9,zg (zp at_).length),(10,zg i)],
 [(20,.arr 3 (rowD g) false)]⟩
theorem jF (row:List Val)(at_:List Int)(hn:at_.length<=1000000)(R:yT row.length at_):Sat Pg abl [yb row,.c (.d (.sl (zp at_)))] (λr=>r=rC (.d (.sl (rowD (zw row at_))))):=by
 refine zC ?_;refine yK T8 Yu.ok (by kernel_rfl) ?_;refine yl (P:=Pg) (f:=T8.f) (body:=(Yu.l 0)) at_.length (λi=>aha row at_ i (zw row (at_.take i))) (λ_=>True) ⟨trivial,⟨_,z7 5 20 3 (by omega) (by omega) rfl,?_⟩⟩ ?_
 ·exact rfl
 ·intro i hi _;have aa:(zw row (at_.take i)).length=i:=by grind[zw]
  have j: ∀h:i<at_.length,zw row (at_.take (i+1))=zw row (at_.take i)++[at0 row (at_[i]).toNat]:=λh=>by
   grind[zw,zM]
  have o:at_.length<=i ->zw row at_=zw row (at_.take i):=λh=>by grind
  show mwpR Pg T8.f (Yu.l 0) _ (aha row at_ i (zw row (at_.take i)));generalize zw row (at_.take i)=T at*;have p:(rowD T).take T.length=rowD T:=by grind[zm]
  unfold aha;refine ze (λU=>?_) (λU=>?_)
  ·have g:i<at_.length:=by simp_all[ym]
   have hg:=vA g;have j:=j g;have hk:=R _ (List.getElem_mem g);generalize at_[i]=k at*;have J:(rowD row)[k.toNat]? =some (at0 row k.toNat).ds:=by
    grind[at0,rowD]
   refine zX hg ?_;refine zX J ?_ (hA:=hk.1);refine qj ?_;refine yF g trivial ?_;rw[zA g (by omega),p,j,<- wX,List.length_append];rfl
  ·have I:at_.length<=i:=by grind[ym]
   rw[o I];refine⟨rfl,?_⟩;show Res.mk (.w (.c (.d (.sl ((rowD T).take T.length))))) []=_;rw[p];rfl
def trS (cols:List Col)(j:List ByteArray)(i:Nat)(g:List Int):S:=⟨[(1,.w (.c (.d (.sl (zq j))))),(5,cV (.own 24 1 g.length)),(9,.w (.c (.d (.sl (zi cols))))),(10,zg cols.length),(11,zg i)],[(24,.arr 1 (zp g) false)]⟩
theorem agK (cols:List Col)(rows:D)(g:List ByteArray)(aa:cols.length<=1000000):Sat Pg YG [.agg [.d (.sl (zi cols)),.d rows],.c (.d (.sl (zq g)))] (λr=>r=rC (.d (.sl (zp (x9 g 0 cols))))):=by
 refine zC ?_;refine Yv.s T8 ?_;rw[zP];refine yx (P:=Pg) (f:=T8.f) (body:=(Yv.l 0)) (λx:Nat×List Int=>trS cols g x.1 x.2) (λx=>cols.length - x.1) (λx=>x.1<=cols.length /\x.2.length<=x.1 /\x9 g 0 cols=x.2++x9 g x.1 (cols.drop x.1)) ⟨(0,[]),⟨Nat.zero_le _,Nat.le_refl _,rfl⟩,⟨_,z7 5 24 1 (by omega) (by omega) rfl,?_⟩⟩ ?_
 ·exact rfl
 ·rintro⟨i,A⟩ hx;obtain⟨hi,hA,o⟩:i<=cols.length /\A.length<=i /\x9 g 0 cols=A++x9 g i (cols.drop i):=hx;show mwpR Pg T8.f (Yv.l 0) _ (trS cols g i A);have p:(zp A).take A.length=zp A:=by grind[ym]
  unfold trS;refine um (λj=>?_) (λJ=>?_)
  ·rw[zo j]at o;simp only[x9]at o;have hg:=xj j;have T:=zA j (by omega);have R:=z8 g cols[i].name;generalize cols[i]=c at*;obtain⟨U,c2⟩:=c;generalize hasB g U=b at*;refine zX hg ?_;refine Sat.w R ?_;refine zt (b:=!b) (λI=>?_) (λI=>?_)
   ·rw[I,cond_true]at o;refine qj ?_;refine⟨(i+1,A++[(i:Int)]),⟨⟨j,by simp;omega,?_⟩,by grind⟩,zf ?_⟩
    ·grind
    ·(conv=>whnf);rw[T,p];show _=trS cols g (i+1) (A++[(i:Int)]);unfold trS;rw[List.length_append,<- XP];rfl
   ·rw[I,cond_false,List.nil_append]at o;refine⟨(i+1,A),⟨⟨j,by grind,o⟩,by grind⟩,zf ?_⟩;rw[T];rfl
  ·rw[List.drop_eq_nil_of_le J]at o;have o:x9 g 0 cols=A:=by grind[x9]
   rw[o];refine⟨rfl,?_⟩;show Res.mk (.w (.c (.d (.sl ((zp A).take A.length))))) []=_;rw[p];rfl
def QV (a b:List Val):Bool:=xN a b&& !a.any (xF yJ)
theorem adS (a b:List Val):Sat Pg aae [yb a,yb b] (λr=>r=rB (QV a b)):=by
 have g:=YN a b;have i:=XY a yJ;unfold QV;generalize xN a b=s at*;cases s
 ·refine Q6.s T8 ?_;refine Sat.w g ?_;rfl
 ·refine Q6.s T8 ?_;refine Sat.w g ?_;refine Sat.w i ?_;rfl
theorem Qs (l:List ByteArray)(g:l.length<=1000000):Sat Pg Uh [.c (.d (.sl (zq l)))] (λr=>(l=[]/\r=rC .nil)\/r=KU 1 (zq l)):=by
 refine yK T8 V0.ok (by kernel_rfl) ?_;refine⟨λh=>?_,?_⟩
 ·conv=>whnf
  left
  refine⟨?_,rfl⟩;cases l with
  |nil=>rfl
  |cons a r=>cases h
 ·(conv=>whnf);refine⟨an8 l,by grind[yP,zT],by grind[zT],?_⟩
  right
  show Res.mk (.w (.c (.own 0 1 (([]:List (List D)).length+(zq l).length)))) [.arr 1 (([]:List (List D)).take ([]:List (List D)).length++zq l) false]=_;simp_all[KU]
def wm (a b:Val):Bool:=a.k==2&&b.k==2&&decide (a.n<b.n)
def abW (a b:Val):Res:=⟨.tup [.agg [int a.n,int b.n],.c (bool (wm a b))],[]⟩
theorem aay (row:List Val)(p q:Int)(l:0<=p /\p<row.length)(o:0<=q /\q<row.length):Sat Pg abm [yb row,.c (.d (.sl (zp [p,q])))] (λr=>r=abW (at0 row p.toNat) (at0 row q.toNat)):=by
 have g: ∀k:Int,0<=k /\k<row.length ->(rowD row)[k.toNat]? =some (at0 row k.toNat).ds:=λk hk=>by
  grind[at0,rowD]
 have i:=g p l;have j:=g q o;generalize at0 row p.toNat=a at*;generalize at0 row q.toNat=b at*;obtain⟨I,P,a3⟩:=a;obtain⟨J,R,T⟩:=b;refine aaX.s T8 ?_
 repeat' (first
  |(refine⟨by omega,[.lit (.int .i64 p)],rfl,rfl,?_⟩;conv=>whnf)
  |(refine⟨by omega,[.lit (.int .i64 q)],rfl,rfl,?_⟩;conv=>whnf)
  |(refine⟨l.1,_,i,rfl,?_⟩;conv=>whnf)
  |(refine⟨o.1,_,j,rfl,?_⟩;conv=>whnf)
  |(refine And.intro ?_ ?_<;>conv=>whnf))
 all_goals refine zt (λh=>?_) (λh=>?_)
 all_goals conv=>whnf
 all_goals repeat' (first
  |(refine And.intro ?_ ?_<;>conv=>whnf))
 all_goals have h:(I==2&&J==2)=_:=h
 all_goals simp only[abW,wm,h,Bool.true_and,Bool.false_and]
 all_goals rfl
def XX:ByteArray:=⟨#[98]⟩
def uI (op:Int)(g:List ByteArray)(tb:ByteArray):Stp:=⟨op,.mk 0 ⟨#[]⟩ ⟨0,0,⟨#[]⟩⟩ [],[],g,[],[],0,tb⟩
def Wx (op:Int)(g:List ByteArray)(a:Tbl):Int×List Col:=bif zR a !=0 then(zR a,[])else yI [] a.cols (uI op g ⟨#[]⟩)
def ZX (op:Int)(g:List ByteArray)(a b:Tbl):Int×List Col:=bif zR a !=0 then(zR a,[])else bif zR b !=0 then(zR b,[])else yI [⟨XX,b⟩] a.cols (uI op g XX)
theorem ag8 (op:Int)(g:List ByteArray)(tb:ByteArray)(h:g.length<=1000000):(uI op g tb).OK:=⟨Nat.zero_le _,h,Nat.zero_le _,Nat.zero_le _⟩
theorem akc (op:Int)(g:List ByteArray)(a:Tbl)(o:g.length<=1000000)(j:a.cols.length<=1000000):Sat Pg XT [.c (int op),.c (.d (.sl (zq g))),.c (.d (.sl [a.ds]))] (λr=>r=xI (Wx op g a)):=by
 have hk:=xX a;have p:=YP [] a.cols (uI op g ⟨#[]⟩) (ag8 op g _ o) j (λt I=>by cases I);unfold Wx;generalize zR a=e at*;generalize yI [] a.cols (uI op g ⟨#[]⟩)=x at*;obtain⟨T,U⟩:=x;obtain⟨J,R⟩:=a;refine zC ?_;refine vx.s T8 ?_;refine qq (P:=Pg) (f:=T8.f) (body:=(vx.l 0)) 2 ?_;refine qQ ?_;refine Sat.w hk ?_;refine zt (λi=>?_) (λi=>?_)
 ·rw[show(e !=0)=true from i];exact⟨rfl,rfl⟩
 ·rw[show(e !=0)=false from i];refine qQ ?_;refine Sat.w p ?_;exact⟨rfl,rfl⟩
theorem abL (op:Int)(g:List ByteArray)(a b:Tbl)(I:g.length<=1000000)(o:a.cols.length<=1000000)(aa:b.cols.length<=1000000):Sat Pg XT [.c (int op),.c (.d (.sl (zq g))),.c (.d (.sl [a.ds,b.ds]))] (λr=>r=xI (ZX op g a b)):=by
 have hk:=xX a;have p:=xX b;have hT:=YP [⟨XX,b⟩] a.cols (uI op g XX) (ag8 op g _ I) o (λt ht=>by
  grind[zI])
 unfold ZX;generalize zR a=e at*;generalize zR b=J at*;generalize yI [⟨XX,b⟩] a.cols (uI op g XX)=x at*;obtain⟨x1,x2⟩:=x;obtain⟨R,T⟩:=a;obtain⟨U,br⟩:=b;refine zC ?_;refine vx.s T8 ?_;refine qq (P:=Pg) (f:=T8.f) (body:=(vx.l 0)) 3 ?_;refine qQ ?_;refine Sat.w hk ?_;refine zt (λi=>?_) (λi=>?_)
 ·rw[show(e !=0)=true from i];exact⟨rfl,rfl⟩
 ·rw[show(e !=0)=false from i];(conv=>whnf);refine⟨by decide,_,rfl,rfl,?_⟩;refine Sat.w p ?_;refine zt (λj=>?_) (λj=>?_)
  ·rw[show(J !=0)=true from j];exact⟨rfl,rfl⟩
  ·rw[show(J !=0)=false from j];(conv=>whnf)
   repeat' (first
    |(refine⟨by decide,[.sl (zi U),.sl (zh br)],rfl,rfl,?_⟩;conv=>whnf)
    |(refine⟨by decide,[.sl (zi R),.sl (zh T)],rfl,rfl,?_⟩;conv=>whnf)
    |(refine And.intro ?_ ?_<;>conv=>whnf))
   all_goals refine Sat.mono hT ?_
   all_goals rintro _ rfl
   all_goals conv=>whnf
   all_goals exact⟨rfl,rfl⟩
end
theorem afc {ι:Nat ->Gh}{pl:List (Nat×Pl)}{q:Nat}{o g:List C}(h:aget pl q=some (.box o))(b:Nat):Owns ι (yj q (.box g) pl) b↔Owns ι pl b:=by
 constructor
 ·rintro⟨p,x,j,l,i⟩;rw[yf]at j;split at j
  ·rename_i e;subst e;exact⟨q,_,h,rfl,i⟩
  ·exact⟨p,x,j,l,i⟩
 ·rintro⟨p,x,j,l,i⟩;by_cases e:q=p
  ·subst e;exact⟨q,.box g,by simp_all[yf],rfl,i⟩
  ·exact⟨p,x,by simp_all[yf],l,i⟩
theorem alG {F:Fr}{N:Nat}{ι:Nat ->Gh}{s:S}{a:Act}{w:World}(hr:Rel F N ι s a w){q:Nat}{cs i:List C}(h:aget s.pl q=some (.box cs))
 (hc: ∀vs,CRs ι w (F.ok ι s.pl w) cs vs ->CRs ι w (F.ok ι s.pl w) i vs):Rel F N ι (s.withPl (yj q (.box i) s.pl)) a w:=by
 have o:F.ok ι (yj q (.box i) s.pl) w=F.ok ι s.pl w:=by
  funext b
  grind[Fr.ok,afc]
 refine⟨hr.room,λk v hv=>?_,λp x l=>?_,λp r x y b l hy aa hl U=>?_,λb U=>hr.mine b ((afc h b).1 U),hr.defers,hr.grows,hr.foreign,hr.handed,hr.few,hr.hdom,λp x g l hg=>?_⟩
 ·show∃x,a.tmps[k]? =some x /\VR ι w (F.ok ι (yj q (.box i) s.pl) w) v x;rw[o];exact hr.slots k v hv
 ·show PR ι w (F.ok ι (yj q (.box i) s.pl) w) p x;rw[o];have j:aget (yj q (.box i) s.pl) p=some x:=l;clear l;rw[yf]at j;split at j
  ·rename_i e;subst e;cases j;obtain⟨b,J,P,R,T⟩:=hr.places q _ h;exact⟨b,J,P,R,hc _ T⟩
  ·exact hr.places p x j
 ·have get: ∀{p:Nat}{x:Pl},aget (s.withPl (yj q (.box i) s.pl)).pl p=some x -> ∃I,aget s.pl p=some I /\I.live=x.live:=fun{p x} l=>by
   have j:aget (yj q (.box i) s.pl) p=some x:=l;clear l;rw[yf]at j;split at j
   ·rename_i e;subst e;cases j;exact⟨_,h,rfl⟩
   grind
  obtain⟨I,P,R⟩:=get l;obtain⟨y',T,_⟩:=get hy;exact hr.inj p r I y' b P T aa (R.trans hl) U
 ·have l:aget (yj q (.box i) s.pl) p=some x:=l;rw[yf]at l;split at l
  ·rename_i e;subst e;exact hr.hkeep q _ g h hg
  ·exact hr.hkeep p x g l hg
theorem ah2 {ι:Nat ->Gh}{w:World}{ok:Nat ->Prop}{l:C}(o: ∀v,CR ι w ok .nil v ->CR ι w ok l v): ∀(j:List C) (vs:List Value) (i:Nat),j[i]? =some .nil ->CRs ι w ok j vs ->CRs ι w ok (j.set i l) vs
 | [],_,i,h,_=>by grind
 |c::r,[],_,_,h=>h.elim
 |c::r,v::vs,0,h,g=>by
  have h:c= .nil:=by simpa using h
  subst h;exact⟨o v g.1,g.2⟩
 |c::r,v::vs,i+1,h,g=>⟨g.1,ah2 o r vs i (by simpa using h) g.2⟩
def aib (pl:List (Nat×Pl))(q i:Nat):Option C:=match aget pl q with
 |some (.box g)=>g[i]?
 |_=>none
def al4 (pl:List (Nat×Pl))(q i:Nat)(c:C):List (Nat×Pl):=match aget pl q with
 |some (.box g)=>yj q (.box (g.set i c)) pl
 |_=>pl
def S.boxNil (s:S)(q i p sz:Nat):S:=(s.redo [p] [(p,.arr sz [] false)]).withPl (al4 (s.redo [p] [(p,.arr sz [] false)]).pl q i (.own p sz 0))
theorem VT {s:S}(q i p sz:Nat)(j:0<sz)(P:p<100000)(h:aib (s.redo [p] [(p,.arr sz [] false)]).pl q i=some .nil):Y6 s (S.boxNil s q i p sz):=by
 intro F N ι a w hr;have J:F.h p=none:=by
  cases e:F.h p with
  |none=>rfl
  |some g=>have:=hr.hdom p g e;omega
 have hrel:=hr.noRow (d:=p) [p] (by simp[isin]) j J;unfold S.boxNil;generalize s.redo [p] [(p,.arr sz [] false)]=t at*;unfold aib at h;unfold al4;cases o:aget t.pl q with
 |none=>grind
 |some x=>
  rw[o]at h;cases x with
  |box r=>
   refine⟨_,alG hrel o λvs I=>ah2 (λv l=>?_) r vs i h I⟩;have l:v= .slice none 0 0:=l;exact .inl ⟨by rw[zK],rfl,l⟩
  |arr a b c=>cases h
  |fbox a=>cases h
  |gone=>cases h
section
attribute [local irreducible] Sat zD yk
def VN (r:List Val)(k:Int)(n:Int):List Val:=r.set k.toNat ⟨(at0 r k.toNat).k,n,(at0 r k.toNat).s⟩
theorem Uu {R:List Val}{k:Int}(h:k.toNat<R.length):(rowD R)[k.toNat]? =some (at0 R k.toNat).ds:=by
 grind[at0,rowD]
theorem adN (R:List Val)(k n:Int):(rowD R).set k.toNat [.lit (.int .i64 (at0 R k.toNat).k),.lit (.int .i64 n),.lit (.string (at0 R k.toNat).s)]=rowD (VN R k n):=by
 unfold VN rowD;rw[List.map_set];rfl
theorem agV (R:List Val)(k n:Int):(VN R k n).length=R.length:=by simp[VN]
def ae6 (p q:Int)(g:List Int)(x y:List Val)(lo hi:Int):List Val:=VN (VN (x++zw y g) p lo) q hi
def abv (g i:Int)(left right:List Int)(j l:Int)(x y:List Val):Bool:=
 wm (at0 y g.toNat) (at0 y i.toNat)&&(!decide (xG true j (at0 y g.toNat).n>=xG false l (at0 y i.toNat).n)&&QV (zw x left) (zw y right))
def uB (p q i j:Int)(left right g:List Int)(x:List Val)(l o:Int)(r:List (List Val)):List (List Val):=
 r.flatMap λy=>bif abv i j left right l o x y then [ae6 p q g x y (xG true l (at0 y i.toNat).n) (xG false o (at0 y j.toNat).n)]else []
theorem aaj (p q i j:Int)(left right g:List Int)(x:List Val)(l o:Int): ∀I,(uB p q i j left right g x l o I).length<=I.length
 | []=>Nat.le_refl _
 |y::r=>by
  have:=aaj p q i j left right g x l o r;have e:uB p q i j left right g x l o (y::r)=(bif abv i j left right l o x y then [ae6 p q g x y (xG true l (at0 y i.toNat).n) (xG false o (at0 y j.toNat).n)]else [])++uB p q i j left right g x l o r:=by simp[uB]
  rw[e,List.length_append,List.length_cons];cases abv i j left right l o x y
  ·show 0+_<=_;omega
  ·show 1+_<=_;omega
def ovS (cols o:List Col)(br:List (List Val))(left right:List Int)(p q r I:Int)(g:List Int)(l:List (List Val))(i:Nat)(x:List Val)(J P:Int)(j:Nat)(out:List (List Val)):S:=
 ⟨[(4,cV (.ptr 4 0)),(6,cV (.ptr 6 0)),(10,.w (.c (.d (.sl (zp left))))),(11,.w (.c (.d (.sl (zp right))))),(12,.w (.c (.d (.sl (zp [p,q]))))),(13,.w (.c (.d (.sl (zp [r,I]))))),(14,.w (.c (.d (.sl (zp g))))),(15,cV (.ptr 15 0)),(17,.w (yb x)),(18,cV (.ptr 18 0)),(60,.w (.c (.d (.sl (zh l))))),(61,zg l.length),(62,zg i),(75,.w (.c (.d (.sl (zh br))))),(76,zg br.length),(77,zg j)],
 [(4,.box [.d (.sl (zi o)),.d (.sl (zh br))]),(6,.box [.nil,.nil]),(15,.box [.d (.sl (zi cols)),.own 143 1 out.length]),(18,.box [int J,int P]),(143,.arr 1 (zh out) false)]⟩
theorem aqP {Q:E ->S ->Prop}{s:S}(cols bc:List Col)(br:List (List Val))(left right:List Int)(p q J U:Int)(g:List Int)(ar:List (List Val))(i:Nat)(x:List Val)(r I:Int)(out:List (List Val))
 (aw:out.length+br.length<=20000) (a0:left.length<=100000) (a2:right.length<=100000) (a1:g.length<=100000) (a3:x.length<=100000) (hx:yT x.length left) (hp:0<=p /\p<x.length) (hq:0<=q /\q<x.length)
 (hy: ∀y∈br,yT y.length right /\yT y.length g /\yT y.length [J,U])
 (h0:xm s [4,6,10,11,12,13,14,15,17,18,60,61,62,75,76,77] (· =ovS cols bc br left right p q J U g ar i x r I 0 out))
 (hQ:Q (.exit 2) (uG (ovS cols bc br left right p q J U g ar i x r I br.length (out++uB p q J U left right g x r I br)) 78 (zZ (decide ((br.length:Int)<br.length))))):
 yk (mwpR Pg T8.f (yY.l 0)) [4,6,10,11,12,13,14,15,17,18,60,61,62,75,76,77] Q s:=by
 refine yl (P:=Pg) (f:=T8.f) (body:=(yY.l 0)) br.length (λj=>ovS cols bc br left right p q J U g ar i x r I j (out++uB p q J U left right g x r I (br.take j))) (λ_=>True) ⟨trivial,?_⟩ ?_
 ·grind[uB]
 ·clear h0;intro j hj _;have ae:j<br.length ->(out++uB p q J U left right g x r I (br.take j)).length<20000:=λh=>by
   grind[aaj]
  have o: ∀h:j<br.length,out++uB p q J U left right g x r I (br.take (j+1))=(out++uB p q J U left right g x r I (br.take j))++(bif abv J U left right r I x br[j]then [ae6 p q g x br[j] (xG true r (at0 br[j] J.toNat).n) (xG false I (at0 br[j] U.toNat).n)]else []):=λh=>by
   grind[uB,zM]
  have ab:j=br.length ->out++uB p q J U left right g x r I br=out++uB p q J U left right g x r I (br.take j):=λh=>by grind
  show mwpR Pg T8.f (yY.l 0) _ (ovS cols bc br left right p q J U g ar i x r I j (out++uB p q J U left right g x r I (br.take j)));generalize out++uB p q J U left right g x r I (br.take j)=T at*;have ao:(zh T).take T.length=zh T:=by grind[zy]
  unfold ovS;refine rgE (λaa=>?_) (λaf=>?_)
  ·have hg:=xy aa;have o:=o aa;obtain⟨au,av,ai⟩:=hy _ (List.getElem_mem aa);have wi:=zA aa (by omega);have ac:=aay br[j] J U (ai _ (by simp)) (ai _ (by simp));have ak:=jF x left (by omega) hx;have an:=jF br[j] right (by omega) au;have al:=jF br[j] g (by omega) av;have aj:=adS (zw x left) (zw br[j] right);have ae:=ae aa;have ad:((T.length:Int)==20000)=false:=by simp;omega
   clear hQ ab hy;unfold abv at o;generalize br[j]=y at*;generalize at0 y J.toNat=u1 at*;generalize at0 y U.toNat=u2 at*;generalize QV (zw x left) (zw y right)=ag at*;unfold abW at ac;generalize wm u1 u2=b at*;obtain⟨_,u1,_⟩:=u1;obtain⟨_,u2,_⟩:=u2;simp only at ac o;refine zX hg ?_;refine Sat.w ac ?_;cases b with
   |false=>
    have o:out++uB p q J U left right g x r I (br.take (j+1))=T:=by simp_all
    refine yF aa trivial ?_;rw[wi,o];rfl
   |true=>
    rw[Bool.true_and]at o;refine ze (b:=false||decide (xG true r u1>=xG false I u2)) (λh2=>?_) (λh2=>?_)
    ·rw[Bool.false_or]at h2;have o:out++uB p q J U left right g x r I (br.take (j+1))=T:=by simp_all
     refine yF aa trivial ?_;rw[wi,o];rfl
    ·rw[Bool.false_or]at h2;rw[h2,Bool.not_false,Bool.true_and]at o;refine Sat.w ak ?_;refine Sat.w an ?_;refine Sat.w aj ?_;cases ag with
     |false=>
      have o:out++uB p q J U left right g x r I (br.take (j+1))=T:=by simp_all
      refine yF aa trivial ?_;rw[wi,o];rfl
     |true=>
      rw[cond_true]at o;refine ze (λh3=>?_) (λh3=>?_)
      ·have h3:((T.length:Int)==20000)=true:=h3;rw[ad]at h3;cases h3
      ·(conv=>whnf);refine Sat.mono (uD x (by omega)) ?_;rintro _ (⟨ah,rfl⟩|rfl)
       ·subst ah;simp at hp;omega
       ·refine Sat.w al ?_;refine⟨Xq _,by grind[yP,zm,zw],by grind[zm,zw],?_⟩;(conv=>whnf);rw[show List.take (rowD x).length (rowD x)++rowD (zw y g)=rowD (x++zw y g)by grind[rowD],show(rowD x).length+(rowD (zw y g)).length=(x++zw y g).length by simp[zm]];have az:x.length<=(x++zw y g).length:=by simp
        unfold ae6 at o;generalize x++zw y g=R at*;refine qQ ?_;refine qQ ?_;refine⟨hp.1,by omega,?_⟩;(conv=>whnf);refine⟨(at0 R p.toNat).ds,Uu (by omega),Nat.le_of_ble_eq_true rfl,?_⟩;(conv=>whnf);rw[show(rowD R).set p.toNat (z6 (at0 R p.toNat).ds 1 [.lit (.int .i64 (xG true r u1))])=rowD (VN R p (xG true r u1))from adN _ _ _];generalize xG true r u1=lo at*;have ax:=agV R p lo;generalize VN R p lo=R1 at*;refine⟨hq.1,by omega,?_⟩;(conv=>whnf);refine⟨(at0 R1 q.toNat).ds,Uu (by omega),Nat.le_of_ble_eq_true rfl,?_⟩;(conv=>whnf);rw[show(rowD R1).set q.toNat (z6 (at0 R1 q.toNat).ds (0+1) [.lit (.int .i64 (xG false I u2))])=rowD (VN R1 q (xG false I u2))from adN _ _ _];generalize xG false I u2=hi at*;have ay:=agV R1 q hi;generalize VN R1 q hi=R2 at*;have aq:List.take R.length (rowD R2)=rowD R2:=by grind[zm]
        rw[aq];refine qj ?_;refine yF aa trivial ?_;rw[wi,ao,o,qW,List.length_append];rfl
  ·rw[ab af]at hQ;subst af;(conv=>whnf);exact hQ
def KN (p q i j:Int)(left right g:List Int)(br:List (List Val))(x:List Val):List (List Val):=
 bif wm (at0 x p.toNat) (at0 x q.toNat)then uB p q i j left right g x (at0 x p.toNat).n (at0 x q.toNat).n br else []
def vd (p q j l:Int)(left right g:List Int)(i br:List (List Val)):List (List Val):=i.flatMap (KN p q j l left right g br)
theorem ajU (p q i j:Int)(left right g:List Int)(br:List (List Val))(x:List Val):(KN p q i j left right g br x).length<=br.length:=by
 unfold KN;cases wm (at0 x p.toNat) (at0 x q.toNat)
 ·simp_all
 grind[aaj]
theorem adE (p q i j:Int)(left right g:List Int)(br:List (List Val)): ∀xs,(vd p q i j left right g xs br).length<=xs.length*br.length
 | []=>by simp[vd]
 |x::r=>by
  have o:=ajU p q i j left right g br x;have l:=adE p q i j left right g br r;simp only[vd,List.flatMap_cons,List.length_append,List.length_cons]at l⊢;rw[Nat.add_mul];omega
def anm (cols l:List Col)(br:List (List Val))(left right:List Int)(p q o r:Int)(g:List Int)(j:List (List Val))(i:Nat)(out:List (List Val)):S:=
 ⟨[(4,cV (.ptr 4 0)),(6,cV (.ptr 6 0)),(10,.w (.c (.d (.sl (zp left))))),(11,.w (.c (.d (.sl (zp right))))),(12,.w (.c (.d (.sl (zp [p,q]))))),(13,.w (.c (.d (.sl (zp [o,r]))))),(14,.w (.c (.d (.sl (zp g))))),(15,cV (.ptr 15 0)),(60,.w (.c (.d (.sl (zh j))))),(61,zg j.length),(62,zg i)],
 [(4,.box [.d (.sl (zi l)),.d (.sl (zh br))]),(6,.box [.nil,.nil]),(15,.box [.d (.sl (zi cols)),.own 143 1 out.length]),(143,.arr 1 (zh out) false)]⟩
noncomputable def ovRest:ACode:=xJ (xJ (xJ (xJ (xJ (xJ (xJ (xJ yY.A.code)))))))
theorem aqQ {s:S}(cols bc:List Col)(br:List (List Val))(left right:List Int)(p q o r:Int)(g:List Int)(j:List (List Val))
 (ah:j.length*br.length<=20000) (ai:j.length<=1000000) (aj:left.length<=100000) (al:right.length<=100000) (ak:g.length<=100000)
 (hx: ∀x∈j,x.length<=100000 /\yT x.length left /\yT x.length [p,q])
 (hy: ∀y∈br,yT y.length right /\yT y.length g /\yT y.length [o,r])
 (h0:xm s [4,6,10,11,12,13,14,15,60,61,62] (· =anm cols bc br left right p q o r g j 0 [])):
 yk (mwpR Pg T8.f (yY.l 1)) [4,6,10,11,12,13,14,15,60,61,62] (Ym 0 (Jm (mwpR Pg T8.f ovRest) (Wa yY.A.res [] (DQ (vh ⟨cols,vd p q o r left right g j br⟩ 0))))) s:=by
 refine yl (P:=Pg) (f:=T8.f) (body:=(yY.l 1)) j.length (λi=>anm cols bc br left right p q o r g j i (vd p q o r left right g (j.take i) br)) (λ_=>True) ⟨trivial,h0⟩ ?_
 ·clear h0;intro i hi _;have J: ∀h:i<j.length,vd p q o r left right g (j.take (i+1)) br=vd p q o r left right g (j.take i) br++KN p q o r left right g br j[i]:=λh=>by
   grind[vd,zM]
  have ab:j.length<=i ->vd p q o r left right g j br=vd p q o r left right g (j.take i) br:=λh=>by grind
  have aa:i<j.length ->(vd p q o r left right g (j.take i) br).length+br.length<=20000:=λh=>by
   have h1:=adE p q o r left right g br (j.take i);rw[List.length_take,Nat.min_eq_left (by omega)]at h1;have h2:(i+1)*br.length<=j.length*br.length:=Nat.mul_le_mul_right _ h
   grind
  have T:=λ(Q':E ->S ->Prop) (s':S) (x:List Val) (s1 s2:Int)=>aqP (Q:=Q') (s:=s') cols bc br left right p q o r g j i x s1 s2 (vd p q o r left right g (j.take i) br)
  show mwpR Pg T8.f (yY.l 1) _ (anm cols bc br left right p q o r g j i (vd p q o r left right g (j.take i) br));generalize vd p q o r left right g (j.take i) br=U at*;have ae:(zh U).take U.length=zh U:=by grind[zy]
  refine um (λI=>?_) (λad=>?_)
  ·have hg:=xy I;have J:=J I;have aa:=aa I;obtain⟨af,ag,R⟩:=hx _ (List.getElem_mem I);have wi:=zA I (by omega);have ac:=aay j[i] p q (R _ (by simp)) (R _ (by simp));have T:=λQ' s' s1 s2=>T Q' s' j[i] s1 s2 aa (by omega) (by omega) (by omega) af ag (R _ (by simp)) (R _ (by simp)) hy
   unfold KN at J;generalize j[i]=x at*;generalize at0 x p.toNat=u1 at*;generalize at0 x q.toNat=u2 at*;unfold abW at ac;generalize wm u1 u2=b at*;obtain⟨_,u1,_⟩:=u1;obtain⟨_,u2,_⟩:=u2;refine zX hg ?_;refine Sat.w ac ?_;cases b with
   |false=>
    have J:vd p q o r left right g (j.take (i+1)) br=U:=by rw[J,cond_false,List.append_nil]
    refine yF I trivial ?_;rw[wi,J];rfl
   |true=>
    refine T _ _ u1 u2 (zf ?_) ?_
    ·(conv=>whnf);rw[zy];rfl
    refine yF I trivial ?_;rw[wi,J];rfl
  ·rw[ab ad];refine⟨rfl,?_⟩;refine Eq.trans (b:=⟨.tup [.agg [.d (.sl (zi cols)),.d (.sl ((zh U).take U.length))],.c (int 0)],[]⟩) rfl ?_;rw[ae];rfl
theorem vq {t:Tbl}(h:zR t=0):t.cols.length<=32 /\t.rows.length<=20000:=by
 obtain⟨g,_⟩:=zO (by omega) h
 grind
theorem xD {b:Bool}{e:Int}{y:Int×List Col}(g:b=true ->e≠0)(h:(bif b then(e,([]:List Col))else y).1=0):b=false /\(bif b then(e,([]:List Col))else y)=y:=by
 grind
theorem UV {cols i:List Col}: ∀{g:List ByteArray},jnErr cols i g=0 ->yT cols.length (zn cols g)/\yT i.length (zn i g)
 | [],_=>And.intro (λk hk=>(by cases hk)) (λk hk=>(by cases hk))
 |s::r,h=>by
  obtain⟨j,h⟩:=zO (by omega) h;obtain⟨_,h⟩:=zO (by omega) h;obtain⟨l,o⟩:=UV h;simp only[Bool.or_eq_false_iff,decide_eq_false_iff_not]at j;refine⟨λk hk=>?_,λk hk=>?_⟩
  ·rcases List.mem_cons.1 hk with rfl|hk
   ·grind[xW]
   ·exact l k hk
  ·rcases List.mem_cons.1 hk with rfl|hk
   ·grind[xW]
   ·exact o k hk
theorem Km {cols:List Col}{s:ByteArray}(h:colInt cols s=0):0<=zj cols s /\zj cols s<cols.length:=by
 obtain⟨g,_⟩:=zO (by omega) h<;>simp_all[xW]
theorem XO {cols:List Col}: ∀{i:List ByteArray},intErr cols i=0 ->yT cols.length (zn cols i)
 | [],_=>λk hk=>(by cases hk)
 |s::r,h=>by
  simp only[intErr]at h;cases g:(colInt cols s !=0)
  ·rw[g,cond_false]at h;intro k hk;rcases List.mem_cons.1 hk with rfl|hk
   ·exact Km (by simpa using g)
   ·exact XO h k hk
  ·rw[g,cond_true]at h;rw[h]at g;cases g
structure JnOK (sp:List ByteArray)(cols tc:List Col)(cs:List ByteArray)(R:List Col):Prop where
 jn:jnErr cols tc cs=0
 i1:intErr cols sp=0
 i2:intErr tc sp=0
 dup:dupL [] (cols++keepS sp cs tc)=false
 few:(cols++keepS sp cs tc).length<=32
 two:sp.any (hasB cs)=false
 eq:R=cols++keepS sp cs tc
theorem Ub {i:List ByteArray}{d:List Nmd}{cols:List Col}{g:List ByteArray}{tb:ByteArray}(h:(Xi i d cols g tb).1=0): ∃t,zI tb d=some t /\JnOK i cols t.cols g (Xi i d cols g tb).2:=by
 unfold Xi at h⊢;cases hf:zI tb d with
 |none=>grind
 |some t=>
  rw[hf]at h;simp only at h⊢;obtain⟨J,j⟩:=xD (by grind) h;rw[j]at h⊢;unfold ajH at h⊢;obtain⟨P,l⟩:=xD (by simp) h;rw[l]at h⊢;obtain⟨R,o⟩:=xD (by simp) h;rw[o]at h⊢;obtain⟨T,p⟩:=xD (by simp) h;rw[p]at h⊢;obtain⟨U,r⟩:=xD (by grind) h;rw[r]at h⊢;obtain⟨h6,I⟩:=xD (by intro _;omega) h;rw[I];exact⟨t,rfl,by simpa using P,by simpa using R,by simpa using T,U,by simp only[decide_eq_false_iff_not]at h6;omega,J,rfl⟩
theorem adc {d:List Nmd}{cols:List Col}{st:Stp}(h:(yI d cols st).1=0):st.err=0:=by
 have:=(xD (by simp) h).1<;>simp_all
theorem Wz {d:List Nmd}{cols:List Col}{st:Stp}(g:st.op=6\/st.op=7\/st.op=8)(h:(yI d cols st).1=0):yI d cols st=Xi (an4 st.op) d cols st.cols st.table:=by
 grind[yI]
theorem aiW {op:Int}{g:List ByteArray}{a b:Tbl}(i:op=6\/op=7\/op=8)(h:(ZX op g a b).1=0):zR a=0 /\zR b=0 /\JnOK (an4 op) a.cols b.cols g (ZX op g a b).2:=by
 unfold ZX at h⊢;obtain⟨J,l⟩:=xD (by simp) h;rw[l]at h⊢;obtain⟨P,o⟩:=xD (by simp) h;rw[o]at h⊢;have p:=Wz (st:=uI op g XX) i h;rw[p]at h⊢;obtain⟨t,j,I⟩:=Ub h;have r:zI (uI op g XX).table [⟨XX,b⟩]=some b:=by
  show(bif zl XX XX then some b else none)=some b
  grind[AM.beqS_self]
 rw[r]at j;cases j;exact⟨by grind,by grind,I⟩
def ovQ (a b:Tbl)(g:List ByteArray):Res:=bif (ZX 7 g a b).1 !=0 then vh ⟨[],[]⟩ (ZX 7 g a b).1 else
 vh ⟨(ZX 7 g a b).2,vd (zj a.cols sFrom) (zj a.cols sTo) (zj b.cols sFrom) (zj b.cols sTo) (zn a.cols g) (zn b.cols g) (x9 (g++[sFrom,sTo]) 0 b.cols) a.rows b.rows⟩ 0
theorem acN (g:List ByteArray): ∀(l:List Col) (i:Nat),(x9 g i l).length<=l.length
 | [],_=>Nat.le_refl _
 |c::r,i=>by
  have:=acN g r (i+1);simp only[x9,List.length_append,List.length_cons];cases(!hasB g c.name)<;>simp<;>omega
theorem alA (g:List ByteArray)(l:List Col):yT l.length (x9 g 0 l):=λk hk=>by have:=acM g l 0 k hk;omega
theorem ahM (a b:Tbl)(g:List ByteArray)(aj:g.length<=100000)(ae:a.cols.length<=1000000)(J:b.cols.length<=1000000)(P:a.rows.length*b.rows.length<=20000):Sat Pg XS [a.w,b.w,.c (.d (.sl (zq g)))] (λr=>r=ovQ a b g):=by
 have hc:=abL 7 g a b (by omega) ae J;have l:=@aiW 7 g a b (by omega);have ag:=wE a.cols (.sl (zh a.rows)) g (by omega);have ah:=wE b.cols (.sl (zh b.rows)) g (by omega);have aa:=wE a.cols (.sl (zh a.rows)) [sFrom,sTo] (by simp);have ab:=wE b.cols (.sl (zh b.rows)) [sFrom,sTo] (by simp);have T:=agK b.cols (.sl (zh b.rows)) (g++[sFrom,sTo]) J;have af:=Qs g (by omega);have U:Sat Pg YG [b.w,.c (.d (.sl (List.take ((zq g).length+(List.take 2 (zq [sFrom,sTo])).length) (List.take (zq g).length (zq g)++List.take 2 (zq [sFrom,sTo])))))] (λr=>r=rC (.d (.sl (zp (x9 (g++[sFrom,sTo]) 0 b.cols))))):=by
  rw[show List.take ((zq g).length+(List.take 2 (zq [sFrom,sTo])).length) (List.take (zq g).length (zq g)++List.take 2 (zq [sFrom,sTo]))=zq (g++[sFrom,sTo])by
   grind[zq]]
  exact T
 unfold ovQ;generalize ZX 7 g a b=c at*;obtain⟨c1,c2⟩:=c;simp only at l⊢;refine zC ?_;obtain⟨j,ar⟩:=a;obtain⟨i,br⟩:=b;simp only at*;refine yY.s T8 ?_;refine Sat.w hc ?_;refine zt (λo=>?_) (λo=>?_)
 ·rw[show(c1 !=0)=true from o];exact⟨rfl,rfl⟩
 ·have o:(c1 !=0)=false:=o;rw[o];have ad:c1=0:=by grind
  subst ad;obtain⟨ka,kb,hj⟩:=l rfl;obtain⟨i1,i2⟩:=UV hj.jn;have i3:=XO hj.i1;have i4:=XO hj.i2;have wa:=uZ ka;have wb:=uZ kb;have fa:=vq ka;have fb:=vq kb;have ol:=acN (g++[sFrom,sTo]) i 0;have oi:=alA (g++[sFrom,sTo]) i;have p1:zn j [sFrom,sTo]=[zj j sFrom,zj j sTo]:=rfl;have p2:zn i [sFrom,sTo]=[zj i sFrom,zj i sTo]:=rfl;have l1:(zn j g).length=g.length:=by simp[zn]
  have l2:(zn i g).length=g.length:=by simp[zn]
  have hm:=λ(s:S)=>aqQ (s:=s) c2 i br (zn j g) (zn i g) (zj j sFrom) (zj j sTo) (zj i sFrom) (zj i sTo) (x9 (g++[sFrom,sTo]) 0 i) ar P (by grind) (by omega) (by omega) (by grind)
   (λx hx=>by have I:=wa x hx;have:=fa.1;simp only at this I;exact⟨by omega,by grind,by rw[I];exact i3⟩)
   (λy hy=>by have I:=wb y hy;simp only at I;exact⟨by grind,by grind,by rw[I];exact i4⟩)
  rw[p1]at aa;rw[p2]at ab;clear i1 i2 i3 i4 wa wb fa fb ol oi p1 p2 l1 l2 hj ka kb l o;generalize zj j sFrom=p at*;generalize zj j sTo=q at*;generalize zj i sFrom=p2 at*;generalize zj i sTo=q2 at*;generalize zn j g=left at*;generalize zn i g=right at*;generalize x9 (g++[sFrom,sTo]) 0 i=ai at*;refine Sat.w ag ?_;refine Sat.w ah ?_
  repeat' (first
   |(refine Sat.mono aa ?_;rintro _ rfl;conv=>whnf)
   |(refine Sat.mono ab ?_;rintro _ rfl;conv=>whnf)
   |(refine Sat.mono af ?_;rintro _ (⟨R,rfl⟩|rfl)<;>conv=>whnf)
   |(refine⟨by simp,by unfold yP;simp only[zT];simp;omega,by simp only[zT];simp;omega,?_⟩;conv=>whnf)
   |(refine⟨by simp,by unfold yP;simp,by simp,?_⟩;conv=>whnf)
   |(refine Sat.mono U ?_;rintro _ rfl;conv=>whnf)
   |(subst R;refine Sat.mono T ?_;rintro _ rfl;conv=>whnf)
   |(refine And.intro ?_ ?_<;>conv=>whnf))
  all_goals rw[zy]
  all_goals refine hm _ ⟨_,VT 15 1 143 1 (by omega) (by omega) rfl,?_⟩
  all_goals conv=>whnf
  all_goals rfl
def ajQ (u v:Val)(g:Bool):Bool:=!((u.k==0||v.k==0)||decide (v.n>u.n))&&g
def ani (g:Int)(y:List Val):Option (List Val) ->Option (List Val)
 |none=>some y
 |some z=>bif decide ((at0 y g.toNat).n>=(at0 z g.toNat).n)then some y else some z
def JO (p g:Int)(left right:List Int)(x:List Val)(i:List (List Val)):Option (List Val):=
 i.foldl (λb y=>bif ajQ (at0 x p.toNat) (at0 y g.toNat) (QV (zw x left) (zw y right))then ani g y b else b) none
def nrS (cols o:List Col)(br:List (List Val))(left right:List Int)(p r:Int)(g:List Int)(l:List (List Val))(i:Nat)(out:List (List Val))(x:List Val)(b:Int)(j:Nat):S:=
 ⟨[(4,cV (.ptr 4 0)),(6,cV (.ptr 6 0)),(10,.w (.c (.d (.sl (zp left))))),(11,.w (.c (.d (.sl (zp right))))),(12,zg p),(13,zg r),(14,.w (.c (.d (.sl (zp g))))),(15,cV (.ptr 15 0)),(17,.w (yb x)),(18,zg b),(55,.w (.c (.d (.sl (zh l))))),(56,zg l.length),(57,zg i),(62,.w (.c (.d (.sl (zh br))))),(63,zg br.length),(64,zg j)],
 [(4,.box [.d (.sl (zi o)),.d (.sl (zh br))]),(6,.box [.nil,.nil]),(15,.box [.d (.sl (zi cols)),.own 139 1 out.length]),(139,.arr 1 (zh out) false)]⟩
def nrR (br:List (List Val))(B:Option (List Val))(b:Int):Prop:=(b= -1 /\B=none)\/(0<=b /\ ∃h:b.toNat<br.length,B=some br[b.toNat])
theorem aqN {Q:E ->S ->Prop}{s:S}(cols bc:List Col)(br:List (List Val))(left right:List Int)(p o:Int)(I:List Int)(ar:List (List Val))(i:Nat)(out:List (List Val))(x:List Val)
 (aq:br.length<=1000000) (au:left.length<=100000) (av:right.length<=100000) (hx:yT x.length left) (hp:0<=p /\p<x.length)
 (hy: ∀y∈br,yT y.length right /\(0<=o /\o<y.length))
 (h0:xm s [4,6,10,11,12,13,14,15,17,18,55,56,57,62,63,64] (· =nrS cols bc br left right p o I ar i out x (-1) 0))
 (hQ: ∀b,nrR br (JO p o left right x br) b ->Q (.exit 2) (uG (nrS cols bc br left right p o I ar i out x b br.length) 65 (zZ (decide ((br.length:Int)<br.length))))):
 yk (mwpR Pg T8.f (yX.l 0)) [4,6,10,11,12,13,14,15,17,18,55,56,57,62,63,64] Q s:=by
 refine yx (P:=Pg) (f:=T8.f) (body:=(yX.l 0)) (λz:Nat×Int=>nrS cols bc br left right p o I ar i out x z.2 z.1) (λz=>br.length - z.1) (λz=>z.1<=br.length /\nrR br (JO p o left right x (br.take z.1)) z.2) ⟨(0, -1),⟨Nat.zero_le _,.inl ⟨rfl,rfl⟩⟩,h0⟩ ?_
 ·clear h0;rintro⟨j,b⟩ hz;obtain⟨hj,J⟩:j<=br.length /\nrR br (JO p o left right x (br.take j)) b:=hz;have g: ∀h:j<br.length,JO p o left right x (br.take (j+1))=bif ajQ (at0 x p.toNat) (at0 br[j] o.toNat) (QV (zw x left) (zw br[j] right))then ani o br[j] (JO p o left right x (br.take j))else JO p o left right x (br.take j):=λh=>by
   grind[JO,zM]
  have T:j=br.length ->JO p o left right x br=JO p o left right x (br.take j):=λh=>by grind
  show mwpR Pg T8.f (yX.l 0) _ (nrS cols bc br left right p o I ar i out x b j);generalize JO p o left right x (br.take j)=B at*;unfold nrS;refine rgE (λr=>?_) (λab=>?_)
  ·have hg:=xy r;have g:=g r;obtain⟨an,ao⟩:=hy _ (List.getElem_mem r);have wi:=zA r (by omega);have ak:=jF x left (by omega) hx;have al:=jF br[j] right (by omega) an;have ad:=adS (zw x left) (zw br[j] right);have af:=Uu (R:=x) (k:=p) (by omega);have ah:=Uu (R:=br[j]) (k:=o) (by omega);have ac:nrR br (some br[j]) j:=.inr ⟨by omega,by grind,by simp⟩;clear T;clear hQ;generalize br[j]=y at*;unfold ajQ at g;generalize QV (zw x left) (zw y right)=ag at*;generalize hu:at0 x p.toNat=u at*;generalize hv:at0 y o.toNat=v at*;obtain⟨u1,u2,u3⟩:=u;obtain⟨v1,v2,v3⟩:=v;simp only at g;refine zX hg ?_
   repeat' (first
    |(refine⟨hp.1,_,af,rfl,?_⟩;conv=>whnf)
    |(refine⟨ao.1,_,ah,rfl,?_⟩;conv=>whnf)
    |(refine And.intro ?_ ?_<;>conv=>whnf))
   all_goals (
    refine zt (b:=(u1==0||v1==0)||decide (v2>u2)) (λh=>?_) (λh=>?_)
    ·rw[h,Bool.not_true,Bool.false_and,cond_false]at g;(conv=>whnf);refine⟨(j+1,b),⟨⟨r,by rw[g];exact J⟩,by show br.length -(j+1)<br.length - j;omega⟩,zf ?_⟩;(conv=>whnf);rw[wi];rfl
    ·rw[h,Bool.not_false,Bool.true_and]at g;refine Sat.w ak ?_;refine Sat.w al ?_;refine Sat.w ad ?_;cases ag with
     |false=>
      rw[cond_false]at g;(conv=>whnf);refine⟨(j+1,b),⟨⟨r,by rw[g];exact J⟩,by show br.length -(j+1)<br.length - j;omega⟩,zf ?_⟩;(conv=>whnf);rw[wi];rfl
     |true=>
      rw[cond_true]at g;refine ze (λU=>?_) (λU=>?_)
      ·have U:b<0:=of_decide_eq_true U;obtain⟨rfl,rfl⟩:b= -1 /\B=none:=by
        rcases J with J|⟨J,_⟩
        ·exact J
        ·omega
       (conv=>whnf);refine⟨(j+1,(j:Int)),⟨⟨r,by rw[g];exact ac⟩,by show br.length -(j+1)<br.length - j;omega⟩,zf ?_⟩;(conv=>whnf);rw[wi];rfl
      ·have U: ¬b<0:=of_decide_eq_false U;obtain⟨ae,aa,rfl⟩:0<=b /\ ∃h:b.toNat<br.length,B=some br[b.toNat]:=by
        rcases J with⟨rfl,_⟩|J
        ·omega
        ·exact J
       have aj:(zh br)[b.toNat]? =some [.sl (rowD br[b.toNat])]:=by simp[zh,List.getElem?_eq_getElem aa]
       have hz:=(hy _ (List.getElem_mem aa)).2;simp only[ani,hv]at g;generalize br[b.toNat]=z at*;have ai:=Uu (R:=z) (k:=o) (by omega);generalize at0 z o.toNat=w at*;obtain⟨w1,w2,w3⟩:=w;simp only at g;(conv=>whnf);refine⟨ae,_,aj,rfl,?_⟩;(conv=>whnf);refine⟨hz.1,_,ai,rfl,?_⟩;refine ze (b:=decide (v2>=w2)) (λh3=>?_) (λh3=>?_)
       ·rw[h3,cond_true]at g;(conv=>whnf);refine⟨(j+1,(j:Int)),⟨⟨r,by rw[g];exact ac⟩,by show br.length -(j+1)<br.length - j;omega⟩,zf ?_⟩;(conv=>whnf);rw[wi];rfl
       ·rw[h3,cond_false]at g;(conv=>whnf);refine⟨(j+1,b),⟨⟨r,by rw[g];exact J⟩,by show br.length -(j+1)<br.length - j;omega⟩,zf ?_⟩;(conv=>whnf);rw[wi];rfl)
  ·rw[<- T ab]at J;subst ab;(conv=>whnf);exact hQ b J
def ao2 (g:List Int):Option (List Val) ->List Val
 |none=>List.replicate g.length yJ
 |some z=>zw z g
def vE (p i:Int)(left right g:List Int)(br:List (List Val))(x:List Val):List Val:=x++ao2 g (JO p i left right x br)
def ajR (cols l:List Col)(br:List (List Val))(left right:List Int)(p o:Int)(g:List Int)(j:List (List Val))(i:Nat)(out:List (List Val)):S:=
 ⟨[(4,cV (.ptr 4 0)),(6,cV (.ptr 6 0)),(10,.w (.c (.d (.sl (zp left))))),(11,.w (.c (.d (.sl (zp right))))),(12,zg p),(13,zg o),(14,.w (.c (.d (.sl (zp g))))),(15,cV (.ptr 15 0)),(55,.w (.c (.d (.sl (zh j))))),(56,zg j.length),(57,zg i)],
 [(4,.box [.d (.sl (zi l)),.d (.sl (zh br))]),(6,.box [.nil,.nil]),(15,.box [.d (.sl (zi cols)),.own 139 1 out.length]),(139,.arr 1 (zh out) false)]⟩
noncomputable def nrRest:ACode:=xJ (xJ (xJ (xJ (xJ (xJ (xJ (xJ yX.A.code)))))))
theorem aqO {s:S}(cols bc:List Col)(br:List (List Val))(left right:List Int)(p o:Int)(g:List Int)(j:List (List Val))
 (ax:j.length<=100000) (aj:br.length<=1000000) (an:left.length<=100000) (aq:right.length<=100000) (ay:g.length<=100000)
 (hx: ∀x∈j,x.length<=100000 /\yT x.length left /\(0<=p /\p<x.length))
 (hy: ∀y∈br,yT y.length right /\yT y.length g /\(0<=o /\o<y.length))
 (h0:xm s [4,6,10,11,12,13,14,15,55,56,57] (· =ajR cols bc br left right p o g j 0 [])):
 yk (mwpR Pg T8.f (yX.l 1)) [4,6,10,11,12,13,14,15,55,56,57] (Ym 0 (Jm (mwpR Pg T8.f nrRest) (Wa yX.A.res [] (DQ (vh ⟨cols,j.map (vE p o left right g br)⟩ 0))))) s:=by
 refine yl (P:=Pg) (f:=T8.f) (body:=(yX.l 1)) j.length (λi=>ajR cols bc br left right p o g j i ((j.take i).map (vE p o left right g br))) (λ_=>True) ⟨trivial,h0⟩ ?_
 ·clear h0;intro i hi _;have r: ∀h:i<j.length,(j.take (i+1)).map (vE p o left right g br)=(j.take i).map (vE p o left right g br)++[vE p o left right g br j[i]]:=λh=>by
   grind[zM]
  have ab:j.length<=i ->j.map (vE p o left right g br)=(j.take i).map (vE p o left right g br):=λh=>by grind
  have aw:((j.take i).map (vE p o left right g br)).length=i:=by simp;omega
  have T:=λ(Q':E ->S ->Prop) (s':S) (x:List Val)=>aqN (Q:=Q') (s:=s') cols bc br left right p o g j i ((j.take i).map (vE p o left right g br)) x aj an aq
  show mwpR Pg T8.f (yX.l 1) _ (ajR cols bc br left right p o g j i ((j.take i).map (vE p o left right g br)));generalize(j.take i).map (vE p o left right g br)=U at*;have ad:(zh U).take U.length=zh U:=by grind[zy]
  unfold ajR;refine um (λI=>?_) (λak=>?_)
  ·have hg:=xy I;have r:=r I;obtain⟨a0,au,ae⟩:=hx _ (List.getElem_mem I);have wi:=zA I (by omega);have T:=λQ' s'=>T Q' s' j[i] au ae (λy h=>⟨(hy y h).1,(hy y h).2.2⟩)
   have ah:=uD j[i] (by omega);clear ab hx;unfold vE at r;generalize j[i]=x at*;generalize JO p o left right x br=B at*;refine zX hg ?_;refine T _ _ (zf ?_) ?_
   ·(conv=>whnf);unfold nrS;rw[zy];rfl
   intro b hR;unfold uG nrS;rcases hR with⟨rfl,rfl⟩|⟨ai,ag,rfl⟩
   ·have r:(j.take (i+1)).map (vE p o left right g br)=U++[x++List.replicate g.length yJ]:=r;have av:List.replicate (((zp g).length:Int)).toNat Vm=rowD (List.replicate g.length yJ):=by
     rw[ym];simp[rowD];exact .inr rfl
    have ac:(((zp g).length:Int)).toNat=g.length:=by grind[ym]
    (conv=>whnf);refine⟨by omega,by omega,by grind[yP],by grind,?_⟩;have af: ∀y∈List.take (((zp g).length:Int)).toNat (List.replicate (((zp g).length:Int)).toNat Vm),y.length=3:=by
     grind[Xq]
    have R:(rowD x).length+(List.take (((zp g).length:Int)).toNat (List.replicate (((zp g).length:Int)).toNat Vm)).length<=1000000:=by
     grind[zm]
    have aa:List.take ((rowD x).length+(List.take (((zp g).length:Int)).toNat (List.replicate (((zp g).length:Int)).toNat Vm)).length) (List.take (rowD x).length (rowD x)++List.take (((zp g).length:Int)).toNat (List.replicate (((zp g).length:Int)).toNat Vm))=rowD (x++List.replicate g.length yJ):=by
     rw[av,ac,show List.take g.length (rowD (List.replicate g.length yJ))=rowD (List.replicate g.length yJ)by rw[show g.length=(rowD (List.replicate g.length yJ)).length by grind];simp[rowD],List.take_length,wX,show(rowD x).length+(rowD (List.replicate g.length yJ)).length=(rowD (x++List.replicate g.length yJ)).length by simp[zm],List.take_length]
    unfold Vm at aa;(conv=>whnf)
    repeat' (first
     |(refine Sat.mono ah ?_;rintro _ (⟨J,rfl⟩|rfl);(subst J;simp at ae;omega);(conv=>whnf))
     |(refine⟨af,by unfold yP;have:=R;exact Nat.le_trans (Nat.mul_le_mul_right _ this) (by omega),Nat.le_trans R (by omega),?_⟩;conv=>whnf)
     |(refine⟨by simp,by unfold yP;simp;omega,by simp;omega,?_⟩;conv=>whnf)
     |(refine⟨I,trivial,zf ?_⟩;(conv=>whnf);rw[wi,ad,r,aa,qW,List.length_append];rfl)
     |(refine And.intro ?_ ?_<;>conv=>whnf))
   ·have r:(j.take (i+1)).map (vE p o left right g br)=U++[x++zw br[b.toNat] g]:=r;have al:(zh br)[b.toNat]? =some [.sl (rowD br[b.toNat])]:=by simp[zh,List.getElem?_eq_getElem ag]
    have ao:=jF br[b.toNat] g (by omega) (hy _ (List.getElem_mem ag)).2.1;have az:(zw br[b.toNat] g).length=g.length:=by simp[zw]
    generalize br[b.toNat]=z at*;generalize zw z g=F at*;have ac:(((zp g).length:Int)).toNat=g.length:=by grind[ym]
    have af: ∀y∈rowD F,y.length=3:=Xq _;have R:(rowD x).length+(rowD F).length<=1000000:=by simp only[zm];omega
    have aa:List.take ((rowD x).length+(rowD F).length) (List.take (rowD x).length (rowD x)++rowD F)=rowD (x++F):=by
     rw[List.take_length,wX,show(rowD x).length+(rowD F).length=(rowD (x++F)).length by simp[zm],List.take_length]
    (conv=>whnf);refine⟨by omega,by omega,by unfold yP;rw[ac];omega,by rw[ym];omega,?_⟩;refine ze (λh2=>?_) (λh2=>?_)
    ·refine zX al ?_ (hA:=ai);refine Sat.w ao ?_
     repeat' (first
      |(refine Sat.mono ah ?_;rintro _ (⟨J,rfl⟩|rfl);(subst J;simp at ae;omega);(conv=>whnf))
      |(refine⟨af,by unfold yP;have:=R;exact Nat.le_trans (Nat.mul_le_mul_right _ this) (by omega),Nat.le_trans R (by omega),?_⟩;conv=>whnf)
      |(refine⟨by simp,by unfold yP;simp;omega,by simp;omega,?_⟩;conv=>whnf)
      |(refine⟨I,trivial,zf ?_⟩;(conv=>whnf);rw[wi,ad,r,aa,qW,List.length_append];rfl)
      |(refine And.intro ?_ ?_<;>conv=>whnf))
    ·have h2: ¬b>=0:=of_decide_eq_false h2;omega
  ·rw[ab ak];clear T;(conv=>whnf);refine⟨rfl,?_⟩;refine Eq.trans (b:=⟨.tup [.agg [.d (.sl (zi cols)),.d (.sl ((zh U).take U.length))],.c (int 0)],[]⟩) rfl ?_;rw[ad];rfl
end
end Go.Proofs.YtkdijaiaplkliaaGreatDoor
