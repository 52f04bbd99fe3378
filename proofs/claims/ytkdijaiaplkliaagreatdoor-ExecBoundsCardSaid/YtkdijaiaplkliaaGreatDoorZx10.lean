import Derived.Shelf.RegionOpenPlain
import Derived.Lib.JoinLaws
import Derived.Lib.AppendZerosOnto
import Derived.Lib.Overlaps
import Derived.Laws.Externs
import Derived.Laws.IdiomCopy
import Derived.Laws.NewBlocks
import Derived.ProofKit
import Derived.ChangeArms
import Derived.DataReads
import Derived.Carry
import Derived.Below
import Derived.ChangeSame
import Derived.WalkKit
import Derived.OpenShut
import Derived.JoinedOf
import Derived.Test.YtkdijaiaplkliaaGreatDoorZx9
set_option linter.unusedSimpArgs false
set_option linter.unusedVariables false
set_option maxRecDepth 100000
set_option maxHeartbeats 4000000
namespace Go.Proofs.YtkdijaiaplkliaaGreatDoor
open Go Go.AM
section
attribute [local irreducible] Sat zD yk
def nrQ (a b:Tbl)(g:List ByteArray):Res:=bif (ZX 8 g a b).1 !=0 then vh ⟨[],[]⟩ (ZX 8 g a b).1 else
 vh ⟨(ZX 8 g a b).2,a.rows.map (vE (zj a.cols sFrom) (zj b.cols sFrom) (zn a.cols g) (zn b.cols g) (x9 (g++[sFrom]) 0 b.cols) b.rows)⟩ 0
theorem ahL (a b:Tbl)(g:List ByteArray)(ah:g.length<=100000)(ab:a.cols.length<=1000000)(I:b.cols.length<=1000000):Sat Pg XR [a.w,b.w,.c (.d (.sl (zq g)))] (λr=>r=nrQ a b g):=by
 have hc:=abL 8 g a b (by omega) ab I;have l:=@aiW 8 g a b (by omega);have ae:=wE a.cols (.sl (zh a.rows)) g (by omega);have af:=wE b.cols (.sl (zh b.rows)) g (by omega);have T:=xK a.cols (.d (.sl (zh a.rows))) sFrom ⟨_,rfl⟩;have U:=xK b.cols (.d (.sl (zh b.rows))) sFrom ⟨_,rfl⟩;have P:=agK b.cols (.sl (zh b.rows)) (g++[sFrom]) I;have ad:=Qs g (by omega);have R:Sat Pg YG [b.w,.c (.d (.sl (List.take ((zq g).length+(List.take 1 (zq [sFrom])).length) (List.take (zq g).length (zq g)++List.take 1 (zq [sFrom])))))] (λr=>r=rC (.d (.sl (zp (x9 (g++[sFrom]) 0 b.cols))))):=by
  rw[show List.take ((zq g).length+(List.take 1 (zq [sFrom])).length) (List.take (zq g).length (zq g)++List.take 1 (zq [sFrom]))=zq (g++[sFrom])by
   grind[zq]]
  exact P
 unfold nrQ;generalize ZX 8 g a b=c at*;obtain⟨c1,c2⟩:=c;simp only at l⊢;refine zC ?_;obtain⟨j,ar⟩:=a;obtain⟨i,br⟩:=b;simp only at*;refine yX.s T8 ?_;refine Sat.w hc ?_;refine zt (λo=>?_) (λo=>?_)
 ·rw[show(c1 !=0)=true from o];exact⟨rfl,rfl⟩
 ·have o:(c1 !=0)=false:=o;rw[o];have aa:c1=0:=by grind
  subst aa;obtain⟨ka,kb,hj⟩:=l rfl;obtain⟨i1,i2⟩:=UV hj.jn;have i3:=XO hj.i1;have i4:=XO hj.i2;have wa:=uZ ka;have wb:=uZ kb;have fa:=vq ka;have fb:=vq kb;have ol:=acN (g++[sFrom]) i 0;have oi:=alA (g++[sFrom]) i;have l1:(zn j g).length=g.length:=by simp[zn]
  have l2:(zn i g).length=g.length:=by simp[zn]
  have q1:0<=zj j sFrom /\zj j sFrom<j.length:=i3 _ (List.mem_cons_self ..);have q2:0<=zj i sFrom /\zj i sFrom<i.length:=i4 _ (List.mem_cons_self ..)
  have hm:=λ(s:S)=>aqO (s:=s) c2 i br (zn j g) (zn i g) (zj j sFrom) (zj i sFrom) (x9 (g++[sFrom]) 0 i) ar (by grind) (by grind) (by omega) (by omega) (by grind)
   (λx hx=>by grind)
   (λy hy=>by grind)
  clear i1 i2 i3 i4 wa wb fa fb ol oi l1 l2 hj ka kb l o q1 q2;generalize zj j sFrom=p at*;generalize zj i sFrom=p2 at*;generalize zn j g=left at*;generalize zn i g=right at*;generalize x9 (g++[sFrom]) 0 i=ag at*;refine Sat.w ae ?_;refine Sat.w af ?_;refine Sat.w T ?_;refine Sat.w U ?_
  repeat' (first
   |(refine Sat.mono T ?_;rintro _ rfl;conv=>whnf)
   |(refine Sat.mono U ?_;rintro _ rfl;conv=>whnf)
   |(refine Sat.mono ad ?_;rintro _ (⟨J,rfl⟩|rfl)<;>conv=>whnf)
   |(refine⟨by simp,by unfold yP;simp only[zT];simp;omega,by simp only[zT];simp;omega,?_⟩;conv=>whnf)
   |(refine⟨by simp,by unfold yP;simp,by simp,?_⟩;conv=>whnf)
   |(refine Sat.mono R ?_;rintro _ rfl;conv=>whnf)
   |(subst J;refine Sat.mono P ?_;rintro _ rfl;conv=>whnf)
   |(refine And.intro ?_ ?_<;>conv=>whnf))
  all_goals rw[zy]
  all_goals refine hm _ ⟨_,VT 15 1 139 1 (by omega) (by omega) rfl,?_⟩
  all_goals conv=>whnf
  all_goals rfl
namespace So.P
structure En (α:Type) where
 d0:α ->D
 d1:α ->D
 d2:α ->D
abbrev en {α:Type}(E:En α)(x:α):List D:=[E.d0 x,E.d1 x,E.d2 x]
abbrev sz:Nat:=3
abbrev cal {α:Type}(E:En α)(x y:α):List W:=[.agg [.d (E.d0 x),.d (E.d1 x),.d (E.d2 x)],.agg [.d (E.d0 y),.d (E.d1 y),.d (E.d2 y)]]
abbrev clo {α:Type}(E:En α)(g:FuncId):W:=.c (.d (.fn g []))
noncomputable abbrev cI_L0:=(xL.l 0)
noncomputable abbrev cI_L1:=(xL.l 1)
abbrev cI_ok:=xL.ok
noncomputable abbrev cM_L0:=(yC.l 0)
noncomputable abbrev cM_L1:=(yC.l 1)
noncomputable abbrev cM_L2:=(yC.l 2)
noncomputable abbrev cM_L3:=(yC.l 3)
noncomputable abbrev cM_L4:=(yC.l 4)
abbrev cM_ok:=yC.ok
noncomputable abbrev cO_L0:=(uc.l 0)
abbrev cO_ok:=uc.ok
noncomputable abbrev cS_L0:=(xM.l 0)
noncomputable abbrev cS_L1:=(xM.l 1)
noncomputable abbrev cS_L2:=(xM.l 2)
abbrev cS_ok:=xM.ok
abbrev cT_ok:=YW.ok
noncomputable abbrev cW_L0:=(vf.l 0)
abbrev cW_ok:=vf.ok
theorem acv {α:Type}(E:En α):kj jQ sz (en E) (cal E) (clo E):=aed
abbrev insSort' {α:Type}(E:En α):=(acv E).p
theorem K9 {α:Type}(E:En α):WK Yd sz (en E) (clo E):=gI
abbrev swapRange' {α:Type}(E:En α):=(K9 E).p
theorem agr {α:Type}(E:En α):aaG Xk sz (en E) (clo E):=ahg
abbrev rotate' {α:Type}(E:En α):=(agr E).p
theorem symMerge {α:Type}(E:En α):afg YF sz (en E) (cal E) (clo E):=ab2
theorem stable {α:Type}(E:En α):akO Xl sz (en E) (cal E) (clo E):=ahh
theorem SortStable {α:Type}(E:En α):SortStable vV sz (en E) (cal E) (clo E):=ki
end So.P
abbrev amU {α:Type}(g i j:α ->D)(l:List α):List (List D):=l.map λx=> [g x,i x,j x]
abbrev aap {α:Type}(g i j:α ->D):=So.P.SortStable ⟨g,i,j⟩
theorem ao8 (x y:Int):Sat Pg afX [.c (.d (.sl [[.lit (.int .i64 x)],[.lit (.int .i64 y)]]))] (λr=>r=rI (bif x !=0 then x else y)):=by
 refine Kd.s T8 ?_;refine qq (P:=Pg) (f:=T8.f) (body:=(Kd.l 0)) 3 ?_;refine qQ ?_;refine ze (λg=>?_) (λg=>?_)
 ·rw[show(x !=0)=true from g];rfl
 ·rw[show(x !=0)=false from g];(conv=>whnf);refine⟨by decide,_,rfl,rfl,?_⟩;refine ze (λi=>?_) (λi=>?_)
  ·rfl
  ·have i:(y !=0)=false:=i;have:y=0:=by grind
   subst this;rfl
structure Pc where
 key:List Val
 a:Int
 b:Int
def Pc.dk (x:Pc):D:=.sl (rowD x.key)
def Pc.da (x:Pc):D:=.lit (.int .i64 x.a)
def Pc.db (x:Pc):D:=.lit (.int .i64 x.b)
def vg (l:List Pc):List (List D):=l.map λx=> [.sl (rowD x.key),.lit (.int .i64 x.a),.lit (.int .i64 x.b)]
theorem acQ (l:List Pc):(vg l).length=l.length:=by simp[vg]
theorem aiC {r:List Pc}{i:Nat}(h:i<r.length):(vg r)[((i:Int)).toNat]? =some [.sl (rowD r[i].key),.lit (.int .i64 r[i].a),.lit (.int .i64 r[i].b)]:=by grind[vg]
theorem acP (a b:List Pc):vg (a++b)=vg a++vg b:=by simp[vg]
def UJ (x y:Pc):Int:=bif wV x.key y.key !=0 then wV x.key y.key else qb x.a y.a
theorem kr:CmpOK UJ:=CmpOK.both (CmpOK.onF (f:=Pc.key) (show CmpOK wV from aiB)) (CmpOK.onF aif (f:=Pc.a))
theorem ahP (x y:Pc):Sat Pg jt [.agg [.d x.dk,.d x.da,.d x.db],.agg [.d y.dk,.d y.da,.d y.db]] (λr=>r=rI (UJ x y)):=by
 have h:=Ve xe xf vH x.key y.key;unfold UJ wV;generalize uf xf x.key y.key=c at*;have g:=Vf x.a y.a;have i:=ao8 c (qb x.a y.a);generalize qb x.a y.a=d at*;obtain⟨j,l,o⟩:=x;obtain⟨p,I,J⟩:=y;refine Kj.s T1 ?_;refine Sat.w h ?_;refine Sat.w g ?_;refine Sat.w i ?_;rfl
theorem alZ (l:List Pc)(n:Nat)(I:l.length=n)(g:n<=1000000):
 zD Pg vV [.c (.own 0 3 n),.c (.d (.fn jt []))] [.arr 3 (vg l) false] (λr=>r=⟨.tup [],[.arr 3 (vg (xh UJ l)) false]⟩):=by
 have j: ∀L:List (Pc×Nat),amU (λx:Pc×Nat=>x.1.dk) (λx=>x.1.da) (λx=>x.1.db) L=vg (L.map Prod.fst):=λL=>by simp[amU,vg,Function.comp_def];exact λa b _=>⟨rfl,rfl,rfl⟩
 have e:vg l=amU (λx:Pc×Nat=>x.1.dk) (λx=>x.1.da) (λx=>x.1.db) (qw l):=by grind[Jp]
 rw[e];refine zD.mono (aap (λx:Pc×Nat=>x.1.dk) (λx=>x.1.da) (λx=>x.1.db) jt (vT UJ) (kN kr) (λx y=>x.2<y.2) (λx y i=>?_) (qw l) n (by grind[Jq]) g ?_) ?_
 ·refine(ahP y.1 x.1).mono ?_;rintro _ rfl;exact⟨_,rfl,aiS kr i⟩
 ·grind[gF]
 ·rintro _ ⟨l',o,p,rfl⟩<;>grind[So.eL,aeb,kr]
def jT (x:Pc):List Val:=x.key++[⟨2,x.a,⟨#[]⟩⟩,⟨2,x.b,⟨#[]⟩⟩]
def ajo (cols:List Col)(l:List Pc)(i:Nat)(out:List (List Val)):S:=
 ⟨[(4,cV (.ptr 4 0)),(19,cV (.ptr 19 0)),(124,.w (.c (.d (.sl (vg l))))),(125,zg l.length),(126,zg i)],
 [(4,.box [.nil,.nil]),(19,.box [.d (.sl (zi cols)),.own 146 1 out.length]),(146,.arr 1 (zh out) false)]⟩
noncomputable def coRest2:ACode:=xJ (xJ (xJ (xJ (xJ (xJ (xJ (xJ (xJ (xJ (zS.A.code))))))))))
theorem aqD {s:S}(cols:List Col)(l:List Pc)(hl:l.length<=100000)(hk: ∀x∈l,x.key.length<=100000)
 (h0:xm s [4,19,124,125,126] (· =ajo cols l 0 [])):
 yk (mwpR Pg T8.f (zS.l 2)) [4,19,124,125,126] (Ym 4 (Jm (mwpR Pg T8.f coRest2) (Wa zS.A.res [] (DQ (vh ⟨cols,l.map jT⟩ 0))))) s:=by
 refine yl (P:=Pg) (f:=T8.f) (body:=(zS.l 2)) l.length (λi=>ajo cols l i ((l.take i).map jT)) (λ_=>True) ⟨trivial,h0⟩ ?_
 ·clear h0;intro i hi _;have j: ∀h:i<l.length,(l.take (i+1)).map jT=(l.take i).map jT++[jT l[i]]:=λh=>by
   grind[zM]
  have p:l.length<=i ->l.map jT=(l.take i).map jT:=λh=>by grind
  have ag:((l.take i).map jT).length=i:=by simp;omega
  show mwpR Pg T8.f (zS.l 2) _ (ajo cols l i ((l.take i).map jT));generalize(l.take i).map jT=U at*;have r:(zh U).take U.length=zh U:=by grind[zy]
  unfold ajo;refine um (λg=>?_) (λad=>?_)
  ·have hg:=aiC g;have j:=j g;have ae:=hk _ (List.getElem_mem g);have wi:=zA g (by omega);clear p hk;generalize l[i]=x at*;obtain⟨o,xa,xb⟩:=x;simp only at ae hg;have ac:=uD o (by omega);have j:(l.take (i+1)).map jT=U++[o++[⟨2,xa,⟨#[]⟩⟩,⟨2,xb,⟨#[]⟩⟩]]:=j;refine zX hg ?_;generalize hE:([⟨2,xa,⟨#[]⟩⟩,⟨2,xb,⟨#[]⟩⟩]:List Val)=E at*;have ab:rowD E=[[.lit (.int .i64 2),.lit (.int .i64 xa),.lit (.string ⟨#[]⟩)],[.lit (.int .i64 2),.lit (.int .i64 xb),.lit (.string ⟨#[]⟩)]]:=by rw[<- hE];rfl
   have af:E.length=2:=by grind
   have R: ∀y∈List.take (rowD E).length (rowD E),y.length=3:=λy hy=>Xq _ y (List.mem_of_mem_take hy)
   have I:(rowD o).length+(List.take (rowD E).length (rowD E)).length<=1000000:=by grind[zm]
   have T:List.take ((rowD o).length+(List.take (rowD E).length (rowD E)).length) (List.take (rowD o).length (rowD o)++List.take (rowD E).length (rowD E))=rowD (o++E):=by
    grind[wX]
   have aa:o=[] ->List.take (List.take (rowD E).length (rowD E)).length (List.take (rowD E).length (rowD E))=rowD (o++E):=λh=>by grind
   rw[ab]at R I T aa
   repeat' (first
    |(refine Sat.mono ac ?_;rintro _ (⟨J,rfl⟩|rfl)<;>(conv=>whnf))
    |(refine⟨R,by unfold yP;have:=I;exact Nat.le_trans (Nat.mul_le_mul_right _ this) (by omega),Nat.le_trans I (by omega),?_⟩;conv=>whnf)
    |(refine⟨by simp,by unfold yP;simp;omega,by simp;omega,?_⟩;conv=>whnf)
    |(refine⟨by simp,by unfold yP;simp,by simp,?_⟩;conv=>whnf)
    |(refine⟨g,trivial,zf ?_⟩;(conv=>whnf);rw[wi,r,j,T,qW,List.length_append];rfl)
    |(refine⟨g,trivial,zf ?_⟩;(conv=>whnf);rw[wi,r,j,aa J,qW,List.length_append];rfl)
    |(refine And.intro ?_ ?_<;>conv=>whnf))
  ·rw[p ad];(conv=>whnf);refine⟨rfl,?_⟩;refine Eq.trans (b:=⟨.tup [.agg [.d (.sl (zi cols)),.d (.sl ((zh U).take U.length))],.c (int 0)],[]⟩) rfl ?_;rw[r];rfl
def KJ (g:List Pc)(x:Pc):List Pc:=match g.getLast? with
 |none=>g++[x]
 |some z=>bif xN z.key x.key&&decide (x.a<=z.b)then g.set (g.length - 1) ⟨z.key,z.a,xG true z.b x.b⟩else g++[x]
def jv (l:List Pc):List Pc:=l.foldl KJ []
theorem anf (g:List Pc)(x:Pc):(KJ g x).length<=g.length+1:=by
 grind[KJ]
theorem af8 (l:List Pc): ∀i,i<=l.length ->(jv (l.take i)).length<=i
 |0,_=>by simp[jv]
 |i+1,h=>by
  have g:=af8 l i (by omega);have j:=anf (jv (l.take i)) l[i];unfold jv at*;rw[zM (by omega:i<l.length),List.foldl_append];simp only[List.foldl_cons,List.foldl_nil];omega
theorem ane {n:Nat}{g:List Pc}{x:Pc}(h: ∀z∈g,z.key.length<=n)(i:x.key.length<=n): ∀z∈KJ g x,z.key.length<=n:=by
 grind[KJ]
theorem anc {n:Nat}{l:List Pc}(h: ∀z∈l,z.key.length<=n): ∀z∈jv l,z.key.length<=n:=by
 have gen: ∀(l g:List Pc),(∀z∈l,z.key.length<=n) ->(∀z∈g,z.key.length<=n) -> ∀z∈l.foldl KJ g,z.key.length<=n:=by
  intro l;induction l<;>grind[ane,List.mem_cons_self]
 exact gen l [] h (λz i=>by cases i)
def ajn (cols:List Col)(l:List Pc)(i:Nat)(T:List Pc):S:=
 ⟨[(4,cV (.ptr 4 0)),(6,.w (.c (.d (.sl (zi cols))))),(11,cV (.own 120 3 T.length)),(69,.w (.c (.d (.sl (vg l))))),(70,zg l.length),(71,zg i)],
 [(4,.box [.nil,.nil]),(120,.arr 3 (vg T) false)]⟩
noncomputable def coRest1:ACode:=xJ (xJ (xJ (xJ (xJ (xJ (xJ (xJ zS.A.code)))))))
theorem aqC {s:S}(cols:List Col)(l:List Pc)(hl:l.length<=100000)(hk: ∀x∈l,x.key.length<=100000)
 (h0:xm s [4,6,11,69,70,71] (· =ajn cols l 0 [])):
 yk (mwpR Pg T8.f (zS.l 1)) [4,6,11,69,70,71] (Ym 2 (Jm (mwpR Pg T8.f coRest1) (Wa zS.A.res [] (DQ (vh ⟨cols,(jv l).map jT⟩ 0))))) s:=by
 refine yl (P:=Pg) (f:=T8.f) (body:=(zS.l 1)) l.length (λi=>ajn cols l i (jv (l.take i))) (λ_=>True) ⟨trivial,h0⟩ ?_
 ·clear h0;intro i hi _;have g: ∀h:i<l.length,jv (l.take (i+1))=KJ (jv (l.take i)) l[i]:=λh=>by
   grind[jv,zM]
  have p:l.length<=i ->jv l=jv (l.take i):=λh=>by grind
  have ah:=af8 l i hi;have r:=anc (n:=100000) (l:=l) hk;show mwpR Pg T8.f (zS.l 1) _ (ajn cols l i (jv (l.take i)));generalize jv (l.take i)=T at*;have I:(vg T).take T.length=vg T:=by grind[acQ]
  unfold ajn;refine um (λj=>?_) (λab=>?_)
  ·have hg:=aiC j;have g:=g j;have wi:=zA j (by omega);clear p hk r;generalize l[i]=x at*;obtain⟨xk,xa,J⟩:=x;simp only at hg;refine zX hg ?_;rw[ya (n:=(T.length:Int) - 1) (by omega) (by omega)];refine zt (λR=>?_) (λR=>?_)
   ·have R:(T.length:Int) - 1>=0:=of_decide_eq_true R;have af:T.length - 1<T.length:=by omega
    have ac:((T.length:Int) - 1).toNat=T.length - 1:=by omega
    have o:(vg T)[((T.length:Int) - 1).toNat]? =some [.sl (rowD T[T.length - 1].key),.lit (.int .i64 T[T.length - 1].a),.lit (.int .i64 T[T.length - 1].b)]:=by
     simp_all[vg]
    have ad:T.getLast?=some T[T.length - 1]:=by rw[List.getLast?_eq_getElem?,List.getElem?_eq_getElem af]
    unfold KJ at g;rw[ad]at g;have heq:=YN T[T.length - 1].key xk;generalize hz:T[T.length - 1]=z at*;obtain⟨zk,za,zb⟩:=z;simp only at o g heq;generalize xN zk xk=b at*;(conv=>whnf);refine⟨by omega,by omega,?_⟩;(conv=>whnf);refine⟨_,o,?_⟩;refine Sat.w heq ?_;have ag:jv (l.take (i+1))=T++[⟨xk,xa,J⟩] ->True:=λ_=>trivial
    cases b with
    |false=>
     rw[Bool.false_and,cond_false]at g;refine qj ?_;refine yF j trivial ?_;rw[wi,I,g,acP,List.length_append];rfl
    |true=>
     rw[Bool.true_and]at g;(conv=>whnf);refine⟨by omega,by omega,?_⟩;(conv=>whnf);refine⟨_,o,?_⟩;refine ze (b:=decide (xa<=zb)) (λh3=>?_) (λh3=>?_)
     ·rw[h3,cond_true]at g;have U:(vg T).set ((T.length:Int) - 1).toNat [.sl (rowD zk),.lit (.int .i64 za),.lit (.int .i64 (xG true zb J))]=vg (T.set (T.length - 1) ⟨zk,za,xG true zb J⟩):=by
       rw[ac];simp[vg,List.map_set]
      have ae:(T.set (T.length - 1) ⟨zk,za,xG true zb J⟩).length=T.length:=by simp
      (conv=>whnf);refine⟨by omega,by omega,?_⟩;(conv=>whnf);refine⟨_,o,?_⟩;(conv=>whnf);refine⟨by omega,by omega,?_⟩;(conv=>whnf);refine⟨_,o,Nat.le_of_ble_eq_true rfl,?_⟩;refine yF j trivial ?_;generalize xG true zb J=m at*;rw[wi,g,<- U,ae];rfl
     ·rw[h3,cond_false]at g;refine qj ?_;refine yF j trivial ?_;rw[wi,I,g,acP,List.length_append];rfl
   ·have R: ¬(T.length:Int) - 1>=0:=of_decide_eq_false R;have hT:T=[]:=List.length_eq_zero_iff.1 (by omega);subst hT;have g:jv (l.take (i+1))=[⟨xk,xa,J⟩]:=g;refine qj ?_ (hA:=by simp) (hB:=by grind[yP]) (hC:=by simp);refine yF j trivial ?_;rw[wi,g];rfl
  ·rw[p ab]at r⊢;have aa:=λ(s:S)=>aqD (s:=s) cols T (by omega) r
   (conv=>whnf);refine aa _ ⟨_,(VT 19 1 146 1 (by omega) (by omega) rfl).trans (WB 124 (.own 120 3 T.length) (.sl ((vg T).take T.length)) _ rfl rfl),?_⟩;(conv=>whnf);rw[I];rfl
def acR (at_:List Int)(p q:Int)(x:List Val):List Pc:=bif wm (at0 x p.toNat) (at0 x q.toNat)&&decide ((at0 x p.toNat).n>=0)then [⟨zw x at_,(at0 x p.toNat).n,(at0 x q.toNat).n⟩]else []
def je (at_:List Int)(p q:Int)(rows:List (List Val)):List Pc:=rows.flatMap (acR at_ p q)
theorem anp (at_:List Int)(p q:Int)(x:List Val):(acR at_ p q x).length<=1:=by
 grind[acR]
theorem adH (at_:List Int)(p q:Int): ∀rows,(je at_ p q rows).length<=rows.length
 | []=>Nat.le_refl _
 |x::r=>by
  have g:=anp at_ p q x;have i:=adH at_ p q r;unfold je at*;rw[List.flatMap_cons,List.length_append,List.length_cons];omega
theorem alD (at_:List Int)(p q:Int){rows:List (List Val)}: ∀z∈je at_ p q rows,z.key.length=at_.length:=by
 intro z g;unfold je at g;obtain⟨x,_,i⟩:=List.mem_flatMap.1 g;unfold acR at i;cases h:(wm (at0 x p.toNat) (at0 x q.toNat)&&decide ((at0 x p.toNat).n>=0))
 ·grind
 simp_all[zw]
def Kl (at_:List Int)(p q:Int)(rows:List (List Val)):List (List Val):=(jv (xh UJ (je at_ p q rows))).map jT
def ajm (cols:List Col)(at_:List Int)(p q:Int)(rows:List (List Val))(i:Nat)(T:List Pc):S:=
 ⟨[(4,cV (.ptr 4 0)),(6,.w (.c (.d (.sl (zi cols))))),(8,.w (.c (.d (.sl (zp at_))))),(9,.w (.c (.d (.sl (zp [p,q]))))),(10,cV (.own 65 3 T.length)),(11,cV .nil),(40,.w (.c (.d (.sl (zh rows))))),(41,zg rows.length),(42,zg i)],
 [(4,.box [.nil,.nil]),(65,.arr 3 (vg T) false)]⟩
noncomputable def coRest0:ACode:=xJ (xJ (xJ (xJ (xJ (xJ zS.A.code)))))
theorem aqB {s:S}(cols:List Col)(at_:List Int)(p q:Int)(rows:List (List Val))(hr:rows.length<=100000)(ak:at_.length<=100000)
 (hx: ∀x∈rows,yT x.length at_ /\yT x.length [p,q])
 (h0:xm s [4,6,8,9,10,11,40,41,42] (· =ajm cols at_ p q rows 0 [])):
 yk (mwpR Pg T8.f (zS.l 0)) [4,6,8,9,10,11,40,41,42] (Ym 0 (Jm (mwpR Pg T8.f coRest0) (Wa zS.A.res [] (DQ (vh ⟨cols,Kl at_ p q rows⟩ 0))))) s:=by
 unfold Kl;refine yl (P:=Pg) (f:=T8.f) (body:=(zS.l 0)) rows.length (λi=>ajm cols at_ p q rows i (je at_ p q (rows.take i))) (λ_=>True) ⟨trivial,h0⟩ ?_
 ·clear h0;intro i hi _;have g: ∀h:i<rows.length,je at_ p q (rows.take (i+1))=je at_ p q (rows.take i)++acR at_ p q rows[i]:=λh=>by
   grind[je,zM]
  have o:rows.length<=i ->je at_ p q rows=je at_ p q (rows.take i):=λh=>by grind
  have aj:(je at_ p q (rows.take i)).length<=rows.length:=Nat.le_trans (adH _ _ _ _) (by simp;omega);have aa:=alD at_ p q (rows:=rows.take i);show mwpR Pg T8.f (zS.l 0) _ (ajm cols at_ p q rows i (je at_ p q (rows.take i)));generalize je at_ p q (rows.take i)=T at*;have ag:(vg T).take T.length=vg T:=by grind[acQ]
  unfold ajm;refine um (λj=>?_) (λU=>?_)
  ·have hg:=xy j;have g:=g j;obtain⟨ai,I⟩:=hx _ (List.getElem_mem j);have wi:=zA j (by omega);have r:=aay rows[i] p q (I _ (by simp)) (I _ (by simp));have ab:=jF rows[i] at_ (by omega) ai;clear o hx aa;unfold acR at g;generalize rows[i]=x at*;generalize at0 x p.toNat=u at*;generalize at0 x q.toNat=v at*;unfold abW at r;generalize wm u v=b at*;obtain⟨_,u,_⟩:=u;obtain⟨_,v,_⟩:=v;simp only at r g;refine zX hg ?_;refine Sat.w r ?_;cases b with
   |false=>
    rw[Bool.false_and,cond_false,List.append_nil]at g;refine yF j trivial ?_;rw[wi,g];rfl
   |true=>
    rw[Bool.true_and]at g;refine ze (b:=decide (u>=0)) (λJ=>?_) (λJ=>?_)
    ·rw[J,cond_true]at g;refine Sat.w ab ?_;refine qj ?_;refine yF j trivial ?_;rw[wi,ag,g,acP,List.length_append];rfl
    ·rw[J,cond_false,List.append_nil]at g;refine yF j trivial ?_;rw[wi,g];rfl
  ·rw[o U];have af:=alZ T T.length rfl (by omega);have ac:=QH kr T;have ae:(xh UJ T).length=T.length:=ac.length_eq;have ad: ∀z∈xh UJ T,z.key.length<=100000:=λz hz=>by grind
   generalize xh UJ T=Z at*;have R:=λ(s:S)=>aqC (s:=s) cols Z (by omega) ad
   have ah:(vg Z).take T.length=vg Z:=by grind[acQ]
   (conv=>whnf);refine zD.mono (af) ?_;rintro _ rfl;(conv=>whnf);refine R _ ⟨_,(z7 11 120 3 (by omega) (by omega) rfl).trans (WB 69 (.own 65 3 T.length) (.sl ((vg Z).take T.length)) _ rfl rfl),?_⟩;(conv=>whnf);rw[ah,<- ae];rfl
theorem amq {d:List Nmd}{cols:List Col}{st:Stp}(g:st.op=9)(h:(yI d cols st).1=0):yI d cols st=coT cols st.cols:=by
 grind[yI]
structure CoOK (cols:List Col)(on:List ByteArray)(R:List Col):Prop where
 tk:takeErr cols on=false
 i1:colInt cols sFrom=0
 i2:colInt cols sTo=0
 two:(hasB on sFrom||hasB on sTo)=false
 eq:R=takeC cols on++[⟨sFrom,2⟩,⟨sTo,2⟩]
theorem ak4 {cols:List Col}{g:List ByteArray}(h:(coT cols g).1=0):CoOK cols g (coT cols g).2:=by
 unfold coT at h⊢;obtain⟨p,i⟩:=xD (by grind) h;rw[i]at h⊢;obtain⟨r,j⟩:=xD (by grind) h;rw[j]at h⊢;obtain⟨I,l⟩:=xD (by simp) h;rw[l]at h⊢;obtain⟨J,o⟩:=xD (by simp) h;rw[o];exact⟨r,by grind,by grind,p,rfl⟩
theorem apr {g:List ByteArray}{a:Tbl}(h:(Wx 9 g a).1=0):zR a=0 /\CoOK a.cols g (Wx 9 g a).2:=by
 unfold Wx at h⊢;obtain⟨j,i⟩:=xD (by simp) h
 grind[amq,uI,ak4]
def coQ (a:Tbl)(g:List ByteArray):Res:=bif (Wx 9 g a).1 !=0 then vh ⟨[],[]⟩ (Wx 9 g a).1 else
 vh ⟨(Wx 9 g a).2,Kl (zn a.cols g) (zj a.cols sFrom) (zj a.cols sTo) a.rows⟩ 0
theorem agA (a:Tbl)(g:List ByteArray)(aa:g.length<=100000)(R:a.cols.length<=1000000):Sat Pg Y2 [a.w,.c (.d (.sl (zq g)))] (λr=>r=coQ a g):=by
 have hc:=akc 9 g a (by omega) R;have j:=@apr g a;have T:=wE a.cols (.sl (zh a.rows)) g (by omega);have o:=wE a.cols (.sl (zh a.rows)) [sFrom,sTo] (by simp);unfold coQ;generalize Wx 9 g a=c at*;obtain⟨J,c2⟩:=c;simp only at j⊢;refine zC ?_;obtain⟨i,ar⟩:=a;simp only at*;refine zS.s T8 ?_;refine Sat.w hc ?_;refine zt (λl=>?_) (λl=>?_)
 ·rw[show(J !=0)=true from l];exact⟨rfl,rfl⟩
 ·have l:(J !=0)=false:=l;rw[l];have P:J=0:=by grind
  subst P;obtain⟨U,I⟩:=j rfl;have i1:=aiT I.tk;have i2:=Km I.i1;have i3:=Km I.i2;have wa:=uZ U;have fa:=vq U;have p1:zn i [sFrom,sTo]=[zj i sFrom,zj i sTo]:=rfl;have l1:(zn i g).length=g.length:=by simp[zn]
  have hm:=λ(s:S)=>aqB (s:=s) c2 (zn i g) (zj i sFrom) (zj i sTo) ar (by grind) (by omega)
   (λx hx=>by
    have h2:=wa x hx;simp only at h2;refine⟨by grind,λk hk=>?_⟩;rw[h2];simp only[List.mem_cons,List.not_mem_nil,or_false]at hk
    grind)
  rw[p1]at o;clear i1 i2 i3 wa fa p1 l1 I U j l;generalize zj i sFrom=p at*;generalize zj i sTo=q at*;generalize zn i g=left at*;(conv=>whnf)
  repeat' (first
   |(refine Sat.mono T ?_;rintro _ rfl;conv=>whnf)
   |(refine Sat.mono o ?_;rintro _ rfl;conv=>whnf)
   |(refine And.intro ?_ ?_<;>conv=>whnf))
  all_goals rw[zy]
  all_goals refine hm _ ⟨_,z7 10 65 3 (by omega) (by omega) rfl,?_⟩
  all_goals conv=>whnf
  all_goals rfl
noncomputable def itR (cols:List Col)(row:List Val)(l:List Itm):List Val:=l.map λx=>exprV cols row x.e
noncomputable def selR (cols:List Col)(rows:List (List Val))(l:List Itm):List (List Val):=rows.map λr=>itR cols r l
def seI (cols:List Col)(rows:List (List Val))(st:List C)(i:Nat)(out:List (List Val))(x:List Val)(l:List Itm)(j:Nat)(g:List Val):S:=
 ⟨[(4,cV (.ptr 4 0)),(5,cV (.ptr 5 0)),(8,cV (.own 69 1 out.length)),(12,.w (yb x)),(13,cV (.own 64 3 g.length)),(43,.w (.c (.d (.sl (zh rows))))),(44,zg rows.length),(45,zg i),(50,.w (.c (.d (.sl (y9 l))))),(51,zg l.length),(52,zg j)],
 [(4,.box [.d (.sl (zi cols)),.d (.sl (zh rows))]),(5,.box st),(64,.arr 3 (rowD g) false),(69,.arr 1 (zh out) false)]⟩
theorem aqU (hC:Vo){Q:E ->S ->Prop}{s:S}(cols:List Col)(rows:List (List Val))(eo:Int)(nm:ByteArray)(v:Val)(ks:List Ex)(g:List Itm)(cs o I:List (List D))(m:Int)(tb:ByteArray)(i:Nat)(out:List (List Val))(x:List Val)
 (ai:g.length<=100000)
 (h0:xm s [4,5,8,12,13,43,44,45,50,51,52] (· =seI cols rows (wF 2 eo nm v ks (y9 g) cs o I m tb) i out x g 0 []))
 (hQ:Q (.exit 5) (uG (seI cols rows (wF 2 eo nm v ks (y9 g) cs o I m tb) i out x g g.length (itR cols x g)) 53 (zZ (decide ((g.length:Int)<g.length))))):
 yk (mwpR Pg T8.f (xw.l 1)) [4,5,8,12,13,43,44,45,50,51,52] Q s:=by
 obtain⟨vk,vn,vs⟩:=v;refine yl (P:=Pg) (f:=T8.f) (body:=(xw.l 1)) g.length (λj=>seI cols rows (wF 2 eo nm ⟨vk,vn,vs⟩ ks (y9 g) cs o I m tb) i out x g j (itR cols x (g.take j))) (λ_=>True) ⟨trivial,h0⟩ ?_
 ·clear h0;intro j hj _;have ah:(itR cols x (g.take j)).length=j:=by grind[itR]
  have r: ∀h:j<g.length,itR cols x (g.take (j+1))=itR cols x (g.take j)++[exprV cols x g[j].e]:=λh=>by
   grind[itR,zM]
  have J:j=g.length ->itR cols x g=itR cols x (g.take j):=λh=>by grind
  show mwpR Pg T8.f (xw.l 1) _ (seI cols rows (wF 2 eo nm ⟨vk,vn,vs⟩ ks (y9 g) cs o I m tb) i out x g j (itR cols x (g.take j)));generalize itR cols x (g.take j)=T at*;have ab:(rowD T).take T.length=rowD T:=by grind[zm]
  unfold seI wF;refine rgE (λp=>?_) (λU=>?_)
  ·have hg:=WZ p;have r:=r p;have wi:=zA p (by omega);have R:=adT hC cols x g[j].e;clear hQ J;generalize g[j]=z at*;obtain⟨⟨aa,ad,⟨ae,af,ag⟩,ac⟩,s2⟩:=z;simp only at R r;generalize exprV cols x (.mk aa ad ⟨ae,af,ag⟩ ac)=u at*;obtain⟨u1,u2,u3⟩:=u;refine zX hg ?_;refine Sat.w R ?_;refine qj ?_;refine yF p trivial ?_;rw[wi,ab,r,<- wX,List.length_append];rfl
  ·rw[J U]at hQ;subst U;(conv=>whnf);exact hQ
def seO (cols:List Col)(rows:List (List Val))(st:List C)(i:Nat)(out:List (List Val)):S:=
 ⟨[(4,cV (.ptr 4 0)),(5,cV (.ptr 5 0)),(8,cV (.own 69 1 out.length)),(43,.w (.c (.d (.sl (zh rows))))),(44,zg rows.length),(45,zg i)],
 [(4,.box [.d (.sl (zi cols)),.d (.sl (zh rows))]),(5,.box st),(69,.arr 1 (zh out) false)]⟩
theorem abI (hC:Vo)(d:D)(cols:List Col)(rows:List (List Val))(hr:rows.length<=20000)(eo:Int)(nm:ByteArray)(v:Val)(ks:List Ex)(g:List Itm)(cs o I:List (List D))(m:Int)(tb:ByteArray)(ac:g.length<=100000):
 Sat Pg ui [.c (.d d),.agg [.d (.sl (zi cols)),.d (.sl (zh rows))],.agg (wF 2 eo nm v ks (y9 g) cs o I m tb)] (λr=>r=rRT (selR cols rows g)):=by
 refine zC ?_;have j:=λ(Q:E ->S ->Prop) (s:S) (i:Nat) (out:List (List Val)) (x:List Val)=>aqU hC (Q:=Q) (s:=s) cols rows eo nm v ks g cs o I m tb i out x ac
 obtain⟨vk,vn,vs⟩:=v;unfold wF;refine xw.s T8 ?_;rw[zy];refine yl (P:=Pg) (f:=T8.f) (body:=(xw.l 2)) rows.length (λi=>seO cols rows (wF 2 eo nm ⟨vk,vn,vs⟩ ks (y9 g) cs o I m tb) i (selR cols (rows.take i) g)) (λ_=>True) ⟨trivial,⟨_,z7 8 69 1 (by omega) (by omega) rfl,?_⟩⟩ ?_
 ·exact rfl
 ·intro i hi _;have T: ∀h:i<rows.length,selR cols (rows.take (i+1)) g=selR cols (rows.take i) g++[itR cols rows[i] g]:=λh=>by
   grind[selR,zM]
  have J:rows.length<=i ->selR cols rows g=selR cols (rows.take i) g:=λh=>by grind
  have af:(selR cols (rows.take i) g).length=i:=by grind[selR]
  show mwpR Pg T8.f (xw.l 2) _ (seO cols rows (wF 2 eo nm ⟨vk,vn,vs⟩ ks (y9 g) cs o I m tb) i (selR cols (rows.take i) g));generalize selR cols (rows.take i) g=U at*;have aa:(zh U).take U.length=zh U:=by grind[zy]
  have j:=λQ s x=>j Q s i U x
  unfold seO wF;refine um (λp=>?_) (λab=>?_)
  ·have hg:=xy p;have T:=T p;have wi:=zA p (by omega);clear J;generalize rows[i]=x at*;have j:=λQ s=>j Q s x
   have ae:(rowD (itR cols x g)).take g.length=rowD (itR cols x g):=by grind[itR,zm]
   have ad:(itR cols x g).length=g.length:=by simp[itR]
   generalize itR cols x g=R at*;refine zX hg ?_;refine j _ _ ⟨_,z7 13 64 3 (by omega) (by omega) rfl,?_⟩ ?_
   ·(conv=>whnf);unfold seI wF;rw[uq];rfl
   unfold uG seI wF;(conv=>whnf);rw[show List.take R.length (rowD R)=rowD R by grind];refine qj ?_;refine yF p trivial ?_;rw[wi,aa,T,qW,List.length_append];rfl
  ·rw[J ab];clear j;(conv=>whnf);refine⟨rfl,?_⟩;show Res.mk (.tup [.c (.d (.sl ((zh U).take U.length))),.c (bool true)]) []=_;rw[aa];rfl
theorem uQ (d:List Nmd)(t:Tbl)(st:Stp)(g:List Col)(R:List (List Val))(p:(st.op==4)=false)(I:(st.op==7)=false)(J:(st.op==8)=false)(P:(st.op==9)=false)(hl:R.length<=20000)(T:Sat Pg ui [.c (.d (.sl (zu d))),t.w,.agg st.cs] (λr=>r=rRT R)):
 Sat Pg wU [.c (.d (.sl (zu d))),t.w,.agg st.cs,.c (.d (.sl (zi g)))] (λr=>r=vh ⟨g,R⟩ 0):=by
 have U:=xg d st.table;obtain⟨tc,tr⟩:=t;obtain⟨op,⟨eo,nm,⟨vk,vn,vs⟩,ks⟩,j,aa,l,o,sn,tb⟩:=st;simp only at*;unfold Stp.cs wF at*;have i:decide (((zh R).length:Int)>20000)=false:=decide_eq_false (by grind[zy]);generalize zI tb d=f at*;cases f with
 |none=>
  refine qO.s T8 ?_;refine Sat.w U ?_;rw[p];(conv=>whnf);rw[I];(conv=>whnf);rw[J];(conv=>whnf);rw[P];refine Sat.w T ?_;rw[i];exact rfl
 |some ft=>
  obtain⟨fc,fr⟩:=ft;refine qO.s T8 ?_;refine Sat.w U ?_;rw[p];(conv=>whnf);rw[I];(conv=>whnf);rw[J];(conv=>whnf);rw[P];refine Sat.w T ?_;rw[i];exact rfl
theorem abJ (d:List Nmd)(t:Tbl)(st:Stp)(g:List Col)(i:st.op=4)(R:Tbl)(e:Int)(p:Sat Pg Un [t.w,.c (.d (.sl (xA st.sorts)))] (λr=>r=vh R e)):
 Sat Pg wU [.c (.d (.sl (zu d))),t.w,.agg st.cs,.c (.d (.sl (zi g)))] (λr=>r=vh R e):=by
 have I:=xg d st.table;obtain⟨tc,tr⟩:=t;obtain⟨rc,rr⟩:=R;obtain⟨op,⟨T,nm,⟨vk,vn,vs⟩,ks⟩,j,P,l,o,sn,tb⟩:=st;simp only at*;subst i;unfold Stp.cs wF at*;generalize zI tb d=f at*;cases f with
 |none=>
  refine qO.s T8 ?_;refine Sat.w I ?_;refine Sat.w p ?_;rfl
 |some J=>
  obtain⟨U,fr⟩:=J;refine qO.s T8 ?_;refine Sat.w I ?_;refine Sat.w p ?_;rfl
theorem gf (d:List Nmd)(t:Tbl)(st:Stp)(g:List Col)(i:st.op=9)(R:Tbl)(e:Int)(p:Sat Pg Y2 [t.w,.c (.d (.sl (zq st.cols)))] (λr=>r=vh R e)):
 Sat Pg wU [.c (.d (.sl (zu d))),t.w,.agg st.cs,.c (.d (.sl (zi g)))] (λr=>r=vh R e):=by
 have I:=xg d st.table;obtain⟨tc,tr⟩:=t;obtain⟨rc,rr⟩:=R;obtain⟨op,⟨T,nm,⟨vk,vn,vs⟩,ks⟩,j,P,l,o,sn,tb⟩:=st;simp only at*;subst i;unfold Stp.cs wF at*;generalize zI tb d=f at*;cases f with
 |none=>
  refine qO.s T8 ?_;refine Sat.w I ?_;refine Sat.w p ?_;rfl
 |some J=>
  obtain⟨U,fr⟩:=J;refine qO.s T8 ?_;refine Sat.w I ?_;refine Sat.w p ?_;rfl
theorem aaA (d:List Nmd)(t:Tbl)(st:Stp)(g:List Col)(i:st.op=7)(b:Tbl)(J:zI st.table d=some b)(R:Tbl)(e:Int)(I:Sat Pg XS [t.w,b.w,.c (.d (.sl (zq st.cols)))] (λr=>r=vh R e)):
 Sat Pg wU [.c (.d (.sl (zu d))),t.w,.agg st.cs,.c (.d (.sl (zi g)))] (λr=>r=vh R e):=by
 have p:=xg d st.table;rw[J]at p;obtain⟨tc,tr⟩:=t;obtain⟨T,br⟩:=b;obtain⟨rc,rr⟩:=R;obtain⟨op,⟨U,nm,⟨vk,vn,vs⟩,ks⟩,j,P,l,o,sn,tb⟩:=st;simp only at*;subst i;unfold Stp.cs wF at*;refine qO.s T8 ?_;refine Sat.w p ?_;refine Sat.w I ?_;rfl
theorem aaz (d:List Nmd)(t:Tbl)(st:Stp)(g:List Col)(i:st.op=8)(b:Tbl)(J:zI st.table d=some b)(R:Tbl)(e:Int)(I:Sat Pg XR [t.w,b.w,.c (.d (.sl (zq st.cols)))] (λr=>r=vh R e)):
 Sat Pg wU [.c (.d (.sl (zu d))),t.w,.agg st.cs,.c (.d (.sl (zi g)))] (λr=>r=vh R e):=by
 have p:=xg d st.table;rw[J]at p;obtain⟨tc,tr⟩:=t;obtain⟨T,br⟩:=b;obtain⟨rc,rr⟩:=R;obtain⟨op,⟨U,nm,⟨vk,vn,vs⟩,ks⟩,j,P,l,o,sn,tb⟩:=st;simp only at*;subst i;unfold Stp.cs wF at*;refine qO.s T8 ?_;refine Sat.w p ?_;refine Sat.w I ?_;rfl
end
section
attribute [local irreducible] Sat zD yk zl
def j5 (d:List Nmd)(st:Stp):Tbl:=(zI st.table d).getD ⟨[],[]⟩
noncomputable def stR (d:List Nmd)(t:Tbl)(st:Stp):List (List Val):=
 bif st.op==1 then whereR t.cols t.rows st.cond else bif st.op==2 then selR t.cols t.rows st.items else
 bif st.op==3 then(Xf (zn t.cols st.cols) t.rows).map (qf t.cols st.aggs)else
 bif st.op==4 then xh (u4 (uH t.cols st.sorts) st.sorts) t.rows else bif st.op==5 then t.rows.take (xG false st.n t.rows.length).toNat else
 bif st.op==6 then va (zn t.cols st.cols) (zn (j5 d st).cols st.cols) (x9 st.cols 0 (j5 d st).cols) t.rows (j5 d st).rows else
 bif st.op==7 then vd (zj t.cols sFrom) (zj t.cols sTo) (zj (j5 d st).cols sFrom) (zj (j5 d st).cols sTo) (zn t.cols st.cols) (zn (j5 d st).cols st.cols) (x9 (st.cols++[sFrom,sTo]) 0 (j5 d st).cols) t.rows (j5 d st).rows else
 bif st.op==8 then t.rows.map (vE (zj t.cols sFrom) (zj (j5 d st).cols sFrom) (zn t.cols st.cols) (zn (j5 d st).cols st.cols) (x9 (st.cols++[sFrom]) 0 (j5 d st).cols) (j5 d st).rows)else
 Kl (zn t.cols st.cols) (zj t.cols sFrom) (zj t.cols sTo) t.rows
noncomputable def nStepT (d:List Nmd)(t:Tbl)(st:Stp):Int×Tbl:=
 bif yu d !=0 then(yu d,⟨[],[]⟩)else bif zR t !=0 then(zR t,⟨[],[]⟩)else bif (yI d t.cols st).1 !=0 then((yI d t.cols st).1,⟨[],[]⟩)else(0,⟨(yI d t.cols st).2,stR d t st⟩)
def Y4 (x:Int×Tbl):Res:=vh x.2 x.1
theorem ajX {e:Int}: ∀{P:Program}{k:Nat}{args:List W},Sat P k args (λr=>r=rNT e) ->Sat P k args (DQ (vh ⟨[],[]⟩ e)):=λh=>h.mono λr hr=>by subst hr;exact⟨rfl,rfl⟩
theorem aid {i:ByteArray}{b:Tbl}: ∀{d pre:List Nmd},uO pre d=0 ->zI i d=some b ->zR b=0
 | [],_,_,g=>by cases g
 |x::r,pre,h,g=>by
  simp only[uO]at h;cases j:(wW x.nm !=0)
  ·rw[j,cond_false]at h;obtain⟨_,h⟩:=zO (by omega) h;cases l:(zR x.t !=0)
   ·rw[l,cond_false]at h;simp only[zI]at g;cases o:zl x.nm i
    ·rw[o,cond_false]at g;exact aid h g
    simp_all
   simp_all
  simp_all
theorem V4 {d:List Nmd}{i:ByteArray}{b:Tbl}(h:yu d=0)(g:zI i d=some b):zR b=0:=by
 unfold yu at h;exact aid (zO (by omega) h).2 g
theorem afI {st:Stp}(h:st.err=0)(g:st.op=7\/st.op=8\/st.op=9):qD st.cols 0=0:=by
 unfold Stp.err at h;have h:=(zO (by omega) h).2;rcases g with g|g|g
 ·rw[g]at h;exact(zO (by omega) (show(bif !yS st.table then 3 else qD st.cols 0)=0 from h)).2
 ·rw[g]at h;exact(zO (by omega) (show(bif !yS st.table then 3 else qD st.cols 0)=0 from h)).2
 grind
theorem abX {op:Int}{i:List ByteArray}{tb:ByteArray}(g:op=7\/op=8\/(op=9 /\tb=⟨#[]⟩)):(uI op i tb).uses=true:=by
 show XH op (Ex.mk 0 ⟨#[]⟩ ⟨0,0,⟨#[]⟩⟩ []).zero 0 i.length 0 0 0 tb=true;have j:(Ex.mk 0 ⟨#[]⟩ ⟨0,0,⟨#[]⟩⟩ []).zero=true:=by
  grind[Ex.zero,Vl,xF,AM.beqS_self]
 unfold XH;rw[j];rcases g with rfl|rfl|⟨rfl,rfl⟩
 ·rfl
 ·rfl
 ·rw[AM.beqS_self];rfl
theorem amn {op:Int}{g:List ByteArray}(i:op=7\/op=8)(h:qD g 0=0):(uI op g XX).err=0:=by
 unfold Stp.err;rw[abX (by grind)];have j:yS XX=true:=by decide+kernel
 rcases i with rfl|rfl
 ·show(bif !yS XX then 3 else qD g 0)=0
  grind
 ·show(bif !yS XX then 3 else qD g 0)=0
  grind
theorem aku {g:List ByteArray}(h:qD g 0=0):(uI 9 g ⟨#[]⟩).err=0:=by
 unfold Stp.err;rw[abX (.inr (.inr ⟨rfl,rfl⟩))];exact h
theorem ap5 {i:List ByteArray}{d:List Nmd}{cols:List Col}{g:List ByteArray}{tb:ByteArray}{b:Tbl}(j:zI tb d=some b):Xi i [⟨XX,b⟩] cols g XX=Xi i d cols g tb:=by
 grind[zI,AM.beqS_self,Xi]
theorem aiV {d:List Nmd}{t b:Tbl}{st:Stp}(g:st.op=7\/st.op=8)(o:zR t=0)(i:zR b=0)(j:st.err=0)(l:zI st.table d=some b):ZX st.op st.cols t b=yI d t.cols st:=by
 grind[afI,amn,ZX,yI,uI,ap5]
theorem apq {d:List Nmd}{t:Tbl}{st:Stp}(g:st.op=9)(j:zR t=0)(i:st.err=0):Wx 9 st.cols t=yI d t.cols st:=by
 grind[afI,aku,Wx,yI,uI]
theorem UF {x y:Int}:(bif x !=0 then x else y)=0↔x=0 /\y=0:=by
 grind
theorem WP {b:Bool}{x y:Int}(g:x≠0):(bif b then x else y)=0↔b=false /\y=0:=by
 grind
def Uz:List Col ->List Val ->Prop
 | [],[]=>True
 |c::g,v::vs=>ai5 c.t v /\Uz g vs
 |_,_=>False
theorem Uz.len: ∀{g:List Col}{vs:List Val},Uz g vs ->vs.length=g.length
 | [],[],_=>rfl
 |c::g,v::vs,h=>by simp only[List.length_cons];rw[Uz.len h.2]
theorem kh: ∀{g:List Col}{vs:List Val},vs.length=g.length ->(wK g vs=0↔Uz g vs)
 | [],[],_=>⟨λ_=>trivial,λ_=>rfl⟩
 |c::g,v::vs,h=>by
  simp only[wK];rw[UF,kh (by simpa using h)];exact⟨λh=>⟨aio h.1,h.2⟩,λh=>⟨aec h.1,h.2⟩⟩
theorem aiH {cols:List Col}: ∀{rows:List (List Val)},ZC cols rows=0↔ ∀r∈rows,Uz cols r
 | []=>⟨λ_ r hr=>by(cases hr),λ_=>rfl⟩
 |a::j=>by
  simp only[ZC];rw[WP (by omega),UF,aiH];constructor
  ·grind[kh]
  ·intro h;have g:=h a (by simp);have i:=g.len<;>grind[kh]
theorem amQ (l:List Col)(s:ByteArray):decide (zj l s>=0)=true↔s∈l.map Col.name:=by
 unfold zj;have:=ZL (λx:Col=>zl x.name s) l 0
 grind[AM.beqS_iff]
theorem amR (l:List Col)(s:ByteArray):decide (zj l s>=0)=false↔s∉l.map Col.name:=by
 rw[<- amQ,Bool.not_eq_true]
def ColF (c:Col):Prop:=wW c.name=0 /\(c.t=1\/c.t=2\/c.t=3)
theorem aih: ∀{l:List Col}{all:List Col}{i:Nat},all.drop i=l ->i<=all.length ->(jN all i l=0↔(∀c∈l,ColF c)/\(∀c∈l,c.name∉(all.take i).map Col.name)/\(l.map Col.name).Nodup)
 | [],_,_,_,_=>⟨λ_=>⟨λ_ h=>(by cases h),λ_ h=>(by cases h),List.nodup_nil⟩,λ_=>rfl⟩
 |c::r,all,i,h,hi=>by
  have o:i<all.length:=by
   grind
  have T:=zo o;rw[h]at T;obtain⟨e1,U⟩:=List.cons.inj T;have p:all.take (i+1)=all.take i++[c]:=by grind
  simp only[jN];rw[UF,WP (by omega),WP (by omega),aih U.symm (by omega),amR,p];have ht:(c.t !=1&&c.t !=2&&c.t !=3)=false↔(c.t=1\/c.t=2\/c.t=3):=by
   grind
  rw[ht];simp only[List.map_append,List.mem_append,List.map_cons,List.map_nil,List.mem_singleton,List.nodup_cons];constructor
  ·rintro⟨j,I,J,P,h5,h6⟩;refine⟨λx g=>?_,λx g=>?_,?_,h6⟩
   ·rcases List.mem_cons.1 g with rfl|g
    ·exact⟨j,J⟩
    grind
   ·grind
   grind
  ·rintro⟨j,I,J,P⟩;have R:=j c (by simp);refine⟨R.1,I c (by simp),R.2,λx g=>j x (by simp[g]),λx g=>?_,P⟩
   grind
structure ColsF (cols:List Col):Prop where
 few:cols.length<=32
 ok: ∀c∈cols,ColF c
 nd:(cols.map Col.name).Nodup
theorem aqW (t:Tbl):zR t=0↔ColsF t.cols /\t.rows.length<=20000 /\ ∀r∈t.rows,Uz t.cols r:=by
 unfold zR;rw[WP (by omega),UF,aih (by rfl) (Nat.zero_le _),aiH];simp only[Bool.or_eq_false_iff,decide_eq_false_iff_not,List.take_zero,List.map_nil,List.not_mem_nil,not_false_eq_true,implies_true,true_and];constructor
 ·rintro⟨⟨l,o⟩,⟨g,i⟩,j⟩;exact⟨⟨by omega,g,i⟩,by omega,j⟩
 ·rintro⟨⟨l,g,i⟩,o,j⟩<;>grind
theorem ain: ∀{cols:List Col}{row:List Val},Uz cols row ->Yz cols row=true
 | [],[],_=>rfl
 |c::g,v::r,h=>by
  simp only[Yz];rw[show(yG c.t v !=0)=false by simpa using aec h.1];exact ain h.2
theorem aoR {cols:List Col}{row:List Val}(h:Uz cols row):Yy cols row=true:=by
 unfold Yy;rw[h.len]
 grind[ain]
def ut:Val:=⟨0,0,⟨#[]⟩⟩
def y6 (c:ByteArray):Ex:=⟨2,c,ut,[]⟩
def qP (n:Int):Ex:=⟨1,⟨#[]⟩,⟨2,n,⟨#[]⟩⟩,[]⟩
def w7 (op:Int)(a b:Ex):Ex:=⟨op,⟨#[]⟩,ut,[a,b]⟩
def qm (c:ByteArray)(lo hi:Int):Ex:=w7 14 (w7 13 (qP lo) (y6 c)) (w7 13 (y6 c) (qP hi))
theorem ale {c:ByteArray}(h:(y6 c).chk=0):yA 2 c ut 0=0:=by
 have h:(bif yA 2 c ut 0 !=0 then yA 2 c ut 0 else 0)=0:=h;cases g:(yA 2 c ut 0 !=0)
 ·simpa using g
 ·rw[g]at h;exact h
theorem afE {n:Int}(h:yy n=true):yA 1 ⟨#[]⟩ ⟨2,n,⟨#[]⟩⟩ 0=0:=by
 unfold yA qr XK yG;rw[h];simp[beqS_self];rfl
theorem amp (op:Int)(h:op=13\/op=14):yA op ⟨#[]⟩ ut 2=0:=by
 unfold yA qr;rcases h with rfl|rfl
 ·simp[beqS_self,xF,ut]
 ·simp[beqS_self,xF,ut]
theorem aia {c:ByteArray}{lo hi:Int}(p:(y6 c).chk=0)(I:yy lo=true)(r:yy hi=true):(qm c lo hi).chk=0:=by
 have g:=ale p;have i:=afE I;have j:=afE r;have l:=amp 13 (.inl rfl);have o:=amp 14 (.inr rfl);have m:(qm c lo hi).meas 0=(7,3):=rfl;unfold Ex.chk;rw[m];simp only[qm,w7,y6,qP,Ex.err,errL,List.length_cons,List.length_nil];simp[g,i,j,l,o]
theorem akY {cols:List Col}{c:ByteArray}{lo hi:Int}(h0:0<=zj cols c)(g:q0 cols (zj cols c)=2):(qm c lo hi).ty cols=(1,0):=by
 have h:decide (zj cols c<0)=false:=decide_eq_false (by omega);have f:(y6 c).ty cols=(2,0):=by
  show Jt cols 2 c ut []=_;unfold Jt;rw[h,g];rfl
 have k: ∀n,(qP n).ty cols=(2,0):=λ_=>rfl
 have a: ∀x y:Ex,x.ty cols=(2,0) ->y.ty cols=(2,0) ->(w7 13 x y).ty cols=(1,0):=λx y i j=>by
  simp only[w7,Ex.ty,tyL,i,j];rfl
 simp only[qm];show(Ex.mk 14 _ ut [_,_]).ty cols=_;simp only[Ex.ty,tyL,a _ _ (k lo) f,a _ _ f (k hi)];rfl
theorem apS (a b:Int):decide (qb a b<=0)=decide (a<=b):=by
 unfold qb;by_cases h:a<b
 ·rw[decide_eq_true h,cond_true,decide_eq_true (by omega),decide_eq_true (by omega)]
 ·rw[decide_eq_false h,cond_false];by_cases g:a>b
  ·rw[decide_eq_true g,cond_true,decide_eq_false (by omega),decide_eq_false (by omega)]
  ·rw[decide_eq_false g,cond_false,decide_eq_true (by omega),decide_eq_true (by omega)]
def WX (g:Nat)(lo hi:Int)(row:List Val):Bool:=(at0 row g).k==2&&(decide (lo<=(at0 row g).n)&&decide ((at0 row g).n<=hi))
theorem alt {a b:Int}{s t:ByteArray}:vF 13 ⟨#[]⟩ [⟨2,a,s⟩,⟨2,b,t⟩]=yq (decide (a<=b)):=by
 show yq (((_||_)||_)||(_&&decide (xf ⟨2,a,s⟩ ⟨2,b,t⟩<=0)))=_;have:xf ⟨2,a,s⟩ ⟨2,b,t⟩=qb a b:=rfl;rw[this,apS];rfl
theorem aoK {cols:List Col}{row:List Val}{c:ByteArray}{lo hi:Int}(i:(at0 row (zj cols c).toNat).k=0\/(at0 row (zj cols c).toNat).k=2):xF ((qm c lo hi).val cols row) (yq true)=WX (zj cols c).toNat lo hi row:=by
 have f:(y6 c).val cols row=at0 row (zj cols c).toNat:=rfl;have k: ∀n,(qP n).val cols row=⟨2,n,⟨#[]⟩⟩:=λ_=>rfl
 unfold WX;have e:(qm c lo hi).val cols row=Zv ((w7 13 (qP lo) (y6 c)).val cols row) ((w7 13 (y6 c) (qP hi)).val cols row):=rfl;have g: ∀x y:Ex,(w7 13 x y).val cols row=bif jK [x.val cols row,y.val cols row]then yJ else vF 13 ⟨#[]⟩ [x.val cols row,y.val cols row]:=λ_ _=>rfl
 rw[e,g,g,f,k,k];generalize at0 row (zj cols c).toNat=v at*;obtain⟨l,j,vs⟩:=v;rcases i with i|i
 ·have i:l=0:=i;subst i;rfl
 ·have i:l=2:=i;subst i;rw[alt,alt];show xF (Zv (yq (decide (lo<=j))) (yq (decide (j<=hi)))) (yq true)=(decide (lo<=j)&&decide (j<=hi));cases decide (lo<=j)<;>cases decide (j<=hi)<;>simp[Zv,yq,xF,beqS_self]
theorem apE {cols:List Col}{c:ByteArray}(h0:0<=zj cols c)(i:(zj cols c).toNat<cols.length)(g:q0 cols (zj cols c)=2):cols[(zj cols c).toNat].t=2:=by
 unfold q0 at g;rw[List.getElem?_eq_getElem i]at g;exact g
theorem amJ {cols:List Col}{row:List Val}{c:ByteArray}{lo hi:Int}(o:(y6 c).chk=0)(r:yy lo=true)(p:yy hi=true)(h0:0<=zj cols c)(g:(zj cols c).toNat<cols.length)(j:q0 cols (zj cols c)=2)(i:Yy cols row=true):condB cols row (qm c lo hi)=WX (zj cols c).toNat lo hi row:=by
 unfold condB exprV Ex.tyE;rw[aia o r p,akY h0 j,i];have l:=am0 i g;rw[apE h0 g j]at l;refine aoK ?_;rcases l with h|⟨h,_⟩|⟨_,n,_,h⟩|⟨h,_⟩
 ·rw[h];exact .inl rfl
 ·cases h
 ·rw[h];exact .inr rfl
 ·cases h
theorem akZ {cols:List Col}{rows:List (List Val)}{c:ByteArray}{lo hi:Int}(i:(y6 c).chk=0)(o:yy lo=true)(l:yy hi=true)(h0:0<=zj cols c)(g:(zj cols c).toNat<cols.length)(p:q0 cols (zj cols c)=2)(j: ∀r∈rows,Yy cols r=true):whereR cols rows (qm c lo hi)=rows.filter (WX (zj cols c).toNat lo hi):=
 List.filter_congr λr hr=>amJ i o l h0 g p (j r hr)
theorem amK {c:ByteArray}{lo hi:Int}(g:(y6 c).chk=0)(j:yy lo=true)(i:yy hi=true):(yw (qm c lo hi)).err=0:=by
 have h:=aia g j i;have u:(yw (qm c lo hi)).uses=true:=by
  unfold Stp.uses XH yw;simp[We,beqS_self]
 unfold Stp.err;rw[u];exact h
theorem afn {cols:List Col}: ∀{l:List Agg},(y5 cols l).1=0 ->(y5 cols l).2=l.map (λa=>(gL cols a).2)/\ ∀a∈l,(gL cols a).1=0
 | [],_=>⟨rfl,λ_ h=>by(cases h)⟩
 |a::r,h=>by
  simp only[y5]at h⊢;cases i:((gL cols a).1 !=0)
  ·rw[i]at h;simp only[cond_false]at h⊢;obtain⟨j,o⟩:=afn h;refine⟨by rw[j,List.map_cons],λy g=>?_⟩;rcases List.mem_cons.1 g with rfl|g
   ·simpa using i
   ·exact o y g
  simp_all
end
end Go.Proofs.YtkdijaiaplkliaaGreatDoor
set_option linter.unusedVariables false
namespace Go.Proofs.YtkdijaiaplkliaaGreatDoor
open Go Go.Proofs Go.RowKit Go.Lib
section
variable {P:Program}
theorem Xw (w:World){ops:Array Oper}{rest:List Oper}{o:Oper}{a:Act}{Q:Exit ->Act ->World ->Prop}(g:o.guard=none)(d s:Operand)(t i:TypeId)
 (p:o.op= .call {callee:=.builtin .copy,args:= #[d,s],argTypes:= #[t,i]}) (v u:Value) (l:a.eval d=v) (hs:a.eval s=u) {v':Value}{w':World}
 (hr:(Builtin.copy_ #[t,i] o.type #[v,u]).run P w= .ok v' w') (h:wpList P ops Q rest (a.put o.dst v') w'):wpList P ops Q (o::rest) a w:=
 wpList_plain g λK j=>by
  unfold Oper.wp execOp;simp only[p,resolve,invoke,builtin,Sem.run_bind,Sem.run_pure,Result.andThen_ok,List.map_toArray,List.map_cons,List.map_nil,l,hs,hr];exact j _ _ h
theorem K7 {ops:Array Oper}{o:Oper}{a:Act}{w:World}{K:Act ->World ->Prop}{Q:Exit ->Act ->World ->Prop}{E:Prop}
 (p:o.guard=none) (d x:Operand) (i sT:TypeId) (g:o.op=Op.call {callee:=Callee.builtin Builtin.copy,args:= #[d,x],argTypes:= #[i,sT]})
 (v u:Value) (l:a.eval d=v) (I:a.eval x=u) {v':Value}{w':World}(hr:(Builtin.copy_ #[i,sT] o.type #[v,u]).run P w= .ok v' w') (j:K (a.put o.dst v') w'):
 if Region.wanted o (yielded ops a.tmps)=true then Oper.wp P o a w K Q else E:=by
 have r:Region.wanted o (yielded ops a.tmps)=true:=by simp[Region.wanted,p]
 rw[if_pos r];unfold Oper.wp;simp[execOp,g,resolve,invoke,builtin,l,I,hr,Result.andThen];exact j
end
theorem jG (g:Nat)(t:TypeId): ∀(vs:List Value) (o:Nat) (w:World) (i:Array Value),w.heap[g]? =some (.cells i t (0,0)) ->o+vs.length<=i.size ->
 (∃j,(w.setCells g o vs).heap[g]? =some (.cells j t (0,0))/\j.size=i.size /\j.toList=i.toList.take o++vs++i.toList.drop (o+vs.length))/\w.grownBy (w.setCells g o vs) (some g)/\(w.setCells g o vs).drawn=w.drawn
 | [],o,w,i,h,_=>⟨⟨i,h,rfl,by simp⟩,⟨rfl,rfl,rfl,Nat.le_refl _,λ_ _ _=>rfl⟩,rfl⟩
 |v::r,o,w,i,h,hl=>by
  simp only[List.length_cons]at hl;have P:=heap_setCell_same w g o i t v h;obtain⟨⟨j,R,T,U⟩,l,h6⟩:=jG g t r (o+1) (w.setCell ⟨g,o,none⟩ v) (i.setIfInBounds o v) P (by simp;omega);refine⟨⟨j,R,by rw[T];simp,?_⟩,?_,h6⟩
  ·rw[U,Array.toList_setIfInBounds];have J:o<i.toList.length:=by simp;omega
   rw[List.set_eq_take_append_cons_drop,if_pos J];have p:(i.toList.take o).length=o:=by rw[List.length_take];omega
   rw[List.take_append,p,show o+1 - o=1 by omega,List.take_of_length_le (by omega)];rw[List.drop_append,p,List.drop_eq_nil_of_le (by omega:(i.toList.take o).length<=o+1+r.length)];rw[show o+1+r.length - o=r.length+1 by omega];simp only[List.take_succ_cons,List.take_zero,List.drop_succ_cons,List.nil_append,List.drop_drop,List.append_assoc,List.cons_append,List.length_cons];rw[show o+1+r.length=o+(r.length+1)by omega]
  ·exact⟨l.os,l.tape,l.output,Nat.le_trans (by simp) l.size,λk hk I=>(l.block k (by simpa using hk) I).trans (heap_setCell_other w ⟨g,o,none⟩ k v (λe=>I (by rw[e])))⟩
theorem adF {w:World}{base g n cap:Nat}{xs:List Value}(l:w.ownsRow base tG 2 (.slice (some ⟨g,0,none⟩) n cap) n xs): ∃i,w.heap[g]? =some (.cells i tG (0,0))/\n<=cap /\cap<=maxLen /\i.size=cap*2 /\i.toList.take (n*2)=xs /\base<=g:=by
 rcases l.2 with⟨o,_⟩|⟨T,J,i,o,P,R,I,p,r,j⟩
 ·simp at o
 ·simp only[Value.slice.injEq,Option.some.injEq,Addr.mk.injEq,and_true,true_and]at o;obtain⟨⟨rfl,_⟩,rfl⟩:=o;exact⟨i,R,I,p,r,j,P⟩
theorem YM {P:Program}(w:World)(U sT ty elem:TypeId)(b o g r:Nat)(a:Addr)(l J:Nat)(p:List Value)
 (hu:P.underlying U=some (.slice elem)) (hs:(P.info? elem).map (·.size)=some 2) (hn:p.length=Nat.min l g*2)
 (I: ∀j v,p[j]? =some v ->w.cell? (a.add j)=some v) (hc: ∀j,j<p.length ->(w.cell? ⟨b,o+j,none⟩).isSome=true) (hf: ∀j,j<p.length ->w.frozen? ⟨b,o+j,none⟩=false) (h1: ∀v∈p,v.oneCell'=true):
 (Builtin.copy_ #[U,sT] ty #[.slice (some ⟨b,o,none⟩) g r,.slice (some a) l J]).run P w= .ok (goInt (Nat.min l g)) (w.setCells b o p):=by
 have hl:=run_loadCells_list (P:=P) w a p I;have T:=run_storeCells_cells (P:=P) b o p 0 w (by simpa using hc) (by simpa using hf) h1;cases R:P.info? elem with
 |none=>simp[R]at hs
 |some i=>
  have hi:i.size=2:=by simpa[R]using hs
  simp[Builtin.copy_,run_underlying hu,Builtin.lenOf,Builtin.firstCells,sizeOf,typeInfo,R,hi,<- hn,hl,T]
theorem Wg (b:Nat)(vs:List Value)(o:Nat)(w:World)(h: ∀j,j<vs.length ->(w.cell? ⟨b,o+j,none⟩).isSome=true)(k:Nat)(hk:(w.cell? ⟨b,k,none⟩).isSome=true):((w.setCells b o vs).cell? ⟨b,k,none⟩).isSome=true:=by
 by_cases g:o<=k /\k<o+vs.length
 ·have:=World.cell?_setCells_in b vs o w h (k - o) (by omega);rw[show o+(k - o)=k by omega]at this;rw[this];rfl
 ·rw[World.cell?_setCells_out b vs o w ⟨b,k,none⟩ (λ_ _=>by show k<o\/o+vs.length<=k;omega)];exact hk
theorem am4 (L:List Value)(xs:List Value)(n i:Nat)(k r:Value)(p:L.take (n*2)=xs)(R:(n+1)*2<=L.length)(hi:i<n):
 let g:=L.take ((i+1)*2)++xs.drop (i*2)++L.drop ((i+1)*2+(xs.drop (i*2)).length)
 (g.take (i*2)++[k,r]++g.drop (i*2+2)).take ((n+1)*2)=xs.take (2*i)++[k,r]++xs.drop (2*i):=by
 intro g;have l:xs.length=n*2:=by rw[<- p,List.length_take];omega
 have P:(xs.drop (i*2)).length=n*2 - i*2:=by rw[List.length_drop,l]
 have I:g.take (i*2)=xs.take (i*2):=by
  show(L.take ((i+1)*2)++xs.drop (i*2)++L.drop ((i+1)*2+(xs.drop (i*2)).length)).take (i*2)=_;rw[List.append_assoc,List.take_append_of_le_length (by rw[List.length_take];omega),List.take_take,<- p,List.take_take];congr 1;omega
 have J:g.drop (i*2+2)=xs.drop (i*2)++L.drop ((i+1)*2+(xs.drop (i*2)).length):=by
  show(L.take ((i+1)*2)++xs.drop (i*2)++L.drop ((i+1)*2+(xs.drop (i*2)).length)).drop (i*2+2)=_;have o:(L.take ((i+1)*2)).length=i*2+2:=by rw[List.length_take];omega
  rw[List.append_assoc,<- o,List.drop_left]
 rw[I,J,show 2*i=i*2 by omega];have j:(xs.take (i*2)++[k,r]++xs.drop (i*2)).length=(n+1)*2:=by
  simp only[List.length_append,List.length_cons,List.length_nil,P,List.length_take,l];omega
 rw[<- List.append_assoc,<- j,List.take_left]
set_option maxRecDepth 100000 in
set_option maxHeartbeats 4000000 in
theorem afT (w:World)(base g n cap i:Nat)(xs:List Value)(o:w.ownsRow base tG 2 (.slice (some ⟨g,0,none⟩) n cap) n xs)(hn:n<=1000000)(hi:i<n)(an:n+1<=cap)
 (I:Nat) (k r:Value) (U:w.heap[I]? =some (.cells #[k,r] tG (0,0))) (ag:I≠g) (h2:k.oneCell'=true) (h3:r.oneCell'=true) (ah: ∀v∈xs,v.oneCell'=true):
 Calls Tryz.prog 199 #[.slice (some ⟨g,0,none⟩) n cap,.int .i64 i,.slice (some ⟨I,0,none⟩) 1 1] w λe w'=>e= .returned (.slice (some ⟨g,0,none⟩) (n+1) cap)/\w'=(w.drew.setCells g ((i+1)*2) (xs.drop (i*2))).setCells g (i*2) [k,r]:=by
 obtain⟨ar,hg,a2,az,aj,ao,ay⟩:=adF o;have a5: ¬((i:Int)=(n:Int)):=by omega
 have aq:xs.length=n*2:=o.1;have af:(Tryz.prog.info? tG).map (·.size)=some 2:=by
  obtain⟨i0,ak,h0,h1,h2⟩:=info_parts ajD;rw[ak];simp[h1]
 have al:(callFunc 226 #[.slice (some ⟨I,0,none⟩) 1 1,.slice (some ⟨g,(i+1)*2,none⟩) (n - i) (cap -(i+1))]).run Tryz.prog w= .ok (.value (.bool false)) w:=by
  rw[run_callFunc_extern Tryz.func226 (by kernel_rfl) (by kernel_rfl) (by kernel_rfl) (e:=Extern.SlicesOverlaps.overlaps #[248,248] #[4]) (by kernel_rfl),
   Lib.run_overlaps_apart w 248 4 tG Tryz.underlying248 2 Tryz.sizeOf252 ⟨I,0,none⟩ ⟨g,(i+1)*2,none⟩ 1 1 (n - i) (cap -(i+1)) ag tG tG 2 (cap*2) (by simp[World.shape?,U]) (by simp[World.shape?,hg,aj]) (by omega) (by simp[World.frozen?,U]) (by simp[World.frozen?,U])]
  rfl
 have T: ∀j,j<cap*2 ->(w.cell? ⟨g,j,none⟩).isSome=true:=λj l=>by
  simp only[World.cell?,hg];rw[Array.getElem?_eq_getElem (by omega)];rfl
 have ad: ∀j,w.frozen? ⟨g,j,none⟩=false:=λj=>o.frozenAt j
 have ac: ∀j v,xs[j]? =some v ->w.cell? ⟨g,j,none⟩=some v:=λj v h=>by
  have a1:=(List.getElem?_eq_some_iff.1 h).1;rw[o.cellAt j (by omega)];exact h
 have R:(xs.drop (i*2)).length=(n - i)*2:=by rw[List.length_drop,aq,Nat.sub_mul]
 have J: ∀ty P sc,(Builtin.copy_ #[248,248] ty #[.slice (some ⟨g,(i+1)*2,none⟩) (n - i) P,.slice (some ⟨g,i*2,none⟩) (n+1 - i) sc]).run Tryz.prog w.drew= .ok (goInt (Nat.min (n+1 - i) (n - i))) (w.drew.setCells g ((i+1)*2) (xs.drop (i*2))):=λty P sc=>
  YM w.drew _ _ ty tG g ((i+1)*2) (n - i) P ⟨g,i*2,none⟩ (n+1 - i) sc (xs.drop (i*2)) Tryz.underlying248 af (by rw[R];show _=Nat.min _ _*2;simp only[Nat.min_def];split<;>omega)
   (λj v l=>by rw[Addr.add_lit];exact ac (i*2+j) v (by rwa[List.getElem?_drop]at l))
   (λj l=>T _ (by rw[R]at l;have:n - i+i=n:=(by omega);omega)) (λj l=>ad _) (λv U=>ah v (List.mem_of_mem_drop U))
 obtain⟨W1,p⟩: ∃W1,W1=w.drew.setCells g ((i+1)*2) (xs.drop (i*2)):=⟨_,rfl⟩;have ae: ∀k,k<cap*2 ->(W1.cell? ⟨g,k,none⟩).isSome=true:=λk hk=>by
  rw[p];exact Wg g _ ((i+1)*2) w.drew (λj l=>T _ (by rw[R]at l;have:n - i+i=n:=(by omega);omega)) _ (T k hk)
 have ab: ∀(W:World),(∀x,W.cell? x=W1.cell? x) ->(∀x,W.frozen? x=W1.frozen? x) -> ∀ty P,(Builtin.copy_ #[248,248] ty #[.slice (some ⟨g,i*2,none⟩) (n+1 - i) P,.slice (some ⟨I,0,none⟩) 1 1]).run Tryz.prog W= .ok (goInt (Nat.min 1 (n+1 - i))) (W.setCells g (i*2) [k,r]):=λW aa ai ty P=>
  YM W _ _ ty tG g (i*2) (n+1 - i) P ⟨I,0,none⟩ 1 1 [k,r] Tryz.underlying248 af (by show 2=Nat.min _ _*2;simp only[Nat.min_def];split<;>omega)
   (λj v l=>by
    rw[Addr.add_lit,aa,p,World.cell?_setCells_out g _ _ _ _ (λh _=>absurd h ag)]
    match j,l with
    |0,l=>exact(congrArg some (Option.some.inj l))▸(show w.cell? ⟨I,0,none⟩=some k by simp[World.cell?,U])
    |1,l=>exact(congrArg some (Option.some.inj l))▸(show w.cell? ⟨I,1,none⟩=some r by simp[World.cell?,U])
    |(j+2),l=>cases l)
   (λj l=>by rw[aa];exact ae _ (by have:j<2:=l;omega)) (λj l=>by rw[ai,p,World.frozen?_setCells];exact ad _) (kG h2 h3)
 rw[<- p]at J;have a4:IntKind.i64.wrap ((i:Int)+1)=(i:Int)+1:=by rw[IntKind.wrap_i64];omega
 have au:(0:Int)<=(i:Int)+1:=by omega
 have a0:i<=n:=by omega
 have a3:((i:Int)+1).toNat=i+1:=by omega
 have av: ¬(cap=i+1):=by omega
 have aw:(i:Int)<=(n:Int)+1:=by omega
 have ax: ¬(cap=i):=by omega
 have mixed:Tryz.prog.follows .mixedOrders=true:=by kernel_rfl
 go_enter Tryz.func199,Tryz.ntmps199
 go_wp2_with (simp only[al])
 go_region_law_o (refine K7 rfl _ _ 248 248 rfl _ _ (by simp[Act.eval,Act.put]) (by simp[Act.eval,Act.put]) (J _ _ _) ?_)
 go_wp2_with (at_builtin;refine Xw _ rfl _ _ 248 248 rfl _ _ rfl rfl (ab _ (λ_=>rfl) (λ_=>rfl) _ _) ?_)
 go_ret
 first|exact⟨rfl,rfl⟩|exact⟨rfl,by rw[p]⟩
def zG:Value:=.agg #[.slice none 0 0,.slice none 0 0]
def YL (xs:List Value)(n i G:Nat):Array Value:=(xs.take (i*2)).toArray++Builtin.zeroCells zG.cells (n+1 - i)++Builtin.zeroCells zG.cells (G -(n+1))
theorem jZ (k:Nat):(Builtin.zeroCells zG.cells k).size=2*k:=by
 simp[Builtin.zeroCells,Value.cells,zG];omega
set_option maxRecDepth 100000 in
set_option maxHeartbeats 4000000 in
theorem ahx (w:World)(base g n cap i:Nat)(xs:List Value)(P:w.ownsRow base tG 2 (.slice (some ⟨g,0,none⟩) n cap) n xs)(hn:n<=1000000)(hi:i<n)(af:cap<n+1)
 (T:Nat) (k r:Value) (hv:w.heap[T]? =some (.cells #[k,r] tG (0,0))) (h2:k.oneCell'=true) (h3:r.oneCell'=true) (ao: ∀v∈xs,v.oneCell'=true):
 Calls Tryz.prog 199 #[.slice (some ⟨g,0,none⟩) n cap,.int .i64 i,.slice (some ⟨T,0,none⟩) 1 1] w λe w'=>e= .returned (.slice (some ⟨w.heap.size,0,none⟩) (n+1) (grownCap w (n+1) cap tG))/\
  w'=(((w.alloc (.cells (YL xs n i (grownCap w (n+1) cap tG)) tG)).drew.setCells w.heap.size (i*2) [k,r]).drew).setCells w.heap.size ((i+1)*2) (xs.drop (i*2)):=by
 obtain⟨a8,hg,bj,bf,bg,a2,bd⟩:=adF P;obtain⟨i0,ak,a5,ar,aq⟩:=info_parts ajD;have bm: ¬((i:Int)=(n:Int)):=by omega
 have bn:(cap:Int)<(n:Int)+1:=by omega
 have a4:xs.length=n*2:=P.1;have an:(Tryz.prog.info? tG).map (·.size)=some 2:=by rw[ak];simp[ar]
 have a1:g<w.heap.size:=(Array.getElem?_eq_some_iff.1 hg).1;have a3:T<w.heap.size:=(Array.getElem?_eq_some_iff.1 hv).1;have al:(n:Int)+1 -(i:Int)=((n+1 - i:Nat):Int):=by omega
 have ae:i+(n+1 - i)=n+1:=by omega
 have ab: ∀j v,xs[j]? =some v ->w.cell? ⟨g,j,none⟩=some v:=λj v h=>by
  have bi:=(List.getElem?_eq_some_iff.1 h).1;rw[P.cellAt j (by omega)];exact h
 have ac:(Builtin.firstCells i0.size i (.slice (some ⟨g,0,none⟩) i cap)).run Tryz.prog w.drew= .ok (xs.take (i*2)).toArray w.drew:=by
  rw[ar];exact run_firstCells_some w.drew 2 i ⟨g,0,none⟩ i cap (xs.take (i*2)) (by rw[List.length_take];omega) (λj v o=>by
   rw[Addr.add_lit,Nat.zero_add];rw[List.getElem?_take]at o;split at o
   ·exact ab j v o
   ·cases o)
 have U: ∀ty,(Builtin.append_ #[248,3] ty #[.slice (some ⟨g,0,none⟩) i cap,.int .i64 ((n:Int)+1 -(i:Int))]).run Tryz.prog w=
  .ok (.slice (some ⟨w.heap.size,0,none⟩) (n+1) (grownCap w (n+1) cap tG)) (w.drew.alloc (.cells (YL xs n i (grownCap w (n+1) cap tG)) tG)):=λty=>by
  have h:=Lib.run_append_grow_zeros w 248 3 ty tG i0 _ .i64 .i64 Tryz.underlying248 Tryz.underlying3 ak a5 (some ⟨g,0,none⟩) i cap (xs.take (i*2)) ac (n+1 - i) (by omega) (by omega) (by omega) (by omega) (by rw[aq];omega) (by rw[aq,ae];exact growslice_fits af (by omega));rw[ae]at h;rw[al];exact h
 obtain⟨G,hG⟩: ∃G,G=grownCap w (n+1) cap tG:=⟨_,rfl⟩;obtain⟨l,I⟩: ∃l:Array Value,l=YL xs n i G:=⟨_,rfl⟩;rw[<- hG]at U⊢;rw[<- I]at U⊢;have ba:n+1<=G:=by rw[hG];exact grownCap_ge w _ _ _
 have az:(n+1)*2<=l.size:=by
  rw[I];unfold YL;rw[Array.size_append,Array.size_append,jZ,jZ,List.size_toArray,List.length_take];omega
 obtain⟨R,p⟩: ∃R,R=w.drew.alloc (.cells l tG):=⟨_,rfl⟩;rw[<- p]at U;have hN: ∀j,j<(n+1)*2 ->(R.cell? ⟨w.heap.size,j,none⟩).isSome=true:=λj o=>by
  rw[p,World.cell?_alloc_at (w:=w.drew) l _ w.heap.size j rfl,Array.getElem?_eq_getElem (by omega)];rfl
 have ag: ∀j,R.frozen? ⟨w.heap.size,j,none⟩=false:=λj=>by rw[p];exact World.frozen?_alloc_at (w:=w.drew) l _ w.heap.size j rfl
 have ay: ∀j v,w.cell? ⟨g,j,none⟩=some v ->R.cell? ⟨g,j,none⟩=some v:=λj v h=>by rw[p,World.cell?_alloc_past (w:=w.drew) _ g j a1];exact h
 have ah: ∀j v,w.cell? ⟨T,j,none⟩=some v ->R.cell? ⟨T,j,none⟩=some v:=λj v h=>by rw[p,World.cell?_alloc_past (w:=w.drew) _ T j a3];exact h
 have ai: ∀(W:World),(∀x,W.cell? x=R.cell? x) ->(∀x,W.frozen? x=R.frozen? x) -> ∀ty dc,(Builtin.copy_ #[248,248] ty #[.slice (some ⟨w.heap.size,i*2,none⟩) (n+1 - i) dc,.slice (some ⟨T,0,none⟩) 1 1]).run Tryz.prog W= .ok (goInt (Nat.min 1 (n+1 - i))) (W.setCells w.heap.size (i*2) [k,r]):=λW J ad ty dc=>
  YM W _ _ ty tG w.heap.size (i*2) (n+1 - i) dc ⟨T,0,none⟩ 1 1 [k,r] Tryz.underlying248 an (by show 2=Nat.min _ _*2;simp only[Nat.min_def];split<;>omega)
   (λj v o=>by
    rw[Addr.add_lit,J]
    match j,o with
    |0,o=>exact ah _ _ ((congrArg some (Option.some.inj o))▸(show w.cell? ⟨T,0,none⟩=some k by simp[World.cell?,hv]))
    |1,o=>exact ah _ _ ((congrArg some (Option.some.inj o))▸(show w.cell? ⟨T,1,none⟩=some r by simp[World.cell?,hv]))
    |(j+2),o=>cases o)
   (λj o=>by rw[J];exact hN _ (by have:j<2:=o;omega)) (λj o=>by rw[ad];exact ag _) (kG h2 h3)
 have a6:G<=9223372036854775807:=by
  have:=grownCap_le_maxLen w (n+1) cap tG (by unfold maxLen;omega);rw[<- hG]at this;unfold maxLen at this;omega
 have a9: ¬(G=i):=by omega
 have a7: ¬(G=i+1):=by omega
 have be: ¬(cap=i):=by omega
 have a0:g≠w.heap.size:=by omega
 have aj:(xs.drop (i*2)).length=(n - i)*2:=by rw[List.length_drop,a4,Nat.sub_mul]
 have aa: ∀(W:World),(∀x,W.cell? x=(R.setCells w.heap.size (i*2) [k,r]).cell? x) ->(∀x,W.frozen? x=(R.setCells w.heap.size (i*2) [k,r]).frozen? x) -> ∀ty dc sc,(Builtin.copy_ #[248,248] ty #[.slice (some ⟨w.heap.size,(i+1)*2,none⟩) (n - i) dc,.slice (some ⟨g,i*2,none⟩) (n - i) sc]).run Tryz.prog W= .ok (goInt (Nat.min (n - i) (n - i))) (W.setCells w.heap.size ((i+1)*2) (xs.drop (i*2))):=λW J ad ty dc sc=>
  YM W _ _ ty tG w.heap.size ((i+1)*2) (n - i) dc ⟨g,i*2,none⟩ (n - i) sc (xs.drop (i*2)) Tryz.underlying248 an (by rw[aj];show _=Nat.min _ _*2;simp only[Nat.min_def];split<;>omega)
   (λj v o=>by
    rw[Addr.add_lit,J,World.cell?_setCells_out _ _ _ _ _ (λh _=>absurd h a0)];exact ay _ v (ab (i*2+j) v (by rwa[List.getElem?_drop]at o)))
   (λj o=>by rw[J];exact Wg _ _ _ _ (λt ht=>hN _ (by have:t<2:=ht;omega)) _ (hN _ (by rw[aj]at o;have:n - i+i=n:=(by omega);omega)))
   (λj o=>by rw[ad,World.frozen?_setCells];exact ag _) (λv hv=>ao v (List.mem_of_mem_drop hv))
 subst p;have au: ∀x,((w.alloc (.cells l tG)).drew).cell? x=(w.drew.alloc (.cells l tG)).cell? x:=λx=>rfl
 have av: ∀x,((w.alloc (.cells l tG)).drew).frozen? x=(w.drew.alloc (.cells l tG)).frozen? x:=λx=>rfl
 have aw: ∀x,(((w.alloc (.cells l tG)).drew.setCells w.heap.size (i*2) [k,r]).drew).cell? x=((w.drew.alloc (.cells l tG)).setCells w.heap.size (i*2) [k,r]).cell? x:=λx=>rfl
 have ax: ∀x,(((w.alloc (.cells l tG)).drew.setCells w.heap.size (i*2) [k,r]).drew).frozen? x=((w.drew.alloc (.cells l tG)).setCells w.heap.size (i*2) [k,r]).frozen? x:=λx=>rfl
 have bl:IntKind.i64.wrap ((i:Int)+1)=(i:Int)+1:=by rw[IntKind.wrap_i64];omega
 have bb:(0:Int)<=(i:Int)+1:=by omega
 have bh:i<=n:=by omega
 have bk:((i:Int)+1).toNat=i+1:=by omega
 have bc:(i:Int)<=(n:Int):=by omega
 clear al ae ac I hG az;have mixed:Tryz.prog.follows .mixedOrders=true:=by kernel_rfl
 go_enter Tryz.func199,Tryz.ntmps199
 go_wp2_with (first
  |(at_builtin;refine Lib.wpList_append_run _ rfl _ _ _ _ rfl _ _ rfl rfl _ _ (U _) ?_)
  |(at_builtin;refine Xw _ rfl _ _ 248 248 rfl _ _ rfl rfl (ai _ au av _ _) ?_)
  |(at_builtin;refine Xw _ rfl _ _ 248 248 rfl _ _ rfl rfl (aa _ (λ_=>rfl) (λ_=>rfl) _ _ _) ?_))
 go_region_law_o (refine K7 rfl _ _ 248 248 rfl (.slice (some ⟨w.heap.size,(i+1)*2,none⟩) (n - i) (G -(i+1))) (.slice (some ⟨g,i*2,none⟩) (n - i) (cap - i)) (by simp[Act.eval,Act.put]) (by simp[Act.eval,Act.put]) (aa _ aw ax 3 (G -(i+1)) (cap - i)) ?_)
 go_wp2
 go_ret
 exact⟨rfl,rfl⟩
theorem alj (L:List Value)(xs:List Value)(n i G:Nat)(k r:Value)(p:L=(xs.take (i*2))++(Builtin.zeroCells zG.cells (n+1 - i)).toList++(Builtin.zeroCells zG.cells (G -(n+1))).toList)(j:xs.length=n*2)(hi:i<n)(J:n+1<=G):
 let g:=L.take (i*2)++[k,r]++L.drop (i*2+2)
 (g.take ((i+1)*2)++xs.drop (i*2)++g.drop ((i+1)*2+(xs.drop (i*2)).length)).take ((n+1)*2)=xs.take (2*i)++[k,r]++xs.drop (2*i):=by
 intro g;have I:(xs.drop (i*2)).length=n*2 - i*2:=by rw[List.length_drop,j]
 have l:(xs.take (i*2)).length=i*2:=by rw[List.length_take];omega
 have h0:L.take (i*2)=xs.take (i*2):=by
  rw[p,List.append_assoc,List.take_append_of_le_length (by omega),List.take_of_length_le (by omega)]
 have o:g.take ((i+1)*2)=xs.take (i*2)++[k,r]:=by
  show(L.take (i*2)++[k,r]++L.drop (i*2+2)).take ((i+1)*2)=_;rw[h0];have:(xs.take (i*2)++[k,r]).length=(i+1)*2:=by rw[List.length_append,l];simp;omega
  rw[<- this,List.take_left]
 rw[o,show 2*i=i*2 by omega];have:(xs.take (i*2)++[k,r]++xs.drop (i*2)).length=(n+1)*2:=by rw[List.length_append,List.length_append,l,I];simp;omega
 rw[<- this,List.take_left]
theorem WW {w p r:World}{g:Option Nat}(i:w.grownBy p g){b:Nat}(j:p.grownBy r (some b))(o:w.heap.size<=b\/some b=g):w.grownBy r g:=
 ⟨j.os.trans i.os,j.tape.trans i.tape,j.output.trans i.output,Nat.le_trans i.size j.size,λk hk l=>(j.block k (Nat.lt_of_lt_of_le hk i.size) (λe=>by
  rcases o with o|o
  ·have:=Option.some.inj e;omega
  ·exact l (e.trans o))).trans (i.block k hk l)⟩
theorem aoU: ∀n p,p<=n ->n<=100000 ->aeU n p:=by
 intro n p hp hn;by_cases al:p=n
 ·subst al;exact aoV (by omega)
 intro w base v xs j hb h1 vb k r hv an hk hr;have hi:p<n:=by omega
 have J:xs.length=n*2:=j.1;have ak:=j;rcases j.2 with⟨_,h0⟩|⟨g,cap,P,rfl,af,hg,aq,ag,ah,I⟩
 ·omega
 have hd:(xs.drop (p*2)).length=n*2 - p*2:=by rw[List.length_drop,J]
 have U:(xs.take (2*p)++[k,r]++xs.drop (2*p)).length=(n+1)*2:=by
  simp only[List.length_append,List.length_take,List.length_drop,List.length_cons,List.length_nil,J];omega
 have aj:vb≠g:=λe=>an (by rw[e];rfl)
 have ao:g<w.heap.size:=(Array.getElem?_eq_some_iff.1 hg).1;by_cases i:n+1<=cap
 ·refine(afT w base g n cap p xs j (by omega) hi i vb k r hv aj hk hr h1).mono ?_;rintro e w' ⟨rfl,rfl⟩;obtain⟨⟨c1,a1,a2,a3⟩,a4,a5⟩:=jG g tG (xs.drop (p*2)) ((p+1)*2) w.drew P hg (by omega);obtain⟨⟨c2,b1,b2,b3⟩,b4,b5⟩:=jG g tG [k,r] (p*2) _ c1 a1 (by simp;omega);have h0:w.grownBy w.drew (some g):=⟨rfl,rfl,rfl,Nat.le_refl _,λ_ _ _=>rfl⟩;refine⟨_,rfl,⟨U,.inr ⟨g,cap,c2,rfl,af,b1,i,ag,by rw[b2,a2,ah],?_⟩⟩,WW (WW h0 a4 (.inr rfl)) b4 (.inr rfl),?_,λb o=>.inl o⟩
  ·rw[b3,a3];exact am4 P.toList xs n p k r I (by simp;omega) hi
  ·rw[b5,a5];exact Nat.le_succ _
 ·have i:cap<n+1:=by omega
  have T:n+1<=grownCap w (n+1) cap tG:=grownCap_ge w _ _ _;have ac:grownCap w (n+1) cap tG<=maxLen:=grownCap_le_maxLen w (n+1) cap tG (by unfold maxLen;omega);refine(ahx w base g n cap p xs j (by omega) hi i vb k r hv hk hr h1).mono ?_;rintro e w' ⟨rfl,rfl⟩;generalize grownCap w (n+1) cap tG=G at*;have ae:(YL xs n p G).size=G*2:=by
   unfold YL;rw[Array.size_append,Array.size_append,jZ,jZ,List.size_toArray,List.length_take];omega
  have ad:(YL xs n p G).toList=xs.take (p*2)++(Builtin.zeroCells zG.cells (n+1 - p)).toList++(Builtin.zeroCells zG.cells (G -(n+1))).toList:=by simp[YL]
  generalize YL xs n p G=R at*;have ai:(w.alloc (.cells R tG)).drew.heap[w.heap.size]? =some (.cells R tG (0,0)):=heap_alloc_new w _;obtain⟨⟨c1,a1,a2,a3⟩,a4,a5⟩:=jG w.heap.size tG [k,r] (p*2) _ R ai (by simp;omega);have aa:((w.alloc (.cells R tG)).drew.setCells w.heap.size (p*2) [k,r]).drew.heap[w.heap.size]? =some (.cells c1 tG (0,0)):=a1;obtain⟨⟨c2,b1,b2,b3⟩,b4,b5⟩:=jG w.heap.size tG (xs.drop (p*2)) ((p+1)*2) _ c1 aa (by omega);have h0:w.grownBy (w.alloc (.cells R tG)).drew (some g):=by
   have h:=World.grownBy_alloc w (.cells R tG) (some g);exact⟨h.os,h.tape,h.output,h.size,h.block⟩
  have l:=WW h0 a4 (.inl (Nat.le_refl _));have ab:w.grownBy ((w.alloc (.cells R tG)).drew.setCells w.heap.size (p*2) [k,r]).drew (some g):=⟨l.os,l.tape,l.output,l.size,l.block⟩;refine⟨_,rfl,⟨U,.inr ⟨w.heap.size,G,c2,rfl,hb,b1,T,ac,by rw[b2,a2,ae],?_⟩⟩,WW ab b4 (.inl (Nat.le_refl _)),?_,λb o=>.inr ?_⟩
  ·rw[b3,a3];exact alj R.toList xs n p G k r ad J hi T
  ·rw[b5];show w.drawn<=((w.alloc (.cells R tG)).drew.setCells w.heap.size (p*2) [k,r]).drawn+1;rw[a5];show w.drawn<=w.drawn+1+1;omega
  ·cases o;exact Nat.le_refl _
end Go.Proofs.YtkdijaiaplkliaaGreatDoor
namespace Go.Proofs.YtkdijaiaplkliaaGreatDoor
open Go Go.AM
section
attribute [local irreducible] Sat zD yk zl
theorem aeI (d:List Nmd)(t:Tbl)(st:Stp)(l:yu d≠0):Sat Pg uh [.c (.d (.sl (zu d))),t.w,st.w] (λr=>r=rNT (yu d)):=by
 have o:=qv d;have l:(yu d !=0)=true:=by grind
 obtain⟨op,⟨I,J,⟨R,T,vs⟩,ks⟩,g,p,i,j,P,tb⟩:=st;refine Yr.s T8 ?_;refine Sat.w o ?_;rw[l];exact rfl
structure Stp.Sm (st:Stp):Prop where
 sorts:st.sorts.length<=1000
 cols:st.cols.length<=1000
 aggs:st.aggs.length<=1000
 items:st.items.length<=1000
theorem Stp.Sm.ok {st:Stp}(h:st.Sm):st.OK:=⟨Nat.le_trans h.sorts (by omega),Nat.le_trans h.cols (by omega),Nat.le_trans h.aggs (by omega),Nat.le_trans h.items (by omega)⟩
def ab7 (x:Int×List Col):Prop:=x.1≠0 ->x.2=[]
theorem qU (e:Int):ab7 (e,[]):=λ_=>rfl
theorem Wm (l:List Col):ab7 (0,l):=λh=>absurd rfl h
theorem xR {b:Bool}{x y:Int×List Col}(g:ab7 x)(i:ab7 y):ab7 (bif b then x else y):=by grind
theorem ai0 {d:List Nmd}{cols:List Col}{st:Stp}:ab7 (yI d cols st):=by
 refine xR (qU _) (xR ?_ (xR ?_ (xR ?_ (xR ?_ (xR (Wm _) (xR ?_ ?_))))))
 ·exact xR (qU _) (Wm _)
 ·rw[agU];simp_all[xR,qU,Wm]
 ·exact xR (qU _) (xR (qU _) (Wm _))
 ·exact xR (qU _) (Wm _)
 ·exact xR (qU _) (xR (qU _) (xR (qU _) (xR (qU _) (Wm _))))
 ·unfold Xi;cases zI st.table d with
  |none=>exact qU _
  |some t=>exact xR (qU _) (xR (qU _) (xR (qU _) (xR (qU _) (xR (qU _) (xR (qU _) (Wm _))))))
theorem aow {d:List Nmd}{cols:List Col}{st:Stp}(i:st.op=3)(h:(yI d cols st).1=0):takeErr cols st.cols=false /\(y5 cols st.aggs).1=0 /\yI d cols st=(0,takeC cols st.cols++(y5 cols st.aggs).2):=by
 have e:yI d cols st=grT cols st.cols st.aggs:=by
  grind[yI]
 rw[e]at h⊢;unfold grT at h⊢;obtain⟨l,g⟩:=xD (by grind) h;rw[g]at h⊢;obtain⟨o,j⟩:=xD (by simp) h<;>simp_all
theorem aox {d:List Nmd}{cols:List Col}{st:Stp}(j:st.op=4)(h:(yI d cols st).1=0):qz cols st.sorts=false /\yI d cols st=(0,cols):=by
 have e:yI d cols st=soT cols st.sorts:=by
  grind[yI]
 rw[e]at h⊢;obtain⟨i,g⟩:=xD (by grind) h;exact⟨i,g⟩
theorem aqG {st:Stp}(h:st.err=0)(g:st.op=5):0<=st.n:=by
 have h:=(zO (by omega) h).2;rw[g]at h;have h:(bif decide (st.n<0)||decide (st.n>20000)then 2 else 0)=(0:Int):=h;have:=(zO (by omega) h).1<;>simp_all
theorem agN (d:List Nmd)(t:Tbl)(st:Stp)(hk:st.Sm)(h1:yu d=0)(h2:zR t=0)(J:(yI d t.cols st).1=0)(hr:t.rows.length<20000)(R:st.op=6\/st.op=7 ->t.rows.length*(j5 d st).rows.length<=20000):
 Sat Pg wU [.c (.d (.sl (zu d))),t.w,.agg st.cs,.c (.d (.sl (zi (yI d t.cols st).2)))] (λr=>r=vh ⟨(yI d t.cols st).2,stR d t st⟩ 0):=by
 have he:=adc J;have j:=afJ he;have j:st.op=1\/st.op=2\/st.op=3\/st.op=4\/st.op=5\/st.op=6\/st.op=7\/st.op=8\/st.op=9:=by omega
 have hw:=uZ h2;have hf:=vq h2;have k1:=hk.sorts;have k2:=hk.cols;have k3:=hk.aggs;have k4:=hk.items;have ae:(zn t.cols st.cols).length=st.cols.length:=by simp[zn]
 rcases j with j|j|j|j|j|j|j|j|j
 ·have e:stR d t st=whereR t.cols t.rows st.cond:=by grind[stR]
  rw[e];refine uQ d t st _ _ (by grind) (by grind) (by grind) (by grind) (Nat.le_trans (akC _ _ _) (by omega)) ?_;obtain⟨tc,tr⟩:=t;obtain⟨op,⟨eo,nm,⟨vk,vn,vs⟩,ks⟩,o,T,p,I,sn,tb⟩:=st;subst j;exact ac8 ap2 (.sl (zu d)) tc tr (by grind) eo nm ⟨vk,vn,vs⟩ ks (y9 o) (zq T) (qN p) (xA I) sn tb
 ·have e:stR d t st=selR t.cols t.rows st.items:=by grind[stR]
  rw[e];refine uQ d t st _ _ (by grind) (by grind) (by grind) (by grind) (by grind[selR]) ?_;obtain⟨tc,tr⟩:=t;obtain⟨op,⟨eo,nm,⟨vk,vn,vs⟩,ks⟩,o,T,p,I,sn,tb⟩:=st;subst j;exact abI ap2 (.sl (zu d)) tc tr (by grind) eo nm ⟨vk,vn,vs⟩ ks o (zq T) (qN p) (xA I) sn tb (by grind)
 ·have e:stR d t st=(Xf (zn t.cols st.cols) t.rows).map (qf t.cols st.aggs):=by grind[stR]
  rw[e];have ad:=aiT (aow j J).1;have hG:=alf (zn t.cols st.cols) t.rows;have ab:=aj8 t.cols t.rows (zn t.cols st.cols) (by omega) (λr hr=>by grind) (by omega) (λi hi _=>aoU _ _ (kH _ _) (by grind[V8]));generalize Xf (zn t.cols st.cols) t.rows=G at*;have aa:=ahR t.cols t.rows st G (by omega) (by omega) (by have:=hG.few;omega) (λg hg=>by rw[hG.key g hg];omega) (λg hg=>by have:=hG.cnt g hg;omega) (λg hg r hr=>hw r (hG.mem g hg r hr)) ab;exact uQ d t st _ _ (by grind) (by grind) (by grind) (by grind) (by rw[List.length_map];have:=hG.few;omega) (ac6 d t st j G aa)
 ·have e:stR d t st=xh (u4 (uH t.cols st.sorts) st.sorts) t.rows:=by grind[stR]
  obtain⟨P,ac⟩:=aox j J;rw[e,ac];have hS:=aj7 t st.sorts (by omega) (by omega) (by omega);simp_all[akl,abJ]
 ·have e:stR d t st=t.rows.take (xG false st.n t.rows.length).toNat:=by grind[stR]
  rw[e];exact uQ d t st _ _ (by grind) (by grind) (by grind) (by grind) (by grind) (ac7 d t st j (aqG he j))
 ·have hj:=Wz (.inl j) J;have l:=J;rw[hj]at l;obtain⟨b,P,ho⟩:=Ub l;have e:stR d t st=va (zn t.cols st.cols) (zn b.cols st.cols) (x9 st.cols 0 b.cols) t.rows b.rows:=by grind[stR,j5]
  have U:=R (.inl j);rw[show j5 d st=b by grind[j5]]at U;rw[e];have tb:=V4 h1 P;have wb:=uZ tb;have fb:=vq tb;have i:=UV ho.jn;have hJ:=ahT t.cols t.rows b.cols b.rows st.cols (by omega) (by omega) U (by omega) hw (by omega) wb i.1 i.2;exact uQ d t st _ _ (by grind) (by grind) (by grind) (by grind) (Nat.le_trans (Ky _ _ _ _ _) U) (aeR d t st j b P _ hJ)
 ·have hj:=Wz (.inr (.inl j)) J;have l:=J;rw[hj]at l;obtain⟨b,P,ho⟩:=Ub l;have tb:=V4 h1 P;have fb:=vq tb;have U:=R (.inr j);have e:stR d t st=vd (zj t.cols sFrom) (zj t.cols sTo) (zj b.cols sFrom) (zj b.cols sTo) (zn t.cols st.cols) (zn b.cols st.cols) (x9 (st.cols++[sFrom,sTo]) 0 b.cols) t.rows b.rows:=by grind[stR,j5]
  rw[show j5 d st=b by grind[j5]]at U;have hO:=ahM t b st.cols (by omega) (by omega) (by omega) U;have hc:=aiV (.inl j) h2 tb he P;simp_all[ovQ,aaA]
 ·have hj:=Wz (.inr (.inr j)) J;have l:=J;rw[hj]at l;obtain⟨b,P,ho⟩:=Ub l;have tb:=V4 h1 P;have fb:=vq tb;have e:stR d t st=t.rows.map (vE (zj t.cols sFrom) (zj b.cols sFrom) (zn t.cols st.cols) (zn b.cols st.cols) (x9 (st.cols++[sFrom]) 0 b.cols) b.rows):=by grind[stR,j5]
  have hO:=ahL t b st.cols (by omega) (by omega) (by omega);have hc:=aiV (.inr j) h2 tb he P;simp_all[nrQ,aaz]
 ·have e:stR d t st=Kl (zn t.cols st.cols) (zj t.cols sFrom) (zj t.cols sTo) t.rows:=by grind[stR]
  have hO:=agA t st.cols (by omega) (by omega);have hc:=apq (d:=d) j h2 he<;>simp_all[coQ,gf]
theorem kt {d:List Nmd}{i:ByteArray}{b:Tbl}(h:yu d=0)(g:zI i d=some b):b.cols.length<=32:=(vq (V4 h g)).1
theorem KY (d:List Nmd)(t:Tbl)(st:Stp)(hk:st.Sm)(hr:t.rows.length<20000)(o:st.op=6\/st.op=7 ->st.err=0 ->t.rows.length*(j5 d st).rows.length<=20000):
 Sat Pg uh [.c (.d (.sl (zu d))),t.w,st.w] (λr=>r=Y4 (nStepT d t st)):=by
 unfold nStepT;by_cases i:yu d=0
 ·rw[i];by_cases j:zR t=0
  ·rw[j];have fa:=vq j;have R:=YP d t.cols st hk.ok (by omega) (λb T=>by grind[kt]);by_cases l:(yI d t.cols st).1=0
   ·have g:Sat Pg yp [.c (.d (.sl (zu d))),.c (.d (.sl (zi t.cols))),st.w] (λr=>r=rCs (yI d t.cols st).2):=R.mono λr hr=>by
     rw[hr];show Res.mk (.tup [.c (.d (.sl (zi (yI d t.cols st).2))),.c (int (yI d t.cols st).1)]) []=_;rw[l];rfl
    have:=ahO d t st _ _ i j g (agN d t st hk i j l hr λP=>o P (adc l));rw[l];exact this
   ·have J:((yI d t.cols st).1 !=0)=true:=by grind
    have h0:(yI d t.cols st).2=[]:=ai0 l;have g:Sat Pg yp [.c (.d (.sl (zu d))),.c (.d (.sl (zi t.cols))),st.w] (λr=>r=Qo (yI d t.cols st).1):=R.mono λr hr=>by
     rw[hr];show Res.mk (.tup [.c (.d (.sl (zi (yI d t.cols st).2))),.c (int (yI d t.cols st).1)]) []=_;rw[h0];rfl
    rw[J];exact zC (ajX (agC d t st _ i j l g))
  ·have I:(zR t !=0)=true:=by grind
   rw[I];exact zC (ajX (aeJ d t st i j))
 ·have p:(yu d !=0)=true:=by grind
  rw[p];exact zC (ajX (aeI d t st i))
theorem adX {n vB:Int}(h:ve n vB=0):n<=16:=by
 simp_all[ve,WP]
theorem ak6 {l:List ByteArray}{m:Int}(h:qD l m=0):(l.length:Int)<=16 /\vt [] l=0:=by
 unfold qD at h;rw[UF]at h;exact⟨adX h.1,h.2⟩
theorem apW {st:Stp}(h:st.err=0)(g:st.op=2):(st.items.length:Int)<=16 /\qc [] st.items=0:=by
 unfold Stp.err at h;have h:=(zO (by omega) h).2;rw[g]at h;have h:(bif ve st.items.length 1 !=0 then ve st.items.length 1 else qc [] st.items)=0:=h;rw[UF]at h;exact⟨adX h.1,h.2⟩
theorem apX {st:Stp}(h:st.err=0)(g:st.op=3):(st.cols.length:Int)<=16 /\(st.aggs.length:Int)<=16 /\vt [] st.cols=0 /\v6 st.cols st.aggs=0:=by
 unfold Stp.err at h;have h:=(zO (by omega) h).2;simp_all[Wb,WP,UF]
theorem apY {st:Stp}(h:st.err=0)(g:st.op=9):(st.cols.length:Int)<=16 /\vt [] st.cols=0:=by
 unfold Stp.err at h;have h:=(zO (by omega) h).2;rw[g]at h;have h:qD st.cols 0=0:=h;exact ak6 h
theorem aqZ {d:List Nmd}{cols:List Col}{st:Stp}(g:st.op=1)(h:(yI d cols st).1=0):yI d cols st=(0,cols):=by
 have e:yI d cols st=whT cols st.cond:=by
  grind[yI]
 simp_all[whT,xD]
theorem aqX {d:List Nmd}{cols:List Col}{st:Stp}(g:st.op=2)(h:(yI d cols st).1=0):yI d cols st=uu cols st.items:=by
 grind[yI]
theorem aqY {d:List Nmd}{cols:List Col}{st:Stp}(g:st.op=5)(h:(yI d cols st).1=0):yI d cols st=(0,cols):=by
 grind[yI]
noncomputable def runT (d:List Nmd)(t:Tbl):List Stp ->Int×Tbl
 | []=>(0,t)
 |s::r=>bif (nStepT d t s).1 !=0 then((nStepT d t s).1,⟨[],[]⟩)else runT d (nStepT d t s).2 r
def Jn (d:List Nmd)(q:Qry):Tbl:=(zI q.src d).getD ⟨[],[]⟩
noncomputable def runQ (d:List Nmd)(q:Qry):Int×Tbl:=bif (qZ d q).1 !=0 then((qZ d q).1,⟨[],[]⟩)else runT d (Jn d q) q.steps
def aaH (d:List Nmd):Tbl ->List Stp ->Prop
 |_,[]=>True
 |t,s::r=>t.rows.length<20000 /\(s.op=6\/s.op=7 ->s.err=0 ->t.rows.length*(j5 d s).rows.length<=20000)/\s.Sm /\((nStepT d t s).1=0 ->aaH d (nStepT d t s).2 r)
theorem aag {d:List Nmd}{t:Tbl}{st:Stp}(g:yu d=0)(i:zR t=0)(j:(yI d t.cols st).1=0):nStepT d t st=(0,⟨(yI d t.cols st).2,stR d t st⟩):=by
 grind[nStepT]
theorem ads {g:ByteArray}{b:Tbl}: ∀{d:List Nmd},zI g d=some b -> ∃x∈d,x.t=b
 | [],h=>by cases h
 |x::r,h=>by
  simp only[zI]at h;cases i:zl x.nm g
  ·rw[i,cond_false]at h;obtain⟨y,j,e⟩:=ads h;exact⟨y,by simp[j],e⟩
  simp_all
theorem kO {d:List Nmd}{q:Qry}(h:(qZ d q).1=0):yu d=0 /\q.err=0 /\ ∃t,zI q.src d=some t /\qZ d q=Wy d t.cols q.steps:=by
 unfold qZ at h⊢;obtain⟨j,g⟩:=xD (by simp) h;rw[g]at h⊢;obtain⟨l,i⟩:=xD (by simp) h
 grind
end
section
attribute [local irreducible] Sat zD yk
theorem apt {d:List Nmd}{cols:List Col}{st:Stp}(I:cols.length<=1000):(yI d cols st).2.length<=1000:=by
 by_cases h:(yI d cols st).1=0
 ·have i:=adc h;have g:=afJ i;have g:st.op=1\/st.op=2\/st.op=3\/st.op=4\/st.op=5\/(st.op=6\/st.op=7\/st.op=8)\/st.op=9:=by omega
  rcases g with g|g|g|g|g|g|g
  ·grind[aqZ]
  ·obtain⟨J,hi⟩:=apW i g;rw[aqX g h];have: ∀l:List Itm,(uu cols l).2.length<=l.length:=by
    intro l;induction l with
    |nil=>exact Nat.le_refl _
    |cons x r P=>
     simp only[uu];cases((x.e.ty cols).2 !=0)
     ·cases((x.e.ty cols).1==0)
      ·cases((uu cols r).1 !=0)<;>simp_all
      simp_all
     simp_all
   grind
  ·obtain⟨g1,g2,g3⟩:=aow g h;obtain⟨m1,R,_,_⟩:=apX i g<;>grind[takeC,afn]
  ·simp_all[aox]
  ·grind[aqY]
  ·have p:=Wz g h;rw[p]at h⊢;obtain⟨b,_,j⟩:=Ub h;rw[j.eq];have:=j.few;omega
  ·have o:=amq g h;rw[o]at h⊢;have j:=ak4 h;obtain⟨m1,_⟩:=apY i g;rw[j.eq,List.length_append]
   grind[takeC]
 ·rw[ai0 h];simp_all
theorem aiG {q:Qry}(h:q.err=0):q.steps.length<=16:=by
 unfold Qry.err at h;rw[WP (by omega),WP (by omega)]at h
 grind
theorem ada (d:List Nmd)(j:ByteArray)(l:List Stp)(hs: ∀s∈l,s.Sm)(T:yu d=0)(U:Qry.err ⟨j,l⟩=0)(R:List Col)(tr:List (List Val))(hf:zI j d=some ⟨R,tr⟩)(y:Int×List Col)(hy:Wy d R l=y):Sat Pg wH [.c (.d (.sl (zu d))),Qry.w ⟨j,l⟩] (λr=>r=xI y):=by
 have hc:=qv d;have hq:=adR ⟨j,l⟩ (λs h=>Nat.le_trans (hs s h).sorts (by omega));have J:=xg d j;have hT:=λcols (hl:cols.length<=1000) i (hi:i<l.length)=>YP d cols l[i] (hs _ (List.getElem_mem hi)).ok (by omega) (λb hb=>by grind[kt])
 have ae:l.length<=16:=aiG U;have hX:R.length<=32:=kt T hf;have o:=qF R (by omega);rw[T]at hc;rw[U]at hq;rw[hf]at J;clear hf T U;refine zC ?_;refine ud.s T8 ?_;refine Sat.w hc ?_;refine Sat.w hq ?_;refine Sat.w J ?_;refine Sat.w o ?_;refine yx (P:=Pg) (f:=T8.f) (body:=(ud.l 0)) (λz:Nat×List Col=>⟨[(0,.w (.c (.d (.sl (zu d))))),(10,.w (.c (.d (.sl (zi z.2))))),(38,.w (.c (.d (.sl (qi l))))),(39,zg (qi l).length),(40,zg z.1)],[]⟩) (λz=>l.length - z.1) (λz=>z.1<=l.length /\z.2.length<=1000 /\y=Wy d z.2 (l.drop z.1)) ⟨(0,R),⟨Nat.zero_le _,by grind,hy.symm⟩,zf ?_⟩ ?_
 ·exact rfl
 ·rintro⟨i,cols⟩ hz;obtain⟨hi,o,p⟩:i<=l.length /\cols.length<=1000 /\y=Wy d cols (l.drop i):=hz;clear hy;refine ze (λh3=>?_) (λh3=>?_)
  ·have g:i<l.length:=by simp_all[vS]
   have hT:=hT cols o i g;have hg:=Xv g;have wi:IntKind.i64.wrap ((i:Int)+1)=((i+1:Nat):Int):=zA g (by omega);rw[zo g]at p;simp only[Wy]at p;have I:=apt (d:=d) (st:=l[i]) o;generalize l[i]=s at*;generalize yI d cols s=x at*;obtain⟨x1,x2⟩:=x;obtain⟨op,⟨eo,nm,⟨vk,vn,vs⟩,ks⟩,ab,af,ac,ad,sn,tb⟩:=s;refine zX hg ?_;refine Sat.w hT ?_;refine zt (b:=x1 !=0) (λh4=>?_) (λh4=>?_)
   ·simp only[h4,cond_true]at p;subst p;exact⟨rfl,rfl⟩
   ·simp only[h4,cond_false]at p;(conv=>whnf);refine⟨(i+1,x2),⟨⟨g,I,p⟩,by grind⟩,zf ?_⟩;(conv=>whnf);rw[wi];rfl
  ·have aa:l.length<=i:=by grind[vS]
   rw[List.drop_eq_nil_of_le aa]at p;subst p;exact⟨rfl,rfl⟩
end
section
attribute [local irreducible] Sat zD yk zl
theorem aoL {cols:List Col}{c:ByteArray}{lo hi:Int}(h0:0<=zj cols c)(g:q0 cols (zj cols c)=2):whT cols (qm c lo hi)=(0,cols):=by
 unfold whT ahb;rw[akY h0 g];rfl
theorem afO {t:Tbl}(h:zR t=0): ∀r∈t.rows,Yy t.cols r=true:=by
 exact λr hr=>aoR (((aqW t).1 h).2.2 r hr)
theorem aoJ {d:List Nmd}{name c:ByteArray}{lo hi:Int}{t:Tbl}(o:yu d=0)(p:zI name d=some t)(l:Qry.err ⟨name,[]⟩=0)(I:(y6 c).chk=0)(P:yy lo=true)(J:yy hi=true)(h0:0<=zj t.cols c)(U:(zj t.cols c).toNat<t.cols.length)(R:q0 t.cols (zj t.cols c)=2):
 runQ d ⟨name,[yw (qm c lo hi)]⟩=(0,⟨t.cols,t.rows.filter (WX (zj t.cols c).toNat lo hi)⟩)/\(qZ d ⟨name,[yw (qm c lo hi)]⟩).1=0:=by
 have i:=amK I P J;have j:=V4 o p;have g:yI d t.cols (yw (qm c lo hi))=(0,t.cols):=by
  unfold yI;rw[i];exact aoL h0 R
 have r:Qry.err ⟨name,[yw (qm c lo hi)]⟩=0:=by
  unfold Qry.err at l⊢;simp only[jI,i]at l⊢;cases hb: !yS name
  ·rfl
  ·rw[hb]at l;cases l
 have T:qZ d ⟨name,[yw (qm c lo hi)]⟩=(0,t.cols):=by
  unfold qZ;rw[o,r];show(match zI name d with|none=>(17,[])|some t=>Wy d t.cols [yw (qm c lo hi)])=_;rw[p];simp only[Wy,g];rfl
 refine⟨?_,by rw[T]⟩;unfold runQ;rw[T];have hs:Jn d ⟨name,[yw (qm c lo hi)]⟩=t:=by unfold Jn;rw[p];rfl
 show runT d (Jn d ⟨name,[yw (qm c lo hi)]⟩) [yw (qm c lo hi)]=_;rw[hs];simp only[runT];rw[aag o j (by rw[g])];rw[g];show(0,(⟨t.cols,stR d t (yw (qm c lo hi))⟩:Tbl))=_;rw[<- akZ I P J h0 U R (afO j)];rfl
inductive Pln where
 |mk (op:Int) (tb col:ByteArray) (lo hi:Int) (st:Stp) (ks:List Pln)
mutual
def Pln.ds:Pln ->List D
 | .mk op tb col lo hi st ks=> [.lit (.int .i64 op),.lit (.string tb),.lit (.string col),.lit (.int .i64 lo),.lit (.int .i64 hi)]++(st.ds++[.sl (plnsD ks)])
def plnsD:List Pln ->List (List D)
 | []=> []
 |p::r=>p.ds::plnsD r
end
def Pln.w (p:Pln):W:=.agg (p.ds.map .d)
theorem KS: ∀l:List Pln,plnsD l=l.map Pln.ds
 | []=>rfl
 |p::r=>by simp only[plnsD,List.map_cons,KS r]
theorem adI (l:List Pln):(plnsD l).length=l.length:=by simp[KS]
def ae5 (op:Int):Int:=bif op==7 then 3 else bif op==8 then 4 else bif op==6 then 5 else 2
def wD (op:Int)(tb col:ByteArray)(lo hi:Int)(g:Int)(nk:Int):Bool:=
 bif (!zl tb ⟨#[]⟩||(!zl col ⟨#[]⟩||(lo !=0||(hi !=0||nk !=1))))then false else
 bif op==2 then true else bif op==3||(op==4||op==5)then ae5 g==op else false
def XM (s:Stp):Bool:=s.op==0&&(s.cond.zero&&(decide ((s.items.length+s.cols.length+s.aggs.length+s.sorts.length:Nat)=0)&&(s.n==0&&zl s.table ⟨#[]⟩)))
def ZV (op:Int)(col:ByteArray)(lo hi:Int)(s:Stp)(nk:Int):Bool:=
 bif (op !=1||(!XM s||decide (nk>0)))then false else
 bif zl col ⟨#[]⟩then lo==0&&hi==0 else(yy lo&&(yy hi&&decide (lo<=hi)))||(lo==1&&hi==0)
def Pln.steps:Pln ->Bool
 | .mk op tb col lo hi st ks=>wD op tb col lo hi st.op ks.length
def Pln.scans:Pln ->Bool
 | .mk op _ col lo hi st ks=>ZV op col lo hi st ks.length
def Pln.base:Pln ->Pln×List Stp
 | .mk op tb col lo hi st [k]=>bif wD op tb col lo hi st.op 1 then(k.base.1,k.base.2++[st])else(.mk op tb col lo hi st [k],[])
 |p=>(p,[])
def Pln.tb:Pln ->ByteArray| .mk _ tb _ _ _ _ _=>tb
def Pln.qry (p:Pln):Qry×Bool:=bif p.base.1.scans then(⟨p.base.1.tb,p.base.2⟩,true)else(⟨⟨#[]⟩,[]⟩,false)
theorem aqe {op:Int}{col:ByteArray}{lo hi:Int}{st:Stp}{nk:Int}(h:ZV op col lo hi st nk=true)(i:zl col ⟨#[]⟩=false):yy lo=true /\yy hi=true:=by
 unfold ZV at h;cases g:(op !=1||(!XM st||decide (nk>0)))
 ·rw[g,cond_false,i,cond_false]at h;rcases Bool.or_eq_true_iff.1 h with h|h
  ·simp only[Bool.and_eq_true]at h;exact⟨h.1,h.2.1⟩
  ·simp only[Bool.and_eq_true,beq_iff_eq]at h;rw[h.1,h.2];exact⟨rfl,rfl⟩
 ·rw[g]at h;cases h
end
end Go.Proofs.YtkdijaiaplkliaaGreatDoor
namespace Go.AM
def laid (P:Program):Nat ->List Field ->Option Nat
 |o,[]=>some o
 |o,f::r=>bif Nat.beq f.offset o then laid P (o+P.cellsOf f.type) r else none
def J2 {α β:Type}(R:α ->β ->Prop):List α ->List β ->Prop
 | [],[]=>True
 |x::xs,y::g=>R x y /\J2 R xs g
 |_,_=>False
section
variable {H:Type}{enc:TypeId×Value ->H}{P:Program}{w:World}{base:Nat}{spare:Nat ->Bool}{held:Bool}{ι:Nat ->Gh}
def VW (w:World)(b:Nat):Prop:=b<w.heap.size
theorem akU (a:Addr)(j:Nat)(h:a.spot=none):a.add j=⟨a.block,a.off+j,none⟩:=by
 cases a<;>grind[qB]
theorem ak1 {a:Addr}{v:Value}(h:w.cell? a=some v):a.spot=none /\a.block<w.heap.size:=by
 unfold World.cell? at h;split at h
 ·rename_i g;cases hs:a.spot<;>grind
 ·cases h
theorem aaF {b:Nat}: ∀{g:List D}{vs:List Value}{o:Nat},CRs ι w (VW w) (g.map .d) vs ->(∀j v,vs[j]? =some v ->w.cell? ⟨b,o+j,none⟩=some v) ->RDc w (VW w) b o g
 | [],_,_,_,_=>by grind[RDc]
 |d::g,[],_,h,_=>h.elim
 |d::g,v::vs,o,h,i=>by
  simp only[RDc];refine⟨⟨v,i 0 v rfl,h.1⟩,aaF h.2 λj u l=>?_⟩;rw[show o+1+j=o+(j+1)by omega];exact i (j+1) u (by simpa using l)
theorem akM {b sz:Nat}: ∀(g:List (List D)) (o:Nat),(∀(i:Nat) (e:List D),g[i]? =some e ->e.length=sz /\RDc w (VW w) b (o+i*sz) e) ->RDs w (VW w) b sz o g
 | [],_,_=>by grind[RDs]
 |e::r,o,h=>by
  simp only[RDs];refine⟨(h 0 e rfl).1,by simpa using (h 0 e rfl).2,akM r (o+sz) λi x j=>?_⟩;have:=h (i+1) x (by grind);refine⟨this.1,?_⟩;rw[show o+sz+i*sz=o+(i+1)*sz by rw[Nat.add_mul,Nat.one_mul];omega]
  grind
end
section
variable {H:Type}{enc:TypeId×Value ->H}{P:Program}{w:World}{base:Nat}{spare:Nat ->Bool}{held:Bool}{ι:Nat ->Gh}
theorem aoB {ok:Nat ->Prop}: ∀{g:List D}{vs:List Value},CRs ι w ok (g.map .d) vs ->g.length=vs.length:=λh=>by
 have:=h.length<;>grind
theorem alb {R:List D ->Prop}{ok:Nat ->Prop}{g:Nat ->Option (List Value)}: ∀(len:Nat),(∀i,i<len -> ∃o r,g i=some o /\R r /\CRs ι w ok (r.map .d) o) ->
 ∃j:List (List D),j.length=len /\(∀y∈j,R y)/\ ∀i e,j[i]? =some e -> ∃o,g i=some o /\CRs ι w ok (e.map .d) o
 |0,_=>⟨[],rfl,λ_ h=>(by cases h),λi e h=>(by simp at h)⟩
 |n+1,h=>by
  obtain⟨j,I,J,P⟩:=alb (R:=R) (ok:=ok) (g:=g) n (λi hi=>h i (by omega));obtain⟨o,r,T,U,h6⟩:=h n (by omega);refine⟨j++[r],by simp[I],λy p=>?_,λi e l=>?_⟩
  ·rcases List.mem_append.1 p with p|p
   ·exact J y p
   ·simp at p;subst p;exact U
  ·by_cases hi:i<j.length
   ·rw[List.getElem?_append_left hi]at l;exact P i e l
   ·rw[List.getElem?_append_right (by omega)]at l;have:i - j.length=0:=by
     rcases Nat.eq_zero_or_pos (i - j.length)with h|h
     ·exact h
     ·rw[List.getElem?_eq_none (by simp;omega)]at l;cases l
    rw[this]at l;simp at l;subst l;rw[show i=n by omega];exact⟨o,T,h6⟩
end
section
variable {H:Type}{enc:TypeId×Value ->H}{P:Program}{w:World}{base:Nat}{spare:Nat ->Bool}{held:Bool}{ι:Nat ->Gh}
end
section
open Go.RowKit Go.WideShapes Go.ChangeShapes
section
variable {H:Type}{enc:TypeId×Value ->H}{P:Program}
def Xh (P:Program)(t:TypeId):Bool:=match P.underlying t with|some (.struct _)=>true|some (.array _ _)=>true|_=>false
theorem ahu {W:World}{i:Nat}{t:TypeId}{v:Value}(g:Value.okWide P W .any i t v)(j:Xh P t=false):v.cells= #[v]:=by
 unfold Value.okWide at g;unfold Xh at j;split at g
 ·grind
 ·grind
 ·cases v with
  |agg l=>
   simp_all[Cell.okWide,Cell.ok]
  |_=>rfl
theorem akV {W:World}{i:Nat}{t:TypeId}{v:Value}(g:Value.okWide P W .any i t v)(l:Xh P t=true): ∃j,v= .agg j:=by
 grind[Value.okWide,Xh]
theorem afs {W W':World}(U:laidOutB P=true)(T:Below W.heap.size W W')(J:Nat ->Bool): ∀(l:List TypeId) (vs:List Value) (o:List (DataW H)) (p:List MemPlace),(∀t∈l,P.readableRec t=true /\t<P.types.size) ->
 (∀x∈p,J x.block=true) ->(∀x∈p,x.block<W.heap.size) ->DataW.TrodAll enc P W 0 (λ_=>true) true l vs o p ->DataW.TrodAll enc P W' 0 J true l vs o p
 | [],vs,o,p,_,_,_,h=>by
   obtain⟨rfl,rfl,rfl⟩:=trodAll_nil h;exact rfl
 |t::l,vs,o,p,I,j,i,h=>by
  obtain⟨v,R,d,r,a,b,rfl,rfl,rfl,h1,h2⟩:=trodAll_cons h
  exact⟨a,b,WideElems.Trod_stays U (I t List.mem_cons_self).1 (I t List.mem_cons_self).2 h1 (λx g=>T.same (i x (List.mem_append_left _ g))) (λx g=>j x (List.mem_append_left _ g)),
   afs U T J l R r b (λt h=>I t (List.mem_cons_of_mem _ h)) (λx g=>j x (List.mem_append_right _ g)) (λx g=>i x (List.mem_append_right _ g)) h2,rfl⟩
theorem aeD {f:Func}{s:ChangeSpec}{i fresh l T:Bool}{W W':World}{args:Array Value}{v:Value}{ds gs:List (DataW H)}{g pa pv:List MemPlace}
 (hW:DataW.Whole enc P f.params.toList s.vars i W args.toList ds gs g)
 (R: ∀(b:Nat) (U:Nat ->Bool) (hd:Bool),DataW.TrodAll enc P W' b U hd f.resultTypes.toList (v.resultList f.resultTypes.size) (s.fn H (ds++gs)).results [])
 (o: ∀U:Nat ->Bool,(∀p∈g,U p.block=true) ->DataW.TrodAll enc P W' 0 U true f.params.toList args.toList (s.fn H (ds++gs)).args pa)
 (I: ∀U:Nat ->Bool,(∀p∈g,U p.block=true) ->DataW.TrodVars enc P W' U s.vars (s.fn H (ds++gs)).vars pv)
 (ad:g=pa++pv) (hb:Below W.heap.size W W')
 (ac: ∀(j:Nat) (t:TypeId) (r:Value),f.resultTypes[j]? =some t ->(v.resultList f.resultTypes.size)[j]? =some r ->Value.okWide P W' .any 0 t r):
 s.post enc P f i fresh l T W args v W':=by
 have ab: ∀p∈g,p.block<W.heap.size:=λp hp=>hW.lt p hp
 have J: ∀p∈g,(λb=>decide (b<W.heap.size)) p.block=true:=λp hp=>by grind
 refine⟨ds,gs,g,[],pa,pv,hW,R _ _ _,o _ J,I _ J,World.keptBut_mono (λp hp=>⟨hp,?_⟩) (hb.frame (· ∈g)),λ_=>?_⟩
 ·grind
 ·obtain⟨_,_,_,_,_,hz,hn⟩:=hW;refine⟨ac,_,_,([]++pa)++pv,⟨[]++pa,pv,trodAll_append (o _ (λ_ _=>rfl)) (R _ _ _),I _ (λ_ _=>rfl),rfl,?_,?_⟩,?_⟩
  ·intro b off hp;have aa:MemPlace.cell b off∈g:=by grind
   rw[hb.frozen (ab _ aa)];exact hz b off aa
  ·grind
  grind
def aiX:Res:=⟨.w (.c (.d (.lit (.bool true)))),[]⟩
end
inductive Fd where
 |bool
 |int (k:IntKind)
 |str
 |ref (i:Nat)
inductive Sh where
 |sl (e:Fd)
 |st (fs:List Fd)
def yd (tab:List Sh):Nat ->Fd ->List D ->Prop
 |_,.bool,g=> ∃b,g=[.lit (.bool b)]
 |_,.int k,g=> ∃m,g=[.lit (.int k m)]/\(Lit.int k m).wf=true
 |_,.str,g=> ∃s:ByteArray,g=[.lit (.string s)]/\s.size<=maxLen
 |0,.ref _,_=>False
 |n+1,.ref i,g=>match tab[i]? with
  |some (.sl e)=> ∃j,g=[.sl j]/\j.length<=maxLen /\ ∀y∈j,yd tab n e y
  |some (.st o)=> ∃l:List (List D),g=l.flatten /\J2 (λf d=>yd tab n f d) o l
  |none=>False
def ZU (P:Program)(nums:List TypeId)(t:TypeId):Fd ->Bool
 | .bool=>match P.underlying t with|some .bool=>true|_=>false
 | .int k=>match P.underlying t with|some (.int g)=>ul g k|_=>false
 | .str=>match P.underlying t with|some .string=>true|_=>false
 | .ref i=>match nums[i]? with|some u=>Nat.beq t u|none=>false
def ae4 (P:Program)(nums:List TypeId):List Field ->List Fd ->Bool
 | [],[]=>true
 |f::i,d::g=>ZU P nums f.type d&&ae4 P nums i g
 |_,_=>false
def agd (P:Program)(nums:List TypeId)(t:TypeId):Sh ->Bool
 | .sl e=>match P.underlying t with
   |some (.slice u)=>Nat.blt 0 (P.cellsOf u)&&ZU P nums u e
   |_=>false
 | .st g=>match P.underlying t with
   |some (.struct l)=>(match laid P 0 l.toList with|some m=>Nat.beq m (P.cellsOf t)|none=>false)&&ae4 P nums l.toList g
   |_=>false
def abu (P:Program)(nums:List TypeId):List TypeId ->List Sh ->Bool
 | [],[]=>true
 |t::i,s::g=>agd P nums t s&&abu P nums i g
 |_,_=>false
def kF (P:Program)(nums:List TypeId)(tab:List Sh):Bool:=abu P nums nums tab
theorem U7 {P:Program}{nums:List TypeId}: ∀{g:List TypeId}{j:List Sh}{i:Nat}{t:TypeId},abu P nums g j=true ->g[i]? =some t -> ∃s,j[i]? =some s /\agd P nums t s=true
 | [],_,i,t,_,h=>by simp at h
 |t::g,[],i,u,h,_=>by cases h
 |t::g,s::j,i,u,h,hi=>by
  simp only[abu,Bool.and_eq_true]at h;cases i with
  |zero=>simp at hi;subst hi;exact⟨s,rfl,h.1⟩
  |succ i=>
   simp at hi;obtain⟨x,o,l⟩:=U7 h.2 hi;exact⟨x,by simpa using o,l⟩
section
variable {H:Type}{enc:TypeId×Value ->H}{P:Program}{w:World}{base:Nat}{spare:Nat ->Bool}{held:Bool}{ι:Nat ->Gh}{nums:List TypeId}{tab:List Sh}
theorem aik {ok:Nat ->Prop}{n:Nat}(l:List Value): ∀(p:List Field) (gs:List Fd) (o m:Nat),laid P o p=some m ->m<=l.length ->ae4 P nums p gs=true ->
 (∀f∈p,∀g,ZU P nums f.type g=true -> ∃r,yd tab n g r /\CRs ι w ok (r.map .d) ((l.drop f.offset).take (P.cellsOf f.type))) ->
 o<=m /\ ∃i:List (List D),J2 (λf d=>yd tab n f d) gs i /\CRs ι w ok (i.flatten.map .d) ((l.drop o).take (m - o))
 | [],[],o,m,h,_,_,_=>by
   cases h;exact⟨Nat.le_refl _,[],trivial,by simp;trivial⟩
 | [],_::_,_,_,_,_,h,_=>by cases h
 |_::_,[],_,_,_,_,h,_=>by cases h
 |f::p,g::gs,o,m,h,hm,J,j=>by
  simp only[ae4,Bool.and_eq_true]at J;simp only[laid]at h;cases I:Nat.beq f.offset o with
  |false=>grind
  |true=>
   rw[I]at h;have I:=Nat.eq_of_beq_eq_true I;obtain⟨r,T,U⟩:=j f List.mem_cons_self g J.1;obtain⟨h3,i,h4,h5⟩:=aik l p gs _ m h hm J.2 λR hf=>j R (List.mem_cons_of_mem _ hf)
   refine⟨by omega,r::i,⟨T,h4⟩,?_⟩;rw[I]at U;rw[List.flatten_cons,List.map_append];have:(l.drop o).take (m - o)=(l.drop o).take (P.cellsOf f.type)++(l.drop (o+P.cellsOf f.type)).take (m -(o+P.cellsOf f.type)):=by
    rw[show m - o=P.cellsOf f.type+(m -(o+P.cellsOf f.type))by omega,List.take_add,List.drop_drop]
   grind[CRs.append]
theorem alr {a b:IntKind}(h:ul a b=true):a=b:=by cases a<;>cases b<;>first|rfl|cases h
theorem aqT (an:kF P nums tab=true): ∀(I:Nat) (t:TypeId) (g:Fd),ZU P nums t g=true -> ∀(cs:List Value) (x:DataW H×List MemPlace),DataW.trod enc P w base spare held I t cs=some x ->
 ∃ds,yd tab I g ds /\CRs ι w (VW w) (ds.map .d) cs:=by
 intro I;induction I with
 |zero=>simp_all[DataW.trod]
 |succ n ih=>
  intro t g p cs x hx;cases g with
  |bool=>
   simp only[ZU]at p;split at p
   ·rename_i hu;obtain⟨b,rfl,_⟩:=DataW.trod_bool hu hx;exact⟨[.lit (.bool b)],by grind[yd],⟨by simp only[CR,RD];exact⟨trivial,rfl⟩,trivial⟩⟩
   ·cases p
  |int k=>
   simp only[ZU]at p;split at p
   ·rename_i k1 hu;have:=alr p;subst this;obtain⟨m,rfl,_,hw⟩:=DataW.trod_int hu hx;exact⟨[.lit (.int k1 m)],by grind[yd],⟨by simp only[CR,RD];exact⟨trivial,rfl⟩,trivial⟩⟩
   ·cases p
  |str=>
   simp only[ZU]at p;split at p
   ·rename_i hu;obtain⟨s,rfl,_,hw⟩:=DataW.trod_string hu hx;exact⟨[.lit (.string s)],by grind[yd],⟨by simp only[CR,RD];exact⟨trivial,rfl⟩,trivial⟩⟩
   ·cases p
  |ref i=>
   simp only[ZU]at p;split at p
   ·rename_i u al;have:=Nat.eq_of_beq_eq_true p;subst this;obtain⟨s,hs,l⟩:=U7 an al;cases s with
    |sl e=>
     simp only[agd]at l;split at l
     ·rename_i u hu;rw[Bool.and_eq_true]at l;have ag:0<P.cellsOf u:=Nat.le_of_ble_eq_true l.1;simp only[yd,hs];rcases DataW.trod_slice hu hx with⟨rfl,_⟩|⟨a,len,cap,ah,rest,m,aa,rfl,_,hb,hl,hm,ae,aj,_,_⟩
      ·exact⟨_,⟨[],rfl,Nat.zero_le _,λ_ h=>(by cases h)⟩,⟨by simp only[CR,RD];exact⟨none,0,0,rfl,rfl,Nat.le_refl _,Nat.zero_le _,.inl trivial⟩,trivial⟩⟩
      ·cases aa;obtain⟨U,h1,h2,h3⟩:=alb (w:=w) (ι:=ι) (R:=yd tab n e) (ok:=VW w) (g:=λi=>w.cells? base (a.add (i*P.cellsOf u)) (P.cellsOf u)) len (λi hi=>by
        have h:=aj i hi;rw[List.getElem?_eq_getElem (by omega)]at h;obtain⟨J,g1,g2⟩:=Option.bind_eq_some_iff.1 h
        grind)
       refine⟨_,⟨U,rfl,by omega,h2⟩,⟨?_,trivial⟩⟩;simp only[CR,RD];refine⟨some a,len,cap,rfl,h1.symm,hl,hm,?_⟩;cases ad:U with
       |nil=>grind
       |cons e0 r=>
        right
        have T: ∀i y,U[i]? =some y -> ∃J,J.length=P.cellsOf u /\(∀j,j<P.cellsOf u ->w.cell? ((a.add (i*P.cellsOf u)).add j)=J[j]?)/\CRs ι w (VW w) (y.map .d) J:=λi y hy=>by
         obtain⟨J,g1,g2⟩:=h3 i y hy;obtain⟨_,g3,g4⟩:=World.cells?_some g1
         grind
        obtain⟨aq,c1,c2,_⟩:=T 0 e0 (by grind);have ai:=c2 0 ag;rw[List.getElem?_eq_getElem (by omega)]at ai;have ab:a.spot=none /\a.block<w.heap.size:=by
         grind[ak1,Addr.add]
        refine⟨a.block,a.off,P.cellsOf u,?_,ab.2,?_⟩
        ·obtain⟨b,o,s⟩:=a<;>grind
        ·rw[<- ad];refine akM U a.off λi y hy=>?_
         obtain⟨J,g1,g2,g3⟩:=T i y hy
         grind[aoB,aaF,akU,qB]
     grind
    |st gs=>
     simp only[agd]at l;split at l
     ·rename_i fs hu;rw[Bool.and_eq_true]at l;obtain⟨af,ao⟩:=l;split at af
      ·rename_i m hm;have ar:=Nat.eq_of_beq_eq_true af;obtain⟨xs,k,aa,_,ae,au,hf⟩:=DataW.trod_struct hu hx;cases aa;simp only[yd,hs];obtain⟨_,ac,h1,h2⟩:=aik (w:=w) (ι:=ι) (ok:=VW w) (n:=n) (tab:=tab) (nums:=nums) cs fs.toList gs 0 m hm (by omega) ao (λf ak g p=>by
        obtain⟨i,hi⟩:=List.getElem?_of_mem ak
        grind)
       refine⟨ac.flatten,⟨ac,rfl,h1⟩,?_⟩;simp_all[List.take_of_length_le]
      grind
     grind
   ·cases p
def Fd.isAgg (tab:List Sh):Fd ->Bool
 | .ref i=>match tab[i]? with|some (.st _)=>true|_=>false
 |_=>false
def J3 (tab:List Sh)(g:Fd)(x:W):Prop:= ∃n i,yd tab n g i /\(g.isAgg tab=true ->x= .agg (i.map .d))/\(g.isAgg tab=false -> ∃d,i=[d]/\x= .c (.d d))
theorem afU (o:kF P nums tab=true){t:TypeId}{g:Fd}(j:ZU P nums t g=true):g.isAgg tab=Xh P t:=by
 unfold Xh;cases g with
 |bool=>
  simp only[ZU]at j;split at j
  ·rename_i h;rw[h];rfl
  ·cases j
 |int k=>
  simp only[ZU]at j;split at j
  ·rename_i h;rw[h];rfl
  ·cases j
 |str=>
  simp only[ZU]at j;split at j
  ·rename_i h;rw[h];rfl
  ·cases j
 |ref i=>
  simp only[ZU]at j;split at j
  ·rename_i u l;have:=Nat.eq_of_beq_eq_true j;subst this;obtain⟨s,hs,p⟩:=U7 o l;simp only[Fd.isAgg,hs];cases s<;>grind[agd]
  ·cases j
theorem anv (I:kF P nums tab=true){W:World}{R:Nat}{t:TypeId}{g:Fd}{v:Value}{d:DataW H}{p:List MemPlace}{ι:Nat ->Gh}(hg:ZU P nums t g=true)(l:Value.okWide P W .any R t v)
 (h:DataW.Trod enc P W 0 (λ_=>true) true t v d p): ∃x,J3 tab g x /\WR ι W (VW W) x v:=by
 obtain⟨j,U⟩:=h;obtain⟨r,o,i⟩:=aqT (ι:=ι) I j t g hg _ _ U;cases J:Xh P t with
 |true=>
  obtain⟨T,rfl⟩:=akV l J;refine⟨.agg (r.map .d),⟨j,r,o,λ_=>rfl,λh=>(by grind[afU])⟩,T.toList,by simp,?_⟩
  grind[Value.cells]
 |false=>
  rw[ahu l J]at i
  match r,i with
  | [d],i=>exact⟨.c (.d d),⟨j,[d],o,λh=>(by grind[afU]),λ_=>⟨d,rfl,rfl⟩⟩,i.1⟩
  | [],i=>exact i.elim
  |_::_::_,i=>exact i.2.elim
def kE (P:Program)(nums:List TypeId):List TypeId ->List Fd ->Bool
 | [],[]=>true
 |t::i,g::gs=>ZU P nums t g&&kE P nums i gs
 |_,_=>false
theorem adK (o:kF P nums tab=true){W:World}{b0:Nat}{ι:Nat ->Gh}: ∀(l:List TypeId) (gs:List Fd) (vs:List Value) (J:List (DataW H)) (p:List MemPlace),kE P nums l gs=true ->
 (∀(j:Nat) t v,l[j]? =some t ->vs[j]? =some v ->Value.okWide P W .any b0 t v) ->DataW.TrodAll enc P W 0 (λ_=>true) true l vs J p ->
 ∃xs,J2 (J3 tab) gs xs /\xP ι W (VW W) xs vs /\J.length=l.length
 | [],[],vs,J,p,_,_,h=>by
   obtain⟨rfl,rfl,rfl⟩:=trodAll_nil h;exact⟨[],trivial,trivial,rfl⟩
 | [],_::_,_,_,_,h,_,_=>by cases h
 |_::_,[],_,_,_,h,_,_=>by cases h
 |t::l,g::gs,vs,J,p,T,i,h=>by
  simp only[kE,Bool.and_eq_true]at T;obtain⟨v,ab,d,R,a,b,rfl,rfl,rfl,h1,h2⟩:=trodAll_cons h;obtain⟨x,U,aa⟩:=anv (ι:=ι) o T.1 (i 0 t v rfl rfl) h1;obtain⟨xs,r,I,hl⟩:=adK (ι:=ι) o l gs ab R b T.2 (λj t v hj hv=>i (j+1) t v hj hv) h2;exact⟨x::xs,⟨U,r⟩,⟨aa,I⟩,by simp[hl]⟩
def aiw (P:Program)(g:List TypeId):Bool:=g.all λt=>P.readableRec t&&decide (t<P.types.size)
theorem als {f:FuncId}{fn:Func}{s:ChangeSpec}{tb:TypeId}{gs0:List Fd}(hl:laidOutB P=true)(ah:kF P nums tab=true)(aa:kE P nums fn.params.toList gs0=true)(l:aiw P fn.params.toList=true)(o:s.vars=[])(T:fn.resultTypes= #[tb])(hb:P.underlying tb=some .bool)
 (ac: ∀(H:Type) (J:List (DataW H)),J.length=fn.params.toList.length ->(s.fn H J).results=[.lit (.bool true)]/\(s.fn H J).args=J /\(s.fn H J).vars=[])
 (af: ∀xs,J2 (J3 tab) gs0 xs ->Sat P f xs (λr=>r=aiX)) {g fresh i U:Bool}
 (W:World) (ae:Glb (VW W) W) (base:Nat) (args:Array Value) (J gs:List (DataW H)) (I:List MemPlace)
 (ag: ∀(j:Nat) t v,fn.params[j]? =some t ->args[j]? =some v ->Value.okWide P W .any base t v)
 (hW:DataW.Whole enc P fn.params.toList s.vars g W args.toList J gs I):
 Calls P f args W λe W'=> ∃v,e= .returned v /\s.post enc P fn g fresh i U W args v W':=by
 have ad:=hW;obtain⟨p,q,hA,hV,rfl,aj,ak⟩:=hW;rw[o]at hV;obtain⟨rfl,rfl⟩:=trodVars_none hV;simp only[aiw,List.all_eq_true,Bool.and_eq_true,decide_eq_true_eq]at l;obtain⟨xs,h1,h2,h3⟩:=adK (ι:=λ_=>⟨none,0⟩) ah fn.params.toList gs0 args.toList J p aa (λj t v hj hv=>ag j t v (by grind) (by grind)) hA;have hc:=(af xs h1).2 W (VW W) args.toList ⟨λb h=>h,ae⟩ h2;rw[Array.toArray_toList]at hc;refine hc.mono λe W' ⟨v,r,he,hr,ab,hg⟩=>⟨v,he,?_⟩
 subst hr;obtain⟨_,ι,hv,_⟩:=ab;have hv:v= .bool true:=by
  grind[VR,WR,CR,RD,aiX]
 subst hv;obtain⟨s1,s2,s3⟩:=ac H (J++[]) (by grind);have R:Below W.heap.size W W':=⟨hg.os,hg.tape,hg.output.1,hg.size,λk hk=>hg.block k hk λh=>h⟩;refine aeD (pa:=p) (pv:=[]) ad ?_ ?_ ?_ (by simp) R ?_
 ·intro b sp hd;rw[s1,T];exact trodAll_cons_mk (shut_bool hb _) trodAll_mk0
 ·intro sp ai;rw[s2,List.append_nil];exact afs hl R sp _ _ _ _ (λt ht=>⟨(l t ht).1,(l t ht).2⟩) (λx hx=>ai x (by grind)) (λx hx=>ad.lt x (by grind)) hA
 ·intro sp _;rw[s3,o];rfl
 ·exact ok_one T rfl (okWide_bool_mk hb _)
theorem wP {α β:Type}{R:α ->β ->Prop}{xs:List β}(h:J2 R [] xs):xs=[]:=by cases xs with|nil=>rfl|cons _ _=>exact h.elim
theorem zL {α β:Type}{R:α ->β ->Prop}{a:α}{l:List α}{xs:List β}(h:J2 R (a::l) xs): ∃x r,xs=x::r /\R a x /\J2 R l r:=by
 cases xs with|nil=>exact h.elim|cons x r=>exact⟨x,r,rfl,h.1,h.2⟩
theorem YH {α:Type}{f:α ->List D}{R:List D ->Prop}(h: ∀y,R y -> ∃x,y=f x): ∀{g:List (List D)},(∀y∈g,R y) -> ∃l:List α,g=l.map f
 | [],_=>⟨[],rfl⟩
 |e::r,hr=>by
  obtain⟨l,j⟩:=YH (f:=f) h λy i=>hr y (List.mem_cons_of_mem _ i)
  obtain⟨x,o⟩:=h e (hr e List.mem_cons_self);exact⟨x::l,by grind⟩
end
end
end Go.AM
namespace Go.Proofs.YtkdijaiaplkliaaGreatDoor
open Go Go.AM
def zH:List Sh:=[.st [.int .i64,.int .i64,.str],.sl (.ref 0),.sl (.ref 1),.st [.str,.int .i64],.sl (.ref 3),.st [.ref 4,.ref 2],.st [.int .i64,.int .i64,.str],.sl (.ref 0),
 .st [.int .i64,.str,.ref 0,.ref 9],.sl (.ref 8),.st [.ref 8,.str],.sl (.ref 10),.sl .str,.st [.str,.str,.str],.sl (.ref 13),.st [.str,.bool],.sl (.ref 15),
 .st [.int .i64,.ref 8,.ref 11,.ref 12,.ref 14,.ref 16,.int .i64,.str],.sl (.ref 17),.st [.str,.ref 18],.st [.str,.ref 5],.sl (.ref 20),.st [.int .i64,.str,.str,.int .i64,.int .i64,.ref 17,.ref 23],.sl (.ref 22)]
def ah8:List TypeId:=[28,77,45,81,44,47,28,77,
 31,29,107,32,33,184,34,136,35,37,56,58,76,22,40,38]
theorem own:ownKnob Pg.godebug=none:=by kernel_rfl
theorem aoX:laidOutB Pg=true:=by kernel_rfl
theorem apO:kF Pg ah8 zH=true:=by kernel_rfl
theorem YS {n:Nat}{g:List D}(h:yd zH n (.int .i64) g): ∃x:Int,g=[.lit (.int .i64 x)]:=by
 cases n<;>(simp only[yd]at h;obtain⟨m,h,_⟩:=h;exact⟨m,h⟩)
theorem uo {n:Nat}{g:List D}(h:yd zH n .str g): ∃x:ByteArray,g=[.lit (.string x)]:=by
 cases n<;>(simp only[yd]at h;obtain⟨m,h,_⟩:=h;exact⟨m,h⟩)
theorem apv {n:Nat}{g:List D}(h:yd zH n .bool g): ∃x:Bool,g=[.lit (.bool x)]:=by
 cases n<;>(simp only[yd]at h;exact h)
theorem amr {n:Nat}{g:List D}(h:yd zH n (.ref 0) g): ∃x:Val,g=x.ds:=by
 cases n with
 |zero=>simp only[yd]at h
 |succ n=>
  simp only[yd,show zH[0]? =some (.st [.int .i64,.int .i64,.str])from rfl]at h;obtain⟨i,rfl,h⟩:=h;obtain⟨I,_,rfl,h0,h⟩:=zL h;obtain⟨J,_,rfl,j,h⟩:=zL h;obtain⟨P,_,rfl,l,h⟩:=zL h;cases wP h;obtain⟨o,rfl⟩:=YS h0;obtain⟨p,rfl⟩:=YS j;obtain⟨r,rfl⟩:=uo l;exact⟨⟨o,p,r⟩,rfl⟩
theorem aqq {n:Nat}{g:List D}(h:yd zH n (.ref 1) g): ∃x:List Val,g=[.sl (x.map Val.ds)]:=by
 cases n with
 |zero=>simp only[yd]at h
 |succ n=>
  simp only[yd,show zH[1]? =some (.sl (.ref 0))from rfl]at h;obtain⟨i,rfl,_,h⟩:=h;obtain⟨l,rfl⟩:=YH (f:=Val.ds) (R:=yd zH n (.ref 0)) (λy j=>amr j) h;exact⟨l,rfl⟩
theorem apB {n:Nat}{g:List D}(h:yd zH n (.ref 2) g): ∃x:List (List Val),g=[.sl (zh x)]:=by
 cases n with
 |zero=>simp only[yd]at h
 |succ n=>
  simp only[yd,show zH[2]? =some (.sl (.ref 1))from rfl]at h;obtain⟨i,rfl,_,h⟩:=h;obtain⟨l,rfl⟩:=YH (f:=λr:List Val=> [D.sl (rowD r)]) (R:=yd zH n (.ref 1)) (λy j=>aqq j) h;exact⟨l,rfl⟩
theorem aqm {n:Nat}{g:List D}(h:yd zH n (.ref 3) g): ∃x:Col,g=x.ds:=by
 cases n with
 |zero=>simp only[yd]at h
 |succ n=>
  simp only[yd,show zH[3]? =some (.st [.str,.int .i64])from rfl]at h;obtain⟨i,rfl,h⟩:=h;obtain⟨p,_,rfl,h0,h⟩:=zL h;obtain⟨r,_,rfl,j,h⟩:=zL h;cases wP h;obtain⟨l,rfl⟩:=uo h0;obtain⟨o,rfl⟩:=YS j;exact⟨⟨l,o⟩,rfl⟩
theorem apx {n:Nat}{g:List D}(h:yd zH n (.ref 4) g): ∃x:List Col,g=[.sl (x.map Col.ds)]:=by
 cases n with
 |zero=>simp only[yd]at h
 |succ n=>
  simp only[yd,show zH[4]? =some (.sl (.ref 3))from rfl]at h;obtain⟨i,rfl,_,h⟩:=h;obtain⟨l,rfl⟩:=YH (f:=Col.ds) (R:=yd zH n (.ref 3)) (λy j=>aqm j) h;exact⟨l,rfl⟩
theorem aqt {n:Nat}{g:List D}(h:yd zH n (.ref 5) g): ∃x:Tbl,g=x.ds:=by
 cases n with
 |zero=>simp only[yd]at h
 |succ n=>
  simp only[yd,show zH[5]? =some (.st [.ref 4,.ref 2])from rfl]at h;obtain⟨i,rfl,h⟩:=h;obtain⟨p,_,rfl,h0,h⟩:=zL h;obtain⟨r,_,rfl,j,h⟩:=zL h;cases wP h;obtain⟨l,rfl⟩:=apx h0;obtain⟨o,rfl⟩:=apB j;exact⟨⟨l,o⟩,rfl⟩
theorem aoy: ∀{n:Nat}{i:List D}(_:yd zH n (.ref 8) i),∃x:Ex,i=x.ds:=by
 intro n;induction n using Nat.strongRecOn with
 |ind n J=>
  intro i h;cases n with
  |zero=>simp only[yd]at h
  |succ n=>
   simp only[yd,show zH[8]? =some (.st [.int .i64,.str,.ref 0,.ref 9])from rfl]at h;obtain⟨j,rfl,h⟩:=h;obtain⟨d0,_,rfl,h0,h⟩:=zL h;obtain⟨d1,_,rfl,p,h⟩:=zL h;obtain⟨d2,_,rfl,r,h⟩:=zL h;obtain⟨d3,_,rfl,g,h⟩:=zL h;cases wP h;obtain⟨P,rfl⟩:=YS h0;obtain⟨T,rfl⟩:=uo p;obtain⟨U,rfl⟩:=amr r;cases n with
   |zero=>simp only[yd]at g
   |succ n=>
    simp only[yd,show zH[9]? =some (.sl (.ref 8))from rfl]at g;obtain⟨o,rfl,_,g⟩:=g;obtain⟨l,rfl⟩:=YH (f:=Ex.ds) (R:=yd zH n (.ref 8)) (λy I=>J n (by omega) I) g;exact⟨⟨P,T,U,l⟩,by rw[<- UO];rfl⟩
theorem aqn {n:Nat}{g:List D}(h:yd zH n (.ref 10) g): ∃x:Itm,g=x.ds:=by
 cases n with
 |zero=>simp only[yd]at h
 |succ n=>
  simp only[yd,show zH[10]? =some (.st [.ref 8,.str])from rfl]at h;obtain⟨i,rfl,h⟩:=h;obtain⟨p,_,rfl,h0,h⟩:=zL h;obtain⟨r,_,rfl,j,h⟩:=zL h;cases wP h;obtain⟨l,rfl⟩:=aoy h0;obtain⟨o,rfl⟩:=uo j;exact⟨⟨l,o⟩,rfl⟩
theorem apy {n:Nat}{g:List D}(h:yd zH n (.ref 11) g): ∃x:List Itm,g=[.sl (x.map Itm.ds)]:=by
 cases n with
 |zero=>simp only[yd]at h
 |succ n=>
  simp only[yd,show zH[11]? =some (.sl (.ref 10))from rfl]at h;obtain⟨i,rfl,_,h⟩:=h;obtain⟨l,rfl⟩:=YH (f:=Itm.ds) (R:=yd zH n (.ref 10)) (λy j=>aqn j) h;exact⟨l,rfl⟩
theorem apD {n:Nat}{g:List D}(h:yd zH n (.ref 12) g): ∃x:List ByteArray,g=[.sl (x.map (λb=> [D.lit (.string b)]))]:=by
 cases n with
 |zero=>simp only[yd]at h
 |succ n=>
  simp only[yd,show zH[12]? =some (.sl .str)from rfl]at h;obtain⟨i,rfl,_,h⟩:=h;obtain⟨l,rfl⟩:=YH (f:=(λb=> [D.lit (.string b)])) (R:=λy=> ∃s:ByteArray,y=[D.lit (.string s)]/\s.size<=maxLen) (λy ⟨s,e,_⟩=>⟨s,e⟩) h;exact⟨l,rfl⟩
theorem aql {n:Nat}{g:List D}(h:yd zH n (.ref 13) g): ∃x:Agg,g=x.ds:=by
 cases n with
 |zero=>simp only[yd]at h
 |succ n=>
  simp only[yd,show zH[13]? =some (.st [.str,.str,.str])from rfl]at h;obtain⟨i,rfl,h⟩:=h;obtain⟨I,_,rfl,h0,h⟩:=zL h;obtain⟨J,_,rfl,j,h⟩:=zL h;obtain⟨P,_,rfl,l,h⟩:=zL h;cases wP h;obtain⟨o,rfl⟩:=uo h0;obtain⟨p,rfl⟩:=uo j;obtain⟨r,rfl⟩:=uo l;exact⟨⟨o,p,r⟩,rfl⟩
theorem apu {n:Nat}{g:List D}(h:yd zH n (.ref 14) g): ∃x:List Agg,g=[.sl (x.map Agg.ds)]:=by
 cases n with
 |zero=>simp only[yd]at h
 |succ n=>
  simp only[yd,show zH[14]? =some (.sl (.ref 13))from rfl]at h;obtain⟨i,rfl,_,h⟩:=h;obtain⟨l,rfl⟩:=YH (f:=Agg.ds) (R:=yd zH n (.ref 13)) (λy j=>aql j) h;exact⟨l,rfl⟩
theorem aqr {n:Nat}{g:List D}(h:yd zH n (.ref 15) g): ∃x:Srt,g=x.ds:=by
 cases n with
 |zero=>simp only[yd]at h
 |succ n=>
  simp only[yd,show zH[15]? =some (.st [.str,.bool])from rfl]at h;obtain⟨i,rfl,h⟩:=h;obtain⟨p,_,rfl,h0,h⟩:=zL h;obtain⟨r,_,rfl,j,h⟩:=zL h;cases wP h;obtain⟨l,rfl⟩:=uo h0;obtain⟨o,rfl⟩:=apv j;exact⟨⟨l,o⟩,rfl⟩
theorem apC {n:Nat}{g:List D}(h:yd zH n (.ref 16) g): ∃x:List Srt,g=[.sl (x.map Srt.ds)]:=by
 cases n with
 |zero=>simp only[yd]at h
 |succ n=>
  simp only[yd,show zH[16]? =some (.sl (.ref 15))from rfl]at h;obtain⟨i,rfl,_,h⟩:=h;obtain⟨l,rfl⟩:=YH (f:=Srt.ds) (R:=yd zH n (.ref 15)) (λy j=>aqr j) h;exact⟨l,rfl⟩
theorem aqs {n:Nat}{g:List D}(h:yd zH n (.ref 17) g): ∃x:Stp,g=x.ds:=by
 cases n with
 |zero=>simp only[yd]at h
 |succ n=>
  simp only[yd,show zH[17]? =some (.st [.int .i64,.ref 8,.ref 11,.ref 12,.ref 14,.ref 16,.int .i64,.str])from rfl]at h;obtain⟨i,rfl,h⟩:=h;obtain⟨d0,_,rfl,h0,h⟩:=zL h;obtain⟨d1,_,rfl,j,h⟩:=zL h;obtain⟨d2,_,rfl,l,h⟩:=zL h;obtain⟨d3,_,rfl,o,h⟩:=zL h;obtain⟨d4,_,rfl,p,h⟩:=zL h;obtain⟨d5,_,rfl,r,h⟩:=zL h;obtain⟨d6,_,rfl,I,h⟩:=zL h;obtain⟨d7,_,rfl,J,h⟩:=zL h;cases wP h;obtain⟨P,rfl⟩:=YS h0;obtain⟨R,rfl⟩:=aoy j;obtain⟨T,rfl⟩:=apy l;obtain⟨U,rfl⟩:=apD o;obtain⟨x4,rfl⟩:=apu p;obtain⟨x5,rfl⟩:=apC r;obtain⟨x6,rfl⟩:=YS I;obtain⟨x7,rfl⟩:=uo J;exact⟨⟨P,R,T,U,x4,x5,x6,x7⟩,rfl⟩
theorem aqo {n:Nat}{g:List D}(h:yd zH n (.ref 20) g): ∃x:Nmd,g=x.ds:=by
 cases n with
 |zero=>simp only[yd]at h
 |succ n=>
  simp only[yd,show zH[20]? =some (.st [.str,.ref 5])from rfl]at h;obtain⟨i,rfl,h⟩:=h;obtain⟨p,_,rfl,h0,h⟩:=zL h;obtain⟨r,_,rfl,j,h⟩:=zL h;cases wP h;obtain⟨l,rfl⟩:=uo h0;obtain⟨o,rfl⟩:=aqt j;exact⟨⟨l,o⟩,rfl⟩
theorem apA {n:Nat}{g:List D}(h:yd zH n (.ref 21) g): ∃x:List Nmd,g=[.sl (x.map Nmd.ds)]:=by
 cases n with
 |zero=>simp only[yd]at h
 |succ n=>
  simp only[yd,show zH[21]? =some (.sl (.ref 20))from rfl]at h;obtain⟨i,rfl,_,h⟩:=h;obtain⟨l,rfl⟩:=YH (f:=Nmd.ds) (R:=yd zH n (.ref 20)) (λy j=>aqo j) h;exact⟨l,rfl⟩
theorem apP {g:AM.Fd}{x:W}(h:J3 zH g x)(o:g.isAgg zH=true): ∃n i,yd zH n g i /\x= .agg (i.map .d):=by
 obtain⟨n,i,j,l,_⟩:=h;exact⟨n,i,j,l o⟩
theorem ah9 {g:AM.Fd}{x:W}(h:J3 zH g x)(l:g.isAgg zH=false): ∃n d,yd zH n g [d]/\x= .c (.d d):=by
 obtain⟨n,o,i,_,j⟩:=h;obtain⟨d,rfl,rfl⟩:=j l;exact⟨n,d,i,rfl⟩
theorem aoH {x:W}(h:J3 zH .str x): ∃t:ByteArray,x= .c (str t):=by
 obtain⟨n,d,g,rfl⟩:=ah9 h rfl;clear h;have h:=g;clear g;obtain⟨t,h⟩:=uo h;cases h;exact⟨t,rfl⟩
theorem amD {x:W}(h:J3 zH (.ref 21) x): ∃t:List Nmd,x= .c (.d (.sl (zu t))):=by
 obtain⟨n,d,g,rfl⟩:=ah9 h rfl;clear h;have h:=g;clear g;obtain⟨t,h⟩:=apA h;cases h;exact⟨t,rfl⟩
theorem aqp: ∀{n:Nat}{i:List D}(_:yd zH n (.ref 22) i),∃x:Pln,i=x.ds:=by
 intro n;induction n using Nat.strongRecOn with
 |ind n U=>
  intro i h;cases n with
  |zero=>simp only[yd]at h
  |succ n=>
   simp only[yd,show zH[22]? =some (.st [.int .i64,.str,.str,.int .i64,.int .i64,.ref 17,.ref 23])from rfl]at h;obtain⟨j,rfl,h⟩:=h;obtain⟨d0,_,rfl,h0,h⟩:=zL h;obtain⟨d1,_,rfl,p,h⟩:=zL h;obtain⟨d2,_,rfl,r,h⟩:=zL h;obtain⟨d3,_,rfl,I,h⟩:=zL h;obtain⟨d4,_,rfl,J,h⟩:=zL h;obtain⟨d5,_,rfl,P,h⟩:=zL h;obtain⟨d6,_,rfl,g,h⟩:=zL h;cases wP h;obtain⟨x0,rfl⟩:=YS h0;obtain⟨x1,rfl⟩:=uo p;obtain⟨x2,rfl⟩:=uo r;obtain⟨x3,rfl⟩:=YS I;obtain⟨x4,rfl⟩:=YS J;obtain⟨x5,rfl⟩:=aqs P;cases n with
   |zero=>simp only[yd]at g
   |succ n=>
    simp only[yd,show zH[23]? =some (.sl (.ref 22))from rfl]at g;obtain⟨o,rfl,_,g⟩:=g;obtain⟨l,rfl⟩:=YH (f:=Pln.ds) (R:=yd zH n (.ref 22)) (λy T=>U n (by omega) T) g;refine⟨.mk x0 x1 x2 x3 x4 x5 l,?_⟩;rw[<- KS];simp only[Pln.ds,List.flatten_cons,List.flatten_nil,List.append_nil,List.cons_append,List.nil_append]
theorem aoG {x:W}(h:J3 zH (.ref 22) x): ∃t:Pln,x=t.w:=by
 obtain⟨n,i,g,rfl⟩:=apP h rfl;obtain⟨t,rfl⟩:=aqp g;exact⟨t,rfl⟩
section
attribute [local irreducible] Sat zD yk zl
def Pln.col:Pln ->ByteArray| .mk _ _ col _ _ _ _=>col
def Pln.lo:Pln ->Int| .mk _ _ _ lo _ _ _=>lo
def Pln.hi:Pln ->Int| .mk _ _ _ _ hi _ _=>hi
def qX (t:Tbl)(c:ByteArray):Int:=bif decide (zj t.cols c<0)then 16 else bif q0 t.cols (zj t.cols c) !=2 then 14 else 0
def y0 (d:List Nmd)(p:Pln):Int:=
 bif yu d !=0 then yu d else bif !p.qry.2 then 1 else bif (qZ d p.qry.1).1 !=0 then(qZ d p.qry.1).1 else
 bif zl p.base.1.col ⟨#[]⟩then 0 else qX ((zI p.base.1.tb d).getD ⟨[],[]⟩) p.base.1.col
def un (d:List Nmd)(p:Pln):Tbl:=
 bif zl p.col ⟨#[]⟩then(zI p.tb d).getD ⟨[],[]⟩else⟨((zI p.tb d).getD ⟨[],[]⟩).cols,((zI p.tb d).getD ⟨[],[]⟩).rows.filter (WX (zj ((zI p.tb d).getD ⟨[],[]⟩).cols p.col).toNat p.lo p.hi)⟩
def yR (name col:ByteArray)(lo hi:Int)(st:Stp):Pln:=.mk 1 name col lo hi st []
theorem apd {d:List Nmd}{name c:ByteArray}{lo hi:Int}{st:Stp}(R:(y6 c).chk=0)(h:y0 d (yR name c lo hi st)=0):
 runQ d ⟨name,[yw (qm c lo hi)]⟩=(0,un d (yR name c lo hi st))/\(qZ d ⟨name,[yw (qm c lo hi)]⟩).1=0:=by
 have j:zl c ⟨#[]⟩=false:=by
  cases P:zl c ⟨#[]⟩
  ·rfl
  ·rw[beqS_iff]at P;subst P;have:=ale R;unfold yA qr at this;simp[beqS_self,xF,ut,yS]at this
 have U:(yR name c lo hi st).base=(yR name c lo hi st,[]):=rfl;unfold y0 Pln.qry at h;rw[U]at h;cases i:(yu d !=0)
 ·rw[i,cond_false]at h;cases p:(yR name c lo hi st).scans
  ·rw[p]at h;cases h
  ·rw[p]at h;simp only[cond_true,Bool.not_true,cond_false]at h;cases g:((qZ d ⟨(yR name c lo hi st).tb,[]⟩).1 !=0)
   ·rw[g,cond_false]at h;have i:yu d=0:=by simpa using i
    have g:(qZ d ⟨name,[]⟩).1=0:=by
     have g:((qZ d ⟨name,[]⟩).1 !=0)=false:=g;simpa using g
    obtain⟨_,hq,t,l,_⟩:=kO g;have l:zI name d=some t:=l;have I:(yR name c lo hi st).col=c:=rfl;have J:(yR name c lo hi st).tb=name:=rfl;rw[I,J,j,cond_false,l]at h;have h:qX t c=0:=h;unfold qX at h;cases r:decide (zj t.cols c<0)
    ·rw[r,cond_false]at h;obtain⟨T,b2⟩:=xW t.cols c (of_decide_eq_false r);cases o:(q0 t.cols (zj t.cols c) !=2)
     ·have o:q0 t.cols (zj t.cols c)=2:=by simpa using o
      obtain⟨i1,i2⟩:=aqe (st:=st) (nk:=0) p j;have:=aoJ (d:=d) (name:=name) (c:=c) (lo:=lo) (hi:=hi) i l hq R i1 i2 T (by omega) o;refine⟨this.1.trans ?_,this.2⟩;unfold un;rw[I,J,j,cond_false,l];rfl
     ·rw[o]at h;cases h
    ·rw[r]at h;cases h
   ·rw[g,cond_true]at h;rw[show(qZ d ⟨(yR name c lo hi st).tb,[]⟩).1=0 from h]at g;cases g
 ·rw[i,cond_true]at h;rw[h]at i;cases i
end
section
attribute [local irreducible] Sat zD yk
theorem VM (d:List Nmd)(q:Qry)(hs: ∀s∈q.steps,s.Sm):Sat Pg wH [.c (.d (.sl (zu d))),q.w] (λr=>r=xI (qZ d q)):=by
 obtain⟨g,l⟩:=q;have hs: ∀s∈l,s.Sm:=hs;have p:=qv d;have R:=adR ⟨g,l⟩ (λs h=>Nat.le_trans (hs s h).sorts (by omega));have I:=xg d g;unfold qZ;by_cases i:yu d=0
 ·by_cases J:Qry.err ⟨g,l⟩=0
  ·cases P:zI g d with
   |some t=>
    obtain⟨T,U⟩:=t;have:=ada d g l hs i J T U P _ rfl
    grind
   |none=>
    rw[i]at p;rw[J]at R;rw[P]at I;rw[i,J];simp only[P];refine zC ?_;refine ud.s T8 ?_;refine Sat.w p ?_;refine Sat.w R ?_;refine Sat.w I ?_;exact⟨rfl,rfl⟩
  ·have o:(Qry.err ⟨g,l⟩ !=0)=true:=by grind
   rw[i]at p;rw[i,o];simp only[bne_self_eq_false,cond_true,cond_false];generalize Qry.err ⟨g,l⟩=e2 at*;refine zC ?_;refine ud.s T8 ?_;refine Sat.w p ?_;refine Sat.w R ?_;rw[o];exact⟨rfl,rfl⟩
 ·have j:(yu d !=0)=true:=by grind
  rw[j];simp only[cond_true];generalize yu d=e1 at*;refine zC ?_;refine ud.s T8 ?_;refine Sat.w p ?_;rw[j];exact⟨rfl,rfl⟩
theorem aj6 (d:List Nmd)(j:ByteArray)(l:List Stp)(y2:List Col)(ae:l.length<=16)(hQ:Sat Pg wH [.c (.d (.sl (zu d))),Qry.w ⟨j,l⟩] (λr=>r=xI (0,y2)))(U:List Col)(tr:List (List Val))(hf:zI j d=some ⟨U,tr⟩)(J:aaH d ⟨U,tr⟩ l)(y:Int×Tbl)(hy:runT d ⟨U,tr⟩ l=y):
 Sat Pg Zm [.c (.d (.sl (zu d))),Qry.w ⟨j,l⟩] (λr=>r=Y4 y):=by
 have I:=xg d j;rw[hf]at I;clear hf;have p:=λt s h1 h2 R=>KY d t s h1 h2 R
 refine zC ?_;refine Vw.s T8 ?_;refine Sat.w hQ ?_;refine Sat.w I ?_;refine yx (P:=Pg) (f:=T8.f) (body:=(Vw.l 0)) (λz:Nat×Tbl=>⟨[(0,.w (.c (.d (.sl (zu d))))),(4,cV (.ptr 4 0)),(8,cV (.ptr 8 0)),(32,.w (.c (.d (.sl (qi l))))),(33,zg (qi l).length),(34,zg z.1)],[(4,.box [.nil,.nil]),(8,.box [.d (.sl (zi z.2.cols)),.d (.sl (zh z.2.rows))])]⟩) (λz=>l.length - z.1) (λz=>z.1<=l.length /\aaH d z.2 (l.drop z.1)/\y=runT d z.2 (l.drop z.1)) ⟨(0,⟨U,tr⟩),⟨Nat.zero_le _,J,hy.symm⟩,zf ?_⟩ ?_
 ·exact rfl
 ·rintro⟨i,⟨c,T⟩⟩ hz;obtain⟨hi,hK,o⟩:i<=l.length /\aaH d ⟨c,T⟩ (l.drop i)/\y=runT d ⟨c,T⟩ (l.drop i):=hz;clear hy;refine ze (λR=>?_) (λR=>?_)
  ·have g:i<l.length:=by have:=of_decide_eq_true R;grind[vS]
   have hg:=Xv g;have wi:IntKind.i64.wrap ((i:Int)+1)=((i+1:Nat):Int):=zA g (by omega);rw[zo g]at o hK;simp only[runT]at o;obtain⟨k1,k2,k3,k4⟩:=hK;have p:=p ⟨c,T⟩ l[i] k3 k1 k2;generalize l[i]=s at*;generalize nStepT d ⟨c,T⟩ s=x at*;obtain⟨x1,⟨x2,x3⟩⟩:=x;obtain⟨op,⟨eo,nm,⟨vk,vn,vs⟩,ks⟩,ab,af,ac,ad,sn,tb⟩:=s;refine zX hg ?_;refine Sat.w p ?_;refine zt (b:=x1 !=0) (λh4=>?_) (λh4=>?_)
   ·simp only[h4,cond_true]at o;subst o;exact⟨rfl,rfl⟩
   ·simp only[h4,cond_false]at o;(conv=>whnf);refine⟨(i+1,⟨x2,x3⟩),⟨⟨g,k4 (by grind),o⟩,by grind⟩,zf ?_⟩;(conv=>whnf);rw[wi];rfl
  ·have aa:l.length<=i:=by grind[vS]
   rw[List.drop_eq_nil_of_le aa]at o;subst o;exact⟨rfl,rfl⟩
theorem ahN (d:List Nmd)(g:ByteArray)(l:List Stp)(i:Int)(p:List Col)(j:(i !=0)=true)(o:Sat Pg wH [.c (.d (.sl (zu d))),Qry.w ⟨g,l⟩] (λr=>r=xI (i,p))):Sat Pg Zm [.c (.d (.sl (zu d))),Qry.w ⟨g,l⟩] (λr=>r=Y4 (i,⟨[],[]⟩)):=by
 refine zC ?_;refine Vw.s T8 ?_;refine Sat.w o ?_;rw[j];exact⟨rfl,rfl⟩
theorem ao9 (d:List Nmd)(q:Qry)(hs: ∀s∈q.steps,s.Sm)(g:(qZ d q).1=0 ->aaH d (Jn d q) q.steps):Sat Pg Zm [.c (.d (.sl (zu d))),q.w] (λr=>r=Y4 (runQ d q)):=by
 have I:=VM d q hs;unfold runQ;by_cases p:(qZ d q).1=0
 ·obtain⟨_,J,t,P,_⟩:=kO p;have o:Jn d q=t:=by grind[Jn]
  have g:=g p;rw[p];rw[show qZ d q=(0,(qZ d q).2)by grind]at I;rw[o]at g⊢;obtain⟨R,T⟩:=t;obtain⟨i,l⟩:=q;exact aj6 d i l _ (aiG J) I R T P g _ rfl
 ·have j:((qZ d q).1 !=0)=true:=by grind
  rw[j];obtain⟨i,l⟩:=q;exact ahN d i l _ _ j I
end
section
attribute [local irreducible] Sat zD yk zl
theorem Wt (op:Int):Sat Pg ahE [.c (int op)] (λr=>r=rI (ae5 op)):=by
 unfold ae5;refine yK T8 ahr.ok (by kernel_rfl) ?_
 repeat' (conv=>whnf
          refine zt (λh=>?_) (λh=>?_))
 all_goals refine congrArg rI ?_
 all_goals first|(simp only[*,cond_true,cond_false];done)|(simp_all only[Bool.false_eq_true,cond_true,cond_false];done)|(simp_all;done)
def Pln.cs:Pln ->List C
 | .mk op tb col lo hi ⟨p,⟨I,J,⟨P,R,vs⟩,l⟩,g,o,j,i,n,r⟩ ks=> [int op,str tb,str col,int lo,int hi,int p,int I,str J,int P,int R,str vs,.d (.sl (exsD l)),.d (.sl (y9 g)),.d (.sl (zq o)),.d (.sl (qN j)),.d (.sl (xA i)),int n,str r,.d (.sl (plnsD ks))]
theorem qu (p:Pln):p.w= .agg p.cs:=by
 obtain⟨op,tb,col,lo,hi,⟨r,⟨J,P,⟨R,T,vs⟩,l⟩,g,o,j,i,n,I⟩,ks⟩:=p;simp only[Pln.w,Pln.ds,Stp.ds,Ex.ds];rfl
theorem ae8 (op o:Int)(p:ByteArray)(r I:Int)(vs:ByteArray)(ks:List Ex)(g:List Itm)(l:List ByteArray)(j:List Agg)(i:List Srt)(n:Int)(tb:ByteArray):
 Stp.w ⟨op,⟨o,p,⟨r,I,vs⟩,ks⟩,g,l,j,i,n,tb⟩= .agg [int op,int o,str p,int r,int I,str vs,.d (.sl (exsD ks)),.d (.sl (y9 g)),.d (.sl (zq l)),.d (.sl (qN j)),.d (.sl (xA i)),int n,str tb]:=by
 simp only[Stp.w,Stp.ds,Ex.ds];rfl
def Stp.lens (s:Stp):Nat:=s.cond.ks.length+s.items.length+s.cols.length+s.aggs.length+s.sorts.length
theorem alT (st:Stp)(hl:st.lens<=1000000):Sat Pg KB [st.w] (λr=>r=rB (XM st)):=by
 suffices h: ∀b,XM st=b ->Sat Pg KB [st.w] (λr=>r=rB b)from h _ rfl
 intro b J;obtain⟨op,⟨U,nm,⟨vk,vn,vs⟩,ks⟩,g,p,j,i,n,tb⟩:=st;rw[ae8];have hl:ks.length+g.length+p.length+j.length+i.length<=1000000:=hl;have J:(op==0&&(((U==0&&zl nm ⟨#[]⟩)&&xF ⟨vk,vn,vs⟩ ⟨0,0,⟨#[]⟩⟩)&&(ks.length:Int)==0&&(decide ((g.length+p.length+j.length+i.length:Nat)=0)&&(n==0&&zl tb ⟨#[]⟩))))=b:=J;rw[<- ww,<- uq,<- zT,<- uv,<- ZW]at J hl;generalize exsD ks=l at*;generalize y9 g=o at*;generalize zq p=I at*;generalize qN j=P at*;generalize xA i=T at*;refine afA.s T8 ?_;refine zt (b:=op==0&&U==0&&zl nm ⟨#[]⟩) (λR=>?_) (λR=>?_)
 ·simp only[Bool.and_eq_true]at R;rw[R.1.1,R.1.2,R.2]at J;(conv=>whnf);refine Eq.trans (b:=rB (xF ⟨vk,vn,vs⟩ ⟨0,0,⟨#[]⟩⟩&&(IntKind.i64.wrap (IntKind.i64.wrap (IntKind.i64.wrap (IntKind.i64.wrap (IntKind.i64.wrap (l.length+o.length)+I.length)+P.length)+T.length)+n)==0)&&(n==0)&&zl tb ⟨#[]⟩)) ?_ ?_
  ·have e: ∀a b c d:Bool,rB (a&&b&&c&&d)=⟨.w (.c (bool (a&&b&&c&&d))),[]⟩:=λ_ _ _ _=>rfl
   rw[e];show Res.mk (.w (.c (bool _))) []=_;congr 5
  ·congr 1
   rw[<- J];by_cases hn:n=0
   ·subst hn;rw[ya (n:=(l.length:Int)+o.length) (by omega) (by omega),ya (n:=(l.length:Int)+o.length+I.length) (by omega) (by omega),ya (n:=(l.length:Int)+o.length+I.length+P.length) (by omega) (by omega),ya (n:=(l.length:Int)+o.length+I.length+P.length+T.length) (by omega) (by omega),Int.add_zero,ya (by omega) (by omega)];have e:((l.length:Int)+o.length+I.length+P.length+T.length==0)=((l.length:Int)==0&&decide (o.length+I.length+P.length+T.length=0)):=by
     rw[Bool.eq_iff_iff];simp only[beq_iff_eq,Bool.and_eq_true,decide_eq_true_eq];omega
    rw[e];simp only[Bool.true_and,beq_self_eq_true,Bool.and_assoc]
   ·have:(n==0)=false:=by simpa using hn
    rw[this];simp
 ·have e:b=false:=by
   rw[<- J];generalize(op==0)=a1 at*;generalize(U==0)=a2 at*;generalize zl nm ⟨#[]⟩=a3 at*;cases a1<;>cases a2<;>cases a3<;>simp_all
  subst e;exact rfl
def yH:Stp:=⟨0,.mk 0 ⟨#[]⟩ ⟨0,0,⟨#[]⟩⟩ [],[],[],[],[],0,⟨#[]⟩⟩
theorem aeT (p:Pln):Sat Pg aab [p.w] (λr=>r=⟨.tup [yH.w,.c (bool false)],[]⟩):=by
 refine zC ?_;rw[qu];obtain⟨op,tb,col,lo,hi,⟨I,⟨P,R,⟨T,U,vs⟩,l⟩,g,o,j,i,n,J⟩,ks⟩:=p;refine gQ.s T8 ?_;exact⟨rfl,rfl⟩
theorem ac2 (s:Stp):Sat Pg kW [s.w] (λr=>r=⟨.tup [s.w,.c (bool true)],[]⟩):=by
 obtain⟨op,⟨o,p,⟨I,J,vs⟩,ks⟩,g,l,j,i,n,tb⟩:=s;rw[ae8];refine kQ.s T8 ?_;rfl
theorem uF (n:Int):Sat Pg acz [.c (int n)] (λr=>r=rV ⟨2,n,⟨#[]⟩⟩):=by
 refine acn.s T8 ?_;rfl
theorem jE (n:Int):Sat Pg aac [.c (int n)] (λr=>r=⟨.w (qP n).w,[]⟩):=by
 refine zC ?_;refine gR.s T8 ?_;refine Sat.w (uF n) ?_;exact⟨rfl,rfl⟩
theorem uE (s:ByteArray):Sat Pg acy [.c (str s)] (λr=>r=⟨.w (y6 s).w,[]⟩):=by
 refine zC ?_;refine acm.s T8 ?_;exact⟨rfl,rfl⟩
theorem ZD (op:Int)(a b:Ex):Sat Pg ahC [.c (int op),a.w,b.w] (λr=>r=⟨.w (w7 op a b).w,[]⟩):=by
 refine zC ?_;obtain⟨R,P,⟨i,j,l⟩,g⟩:=a;obtain⟨U,T,⟨p,I,J⟩,o⟩:=b;refine ahq.s T8 ?_;exact⟨rfl,rfl⟩
theorem al0 (p:Pln):Sat Pg KD [p.w] (λr=>r=rB p.steps):=by
 suffices h: ∀b,p.steps=b ->Sat Pg KD [p.w] (λr=>r=rB b)from h _ rfl
 intro b i;rw[qu];obtain⟨op,tb,col,lo,hi,⟨g,⟨eo,nm,⟨vk,vn,vs⟩,U⟩,P,aa,T,R,n,ab⟩,ks⟩:=p;have i:wD op tb col lo hi g ks.length=b:=i;unfold wD at i;refine afC.s T8 ?_;rw[adI];refine zt (b:=!zl tb ⟨#[]⟩|| !zl col ⟨#[]⟩||lo !=0||hi !=0||(ks.length:Int) !=1) (λl=>?_) (λl=>?_)
 ·simp only[Bool.or_assoc]at l;rw[l]at i;subst i;exact rfl
 ·simp only[Bool.or_assoc]at l;rw[l,cond_false]at i;refine ze (b:=op==2) (λI=>?_) (λI=>?_)
  ·rw[I]at i;subst i;exact rfl
  ·rw[I,cond_false]at i;have fin: ∀c:Bool,(op==3||(op==4||op==5))=c ->(bif c then ae5 g==op else false)=b:=λc hc=>by rw[<- hc];exact i
   refine ze (b:=op==3) (λj=>?_) (λj=>?_)
   ·have fin:=fin true (by rw[j];rfl);subst fin;(conv=>whnf);rw[j];refine Sat.w (Wt g) ?_;rfl
   ·refine ze (b:=op==4) (λo=>?_) (λo=>?_)
    ·have fin:=fin true (by rw[j,o];rfl);subst fin;(conv=>whnf);rw[o];refine Sat.w (Wt g) ?_;rfl
    ·refine ze (b:=op==5) (λJ=>?_) (λJ=>?_)
     ·have fin:=fin true (by rw[j,o,J];rfl);subst fin;refine Sat.w (Wt g) ?_;rfl
     ·have fin:=fin false (by rw[j,o,J];rfl);subst fin;exact rfl
def Pln.st:Pln ->Stp| .mk _ _ _ _ _ st _=>st
theorem alX (p:Pln)(hl:p.st.lens<=1000000):Sat Pg KC [p.w] (λr=>r=rB p.scans):=by
 suffices h: ∀b,p.scans=b ->Sat Pg KC [p.w] (λr=>r=rB b)from h _ rfl
 intro b g;rw[qu];obtain⟨op,tb,col,lo,hi,⟨J,⟨eo,nm,⟨vk,vn,vs⟩,o⟩,i,I,l,j,n,P⟩,ks⟩:=p;have g:ZV op col lo hi ⟨J,⟨eo,nm,⟨vk,vn,vs⟩,o⟩,i,I,l,j,n,P⟩ ks.length=b:=g;have he:=alT ⟨J,⟨eo,nm,⟨vk,vn,vs⟩,o⟩,i,I,l,j,n,P⟩ hl;rw[ae8]at he;unfold ZV at g;generalize XM _=e at*;refine afB.s T8 ?_;refine zt (b:=op !=1) (λR=>?_) (λR=>?_)
 ·rw[R,Bool.true_or]at g;subst g;exact rfl
 ·rw[R,Bool.false_or]at g;refine Sat.w he ?_;rw[adI];refine zt (b:=!e||decide ((ks.length:Int)>0)) (λT=>?_) (λT=>?_)
  ·rw[T]at g;subst g;exact rfl
  ·rw[T,cond_false]at g;refine ze (b:=zl col ⟨#[]⟩) (λU=>?_) (λU=>?_)
   ·rw[U,cond_true]at g;subst g;exact rfl
   ·rw[U,cond_false]at g;subst g;(conv=>whnf);rw[<- Bool.and_assoc];rfl
def J5 {α:Type}(l:List α)(i:Nat)(c:List α):Prop:=c.length=l.length /\ ∀k,k<l.length ->c[k]? =if k<i\/l.length - i<=k then l[l.length - 1 - k]? else l[k]?
theorem alH {α:Type}(l:List α):J5 l 0 l:=⟨rfl,λk h=>by rw[if_neg (by omega)]⟩
theorem adL {α:Type}{l c:List α}{i:Nat}(h:J5 l i c)(hi:2*i+1<l.length){x y:α}(I:c[i]? =some x)(J:c[l.length - 1 - i]? =some y):J5 l (i+1) ((c.set i y).set (l.length - 1 - i) x):=by
 obtain⟨r,g⟩:=h;refine⟨by simp[r],λk hk=>?_⟩;rw[List.getElem?_set,List.getElem?_set];simp only[List.length_set,r];by_cases j:l.length - 1 - i=k
 ·rw[if_pos j,if_pos (by omega),if_pos (by omega)];rw[<- I,g i (by omega),if_neg (by omega)];congr 1
  omega
 ·rw[if_neg j];by_cases o:i=k
  ·rw[if_pos o,if_pos (by omega),if_pos (by omega)];rw[<- J,g _ (by omega),if_neg (by omega)];congr 1
   omega
  ·rw[if_neg o,g k hk];by_cases p:k<i\/l.length - i<=k
   ·rw[if_pos p,if_pos (by omega)]
   ·rw[if_neg p,if_neg (by omega)]
theorem ago {α:Type}{l c:List α}{i:Nat}(h:J5 l i c)(hi:l.length<=2*i+1):c=l.reverse:=by
 obtain⟨j,g⟩:=h;refine List.ext_getElem? λk=>?_
 by_cases hk:k<l.length
 ·rw[g k hk,List.getElem?_reverse hk];by_cases e:k<i\/l.length - i<=k
  ·rw[if_pos e]
  ·rw[if_neg e];congr 1
   omega
 ·rw[List.getElem?_eq_none (by omega),List.getElem?_eq_none (by rw[List.length_reverse];omega)]
theorem ag6 (l:List Stp)(i:Nat)(s:Stp):(qi l).set i s.ds=qi (l.set i s):=by simp[qi,List.map_set]
def rvS (sz n:Nat)(g:List (List D))(i:Nat):S:=⟨[(0,cV (.own 100000 sz n)),(2,zg i),(3,zg ((n:Int) - 1 - i))],[(100000,.arr sz g false)]⟩
theorem ga (l:List Stp)(n:Nat)(hn:n=l.length)(hl:n<=1000000):zD Pg VA [.c (.own 0 13 n)] [.arr 13 (qi l) false] (λr=>r=⟨.tup [],[.arr 13 (qi l.reverse) false]⟩):=by
 subst hn;refine qA T8 Zh.ok (by kernel_rfl) (by simp) ?_
 conv=>whnf
 refine yx (P:=Pg) (f:=T8.f) (body:=(Zh.l 0)) (λz:Nat×List Stp=>rvS 13 l.length (qi z.2) z.1) (λz=>l.length - z.1) (λz=>z.1<=l.length /\J5 l z.1 z.2) ⟨(0,l),⟨Nat.zero_le _,alH l⟩,zf ?_⟩ ?_
 ·(conv=>whnf);rw[ya (by omega) (by omega)];rw[show((l.length:Int) - 1)=(l.length:Int) - 1 -((0:Nat):Int)by omega];rfl
 ·rintro⟨i,c⟩ ⟨hi,j⟩;have hi:i<=l.length:=hi;have j:J5 l i c:=j;have ab:=j.1;unfold rvS;refine ze (λg=>?_) (λg=>?_)
  ·have ad:2*i+1<l.length:=by have g:decide ((i:Int)<(l.length:Int) - 1 - i)=true:=g;have:=of_decide_eq_true g;omega
   have hj:(l.length:Int) - 1 - i=((l.length - 1 - i:Nat):Int):=by omega
   have g1:=Xv (show i<c.length by omega);have g2:=Xv (show l.length - 1 - i<c.length by omega);have T:=adL j (by omega) (List.getElem?_eq_getElem (show i<c.length by omega)) (List.getElem?_eq_getElem (show l.length - 1 - i<c.length by omega));have s1:=ag6 c i c[l.length - 1 - i];have s2:=ag6 (c.set i c[l.length - 1 - i]) (l.length - 1 - i) c[i];rw[<- s1]at s2;have g3:((qi c).set i (c[l.length - 1 - i]).ds)[((l.length - 1 - i:Nat):Int).toNat]? =some (c[l.length - 1 - i]).ds:=by
    rw[s1,Xv (show l.length - 1 - i<(c.set i c[l.length - 1 - i]).length by rw[List.length_set];omega)];rw[List.getElem_set_ne (by omega)]
   have w1:IntKind.i64.wrap ((i:Int)+1)=((i+1:Nat):Int):=zA (show i<l.length by omega) (by omega);have w2:IntKind.i64.wrap (((l.length - 1 - i:Nat):Int) - 1)=(l.length:Int) - 1 -((i+1:Nat):Int):=by rw[ya (by omega) (by omega)];omega
   rw[hj];generalize c[l.length - 1 - i]=y at*;generalize c[i]=x at*;obtain⟨xo,⟨af,ah,⟨aj,ak,al⟩,ag⟩,o,ae,U,p,xn,ai⟩:=x;obtain⟨yo,⟨ao,ar,⟨av,aw,ax⟩,aq⟩,I,an,aa,J,yn,au⟩:=y;(conv=>whnf);refine⟨by omega,by omega,?_⟩;(conv=>whnf);refine⟨_,g2,?_⟩;(conv=>whnf);refine⟨by show(0:Int)<=i;omega,by show(i:Int)<l.length;omega,?_⟩;(conv=>whnf);refine⟨_,g1,?_⟩;(conv=>whnf);refine⟨by show(0:Int)<=i;omega,by show(i:Int)<l.length;omega,?_⟩;(conv=>whnf);refine⟨_,g1,Nat.le_refl 13,?_⟩;(conv=>whnf);refine⟨by omega,by omega,?_⟩;(conv=>whnf);refine⟨_,g3,Nat.le_refl 13,?_⟩;(conv=>whnf);refine⟨(i+1,_),⟨⟨by show i+1<=l.length;omega,T⟩,by show l.length -(i+1)<l.length - i;omega⟩,zf ?_⟩;(conv=>whnf);refine Eq.trans ?_ (congrArg (λR=>rvS 13 l.length R (i+1)) s2)
   dsimp only
   rw[w1,w2];rfl
  ·have ac:l.length<=2*i+1:=by have g:decide ((i:Int)<(l.length:Int) - 1 - i)=false:=g;have:=of_decide_eq_false g;omega
   rw[<- ago j (by omega)];exact rfl
def qt (l:List D):List (List D):=l.map λd=> [d]
theorem aai (l:List D):(qt l).length=l.length:=by simp[qt]
theorem U8 {r:List D}{i:Nat}(h:i<r.length):(qt r)[((i:Int)).toNat]? =some [r[i]]:=by simp[qt,List.getElem?_eq_getElem h]
theorem age (l:List D)(i:Nat)(s:D):(qt l).set i [s]=qt (l.set i s):=by simp[qt,List.map_set]
theorem Ji (l:List D)(n:Nat)(hn:n=l.length)(hl:n<=1000000):zD Pg QB [.c (.own 0 1 n)] [.arr 1 (qt l) false] (λr=>r=⟨.tup [],[.arr 1 (qt l.reverse) false]⟩):=by
 subst hn;refine qA T8 jb.ok (by kernel_rfl) (by simp) ?_
 conv=>whnf
 refine yx (P:=Pg) (f:=T8.f) (body:=(jb.l 0)) (λz:Nat×List D=>rvS 1 l.length (qt z.2) z.1) (λz=>l.length - z.1) (λz=>z.1<=l.length /\J5 l z.1 z.2) ⟨(0,l),⟨Nat.zero_le _,alH l⟩,zf ?_⟩ ?_
 ·(conv=>whnf);rw[ya (by omega) (by omega)];rw[show((l.length:Int) - 1)=(l.length:Int) - 1 -((0:Nat):Int)by omega];rfl
 ·rintro⟨i,c⟩ ⟨hi,j⟩;have hi:i<=l.length:=hi;have j:J5 l i c:=j;have I:=j.1;unfold rvS;refine ze (λg=>?_) (λg=>?_)
  ·have aa:2*i+1<l.length:=by have g:decide ((i:Int)<(l.length:Int) - 1 - i)=true:=g;have:=of_decide_eq_true g;omega
   have U:(l.length:Int) - 1 - i=((l.length - 1 - i:Nat):Int):=by omega
   have g1:=U8 (show i<c.length by omega);have g2:=U8 (show l.length - 1 - i<c.length by omega);have p:=adL j (by omega) (List.getElem?_eq_getElem (show i<c.length by omega)) (List.getElem?_eq_getElem (show l.length - 1 - i<c.length by omega));have J:=age c i c[l.length - 1 - i];have R:=age (c.set i c[l.length - 1 - i]) (l.length - 1 - i) c[i];rw[<- J]at R;have g3:((qt c).set i [c[l.length - 1 - i]])[((l.length - 1 - i:Nat):Int).toNat]? =some [c[l.length - 1 - i]]:=by
    rw[J,U8 (show l.length - 1 - i<(c.set i c[l.length - 1 - i]).length by rw[List.length_set];omega)];rw[List.getElem_set_ne (by omega)]
   have w1:IntKind.i64.wrap ((i:Int)+1)=((i+1:Nat):Int):=zA (show i<l.length by omega) (by omega);have w2:IntKind.i64.wrap (((l.length - 1 - i:Nat):Int) - 1)=(l.length:Int) - 1 -((i+1:Nat):Int):=by rw[ya (by omega) (by omega)];omega
   rw[U];generalize c[l.length - 1 - i]=y at*;generalize c[i]=x at*;(conv=>whnf);refine⟨by omega,by omega,?_⟩;(conv=>whnf);refine⟨_,g2,?_⟩;(conv=>whnf);refine⟨by show(0:Int)<=i;omega,by show(i:Int)<l.length;omega,?_⟩;(conv=>whnf);refine⟨_,g1,?_⟩;(conv=>whnf);refine⟨by show(0:Int)<=i;omega,by show(i:Int)<l.length;omega,?_⟩;(conv=>whnf);refine⟨_,g1,Nat.le_refl 1,?_⟩;(conv=>whnf);refine⟨by omega,by omega,?_⟩;(conv=>whnf);refine⟨_,g3,Nat.le_refl 1,?_⟩;(conv=>whnf);refine⟨(i+1,_),⟨⟨by show i+1<=l.length;omega,p⟩,by show l.length -(i+1)<l.length - i;omega⟩,zf ?_⟩;(conv=>whnf);refine Eq.trans ?_ (congrArg (λo=>rvS 1 l.length o (i+1)) R)
   dsimp only
   rw[w1,w2];rfl
  ·have T:l.length<=2*i+1:=by have g:decide ((i:Int)<(l.length:Int) - 1 - i)=false:=g;have:=of_decide_eq_false g;omega
   rw[<- ago j (by omega)];exact rfl
theorem an7 {op:Int}{tb col:ByteArray}{lo hi i nk:Int}(h:wD op tb col lo hi i nk=true):nk=1:=by
 unfold wD at h;cases g:(!zl tb ⟨#[]⟩||(!zl col ⟨#[]⟩||(lo !=0||(hi !=0||nk !=1))))
 ·simp only[Bool.or_eq_false_iff,bne_eq_false_iff_eq]at g;exact g.2.2.2.2
 ·rw[g]at h;cases h
theorem WO {op:Int}{tb col:ByteArray}{lo hi:Int}{st:Stp}{ks:List Pln}(h:(Pln.mk op tb col lo hi st ks).steps=true): ∃k,ks=[k]/\(Pln.mk op tb col lo hi st ks).base=(k.base.1,k.base.2++[st]):=by
 have h:wD op tb col lo hi st.op ks.length=true:=h;have g:=an7 h
 match ks,h,g with
 | [k],h,_=>
   refine⟨k,rfl,?_⟩;simp only[Pln.base];rw[show wD op tb col lo hi st.op 1=true from h];rfl
 | [],_,g=>cases g
 |_::_::_,_,g=>simp at g;omega
theorem Ka {p:Pln}(h:p.steps=false):p.base=(p,[]):=by
 obtain⟨op,tb,col,lo,hi,st,ks⟩:=p;have h:wD op tb col lo hi st.op ks.length=false:=h
 match ks,h with
 | [k],h=>
   simp only[Pln.base];rw[show wD op tb col lo hi st.op 1=false from h];rfl
 | [],_=>rfl
 |_::_::_,_=>rfl
theorem an6 (a b:List Stp):qi (a++b)=qi a++qi b:=by simp[qi]
def rQB (x:Qry×Bool):Res:=⟨.tup [.agg [str x.1.src,.d (.sl (qi x.1.steps))],.c (bool x.2)],[]⟩
theorem YK (op:Int)(tb col:ByteArray)(lo hi p I:Int)(J:ByteArray)(P R:Int)(vs:ByteArray)(l:List Ex)(g:List Itm)(o:List ByteArray)(j:List Agg)(i:List Srt)(n:Int)(r:ByteArray)(ks:List Pln):
 (Pln.mk op tb col lo hi ⟨p,⟨I,J,⟨P,R,vs⟩,l⟩,g,o,j,i,n,r⟩ ks).cs=[int op,str tb,str col,int lo,int hi,int p,int I,str J,int P,int R,str vs,.d (.sl (exsD l)),.d (.sl (y9 g)),.d (.sl (zq o)),.d (.sl (qN j)),.d (.sl (xA i)),int n,str r,.d (.sl (plnsD ks))]:=rfl
def pqS (p:Pln)(l:List Stp):S:=⟨[(1,cV (.ptr 1 0)),(2,cV (.ptr 2 0)),(4,cV (.own 11 13 l.length))],[(1,.box p.cs),(2,.box [str ⟨#[]⟩,.nil]),(11,.arr 13 (qi l) false)]⟩
def PqR (P p:Pln)(l:List Stp)(m:Nat):Prop:=l++p.base.2.reverse=P.base.2.reverse /\p.base.1=P.base.1 /\m=p.base.2.length
theorem aqS (P:Pln):PqR P P [] P.base.2.length:=⟨rfl,rfl,rfl⟩
theorem anu {P:Pln}{l:List Stp}{m:Nat}{op:Int}{tb col:ByteArray}{lo hi:Int}{st:Stp}{ks:List Pln}(h:PqR P (.mk op tb col lo hi st ks) l m)(hs:(Pln.mk op tb col lo hi st ks).steps=true): ∃k o,ks=[k]/\o<m /\PqR P k (l++[st]) o:=by
 obtain⟨k,rfl,p⟩:=WO hs;obtain⟨g,i,j⟩:=h;rw[p]at g i j;exact⟨k,k.base.2.length,rfl,by rw[j];simp,by rw[<- g];simp,i,rfl⟩
theorem aiF {P p:Pln}{l:List Stp}{m:Nat}(h:PqR P p l m):l.length<=P.base.2.length:=by
 have:=congrArg List.length h.1;simp only[List.length_append,List.length_reverse]at this;omega
theorem ac4 (P:Pln)(hn:P.base.2.length<=100000)(hz:P.base.1.st.lens<=1000000):Sat Pg jp [P.w] (λr=>r=rQB P.qry):=by
 refine zC ?_;rw[qu];suffices h: ∀x,P.qry=x ->Sat Pg jp [.agg P.cs] (DQ (rQB x))from h _ rfl
 intro x U;have h0:=aqS P;obtain⟨N,hN⟩: ∃N,N=P.base.2.length:=⟨_,rfl⟩;rw[<- hN]at h0 hn;obtain⟨R,hR⟩: ∃R:Pln×List Stp×Nat ->Prop,∀p l m,R (p,l,m)↔PqR P p l m:=⟨λz=>PqR P z.1 z.2.1 z.2.2,λ_ _ _=>Iff.rfl⟩
 replace h0:R (P,[],N):=(hR _ _ _).2 h0
 have I: ∀p l m,R (p,l,m) ->p.steps=false ->p.st.lens<=1000000 /\l.length<=100000 /\(bif p.scans then((⟨p.tb,l.reverse⟩,true):Qry×Bool)else(⟨⟨#[]⟩,[]⟩,false))=x:=λp l m h hs=>by
  have h:=(hR p l m).1 h;have hl:=aiF h;obtain⟨h1,T,_⟩:=h;rw[Ka hs]at h1 T;have T:p=P.base.1:=T;have h1:l=P.base.2.reverse:=by simpa using h1
  refine⟨by rw[T];exact hz,by omega,?_⟩;rw[<- U];unfold Pln.qry;rw[h1,List.reverse_reverse,<- T]
 have j: ∀op tb col lo hi st ks l m,R (.mk op tb col lo hi st ks,l,m) ->(Pln.mk op tb col lo hi st ks).steps=true -> ∃k m',ks=[k]/\m'<m /\l.length<=100000 /\R (k,l++[st],m'):=λop tb col lo hi st ks l m h hs=>by
  have h:=(hR _ l m).1 h;have hl:=aiF h;obtain⟨k,m',h1,T,h3⟩:=anu h hs;exact⟨k,m',h1,T,by omega,(hR _ _ _).2 h3⟩
 clear hR U hz hn hN;obtain⟨op,tb,col,lo,hi,⟨ab,⟨eo,nm,⟨vk,vn,vs⟩,J⟩,g,aa,o,i,n,ac⟩,ks⟩:=P;refine Q0.s T8 ?_;refine yx (P:=Pg) (f:=T8.f) (body:=(Q0.l 0)) (λz:Pln×List Stp×Nat=>pqS z.1 z.2.1) (λz=>z.2.2) R ⟨(_,[],N),h0,⟨_,z7 4 11 13 (by omega) (by omega) rfl,?_⟩⟩ ?_
 ·exact rfl
 ·clear h0;clear op tb col lo hi ab eo nm vk vn vs J g aa o i n ac ks N;rintro⟨p,l,m⟩ h;have hs:=al0 p;have hc:=alX p;rw[qu]at hs hc;show mwpR Pg T8.f (Q0.l 0) _ (pqS p l);unfold pqS;cases hb:p.steps with
  |true=>
   rw[hb]at hs;clear hc;obtain⟨op,tb,col,lo,hi,⟨ab,⟨eo,nm,⟨vk,vn,vs⟩,J⟩,g,aa,o,i,n,ac⟩,ks⟩:=p;obtain⟨k,m',rfl,hm,aj,T⟩:=j _ _ _ _ _ _ _ _ _ h hb;have an:(qi l).take l.length=qi l:=by rw[<- vS,List.take_length]
   have al:=an6 l [⟨ab,⟨eo,nm,⟨vk,vn,vs⟩,J⟩,g,aa,o,i,n,ac⟩];have hg:(plnsD [k])[((0:Int)).toNat]? =some k.ds:=rfl;clear hb h I j;rw[YK]at hs⊢;generalize plnsD [k]=K at*;obtain⟨a2,a3,ao,a0,ax,⟨au,⟨aw,a1,⟨a4,a5,a6⟩,aq⟩,ag,ar,ai,ah,n1,av⟩,az⟩:=k;refine Sat.w hs ?_;refine⟨by simp,by unfold yP;simp;omega,by simp;omega,?_⟩;(conv=>whnf);refine⟨by omega,_,hg,rfl,?_⟩;(conv=>whnf);refine⟨(_,_,m'),⟨T,hm⟩,zf ?_⟩;(conv=>whnf)
   dsimp only
   rw[al,List.length_append,an];rfl
  |false=>
   rw[hb]at hs;obtain⟨hz,aj,U⟩:=I _ _ _ h hb;have hc:=hc hz;have ad:=ga l l.length rfl (by omega);clear I j h hb hz;generalize ak:p.scans=b at*;have ay:p.tb=p.tb:=rfl;clear ak;obtain⟨op,tb,col,lo,hi,⟨ab,⟨eo,nm,⟨vk,vn,vs⟩,J⟩,g,aa,o,i,n,ac⟩,ks⟩:=p;refine Sat.w hs ?_;refine Sat.w hc ?_;cases b with
   |false=>
    have U:((⟨⟨#[]⟩,[]⟩,false):Qry×Bool)=x:=U;subst U;exact⟨rfl,rfl⟩
   |true=>
    have U:((⟨tb,l.reverse⟩,true):Qry×Bool)=x:=U;subst U;have af:(qi l.reverse).take l.length=qi l.reverse:=by rw[<- l.length_reverse,<- vS,List.take_length]
    obtain⟨LR,ae⟩: ∃LR,LR=qi l.reverse:=⟨_,rfl⟩;rw[<- ae]at ad af;(conv=>whnf);refine zD.mono (ad) ?_;rintro _ rfl;(conv=>whnf);refine⟨rfl,?_⟩;show Res.mk (.tup [.agg [str tb,.d (.sl (LR.take l.length))],.c (bool true)]) []=_;rw[af,ae];rfl
theorem anX {op:Int}{tb col:ByteArray}{lo hi:Int}{st:Stp}{ks:List Pln}(h:(Pln.mk op tb col lo hi st ks).scans=true):op=1 /\ks=[]:=by
 have h:ZV op col lo hi st ks.length=true:=h;unfold ZV at h;cases g:(op !=1||(!XM st||decide ((ks.length:Int)>0)))
 ·simp only[Bool.or_eq_false_iff,bne_eq_false_iff_eq,decide_eq_false_iff_not]at g;exact⟨g.1,List.eq_nil_of_length_eq_zero (by omega)⟩
 ·rw[g]at h;cases h
theorem an5 {op:Int}{tb col:ByteArray}{lo hi:Int}{st:Stp}{ks:List Pln}(h:(Pln.mk op tb col lo hi st ks).steps=true):op≠1:=by
 have h:wD op tb col lo hi st.op ks.length=true:=h;unfold wD at h;intro e;subst e;cases g:(!zl tb ⟨#[]⟩||(!zl col ⟨#[]⟩||(lo !=0||(hi !=0||(ks.length:Int) !=1))))
 ·rw[g]at h;simp at h
 ·rw[g]at h;cases h
def QT (B p:Pln)(m:Nat):Prop:=p.base.1=B /\B.scans=true /\m=p.base.2.length
theorem gX {B:Pln}{m:Nat}{op:Int}{tb col:ByteArray}{lo hi:Int}{st:Stp}{ks:List Pln}(h:QT B (.mk op tb col lo hi st ks) m):(∃k l,ks=[k]/\l<m /\op≠1 /\QT B k l)\/(ks=[]/\op=1 /\B= .mk op tb col lo hi st ks):=by
 obtain⟨g,i,j⟩:=h;cases hs:(Pln.mk op tb col lo hi st ks).steps with
 |true=>
  obtain⟨k,rfl,o⟩:=WO hs;rw[o]at g j;exact .inl ⟨k,_,rfl,by rw[j];simp,an5 hs,g,i,rfl⟩
 |false=>
  rw[Ka hs]at g;have g:Pln.mk op tb col lo hi st ks=B:=g;rw[<- g]at i;obtain⟨a,b⟩:=anX i;exact .inr ⟨b,a,g.symm⟩
def Uq (d:List Nmd)(p:Pln):Int×List Col:=bif y0 d p !=0 then(y0 d p,[])else(0,(qZ d p.qry.1).2)
def pcS (d:List Nmd)(cols:List Col)(p:Pln):S:=⟨[(0,.w (.c (.d (.sl (zu d))))),(3,cV (.ptr 3 0)),(9,.w (.c (.d (.sl (zi cols)))))],[(3,.box p.cs)]⟩
theorem aeO (d:List Nmd)(P:Pln)(h1:yu d=0)(cols:List Col)(q:Qry)(hq:Sat Pg jp [.agg P.cs] (λr=>r=rQB (q,true)))(ht:Sat Pg wH [.c (.d (.sl (zu d))),q.w] (λr=>r=xI (0,cols)))(B:Pln)(m:Nat)(T:QT B P m)(j:List Col)(tr:List (List Val))(hf:zI B.tb d=some ⟨j,tr⟩)(b:Bool)(hb:zl B.col ⟨#[]⟩=b)(y:Int×List Col)(g:(bif b then(0,cols)else bif qX ⟨j,tr⟩ B.col !=0 then(qX ⟨j,tr⟩ B.col,[])else(0,cols))=y):
 Sat Pg uj [.c (.d (.sl (zu d))),.agg P.cs] (λr=>r=xI y):=by
 refine zC ?_;have ad:=qv d;rw[h1]at ad;have U:=xg d B.tb;rw[hf]at U;have o:=xK j (.d (.sl (zh tr))) B.col ⟨_,rfl⟩;clear hf;obtain⟨R,hR⟩: ∃R:Pln×Nat ->Prop,∀p l,R (p,l)↔QT B p l:=⟨λz=>QT B z.1 z.2,λ_ _=>Iff.rfl⟩
 replace T:R (P,m):=(hR _ _).2 T
 have i: ∀op tb col lo hi st ks m,R (.mk op tb col lo hi st ks,m) ->(∃k m',ks=[k]/\m'<m /\op≠1 /\R (k,m'))\/(ks=[]/\op=1 /\B= .mk op tb col lo hi st ks):=λop tb col lo hi st ks m h=>by
  rcases gX ((hR _ _).1 h)with⟨k,m',h1,h2,h3,h4⟩|h
  ·exact .inl ⟨k,m',h1,h2,h3,(hR _ _).2 h4⟩
  ·exact .inr h
 clear hR;obtain⟨qs,ql⟩:=q;obtain⟨op,tb,col,lo,hi,⟨ag,⟨eo,nm,⟨vk,vn,vs⟩,ac⟩,I,af,aa,J,n,ah⟩,ks⟩:=P;refine v8.s T8 ?_;refine Sat.w ad ?_;refine Sat.w hq ?_;refine Sat.w ht ?_;refine yx (P:=Pg) (f:=T8.f) (body:=(v8.l 0)) (λz:Pln×Nat=>pcS d cols z.1) (λz=>z.2) R ⟨(_,m),T,zf ?_⟩ ?_
 ·exact rfl
 ·clear T hq;clear op tb col lo hi ag eo nm vk vn vs ac I af aa J n ah ks m;rintro⟨p,m⟩ h;show mwpR Pg T8.f (v8.l 0) _ (pcS d cols p);unfold pcS;obtain⟨op,tb,col,lo,hi,⟨ag,⟨eo,nm,⟨vk,vn,vs⟩,ac⟩,I,af,aa,J,n,ah⟩,ks⟩:=p;rcases i _ _ _ _ _ _ _ _ h with⟨k,m',rfl,hm,_,h2⟩|⟨rfl,rfl,rfl⟩
  ·obtain⟨kd,ab⟩: ∃kd,kd=k.ds:=⟨_,rfl⟩;have hK:plnsD [k]=[kd]:=by rw[ab];rfl
   clear h i;rw[YK,hK];(conv=>whnf);obtain⟨az,a0,al,ax,av,⟨aq,⟨au,ay,⟨a1,a2,a3⟩,an⟩,ai,ao,ak,aj,n1,ar⟩,aw⟩:=k;refine⟨by omega,_,rfl,by rw[ab];rfl,?_⟩;subst ab;(conv=>whnf);refine⟨(_,m'),⟨h2,hm⟩,zf ?_⟩;exact rfl
  ·clear h i;have U:Sat Pg jq [.c (.d (.sl (zu d))),.c (str tb)] (λr=>r=rF (some ⟨j,tr⟩)):=U;have o:Sat Pg VB [.agg [.d (.sl (zi j)),.d (.sl (zh tr))],.c (str col)] (λr=>r=rI (zj j col)):=o;have hb:zl col ⟨#[]⟩=b:=hb;have g:(bif b then(0,cols)else bif qX ⟨j,tr⟩ col !=0 then(qX ⟨j,tr⟩ col,[])else(0,cols))=y:=g;(conv=>whnf);rw[hb];cases b with
   |true=>
    have g:(0,cols)=y:=g;subst g;exact⟨rfl,rfl⟩
   |false=>
    rw[cond_false]at g;unfold qX at g;refine Sat.w U ?_;refine Sat.cal (o) ?_;generalize T:zj j col=c at*;refine ze (b:=decide (c<0)) (λh3=>?_) (λh3=>?_)
    ·simp only[T,h3,cond_true]at g;have g:(16,[])=y:=g;subst g;exact⟨rfl,rfl⟩
    ·simp only[T,h3,cond_false]at g;obtain⟨b1,b2⟩:=xW j col (by rw[T];exact of_decide_eq_false h3);rw[T]at b1 b2;obtain⟨k,rfl⟩:=Int.eq_ofNat_of_zero_le b1;have hk:k<j.length:=by omega
     have hg:=xj hk;have ae:q0 j (k:Int)=j[k].t:=by
      unfold q0;rw[Int.toNat_natCast,List.getElem?_eq_getElem hk];rfl
     rw[ae]at g;generalize j[k]=u at*;obtain⟨u1,u2⟩:=u;clear h3 T ae;(conv=>whnf);refine⟨by omega,_,hg,rfl,?_⟩;refine ze (b:=u2 !=2) (λh4=>?_) (λh4=>?_)
     ·simp only[h4,cond_true]at g;have g:(14,[])=y:=g;subst g;exact⟨rfl,rfl⟩
     ·simp only[h4,cond_false]at g;have g:(0,cols)=y:=g;subst g;exact⟨rfl,rfl⟩
theorem aeN (d:List Nmd)(P:Pln)(e:Int)(p:(e !=0)=true)(g:Sat Pg qE [.c (.d (.sl (zu d)))] (λr=>r=rI e)):Sat Pg uj [.c (.d (.sl (zu d))),.agg P.cs] (λr=>r=xI (e,[])):=by
 refine zC ?_;obtain⟨op,tb,col,lo,hi,⟨J,⟨T,U,⟨vk,vn,vs⟩,o⟩,i,I,l,j,n,R⟩,ks⟩:=P;refine v8.s T8 ?_;refine Sat.w g ?_;rw[p];exact⟨rfl,rfl⟩
theorem agI (d:List Nmd)(P:Pln)(g:Sat Pg qE [.c (.d (.sl (zu d)))] (λr=>r=rI 0))(q:Qry)(p:Sat Pg jp [.agg P.cs] (λr=>r=rQB (q,false))):Sat Pg uj [.c (.d (.sl (zu d))),.agg P.cs] (λr=>r=xI (1,[])):=by
 refine zC ?_;obtain⟨qs,ql⟩:=q;obtain⟨op,tb,col,lo,hi,⟨J,⟨T,U,⟨vk,vn,vs⟩,o⟩,i,I,l,j,n,R⟩,ks⟩:=P;refine v8.s T8 ?_;refine Sat.w g ?_;refine Sat.w p ?_;exact⟨rfl,rfl⟩
theorem aeP (d:List Nmd)(P:Pln)(g:Sat Pg qE [.c (.d (.sl (zu d)))] (λr=>r=rI 0))(q:Qry)(I:Sat Pg jp [.agg P.cs] (λr=>r=rQB (q,true)))(e:Int)(p:(e !=0)=true)(cols:List Col)(J:Sat Pg wH [.c (.d (.sl (zu d))),q.w] (λr=>r=xI (e,cols))):Sat Pg uj [.c (.d (.sl (zu d))),.agg P.cs] (λr=>r=xI (e,[])):=by
 refine zC ?_;obtain⟨qs,ql⟩:=q;obtain⟨op,tb,col,lo,hi,⟨T,⟨eo,nm,⟨vk,vn,vs⟩,o⟩,i,R,l,j,n,U⟩,ks⟩:=P;refine v8.s T8 ?_;refine Sat.w g ?_;refine Sat.w I ?_;refine Sat.w J ?_;rw[p];exact⟨rfl,rfl⟩
theorem aoM {p:Pln}(h:p.qry.2=true):QT p.base.1 p p.base.2.length /\p.qry.1=⟨p.base.1.tb,p.base.2⟩:=by
 unfold Pln.qry at h⊢;cases hs:p.base.1.scans
 ·rw[hs]at h;cases h
 ·exact⟨⟨rfl,hs,rfl⟩,rfl⟩
structure Pln.Sm (p:Pln):Prop where
 len:p.base.2.length<=100000
 lens:p.base.1.st.lens<=1000000
 st: ∀s∈p.base.2,s.Sm
theorem ac3 (d:List Nmd)(p:Pln)(J:p.Sm):Sat Pg uj [.c (.d (.sl (zu d))),p.w] (λr=>r=xI (Uq d p)):=by
 have g:=qv d;have l:=ac4 p J.len J.lens;rw[qu]at l⊢;unfold Uq y0;by_cases j:yu d=0
 ·rw[j]at g⊢;cases I:p.qry.2 with
  |false=>
   rw[show p.qry=(p.qry.1,false)by rw[<- I]]at l;exact agI d p g _ l
  |true=>
   rw[show p.qry=(p.qry.1,true)by rw[<- I]]at l;obtain⟨U,e⟩:=aoM I;have P:=VM d p.qry.1 (by rw[e];exact J.st);by_cases i:(qZ d p.qry.1).1=0
   ·obtain⟨_,_,t,o,_⟩:=kO i;rw[show qZ d p.qry.1=(0,(qZ d p.qry.1).2)by rw[<- i]]at P;rw[i];rw[e]at o;have o:zI p.base.1.tb d=some t:=o;obtain⟨R,T⟩:=t;rw[o];refine aeO d p j _ _ l P _ _ U R T o _ rfl _ ?_;show _=(bif (bif zl p.base.1.col ⟨#[]⟩then 0 else qX ⟨R,T⟩ p.base.1.col) !=0 then _ else _);cases zl p.base.1.col ⟨#[]⟩
    ·rfl
    ·rfl
   ·have i:((qZ d p.qry.1).1 !=0)=true:=by simpa using i
    have:=aeP d p g _ l _ i _ P;simp only[i,bne_self_eq_false,Bool.not_true,cond_false,cond_true];exact this
 ·have j:(yu d !=0)=true:=by simpa using j
  have:=aeN d p _ j g;simp only[j,cond_true];exact this
theorem aau (d:List Nmd)(P:Pln)(e:Int)(g:Sat Pg qE [.c (.d (.sl (zu d)))] (λr=>r=rI 0))(cols:List Col)(p:Sat Pg uj [.c (.d (.sl (zu d))),.agg P.cs] (λr=>r=xI (e,cols))):Sat Pg ug [.c (.d (.sl (zu d))),.agg P.cs] (λr=>r=rI e):=by
 obtain⟨op,tb,col,lo,hi,⟨J,⟨T,U,⟨vk,vn,vs⟩,o⟩,i,I,l,j,n,R⟩,ks⟩:=P;refine Kf.s T8 ?_;refine Sat.w g ?_;refine Sat.w p ?_;rfl
theorem aav (d:List Nmd)(P:Pln)(e:Int)(p:(e !=0)=true)(g:Sat Pg qE [.c (.d (.sl (zu d)))] (λr=>r=rI e)):Sat Pg ug [.c (.d (.sl (zu d))),.agg P.cs] (λr=>r=rI e):=by
 obtain⟨op,tb,col,lo,hi,⟨J,⟨T,U,⟨vk,vn,vs⟩,o⟩,i,I,l,j,n,R⟩,ks⟩:=P;refine Kf.s T8 ?_;refine Sat.w g ?_;rw[p];exact rfl
theorem anr (d:List Nmd)(p:Pln):(Uq d p).1=y0 d p:=by
 unfold Uq;by_cases h:y0 d p=0
 ·rw[h];rfl
 ·rw[show(y0 d p !=0)=true by simpa using h];rfl
theorem wJ (d:List Nmd)(p:Pln)(l:p.Sm):Sat Pg ug [.c (.d (.sl (zu d))),p.w] (λr=>r=rI (y0 d p)):=by
 have g:=qv d;have j:=ac3 d p l;rw[qu]at j⊢;by_cases i:yu d=0
 ·rw[i]at g;rw[show Uq d p=(y0 d p,(Uq d p).2)by rw[<- anr]]at j;exact aau d p _ g _ j
 ·have i:(yu d !=0)=true:=by simpa using i
  have:=aav d p _ i g;rw[show y0 d p=yu d by unfold y0;rw[i];rfl];exact this
def scS (p:List C)(cols:List Col)(rows:List (List Val))(c:Int)(i:Nat):List (List Val) ->S
 | []=>⟨[(2,cV (.ptr 2 0)),(4,cV (.ptr 4 0)),(7,zg c),(8,cV (.ptr 8 0)),(34,.w (.c (.d (.sl (zh rows))))),(35,zg rows.length),(36,zg i)],[(2,.box p),(4,.box [.nil,.nil]),(8,.box [.d (.sl (zi cols)),.nil])]⟩
 |a::r=>⟨[(2,cV (.ptr 2 0)),(4,cV (.ptr 4 0)),(7,zg c),(8,cV (.ptr 8 0)),(34,.w (.c (.d (.sl (zh rows))))),(35,zg rows.length),(36,zg i)],[(2,.box p),(4,.box [.nil,.nil]),(8,.box [.d (.sl (zi cols)),.own 67 1 (a::r).length]),(67,.arr 1 (zh (a::r)) false)]⟩
theorem K1 (d:List Nmd)(p:Pln)(h:zl p.col ⟨#[]⟩=true):Sat Pg xl [p.w,.c (.d (.sl (zu d)))] (λr=>r=⟨.w ((zI p.tb d).getD ⟨[],[]⟩).w,[]⟩):=by
 refine zC ?_;have g:=xg d p.tb;rw[qu];obtain⟨op,tb,col,lo,hi,⟨J,⟨R,T,⟨vk,vn,vs⟩,o⟩,i,I,l,j,n,P⟩,ks⟩:=p;have h:zl col ⟨#[]⟩=true:=h;have g:Sat Pg jq [.c (.d (.sl (zu d))),.c (str tb)] (λr=>r=rF (zI tb d)):=g;show Sat Pg _ _ (DQ ⟨.w ((zI tb d).getD ⟨[],[]⟩).w,[]⟩);generalize zI tb d=f at*;cases f with
 |none=>
  refine wQ.s T8 ?_;refine Sat.w g ?_;rw[h];exact⟨rfl,rfl⟩
 |some t=>
  obtain⟨U,tr⟩:=t;refine wQ.s T8 ?_;refine Sat.w g ?_;rw[h];exact⟨rfl,rfl⟩
theorem K2 (d:List Nmd)(p:Pln)(h:zl p.col ⟨#[]⟩=false)(J:List Col)(o:List (List Val))(hf:zI p.tb d=some ⟨J,o⟩)(hr:o.length<=20000)(hc:0<=zj J p.col)(hi: ∀r∈o,zj J p.col<r.length):
 Sat Pg xl [p.w,.c (.d (.sl (zu d)))] (λr=>r=⟨.w (Tbl.w ⟨J,o.filter (WX (zj J p.col).toNat p.lo p.hi)⟩),[]⟩):=by
 refine zC ?_;have hF:=xg d p.tb;rw[hf]at hF;have U:=xK J (.d (.sl (zh o))) p.col ⟨_,rfl⟩;rw[qu];obtain⟨op,tb,col,lo,I,⟨al,⟨eo,nm,⟨vk,vn,vs⟩,aj⟩,ae,ak,ag,af,n,an⟩,ks⟩:=p;have h:zl col ⟨#[]⟩=false:=h;have hF:Sat Pg jq [.c (.d (.sl (zu d))),.c (str tb)] (λr=>r=rF (some ⟨J,o⟩)):=hF;have U:Sat Pg VB [.agg [.d (.sl (zi J)),.d (.sl (zh o))],.c (str col)] (λr=>r=rI (zj J col)):=U;have hc:0<=zj J col:=hc;have hi: ∀r∈o,zj J col<r.length:=hi;show Sat Pg _ _ (DQ ⟨.w (Tbl.w ⟨J,o.filter (WX (zj J col).toNat lo I)⟩),[]⟩);clear hf;generalize zj J col=c at*;obtain⟨k,rfl⟩:=Int.eq_ofNat_of_zero_le hc;rw[Int.toNat_natCast];obtain⟨q,hq⟩: ∃q,q=WX k lo I:=⟨_,rfl⟩;rw[<- hq];refine wQ.s T8 ?_;refine Sat.w hF ?_;rw[h];refine Sat.w U ?_;rw[zy];refine yl (P:=Pg) (f:=T8.f) (body:=(wQ.l 0)) o.length (λi=>scS (Pln.cs (.mk op tb col lo I ⟨al,⟨eo,nm,⟨vk,vn,vs⟩,aj⟩,ae,ak,ag,af,n,an⟩ ks)) J o k i ((o.take i).filter q)) (λ_=>True) ⟨trivial,zf ?_⟩ ?_
 ·exact rfl
 ·intro i ao _;have wi:i<o.length ->IntKind.i64.wrap ((i:Int)+1)=((i+1:Nat):Int):=λh=>zA h (by omega)
  obtain⟨T,hT⟩: ∃T,T=(o.take i).filter q:=⟨_,rfl⟩;have ah:T.length<=i:=by
   rw[hT];refine Nat.le_trans (List.length_filter_le _ _) ?_;rw[List.length_take];omega
  have ai:(zh T).take T.length=zh T:=by rw[<- zy,List.take_length]
  have g: ∀h:i<o.length,(o.take (i+1)).filter q=T++(bif q o[i]then [o[i]]else []):=λh=>by rw[uU q h,<- hT]
  have aa:o.length<=i ->T=o.filter q:=λh=>by rw[hT,List.take_of_length_le h]
  show mwpR Pg T8.f (wQ.l 0) _ (scS _ J o k i ((o.take i).filter q));rw[<- hT,YK];clear hT;cases T with
  |nil=>
   unfold scS;refine ze (λh1=>?_) (λh1=>?_)
   ·have j:i<o.length:=by have:=of_decide_eq_true h1;omega
    have hg:=xy j;have g:=g j;have hk:=hi _ (List.getElem_mem j);generalize o[i]=x at*;have hk:k<x.length:=by omega
    have ac:=yQ hk;have ad:q x=((x[k]).k==2&&(decide (lo<=(x[k]).n)&&decide ((x[k]).n<=I))):=by
     rw[hq];unfold WX;rw[show at0 x k=x[k]by unfold at0;rw[List.getD_eq_getElem?_getD,List.getElem?_eq_getElem hk];rfl]
    rw[ad]at g;generalize x[k]=v at*;obtain⟨v1,v2,v3⟩:=v;simp only at g;(conv=>whnf);refine⟨by omega,_,hg,rfl,?_⟩;(conv=>whnf);refine⟨by omega,_,ac,rfl,?_⟩;refine ze (λR=>?_) (λR=>?_)
    ·have R:(v1==2&&(decide (lo<=v2)&&decide (v2<=I)))=true:=by rw[<- Bool.and_assoc];exact R
     rw[R,cond_true]at g;(conv=>whnf);refine⟨by simp,by unfold yP;simp,by simp,?_⟩;(conv=>whnf);refine⟨j,trivial,zf ?_⟩;rw[g];(conv=>whnf);rw[wi j];rfl
    ·have R:(v1==2&&(decide (lo<=v2)&&decide (v2<=I)))=false:=by rw[<- Bool.and_assoc];exact R
     rw[R,cond_false,List.append_nil]at g;(conv=>whnf);refine⟨j,trivial,zf ?_⟩;rw[g];(conv=>whnf);rw[wi j];rfl
   ·have ab:o.length<=i:=by have:=of_decide_eq_false h1;omega
    rw[<- aa ab];exact⟨rfl,rfl⟩
  |cons a T=>
   unfold scS;refine ze (λh1=>?_) (λh1=>?_)
   ·have j:i<o.length:=by have:=of_decide_eq_true h1;omega
    have hg:=xy j;have g:=g j;have hk:=hi _ (List.getElem_mem j);generalize o[i]=x at*;have hk:k<x.length:=by omega
    have ac:=yQ hk;have ad:q x=((x[k]).k==2&&(decide (lo<=(x[k]).n)&&decide ((x[k]).n<=I))):=by
     rw[hq];unfold WX;rw[show at0 x k=x[k]by unfold at0;rw[List.getD_eq_getElem?_getD,List.getElem?_eq_getElem hk];rfl]
    rw[ad]at g;generalize x[k]=v at*;obtain⟨v1,v2,v3⟩:=v;simp only at g;(conv=>whnf);refine⟨by omega,_,hg,rfl,?_⟩;(conv=>whnf);refine⟨by omega,_,ac,rfl,?_⟩;refine ze (λR=>?_) (λR=>?_)
    ·have R:(v1==2&&(decide (lo<=v2)&&decide (v2<=I)))=true:=by rw[<- Bool.and_assoc];exact R
     rw[R,cond_true]at g;(conv=>whnf);refine⟨by simp,by unfold yP;simp;simp at ah;omega,by simp;simp at ah;omega,?_⟩;(conv=>whnf);refine⟨j,trivial,zf ?_⟩;rw[g];(conv=>whnf);rw[wi j,ai,List.cons_append];show _=S.mk _ [_,_,(8,.box [_,.own 67 1 (a::(T++[x])).length]),(67,.arr 1 (zh (a::(T++[x]))) false)];rw[<- List.cons_append,qW,List.length_append];rfl
    ·have R:(v1==2&&(decide (lo<=v2)&&decide (v2<=I)))=false:=by rw[<- Bool.and_assoc];exact R
     rw[R,cond_false,List.append_nil]at g;(conv=>whnf);refine⟨j,trivial,zf ?_⟩;rw[g];(conv=>whnf);rw[wi j];rfl
   ·have ab:o.length<=i:=by have:=of_decide_eq_false h1;omega
    rw[<- aa ab];(conv=>whnf);refine⟨rfl,?_⟩;show Res.mk (.w (.agg [.d (.sl (zi J)),.d (.sl ((zh (a::T)).take (a::T).length))])) []=_;rw[ai];rfl
def Pln.nodes:Pln ->List (Int×Stp)
 | .mk op tb col lo hi st [k]=>bif wD op tb col lo hi st.op 1 then k.nodes++[(op,st)]else []
 |_=> []
theorem U4 {op:Int}{tb col:ByteArray}{lo hi:Int}{st:Stp}{k:Pln}(h:(Pln.mk op tb col lo hi st [k]).steps=true):(Pln.mk op tb col lo hi st [k]).nodes=k.nodes++[(op,st)]:=by
 simp only[Pln.nodes];rw[show wD op tb col lo hi st.op 1=true from h];rfl
theorem adD: ∀p:Pln,p.nodes.map Prod.snd=p.base.2
 | .mk op tb col lo hi st [k]=>by
   have g:=adD k;simp only[Pln.nodes,Pln.base];cases wD op tb col lo hi st.op 1
   ·rfl
   ·simp only[cond_true,List.map_append,List.map_cons,List.map_nil,g]
 | .mk _ _ _ _ _ _ []=>rfl
 | .mk _ _ _ _ _ _ (_::_::_)=>rfl
def vm (x:Int×Stp):D:=bif x.1==3 then .ifc 109 x.2.ds else bif x.1==4 then .ifc 110 x.2.ds else bif x.1==5 then .ifc 111 x.2.ds else .ifc 112 x.2.ds
def Jl (p:Pln):D:=.ifc 103 p.ds
theorem Wn (a b:List D):qt (a++b)=qt a++qt b:=by simp[qt]
def OpR (P B p:Pln)(g:List D)(m:Nat):Prop:=QT B p m /\g++(p.nodes.map vm).reverse=(P.nodes.map vm).reverse
theorem anj {P B:Pln}{g:List D}{m:Nat}{op:Int}{tb col:ByteArray}{lo hi:Int}{st:Stp}{ks:List Pln}(h:OpR P B (.mk op tb col lo hi st ks) g m):(∃k i,ks=[k]/\i<m /\op≠1 /\OpR P B k (g++[vm (op,st)]) i)\/(ks=[]/\op=1 /\B= .mk op tb col lo hi st ks /\g=(P.nodes.map vm).reverse):=by
 obtain⟨l,o⟩:=h;rcases gX l with⟨k,i,rfl,p,r,j⟩|⟨rfl,rfl,j⟩
 ·refine .inl ⟨k,i,rfl,p,r,j,?_⟩;rw[<- o];cases hs:(Pln.mk op tb col lo hi st [k]).steps with
  |true=>rw[U4 hs];simp
  |false=>
   have e:=Ka hs;have:=l.2.2;rw[e]at this;have:m=0:=this;omega
 ·refine .inr ⟨rfl,rfl,j,?_⟩;rw[<- o];show g=g++([]:List D).reverse;simp
def opS (p:Pln)(g:List D):S:=⟨[(1,cV (.ptr 1 0)),(3,cV (.own 19 1 g.length))],[(1,.box p.cs),(19,.arr 1 (qt g) false)]⟩
theorem Qf (P B:Pln)(m:Nat)(hc:QT B P m)(hm:m<=100000):Sat Pg ZN [P.w] (λr=>r=rC (.d (.sl (qt (Jl B::P.nodes.map vm))))):=by
 refine zC ?_;rw[qu];suffices h: ∀x,qt (Jl B::P.nodes.map vm)=x ->Sat Pg ZN [.agg P.cs] (DQ (rC (.d (.sl x))))from h _ rfl
 intro x hx;have a2:(P.nodes.map vm).length<=100000:=by
  have:=congrArg List.length (adD P);rw[List.length_map]at this⊢;rw[this,<- hc.2.2];exact hm
 obtain⟨R,hR⟩: ∃R:Pln×List D×Nat ->Prop,∀p l m,R (p,l,m)↔OpR P B p l m:=⟨λz=>OpR P B z.1 z.2.1 z.2.2,λ_ _ _=>Iff.rfl⟩;have h0:R (P,[],m):=(hR _ _ _).2 ⟨hc,rfl⟩;have ah: ∀p l m,R (p,l,m) ->l.length<=100000:=λp l m h=>by
  have:=congrArg List.length ((hR _ _ _).1 h).2;simp only[List.length_append,List.length_reverse]at this;omega
 have ae: ∀op tb col lo hi st ks l m,R (.mk op tb col lo hi st ks,l,m) ->(∃k m',ks=[k]/\m'<m /\op≠1 /\R (k,l++[vm (op,st)],m'))\/(ks=[]/\op=1 /\Jl B=Jl (.mk op tb col lo hi st ks)/\qt ((l++[Jl B]).reverse)=x):=λop tb col lo hi st ks l m h=>by
  rcases anj ((hR _ _ _).1 h)with⟨k,m',h1,h2,h3,h4⟩|⟨h1,h2,h3,h4⟩
  ·exact .inl ⟨k,m',h1,h2,h3,(hR _ _ _).2 h4⟩
  ·exact .inr ⟨h1,h2,by rw[h3],by rw[<- hx,h4];simp⟩
 clear hR hx hc hm a2;obtain⟨op,tb,col,lo,hi,⟨J,⟨eo,nm,⟨vk,vn,vs⟩,o⟩,g,I,j,i,n,T⟩,ks⟩:=P;refine ZJ.s T8 ?_;refine yx (P:=Pg) (f:=T8.f) (body:=(ZJ.l 0)) (λz:Pln×List D×Nat=>opS z.1 z.2.1) (λz=>z.2.2) R ⟨(_,[],m),h0,⟨_,z7 3 19 1 (by omega) (by omega) rfl,?_⟩⟩ ?_
 ·exact rfl
 ·clear h0;clear op tb col lo hi J eo nm vk vn vs o g I j i n T ks m;rintro⟨p,l,m⟩ h;show mwpR Pg T8.f (ZJ.l 0) _ (opS p l);unfold opS;have a4:=ah _ _ _ h;have aj:(qt l).take l.length=qt l:=by rw[<- aai,List.take_length]
  obtain⟨op,tb,col,lo,hi,⟨J,⟨eo,nm,⟨vk,vn,vs⟩,o⟩,g,I,j,i,n,T⟩,ks⟩:=p;rcases ae _ _ _ _ _ _ _ _ _ h with⟨k,m',rfl,hm,ar,h2⟩|⟨rfl,rfl,hB,hx⟩
  ·obtain⟨kd,aa⟩: ∃kd,kd=k.ds:=⟨_,rfl⟩;have hK:plnsD [k]=[kd]:=by rw[aa];rfl
   have ar:(op !=1)=true:=by simpa using ar
   clear h ae ah;rw[YK,hK];(conv=>whnf);rw[ar];refine ze (b:=op==3) (λh3=>?_) (λh3=>?_)
   ·have e:vm (op,⟨J,⟨eo,nm,⟨vk,vn,vs⟩,o⟩,g,I,j,i,n,T⟩)= .ifc 109 (Stp.ds ⟨J,⟨eo,nm,⟨vk,vn,vs⟩,o⟩,g,I,j,i,n,T⟩):=by unfold vm;simp only[h3,cond_true]
    rw[e]at h2;have U:=Wn l [.ifc 109 (Stp.ds ⟨J,⟨eo,nm,⟨vk,vn,vs⟩,o⟩,g,I,j,i,n,T⟩)];(conv=>whnf);refine⟨by simp,by unfold yP;simp;omega,by simp;omega,?_⟩;(conv=>whnf);obtain⟨ax,ay,af,av,aq,⟨al,⟨ao,aw,⟨az,a0,a1⟩,ag⟩,ab,ak,ad,ac,n1,an⟩,au⟩:=k;refine⟨by omega,_,rfl,by rw[aa];rfl,?_⟩;subst aa;(conv=>whnf);refine⟨(_,_,m'),⟨h2,hm⟩,⟨_,vK 3 28 19 1 _ _ (by omega) rfl rfl,?_⟩⟩;(conv=>whnf)
    dsimp only
    rw[U,List.length_append,aj];rfl
   ·refine ze (b:=op==4) (λh4=>?_) (λh4=>?_)
    ·have e:vm (op,⟨J,⟨eo,nm,⟨vk,vn,vs⟩,o⟩,g,I,j,i,n,T⟩)= .ifc 110 (Stp.ds ⟨J,⟨eo,nm,⟨vk,vn,vs⟩,o⟩,g,I,j,i,n,T⟩):=by unfold vm;simp only[h3,h4,cond_true,cond_false]
     rw[e]at h2;have U:=Wn l [.ifc 110 (Stp.ds ⟨J,⟨eo,nm,⟨vk,vn,vs⟩,o⟩,g,I,j,i,n,T⟩)];(conv=>whnf);refine⟨by simp,by unfold yP;simp;omega,by simp;omega,?_⟩;(conv=>whnf);obtain⟨ax,ay,af,av,aq,⟨al,⟨ao,aw,⟨az,a0,a1⟩,ag⟩,ab,ak,ad,ac,n1,an⟩,au⟩:=k;refine⟨by omega,_,rfl,by rw[aa];rfl,?_⟩;subst aa;(conv=>whnf);refine⟨(_,_,m'),⟨h2,hm⟩,⟨_,vK 3 37 19 1 _ _ (by omega) rfl rfl,?_⟩⟩;(conv=>whnf)
     dsimp only
     rw[U,List.length_append,aj];rfl
    ·refine ze (b:=op==5) (λh5=>?_) (λh5=>?_)
     ·have e:vm (op,⟨J,⟨eo,nm,⟨vk,vn,vs⟩,o⟩,g,I,j,i,n,T⟩)= .ifc 111 (Stp.ds ⟨J,⟨eo,nm,⟨vk,vn,vs⟩,o⟩,g,I,j,i,n,T⟩):=by unfold vm;simp only[h3,h4,h5,cond_true,cond_false]
      rw[e]at h2;have U:=Wn l [.ifc 111 (Stp.ds ⟨J,⟨eo,nm,⟨vk,vn,vs⟩,o⟩,g,I,j,i,n,T⟩)];(conv=>whnf);refine⟨by simp,by unfold yP;simp;omega,by simp;omega,?_⟩;(conv=>whnf);obtain⟨ax,ay,af,av,aq,⟨al,⟨ao,aw,⟨az,a0,a1⟩,ag⟩,ab,ak,ad,ac,n1,an⟩,au⟩:=k;refine⟨by omega,_,rfl,by rw[aa];rfl,?_⟩;subst aa;(conv=>whnf);refine⟨(_,_,m'),⟨h2,hm⟩,⟨_,vK 3 46 19 1 _ _ (by omega) rfl rfl,?_⟩⟩;(conv=>whnf)
      dsimp only
      rw[U,List.length_append,aj];rfl
     ·have e:vm (op,⟨J,⟨eo,nm,⟨vk,vn,vs⟩,o⟩,g,I,j,i,n,T⟩)= .ifc 112 (Stp.ds ⟨J,⟨eo,nm,⟨vk,vn,vs⟩,o⟩,g,I,j,i,n,T⟩):=by unfold vm;simp only[h3,h4,h5,cond_false]
      rw[e]at h2;have U:=Wn l [.ifc 112 (Stp.ds ⟨J,⟨eo,nm,⟨vk,vn,vs⟩,o⟩,g,I,j,i,n,T⟩)];(conv=>whnf);refine⟨by simp,by unfold yP;simp;omega,by simp;omega,?_⟩;(conv=>whnf);obtain⟨ax,ay,af,av,aq,⟨al,⟨ao,aw,⟨az,a0,a1⟩,ag⟩,ab,ak,ad,ac,n1,an⟩,au⟩:=k;refine⟨by omega,_,rfl,by rw[aa];rfl,?_⟩;subst aa;(conv=>whnf);refine⟨(_,_,m'),⟨h2,hm⟩,zf ?_⟩;(conv=>whnf)
      dsimp only
      rw[U,List.length_append,aj];rfl
  ·clear h ae ah;have U:=Wn l [Jl B];have ai:=Ji (l++[Jl B]) (l.length+1) (by simp) (by omega);rw[hx]at ai;have a3:x.take (l.length+1)=x:=by
    rw[<- hx];refine List.take_of_length_le ?_;rw[aai];simp
   rw[hB]at ai U;clear hx hB;(conv=>whnf);refine⟨by simp,by unfold yP;simp;omega,by simp;omega,?_⟩;(conv=>whnf);rw[aj];(conv=>whnf);refine zD.mono (U▸ai) ?_;rintro _ rfl;(conv=>whnf);refine⟨rfl,?_⟩;show Res.mk (.w (.c (.d (.sl (x.take (l.length+1)))))) []=_;rw[a3];rfl
theorem Wu (d:List Nmd)(t:Tbl)(p:Pln)(X:Tbl)(o:Sat Pg xl [p.w,.c (.d (.sl (zu d)))] (λr=>r=⟨.w X.w,[]⟩)):Sat Pg YE [.c (.d (.sl (zu d))),t.w,.c (.d (Jl p))] (λr=>r=vh X 0):=by
 have hs:=aeT p;have T:=xg d ⟨#[]⟩;rw[qu]at o hs;obtain⟨tc,tr⟩:=t;obtain⟨xc,xr⟩:=X;generalize zI ⟨#[]⟩ d=f at*;unfold Jl;obtain⟨op,tb,col,lo,hi,⟨J,⟨U,nm,⟨vk,vn,vs⟩,l⟩,g,I,j,i,n,P⟩,ks⟩:=p;obtain⟨R,aa⟩: ∃R,R=Pln.ds (.mk op tb col lo hi ⟨J,⟨U,nm,⟨vk,vn,vs⟩,l⟩,g,I,j,i,n,P⟩ ks):=⟨_,rfl⟩;cases f with
 |none=>
  refine Qx.s T8 ?_;refine Sat.w hs ?_;refine Sat.w T ?_;refine Sat.w o ?_;rfl
 |some ft=>
  obtain⟨fc,fr⟩:=ft;refine Qx.s T8 ?_;refine Sat.w hs ?_;refine Sat.w T ?_;refine Sat.w o ?_;rfl
theorem aeS (d:List Nmd)(t:Tbl)(st:Stp)(cols:List Col)(i:Sat Pg yp [.c (.d (.sl (zu d))),.c (.d (.sl (zi t.cols))),st.w] (λr=>r=xI (0,cols)))(y:Int×Tbl)(g:Sat Pg uh [.c (.d (.sl (zu d))),t.w,st.w] (λr=>r=Y4 y)):Sat Pg YE [.c (.d (.sl (zu d))),t.w,.c (.d (.ifc 112 st.ds))] (λr=>r=Y4 y):=by
 have hs:=ac2 st;have j:=xg d st.table;obtain⟨tc,tr⟩:=t;obtain⟨y1,⟨y2,y3⟩⟩:=y;obtain⟨op,⟨P,U,⟨vk,vn,vs⟩,ks⟩,l,J,p,o,n,tb⟩:=st;rw[ae8]at hs i g;simp only at j;generalize zI tb d=f at*;cases f with
 |none=>
  refine Qx.s T8 ?_;refine Sat.w hs ?_;refine Sat.w i ?_;refine Sat.w j ?_;refine Sat.w g ?_;rfl
 |some I=>
  obtain⟨R,T⟩:=I;refine Qx.s T8 ?_;refine Sat.w hs ?_;refine Sat.w i ?_;refine Sat.w j ?_;refine Sat.w g ?_;rfl
def erS (d:List Nmd)(O:List D):Option (Nat×Tbl) ->S
 |none=>⟨[(0,.w (.c (.d (.sl (zu d))))),(4,cV (.ptr 4 0)),(7,cV (.ptr 7 0)),(20,.w (.c (.d (.sl (qt O))))),(21,zg (qt O).length),(22,zg 0)],[(4,.box [.nil,.nil]),(7,.box [.nil,.nil])]⟩
 |some (i,t)=>⟨[(0,.w (.c (.d (.sl (zu d))))),(4,cV (.ptr 4 0)),(7,cV (.ptr 7 0)),(20,.w (.c (.d (.sl (qt O))))),(21,zg (qt O).length),(22,zg ((i+1:Nat):Int))],[(4,.box [.nil,.nil]),(7,.box [.d (.sl (zi t.cols)),.d (.sl (zh t.rows))])]⟩
def erR (d:List Nmd)(l:List Stp)(K:Nat ->Tbl ->Prop)(y:Int×Tbl):Option (Nat×Tbl) ->Prop
 |none=>True
 |some (i,t)=>i<=l.length /\K i t /\y=runT d t (l.drop i)
theorem YO (d:List Nmd)(P:Pln)(U:Sat Pg ug [.c (.d (.sl (zu d))),.agg P.cs] (λr=>r=rI 0))(g:List (Int×Stp))(hn:g.length<=100000)(sc:D)(I:Sat Pg ZN [.agg P.cs] (λr=>r=rC (.d (.sl (qt (sc::g.map vm))))))
 (X:Tbl) (ah:Sat Pg YE [.c (.d (.sl (zu d))),Tbl.w ⟨[],[]⟩,.c (.d sc)] (λr=>r=vh X 0)) (K:Nat ->Tbl ->Prop) (h0:K 0 X)
 (hO: ∀i (h:i<g.length) t,K i t ->Sat Pg YE [.c (.d (.sl (zu d))),t.w,.c (.d (vm g[i]))] (λr=>r=Y4 (nStepT d t g[i].2)))
 (hK: ∀i (h:i<g.length) t,K i t ->(nStepT d t g[i].2).1=0 ->K (i+1) (nStepT d t g[i].2).2) (y:Int×Tbl) (hy:y=runT d X (g.map Prod.snd)):
 Sat Pg ux [.c (.d (.sl (zu d))),.agg P.cs] (λr=>r=Y4 y):=by
 refine zC ?_;obtain⟨l,hl⟩: ∃l,l=g.map Prod.snd:=⟨_,rfl⟩;have aq:l.length=g.length:=by rw[hl,List.length_map]
 have ag: ∀i (h:i<g.length),l[i]'(by omega)=g[i].2:=λi h=>by subst hl;simp
 rw[<- hl]at hy;obtain⟨O,p⟩: ∃O,O=sc::g.map vm:=⟨_,rfl⟩;have aj:O.length=g.length+1:=by rw[p];simp
 have ae:(qt O)[((0:Int)).toNat]? =some [sc]:=by rw[p];rfl
 have af: ∀i (h:i<g.length),(qt O)[(((i+1:Nat):Int)).toNat]? =some [vm g[i]]:=λi h=>by
  rw[U8 (show i+1<O.length by omega)];subst p;simp
 rw[<- p]at I;clear p hl;obtain⟨op,tb,col,lo,hi,⟨al,⟨eo,nm,⟨vk,vn,vs⟩,ai⟩,aa,ak,ac,ab,n,an⟩,ks⟩:=P;obtain⟨R,hR⟩: ∃R,R=erR d l K y:=⟨_,rfl⟩;refine Yq.s T8 ?_;refine Sat.w U ?_;refine Sat.w I ?_;refine yx (P:=Pg) (f:=T8.f) (body:=(Yq.l 0)) (erS d O) (λz=>match z with|none=>g.length+5|some (i,_)=>g.length - i) R ⟨none,by rw[hR];trivial,zf ?_⟩ ?_
 ·exact rfl
 ·clear U I;clear op tb col lo hi al eo nm vk vn vs ai aa ak ac ab n an ks;have o:((qt O).length:Int)=(g.length:Int)+1:=by rw[aai,aj];omega
  rintro(_|⟨i,t⟩) h
  ·show mwpR Pg T8.f (Yq.l 0) _ (erS d O none);unfold erS;obtain⟨xc,xr⟩:=X;(conv=>whnf);rw[o];refine zt (λJ=>?_) (λJ=>?_)
   ·(conv=>whnf);refine⟨by omega,_,ae,rfl,?_⟩;refine Sat.w ah ?_;refine⟨some (0,⟨xc,xr⟩),⟨by rw[hR];exact⟨by omega,h0,hy⟩,by show g.length - 0<g.length+5;omega⟩,zf ?_⟩;(conv=>whnf);rw[<- o];rfl
   ·have:=of_decide_eq_false J;omega
  ·rw[hR]at h;obtain⟨hi,ad,j⟩:i<=l.length /\K i t /\y=runT d t (l.drop i):=h;show mwpR Pg T8.f (Yq.l 0) _ (erS d O (some (i,t)));unfold erS;obtain⟨tc,tr⟩:=t;(conv=>whnf);rw[o];refine zt (λJ=>?_) (λJ=>?_)
   ·have T:i<g.length:=by
     have J:decide (((i+1:Nat):Int)<(g.length:Int)+1)=true:=J;have:=of_decide_eq_true J;omega
    have hg:=af i T;have ho:=hO i T _ ad;have hk:=hK i T _ ad;have wi:IntKind.i64.wrap (((i+1:Nat):Int)+1)=((i+1+1:Nat):Int):=by rw[ya (by omega) (by omega)];omega
    rw[zo (show i<l.length by omega),ag i T]at j;simp only[runT]at j;generalize g[i]=z at*;generalize vm z=zd at*;generalize nStepT d ⟨tc,tr⟩ z.2=x at*;obtain⟨x1,⟨x2,x3⟩⟩:=x;clear hO hK af ae ah ag;(conv=>whnf);refine⟨by omega,_,hg,rfl,?_⟩;refine Sat.w ho ?_;refine zt (b:=x1 !=0) (λh4=>?_) (λh4=>?_)
    ·simp only[h4,cond_true]at j;subst j;exact⟨rfl,rfl⟩
    ·simp only[h4,cond_false]at j;(conv=>whnf);refine⟨some (i+1,⟨x2,x3⟩),⟨by rw[hR];exact⟨by omega,hk (by simpa using h4),j⟩,by show g.length -(i+1)<g.length - i;omega⟩,zf ?_⟩;(conv=>whnf);rw[wi,<- o];rfl
   ·have ao:g.length<=i:=by
     have J:decide (((i+1:Nat):Int)<(g.length:Int)+1)=false:=J;have:=of_decide_eq_false J;omega
    rw[List.drop_eq_nil_of_le (by omega)]at j;have j:y=(0,⟨tc,tr⟩):=j;subst j;exact⟨rfl,rfl⟩
def rdS (d:List Nmd)(p:Pln):S:=⟨[(0,.w (.c (.d (.sl (zu d))))),(3,cV (.ptr 3 0))],[(3,.box p.cs)]⟩
theorem Ws (d:List Nmd)(P:Pln)(I:Sat Pg ug [.c (.d (.sl (zu d))),.agg P.cs] (λr=>r=rI 0))(B:Pln)(m:Nat)(hc:QT B P m)(X:Tbl)(hX:Sat Pg xl [.agg B.cs,.c (.d (.sl (zu d)))] (λr=>r=⟨.w X.w,[]⟩)):
 Sat Pg Zl [.c (.d (.sl (zu d))),.agg P.cs] (λr=>r=KT (X.rows.length,0)):=by
 obtain⟨R,hR⟩: ∃R:Pln×Nat ->Prop,∀p l,R (p,l)↔QT B p l:=⟨λz=>QT B z.1 z.2,λ_ _=>Iff.rfl⟩
 replace hc:R (P,m):=(hR _ _).2 hc
 have g: ∀op tb col lo hi st ks m,R (.mk op tb col lo hi st ks,m) ->(∃k U,ks=[k]/\U<m /\op≠1 /\R (k,U))\/(ks=[]/\op=1 /\B.cs=(Pln.mk op tb col lo hi st ks).cs):=λop tb col lo hi st ks m h=>by
  rcases gX ((hR _ _).1 h)with⟨k,U,h1,h2,h3,h4⟩|⟨h1,h2,h3⟩
  ·exact .inl ⟨k,U,h1,h2,h3,(hR _ _).2 h4⟩
  ·exact .inr ⟨h1,h2,by rw[h3]⟩
 clear hR;rw[<- zy];obtain⟨xc,xr⟩:=X;obtain⟨op,tb,col,lo,hi,⟨ac,⟨eo,nm,⟨vk,vn,vs⟩,aa⟩,i,ab,o,j,n,ad⟩,ks⟩:=P;refine Vv.s T8 ?_;refine Sat.w I ?_;refine yx (P:=Pg) (f:=T8.f) (body:=(Vv.l 0)) (λz:Pln×Nat=>rdS d z.1) (λz=>z.2) R ⟨(_,m),hc,zf ?_⟩ ?_
 ·exact rfl
 ·clear hc I;clear op tb col lo hi ac eo nm vk vn vs aa i ab o j n ad ks m;rintro⟨p,m⟩ h;show mwpR Pg T8.f (Vv.l 0) _ (rdS d p);unfold rdS;obtain⟨op,tb,col,lo,hi,⟨ac,⟨eo,nm,⟨vk,vn,vs⟩,aa⟩,i,ab,o,j,n,ad⟩,ks⟩:=p;rcases g _ _ _ _ _ _ _ _ h with⟨k,U,rfl,hm,T,h2⟩|⟨rfl,rfl,hB⟩
  ·obtain⟨kd,J⟩: ∃kd,kd=k.ds:=⟨_,rfl⟩;have hK:plnsD [k]=[kd]:=by rw[J];rfl
   have T:(op !=1)=true:=by simpa using T
   clear h g;rw[YK,hK];(conv=>whnf);rw[T];(conv=>whnf);obtain⟨av,aw,ah,ar,ao,⟨ak,⟨an,au,⟨ax,ay,az⟩,ai⟩,ae,aj,ag,af,n1,al⟩,aq⟩:=k;refine⟨by omega,_,rfl,by rw[J];rfl,?_⟩;subst J;(conv=>whnf);refine⟨(_,U),⟨h2,hm⟩,zf ?_⟩;exact rfl
  ·clear h g;rw[hB]at hX;refine Sat.w hX ?_;rfl
theorem aat (d:List Nmd)(P:Pln)(e:Int)(p:(e !=0)=true)(g:Sat Pg ug [.c (.d (.sl (zu d))),.agg P.cs] (λr=>r=rI e)):Sat Pg ux [.c (.d (.sl (zu d))),.agg P.cs] (λr=>r=Y4 (e,⟨[],[]⟩)):=by
 refine zC ?_;obtain⟨op,tb,col,lo,hi,⟨J,⟨T,U,⟨vk,vn,vs⟩,o⟩,i,I,l,j,n,R⟩,ks⟩:=P;refine Yq.s T8 ?_;refine Sat.w g ?_;rw[p];exact⟨rfl,rfl⟩
end
section
attribute [local irreducible] Sat zD yk
def xaR:List (List Val):=[[xn 5],[xn 2],[ut],[xn 1]]
def JU:Tbl:=⟨[⟨sN,2⟩],xaR⟩
def xz:List Nmd:=[⟨sA,JU⟩]
def xC:Ex:=w7 12 (y6 sN) (qP 3)
def pS (lo hi:Int):Pln:=.mk 1 sA sN lo hi yH []
def pA:Pln:=.mk 1 sA ⟨#[]⟩ 0 0 yH []
def pW:Pln:=.mk 2 ⟨#[]⟩ ⟨#[]⟩ 0 0 (yw xC) [pS (-1000000000000000) 2]
def pL:Pln:=.mk 2 ⟨#[]⟩ ⟨#[]⟩ 0 0 (vl 1) [pW]
theorem aqw:zR JU=0:=by
 simp only[zR,JU,xaR,xn,ut,sN,List.map,List.take,jN,wW,zj,yv,ZC,wK,yG,xT]
 decide+kernel
theorem Ux:yu xz=0:=by
 simp only[yu,xz,uO,aqw,zI,kA,List.nil_append,List.length_cons,List.length_nil];simp only[wW,sA,xT]
 decide+kernel
theorem xaF:zI sA xz=some JU:=by
 simp only[zI,xz,xT];rfl
theorem alg:yS sA=true:=by
 simp only[yS,kws,hasB,List.any,sA,xT]
 decide+kernel
theorem WD:zj [(⟨sN,2⟩:Col)] sN=0:=by
 simp only[zj,yv,xT]
 decide+kernel
theorem acI:xC.chk=0:=by
 have g:yA 2 sN ut 0=0:=by
  simp only[yA,qr,ut,xF,sN,xT]
  decide+kernel
 have i:=afE (n:=3) (by decide);have j:yA 12 ⟨#[]⟩ ut 2=0:=by
  simp only[yA,qr,ut,xF,xT]
  decide+kernel
 have m:xC.meas 0=(3,2):=rfl;unfold Ex.chk;rw[m];simp only[xC,w7,y6,qP,Ex.err,errL,List.length_cons,List.length_nil];simp[g,i,j]
theorem alv:xC.ty [⟨sN,2⟩]=(1,0):=by
 have f:(y6 sN).ty [⟨sN,2⟩]=(2,0):=by
  show Jt [⟨sN,2⟩] 2 sN ut []=_;unfold Jt;rw[WD];rfl
 have k:(qP 3).ty [⟨sN,2⟩]=(2,0):=rfl;simp only[xC,w7,Ex.ty,tyL,f,k];rfl
theorem ai1:(yw xC).err=0:=by
 have u:(yw xC).uses=true:=by
  unfold Stp.uses XH yw;simp[We,beqS_self]
 unfold Stp.err;rw[u];exact acI
theorem ab1:yI xz [⟨sN,2⟩] (yw xC)=(0,[⟨sN,2⟩]):=by
 unfold yI;rw[ai1];show whT _ xC=_;unfold whT ahb;rw[alv];rfl
theorem abZ:yI xz [⟨sN,2⟩] (vl 1)=(0,[⟨sN,2⟩]):=by
 unfold yI;rw[aix (by omega) (by omega)];rfl
theorem ahe (l:List Stp)(h:l=[]\/l=[yw xC,vl 1]):qZ xz ⟨sA,l⟩=(0,[⟨sN,2⟩]):=by
 have g:Qry.err ⟨sA,l⟩=0:=by
  rcases h with rfl|rfl
  ·simp only[Qry.err,jI,alg]
   decide+kernel
  ·simp only[Qry.err,jI,alg,ai1,aix (m:=1) (by omega) (by omega)]
   decide+kernel
 unfold qZ;rw[Ux,g];show(match zI sA xz with|none=>(17,[])|some t=>Wy xz t.cols l)=_;rw[xaF];rcases h with rfl|rfl
 ·rfl
 ·simp only[JU,Wy,ab1,abZ];rfl
theorem acO (lo hi:Int):(pS lo hi).base=(pS lo hi,[]):=rfl
theorem YV:XM yH=true:=by
 simp only[XM,yH,Ex.zero,Vl,xF,xT]
 decide+kernel
theorem Ja:pL.steps=true /\pW.steps=true:=by
 constructor
 ·show wD 2 ⟨#[]⟩ ⟨#[]⟩ 0 0 5 1=true;simp only[wD,xT]
  decide+kernel
 ·show wD 2 ⟨#[]⟩ ⟨#[]⟩ 0 0 1 1=true;simp only[wD,xT]
  decide+kernel
theorem Xo:pL.base=(pS (-1000000000000000) 2,[yw xC,vl 1]):=by
 obtain⟨k,hk,h⟩:=WO (op:=2) (tb:=⟨#[]⟩) (col:=⟨#[]⟩) (lo:=0) (hi:=0) (st:=vl 1) (ks:=[pW]) Ja.1;cases hk;obtain⟨k,hk,g⟩:=WO (op:=2) (tb:=⟨#[]⟩) (col:=⟨#[]⟩) (lo:=0) (hi:=0) (st:=yw xC) (ks:=[pS (-1000000000000000) 2]) Ja.2;cases hk;have g:pW.base=_:=g;have h:pL.base=_:=h;rw[h,g,acO];rfl
theorem Wo (lo hi:Int)(h:(lo= -1000000000000000 /\hi=2)\/(lo=1 /\hi=0)\/(lo=2 /\hi=5)):(pS lo hi).scans=true:=by
 show ZV 1 sN lo hi yH 0=true;rcases h with⟨rfl,rfl⟩|⟨rfl,rfl⟩|⟨rfl,rfl⟩
 ·simp only[ZV,YV,sN,xT]
  decide+kernel
 ·simp only[ZV,YV,sN,xT]
  decide+kernel
 ·simp only[ZV,YV,sN,xT]
  decide+kernel
theorem agi:pA.scans=true:=by
 show ZV 1 ⟨#[]⟩ 0 0 yH 0=true;simp only[ZV,YV,xT]
 decide+kernel
theorem aqf:qX JU sN=0:=by
 unfold qX;rw[show zj JU.cols sN=0 from WD];rfl
theorem Vd {p:Pln}{lo hi:Int}{l:List Stp}(g:p.base=(pS lo hi,l))(hs:(pS lo hi).scans=true)(i:l=[]\/l=[yw xC,vl 1]):y0 xz p=0:=by
 have j:p.qry=(⟨sA,l⟩,true):=by
  unfold Pln.qry;rw[g];show(bif (pS lo hi).scans then _ else _)=_;rw[hs];rfl
 unfold y0;rw[j,g,ahe l i,Ux];show(bif zl sN ⟨#[]⟩then 0 else qX ((zI sA xz).getD ⟨[],[]⟩) sN)=0;rw[xaF];show(bif zl sN ⟨#[]⟩then 0 else qX JU sN)=0;rw[aqf];cases zl sN ⟨#[]⟩<;>rfl
theorem ans:y0 xz pA=0:=by
 have g:pA.base=(pA,[]):=rfl;have i:pA.qry=(⟨sA,[]⟩,true):=by
  unfold Pln.qry;rw[g];show(bif pA.scans then _ else _)=_;rw[agi];rfl
 unfold y0;rw[i,g,ahe [] (.inl rfl),Ux];show(bif zl ⟨#[]⟩ ⟨#[]⟩then 0 else _)=0;rw[AM.beqS_self];rfl
end
section
attribute [local irreducible] Sat zD yk zl
theorem JQ (op:Int)(g:ByteArray)(v:Val):Sat Pg gn [(Ex.mk op g v []).w] (λr=>r=⟨.w (Ex.mk op g v []).w,[]⟩):=by
 refine zC ?_;obtain⟨i,j,vs⟩:=v;refine Vu.s T8 ?_;exact⟨rfl,rfl⟩
theorem ahQ:Sat Pg gn [xC.w] (λr=>r=⟨.w xC.w,[]⟩):=by
 refine zC ?_;have g:=JQ 2 sN ut;have i:=JQ 1 ⟨#[]⟩ ⟨2,3,⟨#[]⟩⟩;unfold xC y6 qP w7;generalize sN=n at*;refine Vu.s T8 ?_;refine qq (P:=Pg) (f:=T8.f) (body:=(Vu.l 0)) 3 ?_
 conv=>whnf
 refine⟨by omega,_,rfl,rfl,?_⟩;refine Sat.w g ?_;refine⟨by simp,by unfold yP;simp,by simp,?_⟩
 conv=>whnf
 refine⟨by decide,_,rfl,rfl,?_⟩;refine Sat.w i ?_;refine⟨by simp,by unfold yP;simp,by simp,?_⟩;exact⟨rfl,rfl⟩
theorem ahK:Sat Pg ahz [xC.w] (λr=>r=⟨.w xC.w,[]⟩):=by
 have g:=Xr xC;rw[acI]at g;have i:=ahQ;unfold xC y6 qP w7 at*;generalize sN=n at*;refine aho.s T8 ?_;refine Sat.w g ?_;refine Sat.w i ?_;rfl
theorem abH:Sat Pg abi [xC.w] (λr=>r=rC (.d (.sl (exsD [xC])))):=by
 refine zC ?_;unfold xC y6 qP w7;generalize sN=n at*;refine aaU.s T8 ?_;exact⟨rfl,rfl⟩
theorem aeK (x:Col)(cap:List D)(s:ByteArray)(h:cap[1]? =some (.lit (.string s)))(g:cap.length=6):Sat Pg Wh [x.w,.c (.fp cap)] (λr=>r=rB (zl x.name s)):=by
 obtain⟨i,j⟩:=x
 match cap,g with
 | [a,b,c,d,e,f],_=>
   cases h;refine gT.s T8 ?_;rfl
theorem acZ:Sat Pg acB [.c (.d (.sl (zi [⟨sN,2⟩]))),xC.w] (λr=>r=⟨.tup [.agg [str sN,int (-1000000000000000),int 2],.c (bool true)],[]⟩):=by
 have hi:=λcap h g=>wC Wh cap (λx=>zl x.name sN) (λx=>aeK x cap sN h g) [⟨sN,2⟩]
 have e:yv (λx:Col=>zl x.name sN) 0 [⟨sN,2⟩]=0:=WD;rw[e]at hi;unfold xC y6 qP w7;generalize sN=n at*;refine aco.s T8 ?_
 repeat' (first
  |(refine⟨by omega,_,rfl,rfl,?_⟩;(conv=>whnf))
  |(refine Sat.mono (hi _ rfl rfl) ?_;rintro _ rfl;(conv=>whnf))
  |(refine And.intro ?_ ?_<;>(conv=>whnf))
  |exact rfl)
theorem ahU:Sat Pg ahF [.c (str sA),.c (.d (.sl (zi [⟨sN,2⟩]))),xC.w] (λr=>r=⟨.w (pS (-1000000000000000) 2).w,[]⟩):=by
 refine zC ?_;have j:=abH;have o:=acZ;obtain⟨z,i⟩: ∃z:ByteArray,z=⟨#[]⟩:=⟨_,rfl⟩;have g:(zl z z)=true:=AM.beqS_self _;rw[qu];unfold pS yH;rw[YK];unfold xC y6 qP w7 ut at*;rw[<- i]at j o⊢;generalize sN=n at*;generalize sA=a at*;refine yK T8 XA.ok (by kernel_rfl) ?_;refine Sat.w j ?_;refine qq (P:=Pg) (f:=T8.f) (body:=(XA.l 0)) 2 ?_;try rw[<- i]
 conv=>whnf
 refine⟨by omega,_,rfl,rfl,?_⟩;refine Sat.w o ?_;try rw[<- i]
 rw[g]
 conv=>whnf
 try rw[<- i]
 rw[g]
 conv=>whnf
 try rw[<- i]
 repeat' (first
  |exact⟨rfl,rfl⟩
  |(refine And.intro ?_ ?_<;>(conv=>whnf)))
theorem akF: ∀s∈ [yw xC,vl 1],s.Sm:=by
 intro s hs;simp only[List.mem_cons,List.not_mem_nil,or_false]at hs;rcases hs with rfl|rfl
 ·exact⟨Nat.zero_le _,Nat.zero_le _,Nat.zero_le _,Nat.zero_le _⟩
 ·exact⟨Nat.zero_le _,Nat.zero_le _,Nat.zero_le _,Nat.zero_le _⟩
theorem adQ:Sat Pg alo [.c (.d (.sl (zu xz))),Qry.w ⟨sA,[yw xC,vl 1]⟩] (λr=>r=⟨.tup [pL.w,.c (int 0)],[]⟩):=by
 refine zC ?_;have j:=VM xz ⟨sA,[yw xC,vl 1]⟩ akF;rw[ahe _ (.inr rfl)]at j;have g:=xg xz sA;rw[xaF]at g;have o:=ahK;have i:=ahU;have p:=Wt 1;have I:=Wt 5;rw[qu]at i⊢;unfold pL pW pS yH yw vl ex0 at*;rw[YK]at i⊢;unfold JU at g;unfold xC y6 qP w7 ut at*;generalize xz=J at*;generalize sN=n at*;generalize sA=a at*;refine ado.s T8 ?_;refine Sat.w j ?_;refine Sat.w g ?_;refine qq (P:=Pg) (f:=T8.f) (body:=(ado.l 0)) 3 ?_
 conv=>whnf
 refine⟨by omega,_,rfl,rfl,?_⟩;refine Sat.w o ?_;refine Sat.w i ?_
 repeat' (first
  |exact⟨rfl,rfl⟩
  |(refine⟨by omega,_,rfl,rfl,?_⟩;(conv=>whnf))
  |(refine⟨by decide,_,rfl,rfl,?_⟩;(conv=>whnf))
  |(refine Sat.mono p ?_;rintro _ rfl;(conv=>whnf))
  |(refine Sat.mono I ?_;rintro _ rfl;(conv=>whnf))
  |(refine And.intro ?_ ?_<;>(conv=>whnf)))
theorem alC:pL.Sm /\QT (pS (-1000000000000000) 2) pL 2 /\pL.nodes=[(2,yw xC),(2,vl 1)]:=by
 refine⟨⟨by rw[Xo];show 2<=100000;omega,by rw[Xo];exact Nat.zero_le _,by rw[Xo];exact akF⟩,⟨by rw[Xo],Wo _ _ (.inl ⟨rfl,rfl⟩),by rw[Xo];rfl⟩,?_⟩;have g:pL.nodes=pW.nodes++[(2,vl 1)]:=U4 Ja.1;have i:pW.nodes=(pS (-1000000000000000) 2).nodes++[(2,yw xC)]:=U4 Ja.2;rw[g,i];rfl
theorem akH:yH.lens<=1000000:=by decide
theorem aoq (lo hi:Int):(pS lo hi).Sm:=⟨Nat.zero_le _,akH,λs hs=>by cases hs⟩
theorem aqR:pA.Sm:=⟨Nat.zero_le _,akH,λs hs=>by cases hs⟩
theorem ab0 (lo hi:Int):Sat Pg xl [(pS lo hi).w,.c (.d (.sl (zu xz)))] (λr=>r=⟨.w (Tbl.w ⟨[⟨sN,2⟩],xaR.filter (WX 0 lo hi)⟩),[]⟩):=by
 have g:zl sN ⟨#[]⟩=false:=by rw[xT];decide
 have h:=K2 xz (pS lo hi) g _ _ xaF (by decide) (by show 0<=zj [⟨sN,2⟩] sN;rw[WD];omega) (λr hr=>by
  show zj [⟨sN,2⟩] sN<_;rw[WD];simp only[xaR,List.mem_cons,List.not_mem_nil,or_false]at hr;rcases hr with rfl|rfl|rfl|rfl<;>decide)
 rw[show zj [(⟨sN,2⟩:Col)] (pS lo hi).col=0 from WD]at h;exact h
theorem apH:Sat Pg xl [pA.w,.c (.d (.sl (zu xz)))] (λr=>r=⟨.w JU.w,[]⟩):=by
 have h:=K1 xz pA (AM.beqS_self _);rw[show pA.tb=sA from rfl,xaF]at h;exact h
theorem ai3 (p B:Pln)(m:Nat)(X:Tbl)(l:p.Sm)(j:y0 xz p=0)(i:QT B p m)(g:Sat Pg xl [B.w,.c (.d (.sl (zu xz)))] (λr=>r=⟨.w X.w,[]⟩)):Sat Pg Zl [.c (.d (.sl (zu xz))),p.w] (λr=>r=KT (X.rows.length,0)):=by
 have hk:=wJ xz p l;rw[j]at hk;rw[qu]at*;exact Ws xz p hk B m i X g
theorem ai4 (p:Pln)(X:Tbl)(J:p.Sm)(I:y0 xz p=0)(o:QT p p 0)(g:p.nodes=[])(l:Sat Pg xl [p.w,.c (.d (.sl (zu xz)))] (λr=>r=⟨.w X.w,[]⟩)):Sat Pg ux [.c (.d (.sl (zu xz))),p.w] (λr=>r=Y4 (0,X)):=by
 have hk:=wJ xz p J;rw[I]at hk;have j:=Qf p p 0 o (by omega);have hr:=Wu xz ⟨[],[]⟩ p X l;rw[qu]at hk j⊢;exact YO xz p hk p.nodes (by rw[g];exact Nat.zero_le _) _ j X hr (λ_ _=>True) trivial (λi h=>by rw[g]at h;exact absurd h (Nat.not_lt_zero i)) (λi h=>by rw[g]at h;exact absurd h (Nat.not_lt_zero i)) _ (by rw[g];rfl)
def vX:Tbl:=⟨[⟨sN,2⟩],[[xn 2],[xn 1]]⟩
def gH:Tbl:=⟨[⟨sN,2⟩],[[xn 2]]⟩
theorem ahd:zR vX=0:=by
 simp only[zR,vX,xn,sN,List.map,List.take,jN,wW,zj,yv,ZC,wK,yG,xT]
 decide+kernel
theorem ap8 {a b:Int}{s t:ByteArray}:vF 12 ⟨#[]⟩ [⟨2,a,s⟩,⟨2,b,t⟩]=yq (decide (a<b)):=by
 have e:xf ⟨2,a,s⟩ ⟨2,b,t⟩=qb a b:=rfl;have h:vF 12 ⟨#[]⟩ [⟨2,a,s⟩,⟨2,b,t⟩]=yq ((((false&&(xf ⟨2,a,s⟩ ⟨2,b,t⟩==0))||(false&&(xf ⟨2,a,s⟩ ⟨2,b,t⟩ !=0)))||(true&&decide (xf ⟨2,a,s⟩ ⟨2,b,t⟩<0)))||(false&&decide (xf ⟨2,a,s⟩ ⟨2,b,t⟩<=0))):=rfl;rw[h,e];simp only[Bool.false_and,Bool.true_and,Bool.false_or,Bool.or_false];congr 1
 unfold qb;by_cases h:a<b
 ·rw[decide_eq_true h];rfl
 ·rw[decide_eq_false h,cond_false];cases decide (a>b)<;>rfl
theorem ai2 (n:Int)(hr: [xn n]∈vX.rows)(j:n<3):condB [⟨sN,2⟩] [xn n] xC=true:=by
 have i:=afO ahd _ hr;have i:Yy [⟨sN,2⟩] [xn n]=true:=i;have l:xC.val [⟨sN,2⟩] [xn n]=yq true:=by
  have f:(y6 sN).val [⟨sN,2⟩] [xn n]=xn n:=by
   show at0 [xn n] (zj [⟨sN,2⟩] sN).toNat=xn n;rw[WD];rfl
  have g:xC.val [⟨sN,2⟩] [xn n]=bif jK [(y6 sN).val [⟨sN,2⟩] [xn n],(qP 3).val [⟨sN,2⟩] [xn n]]then yJ else vF 12 ⟨#[]⟩ [(y6 sN).val [⟨sN,2⟩] [xn n],(qP 3).val [⟨sN,2⟩] [xn n]]:=rfl
  rw[g,f];show vF 12 ⟨#[]⟩ [⟨2,n,⟨#[]⟩⟩,⟨2,3,⟨#[]⟩⟩]=yq true;rw[ap8,decide_eq_true j]
 unfold condB exprV Ex.tyE;rw[acI,alv,i];show xF (xC.val [⟨sN,2⟩] [xn n]) (yq true)=true;rw[l];simp[xF,beqS_self]
theorem aoz:nStepT xz vX (yw xC)=(0,vX):=by
 rw[aag Ux ahd (by rw[show vX.cols=[⟨sN,2⟩]from rfl,ab1])];rw[show vX.cols=[⟨sN,2⟩]from rfl,ab1];have e:stR xz vX (yw xC)=whereR [⟨sN,2⟩] [[xn 2],[xn 1]] xC:=rfl;have g:whereR [⟨sN,2⟩] [[xn 2],[xn 1]] xC=[[xn 2],[xn 1]]:=by
  unfold whereR;rw[List.filter_eq_self];intro r hr;simp only[List.mem_cons,List.not_mem_nil,or_false]at hr;rcases hr with rfl|rfl
  ·exact ai2 2 (by simp[vX]) (by omega)
  ·exact ai2 1 (by simp[vX]) (by omega)
 rw[e,g];rfl
theorem aoA:nStepT xz vX (vl 1)=(0,gH):=by
 rw[aag Ux ahd (by rw[show vX.cols=[⟨sN,2⟩]from rfl,abZ])];rw[show vX.cols=[⟨sN,2⟩]from rfl,abZ];rfl
theorem ahf (st:Stp)(t:Tbl)(hk:st.Sm)(g:t.cols=[⟨sN,2⟩])(hr:t.rows.length<20000)(o:st.op≠6 /\st.op≠7)(p:yI xz [⟨sN,2⟩] st=(0,[⟨sN,2⟩])):Sat Pg YE [.c (.d (.sl (zu xz))),t.w,.c (.d (vm (2,st)))] (λr=>r=Y4 (nStepT xz t st)):=by
 have i:=YP xz t.cols st hk.ok (by rw[g];decide) (λb l=>by have:=kt Ux l;omega);rw[g,p]at i;have j:=KY xz t st hk hr (λh=>absurd h (by omega));refine aeS xz t st [⟨sN,2⟩] ?_ _ j;rw[g];exact i
theorem aqx:Sat Pg ux [.c (.d (.sl (zu xz))),pL.w] (λr=>r=Y4 (0,gH)):=by
 obtain⟨p,l,o⟩:=alC;have hk:=wJ xz pL p;rw[Vd Xo (Wo _ _ (.inl ⟨rfl,rfl⟩)) (.inr rfl)]at hk;have j:=Qf pL _ 2 l (by omega);have hr:=Wu xz ⟨[],[]⟩ (pS (-1000000000000000) 2) vX (ab0 _ _);rw[o]at j;rw[qu]at hk j⊢;refine YO xz pL hk [(2,yw xC),(2,vl 1)] (by decide) _ j vX hr (λi t=>t=bif decide (i<2)then vX else gH) rfl ?_ ?_ _ ?_
 ·intro i hi t g
  match i,hi with
  |0,_=>
   have g:t=vX:=g;subst g;exact ahf (yw xC) vX (akF _ (by simp)) rfl (by decide) ⟨by decide,by decide⟩ ab1
  |1,_=>
   have g:t=vX:=g;subst g;exact ahf (vl 1) vX (akF _ (by simp)) rfl (by decide) ⟨by decide,by decide⟩ abZ
 ·intro i hi t g _
  match i,hi with
  |0,_=>
   have g:t=vX:=g;subst g;show(nStepT xz vX (yw xC)).2=vX;rw[aoz]
  |1,_=>
   have g:t=vX:=g;subst g;show(nStepT xz vX (vl 1)).2=gH;rw[aoA]
 ·show(0,gH)=runT xz vX [yw xC,vl 1];simp only[runT,aoz,aoA];rfl
theorem aog:Sat Pg afY [.c (.d (.sl (zu xz))),Qry.w ⟨sA,[yw xC,vl 1]⟩] (λr=>r=Y4 (0,gH)):=by
 have g:=adQ;have i:=aqx;generalize gH=X at*;obtain⟨o,p⟩:=X;rw[qu]at g i;generalize yw xC=l at*;unfold pL pW pS yH vl ex0 at*;rw[YK]at g i;generalize xz=j at*;generalize sN=n at*;generalize sA=a at*;refine afy.s T8 ?_;refine Sat.w g ?_;refine Sat.w i ?_;rfl
def arA:List (List Val):=xaR.filter (WX 0 1 0)
theorem apG:arA=[]:=by decide+kernel
theorem aj4 (t:Tbl):abE t t=true:=abF t
theorem XE:Sat Pg aew [] (λr=>r=rB true):=by
 have U:=uE sN;have c2:=jE 3;have c3:=ZD 12 (y6 sN) (qP 3);have q1:=aog;have g:=adQ;obtain⟨T,R,_⟩:=alC;have i:=ai3 pL _ 2 vX T (Vd Xo (Wo _ _ (.inl ⟨rfl,rfl⟩)) (.inr rfl)) R (ab0 _ _);have p:=Wo 1 0 (.inr (.inl ⟨rfl,rfl⟩));have I:=Wo 2 5 (.inr (.inr ⟨rfl,rfl⟩));have j:=ai4 (pS 1 0) ⟨[⟨sN,2⟩],[]⟩ (aoq _ _) (Vd (acO _ _) p (.inl rfl)) ⟨rfl,p,rfl⟩ rfl (by have:=ab0 1 0;rw[show xaR.filter (WX 0 1 0)=[]from apG]at this;exact this);have l:=ai4 (pS 2 5) ⟨[⟨sN,2⟩],[[xn 5],[xn 2]]⟩ (aoq _ _) (Vd (acO _ _) I (.inl rfl)) ⟨rfl,I,rfl⟩ rfl (ab0 2 5);have o:=ai3 pA pA 0 JU aqR ans ⟨rfl,agi,rfl⟩ apH;have J:=Xt gH gH;have P:=Xt ⟨[⟨sN,2⟩],[[xn 5],[xn 2]]⟩ ⟨[⟨sN,2⟩],[[xn 5],[xn 2]]⟩;rw[aj4]at J P;clear T R p I;rw[qu]at g i j l o;unfold xz JU xaR vX gH pL pW pS pA yH yw vl ex0 at*;rw[YK]at g i j l o;unfold xC y6 qP w7 ut xn at*;refine aek.s T8 ?_;refine Sat.w (uF 5) ?_;refine Sat.w (uF 2) ?_;refine Sat.w (uF 1) ?_;refine Sat.w U ?_;refine Sat.w c2 ?_;refine Sat.w c3 ?_;refine Sat.w q1 ?_;refine Sat.w g ?_;refine Sat.w i ?_;refine Sat.w j ?_;refine Sat.w l ?_;refine Sat.w o ?_;refine⟨by omega,by show(1:Int)<=2;omega,by show(2:Int)<=4;omega,?_⟩;refine Sat.w J ?_;refine⟨by show(0:Int)<=2;omega,by show(2:Int)<=4;omega,?_⟩;refine Sat.w P ?_;rfl
def JR:Int ->List (List Val) ->Int
 |n,[]=>n
 |n,r::g=>bif decide (n<=800)then JR (IntKind.i64.wrap (IntKind.i64.wrap (n+1)+r.length)) g else n
def X0:Int ->List Nmd ->Int
 |n,[]=>n
 |n,x::xs=>bif decide (n<=800)then X0 (JR (IntKind.i64.wrap (n+x.t.cols.length)) x.t.rows) xs else n
def smI (d:List Nmd)(n:Int)(i:Nat):S:=⟨[(0,.w (.c (.d (.sl (zu d))))),(3,zg n),(4,zg i)],[]⟩
def smJ (d:List Nmd)(i:Nat)(n:Int)(j:Nat):S:=⟨[(0,.w (.c (.d (.sl (zu d))))),(3,zg n),(4,zg i),(5,zg j)],[]⟩
theorem an1 {n:Int}(h:decide (n<=800)=false)(g:List (List Val)):JR n g=n:=by
 cases g with
 |nil=>rfl
 |cons r g=>simp only[JR,h,cond_false]
theorem an0 {n:Int}(h:decide (n<=800)=false)(d:List Nmd):X0 n d=n:=by
 cases d with
 |nil=>rfl
 |cons r g=>simp only[X0,h,cond_false]
theorem afv: ∀{l:List (List D)},bnds l -> ∀e∈l,bndc e
 | [],_,e,g=>by cases g
 |x::r,h,e,g=>by
  simp only[bnds]at h;rcases List.mem_cons.1 g with rfl|g
  ·exact h.1
  ·exact afv h.2 e g
theorem ao1 {d:List Nmd}(h:bnd (.sl (zu d))):d.length<=9223372036854775807 /\ ∀x∈d,x.t.rows.length<=9223372036854775807:=by
 simp only[bnd]at h;rw[jz]at h;refine⟨h.1,λx g=>?_⟩;have:=afv h.2 x.ds (List.mem_map.2 ⟨x,g,rfl⟩);simp only[Nmd.ds,bndc,bnd]at this;have:=this.2.2.1.1;rw[zy]at this;exact this
theorem alY (d:List Nmd):Sat Pg vp [.c (.d (.sl (zu d)))] (λr=>r=rB (decide (X0 d.length d<=800))):=by
 suffices h: ∀y,X0 d.length d=y ->Sat Pg vp [.c (.d (.sl (zu d)))] (λr=>r=rB (decide (y<=800)))from h _ rfl
 intro y hy;refine QO (by kernel_rfl) λU=>?_
 have U:=U _ (List.mem_cons_self ..);simp only[aci,Vs]at U;obtain⟨aa,I⟩:=ao1 U;clear U;refine uM.s T8 ?_;rw[jz];refine yx (P:=Pg) (f:=T8.f) (body:=(uM.l 1)) (λz:Nat×Int=>smI d z.2 z.1) (λz=>d.length - z.1) (λz=>z.1<=d.length /\X0 z.2 (d.drop z.1)=y) ⟨(0,d.length),⟨Nat.zero_le _,hy⟩,zf ?_⟩ ?_
 ·exact rfl
 ·rintro⟨i,n⟩ ⟨hi,g⟩;have hi:i<=d.length:=hi;have g:X0 n (d.drop i)=y:=g;clear hy;show mwpR Pg T8.f (uM.l 1) _ (smI d n i);unfold smI;(conv=>whnf);rw[jz];refine zt (b:=decide ((i:Int)<d.length)&&decide (n<=800)) (λR=>?_) (λR=>?_)
  ·simp only[Bool.and_eq_true]at R;obtain⟨R,h2⟩:=R;have p:i<d.length:=by have:=of_decide_eq_true R;omega
   have hg:=aah p;have wi:=zA p aa;rw[zo p]at g;simp only[X0,h2,cond_true]at g;have I:=I _ (List.getElem_mem p);generalize d[i]=x at*;obtain⟨xn,⟨xc,o⟩⟩:=x;simp only at g I;(conv=>whnf);refine⟨by omega,_,hg,rfl,?_⟩;(conv=>whnf);rw[zP];generalize IntKind.i64.wrap (n+xc.length)=n1 at*;refine yx (P:=Pg) (f:=T8.f) (body:=(uM.l 0)) (λz:Nat×Int=>smJ d i z.2 z.1) (λz=>o.length - z.1) (λz=>z.1<=o.length /\X0 (JR z.2 (o.drop z.1)) (d.drop (i+1))=y) ⟨(0,n1),⟨Nat.zero_le _,g⟩,zf ?_⟩ ?_
   ·exact rfl
   ·rintro⟨j,n2⟩ ⟨hj,g⟩;have hj:j<=o.length:=hj;have g:X0 (JR n2 (o.drop j)) (d.drop (i+1))=y:=g;show mwpR Pg T8.f (uM.l 0) _ (smJ d i n2 j);unfold smJ;(conv=>whnf);refine⟨by omega,_,hg,rfl,?_⟩;(conv=>whnf);rw[zy];refine zt (b:=decide ((j:Int)<o.length)&&decide (n2<=800)) (λT=>?_) (λT=>?_)
    ·simp only[Bool.and_eq_true]at T;obtain⟨T,h4⟩:=T;have J:j<o.length:=by have:=of_decide_eq_true T;omega
     have ab:=xy J;have wj:=zA J I;rw[zo J]at g;simp only[JR,h4,cond_true]at g;generalize o[j]=r at*;(conv=>whnf);refine⟨by omega,_,hg,rfl,?_⟩;(conv=>whnf);refine⟨by omega,_,ab,rfl,?_⟩;(conv=>whnf);rw[zm];refine⟨(j+1,_),⟨⟨by show j+1<=o.length;omega,g⟩,by show o.length -(j+1)<o.length - j;omega⟩,zf ?_⟩;(conv=>whnf);rw[wj];rfl
    ·have g:X0 n2 (d.drop (i+1))=y:=by
      rcases Bool.and_eq_false_iff.1 T with h|h
      ·have:=of_decide_eq_false h;rw[List.drop_eq_nil_of_le (by omega)]at g;exact g
      ·rw[an1 h]at g;exact g
     (conv=>whnf);refine⟨(i+1,n2),⟨⟨by show i+1<=d.length;omega,g⟩,by show d.length -(i+1)<d.length - i;omega⟩,zf ?_⟩;(conv=>whnf);rw[wi];rfl
  ·have g:n=y:=by
    rcases Bool.and_eq_false_iff.1 R with h|h
    ·have:=of_decide_eq_false h;rw[List.drop_eq_nil_of_le (by omega)]at g;exact g
    ·rw[an0 h]at g;exact g
   subst g;exact rfl
theorem aiO: ∀(g:List (List Val)) (n:Int),0<=n ->n<=1000 ->(∀r∈g,r.length<=32) ->(JR n g<=800 ->n+g.length<=JR n g)/\0<=JR n g /\JR n g<=1000
 | [],n,h0,i,_=>⟨λ_=>by show n+0<=n;omega,h0,i⟩
 |r::g,n,h0,i,hr=>by
  simp only[JR];by_cases h:n<=800
  ·have I:=hr r (by simp);rw[decide_eq_true h,cond_true,ya (n:=n+1) (by omega) (by omega),ya (by omega) (by omega)];obtain⟨o,p,i3⟩:=aiO g (n+1+r.length) (by omega) (by omega) (λr l=>hr r (by simp[l]));refine⟨λj=>?_,p,i3⟩;have:=o j;simp only[List.length_cons];omega
  ·rw[decide_eq_false h,cond_false];exact⟨λj=>absurd j h,h0,i⟩
theorem aiN: ∀(d:List Nmd) (n:Int),0<=n ->n<=1000 ->(∀x∈d,x.t.cols.length<=32 /\ ∀r∈x.t.rows,r.length<=32) ->X0 n d<=800 ->n<=X0 n d /\ ∀x∈d,x.t.rows.length<=800
 | [],n,_,_,_,_=>⟨Int.le_refl _,λx i=>by cases i⟩
 |x::xs,n,h0,P,i,h=>by
  simp only[X0]at h⊢;by_cases j:n<=800
  ·obtain⟨J,l⟩:=i x (by simp);rw[decide_eq_true j,cond_true,ya (by omega) (by omega)]at h⊢;obtain⟨o,p,i3⟩:=aiO x.t.rows (n+x.t.cols.length) (by omega) (by omega) l;obtain⟨R,I⟩:=aiN xs _ p i3 (λy g=>i y (by simp[g])) h;have:=o (by omega);refine⟨by omega,λy g=>?_⟩;rcases List.mem_cons.1 g with rfl|g
   ·omega
   ·exact I y g
  ·rw[decide_eq_false j,cond_false]at h;exact absurd h j
theorem aic: ∀{d pre:List Nmd},uO pre d=0 -> ∀x∈d,zR x.t=0
 | [],_,_,x,i=>by cases i
 |y::r,pre,h,x,i=>by
  simp only[uO]at h;cases j:(wW y.nm !=0)
  ·rw[j,cond_false]at h;obtain⟨_,h⟩:=zO (by omega) h;cases g:(zR y.t !=0)
   ·rw[g,cond_false]at h;rcases List.mem_cons.1 i with rfl|i
    ·simpa using g
    ·exact aic h x i
   ·rw[g,cond_true]at h;rw[h]at g;cases g
  ·rw[j,cond_true]at h;rw[h]at j;cases j
theorem apT {d:List Nmd}(h:yu d=0): ∀x∈d,zR x.t=0:=by
 unfold yu at h;exact aic (zO (by omega) h).2
theorem apU {d:List Nmd}(h:yu d=0):d.length<=32:=by
 unfold yu at h;have:=of_decide_eq_false (zO (by omega) h).1;omega
theorem aki {d:List Nmd}(h:yu d=0)(hs:decide (X0 d.length d<=800)=true): ∀x∈d,x.t.rows.length<=800:=by
 have l:=apU h;refine(aiN d d.length (by omega) (by omega) (λx j=>?_) (of_decide_eq_true hs)).2;have i:=apT h x j;have g:=(vq i).1;exact⟨g,λr hr=>by rw[uZ i r hr];exact g⟩
def Jv (d:List Nmd)(name:ByteArray):Tbl:=(zI name d).getD ⟨[],[]⟩
theorem adW (name col:ByteArray)(lo hi:Int):(yR name col lo hi yH).base=(yR name col lo hi yH,[]):=rfl
theorem adb (name col:ByteArray)(lo hi:Int):(yR name col lo hi yH).Sm:=⟨Nat.zero_le _,akH,λs hs=>by cases hs⟩
theorem QP {d:List Nmd}{name c:ByteArray}{lo hi:Int}(h:y0 d (yR name c lo hi yH)=0):yu d=0 /\(yR name c lo hi yH).scans=true /\(qZ d ⟨name,[]⟩).1=0 /\(zl c ⟨#[]⟩=false ->qX (Jv d name) c=0):=by
 unfold y0 Pln.qry at h;rw[adW]at h;cases g:(yu d !=0)
 ·rw[g,cond_false]at h;cases j:(yR name c lo hi yH).scans
  ·rw[j]at h;cases h
  ·rw[j]at h;simp only[cond_true,Bool.not_true,cond_false]at h;have h:(bif (qZ d ⟨name,[]⟩).1 !=0 then(qZ d ⟨name,[]⟩).1 else bif zl c ⟨#[]⟩then 0 else qX (Jv d name) c)=0:=h;cases i:((qZ d ⟨name,[]⟩).1 !=0)
   ·rw[i,cond_false]at h;refine⟨by simpa using g,rfl,by simpa using i,λl=>?_⟩;rw[l]at h;exact h
   ·rw[i,cond_true]at h;rw[h]at i;cases i
 ·rw[g,cond_true]at h;rw[h]at g;cases g
theorem aiM {d:List Nmd}{name c:ByteArray}{lo hi:Int}(h:(yR name c lo hi yH).scans=true):QT (yR name c lo hi yH) (yR name c lo hi yH) 0:=⟨rfl,h,rfl⟩
theorem agT {d:List Nmd}{name c:ByteArray}{lo hi:Int}(h:y0 d (yR name c lo hi yH)=0):Sat Pg xl [(yR name c lo hi yH).w,.c (.d (.sl (zu d)))] (λr=>r=⟨.w (un d (yR name c lo hi yH)).w,[]⟩):=by
 obtain⟨P,h2,R,g⟩:=QP h;obtain⟨_,_,t,i,_⟩:=kO R;have i:zI name d=some t:=i;unfold un;cases j:zl (yR name c lo hi yH).col ⟨#[]⟩with
 |true=>exact K1 d _ j
 |false=>
  have g:=g j;unfold Jv at g;have l:zI (yR name c lo hi yH).tb d=some t:=i;rw[l];rw[i]at g;have g:qX t c=0:=g;have p:=V4 P i;unfold qX at g;cases o:decide (zj t.cols c<0)
  ·obtain⟨I,J⟩:=xW t.cols c (of_decide_eq_false o);obtain⟨T,U⟩:=t;exact K2 d _ j T U i (aml p).2 I (λr hr=>by rw[uZ p r hr];exact J)
  ·rw[o]at g;cases g
theorem akf {d:List Nmd}{name c:ByteArray}{lo hi:Int}(h:y0 d (yR name c lo hi yH)=0):Sat Pg ux [.c (.d (.sl (zu d))),(yR name c lo hi yH).w] (λr=>r=Y4 (0,un d (yR name c lo hi yH))):=by
 have hk:=wJ d _ (adb name c lo hi);rw[h]at hk;have hs:=(QP h).2.1;have g:=Qf _ _ 0 (aiM (d:=d) hs) (by omega);have hr:=Wu d ⟨[],[]⟩ (yR name c lo hi yH) _ (agT h);rw[qu]at hk g⊢;exact YO d _ hk [] (Nat.zero_le _) _ g _ hr (λ_ _=>True) trivial (λi h=>absurd h (Nat.not_lt_zero i)) (λi h=>absurd h (Nat.not_lt_zero i)) _ rfl
theorem gB {d:List Nmd}{name c:ByteArray}{lo hi:Int}(h:y0 d (yR name c lo hi yH)=0):Sat Pg Zl [.c (.d (.sl (zu d))),(yR name c lo hi yH).w] (λr=>r=KT ((un d (yR name c lo hi yH)).rows.length,0)):=by
 have hk:=wJ d _ (adb name c lo hi);rw[h]at hk;have hs:=(QP h).2.1;have hr:=agT h;rw[qu]at hk hr⊢;exact Ws d _ hk _ 0 (aiM (d:=d) hs) _ hr
theorem apc {d:List Nmd}{name c:ByteArray}{lo hi:Int}(h:y0 d (yR name c lo hi yH)=0):y0 d (yR name ⟨#[]⟩ 0 0 yH)=0:=by
 obtain⟨g,_,i,_⟩:=QP h;have hs:(yR name ⟨#[]⟩ 0 0 yH).scans=true:=by
  show ZV 1 ⟨#[]⟩ 0 0 yH 0=true;simp only[ZV,YV,AM.beqS_self]
  decide+kernel
 unfold y0 Pln.qry;rw[adW,g,hs];show(bif (qZ d ⟨name,[]⟩).1 !=0 then(qZ d ⟨name,[]⟩).1 else bif zl ⟨#[]⟩ ⟨#[]⟩then 0 else _)=0;rw[i,AM.beqS_self];rfl
theorem aoI {d:List Nmd}{name c:ByteArray}{lo hi:Int}(o:(y6 c).chk=0)(h:y0 d (yR name c lo hi yH)=0)(hs:decide (X0 d.length d<=800)=true):Sat Pg Zm [.c (.d (.sl (zu d))),Qry.w ⟨name,[yw (qm c lo hi)]⟩] (λr=>r=Y4 (0,un d (yR name c lo hi yH))):=by
 obtain⟨j,_,l,_⟩:=QP h;obtain⟨_,_,t,g,_⟩:=kO l;have g:zI name d=some t:=g;have p:=apd o h;have hr:=ao9 d ⟨name,[yw (qm c lo hi)]⟩ (λs hs=>by rw[List.mem_singleton.1 hs];exact⟨Nat.zero_le _,Nat.zero_le _,Nat.zero_le _,Nat.zero_le _⟩) (λ_=>by
  have e:Jn d ⟨name,[yw (qm c lo hi)]⟩=t:=by unfold Jn;rw[g];rfl
  rw[e];obtain⟨x,I,rfl⟩:=ads g;have:=aki j hs x I;exact⟨by omega,λi=>absurd i (by show¬((1:Int)=6\/(1:Int)=7);omega),⟨Nat.zero_le _,Nat.zero_le _,Nat.zero_le _,Nat.zero_le _⟩,λ_=>trivial⟩)
 rw[p.1]at hr;exact hr
theorem al2 (d:List Nmd)(name c:ByteArray)(lo hi:Int):(un d (yR name c lo hi yH)).rows.length<=(Jv d name).rows.length:=by
 unfold un;cases zl (yR name c lo hi yH).col ⟨#[]⟩
 ·exact List.length_filter_le _ _
 ·exact Nat.le_refl _
theorem al3 (d:List Nmd)(name:ByteArray):un d (yR name ⟨#[]⟩ 0 0 yH)=Jv d name:=by
 unfold un;rw[show zl (yR name ⟨#[]⟩ 0 0 yH).col ⟨#[]⟩=true from AM.beqS_self _];rfl
theorem aiL (name c:ByteArray)(lo hi:Int):(yR name c lo hi yH).cs=[int 1,str name,str c,int lo,int hi,int 0,int 0,str ⟨#[]⟩,int 0,int 0,str ⟨#[]⟩,.d (.sl []),.d (.sl []),.d (.sl []),.d (.sl []),.d (.sl []),int 0,str ⟨#[]⟩,.d (.sl [])]:=rfl
theorem agw (d:List Nmd)(name:ByteArray)(P:Pln)(hs:Sat Pg vp [.c (.d (.sl (zu d)))] (λr=>r=rB false)):Sat Pg qR [.c (.d (.sl (zu d))),.c (str name),.agg P.cs] (λr=>r=rB true):=by
 obtain⟨op,tb,col,lo,hi,⟨p,⟨J,R,⟨T,U,vs⟩,l⟩,g,o,j,i,n,I⟩,ks⟩:=P;refine vu.s T8 ?_;refine Sat.w hs ?_;refine Sat.w XE ?_;rfl
theorem agx (d:List Nmd)(name:ByteArray)(P:Pln)(hs:Sat Pg vp [.c (.d (.sl (zu d)))] (λr=>r=rB true))(e:Int)(p:(e !=0)=true)(I:Sat Pg Zz [(y6 P.col).w] (λr=>r=rI e)):Sat Pg qR [.c (.d (.sl (zu d))),.c (str name),.agg P.cs] (λr=>r=rB true):=by
 have o:=uE P.col;obtain⟨op,tb,col,lo,hi,⟨R,⟨U,nm,⟨vk,vn,vs⟩,l⟩,g,J,j,i,n,T⟩,ks⟩:=P;unfold y6 ut at*;refine vu.s T8 ?_;refine Sat.w hs ?_;refine Sat.w o ?_;refine Sat.w I ?_;rw[p];refine Sat.w XE ?_;rfl
theorem agy (d:List Nmd)(name:ByteArray)(P:Pln)(hs:Sat Pg vp [.c (.d (.sl (zu d)))] (λr=>r=rB true))(I:Sat Pg Zz [(y6 P.col).w] (λr=>r=rI 0))(e:Int)(p:(e !=0)=true)(hr:Sat Pg ux [.c (.d (.sl (zu d))),.agg (yR name P.col P.lo P.hi yH).cs] (λr=>r=Y4 (e,⟨[],[]⟩))):Sat Pg qR [.c (.d (.sl (zu d))),.c (str name),.agg P.cs] (λr=>r=rB true):=by
 have o:=uE P.col;obtain⟨op,tb,col,lo,hi,⟨R,⟨U,nm,⟨vk,vn,vs⟩,l⟩,g,J,j,i,n,T⟩,ks⟩:=P;rw[aiL]at hr;unfold y6 ut at*;refine vu.s T8 ?_;refine Sat.w hs ?_;refine Sat.w o ?_;refine Sat.w I ?_;refine Sat.w hr ?_;rw[p];refine Sat.w XE ?_;rfl
theorem agz (d:List Nmd)(name:ByteArray)(P:Pln)(hs:Sat Pg vp [.c (.d (.sl (zu d)))] (λr=>r=rB true))(hx:Sat Pg Zz [(y6 P.col).w] (λr=>r=rI 0))(X Y:Tbl)(hr:Sat Pg ux [.c (.d (.sl (zu d))),.agg (yR name P.col P.lo P.hi yH).cs] (λr=>r=Y4 (0,X)))
 (j:Sat Pg Zl [.c (.d (.sl (zu d))),.agg (yR name P.col P.lo P.hi yH).cs] (λr=>r=KT (X.rows.length,0))) (g:Sat Pg Zl [.c (.d (.sl (zu d))),.agg (yR name ⟨#[]⟩ 0 0 yH).cs] (λr=>r=KT (Y.rows.length,0)))
 (U:Sat Pg Zm [.c (.d (.sl (zu d))),Qry.w ⟨name,[yw (qm P.col P.lo P.hi)]⟩] (λr=>r=Y4 (0,X))) (hf:Sat Pg jq [.c (.d (.sl (zu d))),.c (str name)] (λr=>r=rF (some Y))) (i:X.rows.length<=Y.rows.length):
 Sat Pg qR [.c (.d (.sl (zu d))),.c (str name),.agg P.cs] (λr=>r=rB true):=by
 have l:=uE P.col;have c1:=jE P.lo;have c2:=jE P.hi;have t1:=ZD 13 (qP P.lo) (y6 P.col);have t2:=ZD 13 (y6 P.col) (qP P.hi);have t3:=ZD 14 (w7 13 (qP P.lo) (y6 P.col)) (w7 13 (y6 P.col) (qP P.hi));have T:=Xt X X;rw[abF]at T;rw[<- zy]at j g;have i:decide (((zh X.rows).length:Int)<=(zh Y.rows).length)=true:=by rw[zy,zy];exact decide_eq_true (by omega)
 obtain⟨op,tb,col,lo,hi,⟨ac,⟨eo,nm,⟨vk,vn,vs⟩,aa⟩,o,ab,R,p,n,ad⟩,ks⟩:=P;rw[aiL]at hr j g;obtain⟨xc,I⟩:=X;obtain⟨yc,J⟩:=Y;unfold qm yw at U;unfold y6 qP w7 ut at*;simp only at j g i;refine vu.s T8 ?_;refine Sat.w hs ?_;refine Sat.w l ?_;refine Sat.w hx ?_;refine Sat.w hr ?_;refine Sat.w j ?_;refine Sat.w g ?_;refine Sat.w c1 ?_;refine Sat.w l ?_;refine Sat.w t1 ?_;refine Sat.w l ?_;refine Sat.w c2 ?_;refine Sat.w t2 ?_;refine Sat.w t3 ?_;refine Sat.w U ?_;refine Sat.w hf ?_;refine zt (λ_=>?_) (λh=>?_)
 rotate_left
 ·exfalso;have h:((0:Int)==0&&(0:Int)==0&&(0:Int)==0&&((zh I).length:Int)==(zh I).length&&((zh J).length:Int)==(zh J).length&&decide (((zh I).length:Int)<=(zh J).length))=false:=h;rw[i]at h;simp at h
 refine Sat.w T ?_;refine Sat.w XE ?_;rfl
theorem ac1 (d:List Nmd)(name:ByteArray)(P:Pln):Sat Pg qR [.c (.d (.sl (zu d))),.c (str name),P.w] (λr=>r=rB true):=by
 have hs:=alY d;rw[qu];cases I:decide (X0 d.length d<=800)with
 |false=>
  rw[I]at hs;exact agw d name P hs
 |true=>
  rw[I]at hs;have p:=Xr (y6 P.col);by_cases J:(y6 P.col).chk=0
  ·rw[J]at p;by_cases i:y0 d (yR name P.col P.lo P.hi yH)=0
   ·have hr:=akf i;have T:=gB i;have g:=gB (apc i);rw[al3]at g;rw[qu]at hr T g;have hn:=aoI J i I;obtain⟨_,_,U,_⟩:=QP i;obtain⟨_,_,t,o,_⟩:=kO U;have o:zI name d=some t:=o;have R:=xg d name;rw[o]at R;have hw:Jv d name=t:=by unfold Jv;rw[o];rfl
    have l:=al2 d name P.col P.lo P.hi;rw[hw]at g l;exact agz d name P hs p _ _ hr T g hn R l
   ·have hk:=wJ d _ (adb name P.col P.lo P.hi);have j:(y0 d (yR name P.col P.lo P.hi yH) !=0)=true:=by simpa using i
    rw[qu]at hk;exact agy d name P hs p _ j (aat d _ _ j hk)
  ·exact agx d name P hs _ (by simpa using J) p
end
end Go.Proofs.YtkdijaiaplkliaaGreatDoor
