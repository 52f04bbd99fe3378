import Derived.Test.YtnlbmefhdiabcaaGreatZt12
set_option linter.unusedSimpArgs false
set_option linter.unusedVariables false
set_option maxRecDepth 100000
set_option maxHeartbeats 4000000
open _root_ renaming List->am,bne_self_eq_false->aB
open Go.AM.Sat renaming w->aA,mono->aC
namespace Go.Proofs.YtnlbmefhdiabcaaGreat
open Go Go.AM
section
attribute [local irreducible] Sat zH z6 zl
def lgS(d:am Nmd)(g:ByteArray)(l:am Stp)(rows:am (am Val))(i:Nat):S:=
 ⟨[(0,.w (.c (.d (.sl (zL d))))),(2,.w (.c (.d (.sl (zd rows))))),(4,cV (.ptr 4 0)),(7,zh i)],[(4,.box [str g,.d (.sl (vp l))])]⟩
def lgT(g:ByteArray)(l:am Stp)(b:Tbl)(z:am Chg)(E j:Int)(i:Nat):S:=
 ⟨[(4,cV (.ptr 4 0)),(8,.w (.c (.d (.sl (yz z))))),(9,.w (.c (int E))),(13,.w (.c (int j))),(14,cV (.ptr 14 0)),(16,zh i)],[(4,.box [str g,.d (.sl (vp l))]),(14,.box [.d (.sl (zj b.cols)),.d (.sl (zd b.rows))])]⟩
theorem axe{d}{q}{rows}{z}(H:FewG d q rows)(j:(runQ d q).1=0)(i:gE d q q.src rows≠0->z=[])(R:gE d q q.src rows=0->DiffOk (runQ d q).2 (gAf d q q.src rows) z):Sat Pg adS [(runQ d q).2.w,Xf z] (λr=>∃x y w,r=⟨.tup [.agg [.d (.sl x),.d (.sl y)],.c (int w)],[]⟩/\(gE d q q.src rows=0->w=0)):=by
 have I:=H.k.len j;have p:=(H.k.run (kF j)).2.2.2.1;have T:=((qY _).1 p).1;by_cases h:gE d q q.src rows=0
 .have D:=R h;obtain⟨_,t,U,l,J⟩:=aCa h;obtain⟨_,o,g⟩:=azm J;have hl:=D.len;have P:=((qY _).1 o).2.1;refine(afO _ z ej ej ej).mono λr hr=>?_
  obtain⟨ws,_,_,_,rfl⟩:=aBx p o g D hr;exact⟨_,_,0,rfl,λ_=>rfl⟩
 have e:=i h;subst e;refine(afO _ [] ej ep ej).mono λr hr=>?_
 rcases aqV hr with⟨e,_,rfl⟩|⟨u,z,n,_,_,_,_,_,_,rfl⟩
 .exact⟨_,_,e,rfl,λl=>absurd l h⟩
 exact⟨_,_,0,rfl,λ_=>rfl⟩
theorem ap4(d)(q:Qry)(rows)(aj:q.src.size<=9223372036854775807)(ao:∀s∈q.steps,∀r∈s.sorts,r.col.size<=9223372036854775807):ex afd [.c (.d (.sl (zL d))),q.w,.c (.d (.sl (zd rows)))] (rB true):=by
 have I:=ax9;have f1:=aAH d q;have f2:=afQ ⟨[],rows⟩;have hG:=@aE0 d q rows;have J:=@azH d q;generalize acL d q=b1,aeV ⟨[],rows⟩=b2 at*;refine yZ 0 er rfl λP=>?_
 rw[xZ]at P;obtain⟨g,l⟩:=q;refine Xc.s T9 ?_;refine aA I ?_;refine aA f1 ?_;cases b1 with
 |false=>
  refine aA I ?_;exact rfl
 |true=>
  refine aA f2 ?_;cases b2 with
  |false=>
   refine aA I ?_;exact rfl
  |true=>
   (conv=>whnf);rw[zq];refine zg (b:=decide ((rows.length:Int)>10)) (λh=>?_) (λh=>?_)
   .refine aA I ?_;exact rfl
   have hr:rows.length<=10:=ek
   refine xm T9 (Xc.l 0) d.length (λi=>lgS d g l rows i) (λi=>∀x∈d.take i,x.t.rows.length<=14) ?_ (h0:=λx hx=>by cases hx);intro i hi T;unfold lgS;(conv=>whnf);rw[xZ];refine xL (λj=>?_) (λag=>?_)
   .have hg:=jq j;have wi:=zu j P;have hn:∀x∈d.take (i+1),x=d[i]\/x∈d.take i:=λx hx=>by grind[List.take_append_getElem]
    generalize d[i]=x at*;obtain⟨xn,⟨xc,xr⟩⟩:=x;refine zw hg ?_;rw[zq];refine zg (b:=decide ((xr.length:Int)>14)) (λp=>?_) (λp=>?_)
    .exact rfl
    refine zI j (λx hx=>?_) ?_
    .grind
    rw[wi];rfl
   rw[List.take_of_length_le ag]at T;obtain⟨H,ac⟩:=hG rfl T hr;have hS:∀s∈l,s.R:=λs hs=>⟨J rfl s hs,ao s hs⟩
   have ac:l.length<=10:=ac;have aa:=λname=>(aDn d ⟨g,l⟩ name rows H).mono λr=>an2
   have ad:=(anc d ⟨g,l⟩ g rows H hS aj).mono λr=>an2
   have hL:=Kn ⟨g,l⟩ g (λs hs=>Nat.le_trans (H.sm s hs).sorts ej);have ak:=ajl ⟨g,l⟩ g hS (show l.length<=100000 by omega) aj;have ae:=H.k.sat;have an:=@aHw d ⟨g,l⟩ rows;have al:=@aGt d ⟨g,l⟩ sNo rows;have ah:=@aGt d ⟨g,l⟩ g rows;(conv=>whnf);refine aC (aa g) ?_;rintro _ ⟨z,rfl,z1,z2⟩;(conv=>whnf);refine aC ad ?_;rintro _ ⟨o,rfl,w1,w2⟩;have e:o=z:=by
    by_cases h:gE d ⟨g,l⟩ g rows=0
    .exact(w2 h).unique (z2 h)
    grind
   subst e;have U:=λh=>axe H h z1 z2
   have ai:=λh hl c hc=>aCc (z:=o) H h (z2 h) hl c hc
   have ab:∀c∈o,Wc ⟨g,l⟩ g=true->¬c.n<0:=λc hc hl=>ek
   have af:=anf o o;rw[asU]at af;have hz:o.length<=9223372036854775807:=by
    by_cases h:gE d ⟨g,l⟩ g rows=0
    .obtain⟨_,t,_,_,h3⟩:=aCa h;obtain⟨ha,hb,_⟩:=azm h3;have:=(z2 h).len<;>grind[qY]
    grind
   clear ai z2 w2 w1 ad f1 f2 hG J T hS;have hN:=aa sNo;clear aa;generalize gE d ⟨g,l⟩ g rows=E,Wc ⟨g,l⟩ g=LB at*;generalize gE d ⟨g,l⟩ sNo rows=E2 at*;(conv=>whnf);rw[aB];refine aA af ?_;refine aA hL ?_;refine aA ak ?_;rw[aB];(conv=>whnf);refine aC hN ?_;rintro _ ⟨zn,rfl,_,_⟩;generalize runQ d ⟨g,l⟩=X at*;obtain⟨x1,⟨xc,xr⟩⟩:=X;refine aA ae ?_;refine zg (b:=x1 !=0) (λp=>?_) (λp=>?_)
   .have p:x1≠0:=ek
    rw[al p,ah p];(conv=>whnf);rw[beq_self_eq_true];exact rfl
   have p:x1=0:=ek
   rw[an p];have U:=U p;refine xm T9 (Xc.l 1) o.length (λi=>lgT g l ⟨xc,xr⟩ o E 17 i) (λ_=>True) ?_;intro i hi _;unfold lgT;(conv=>whnf);rw[xA];refine xL (λj=>?_) (λag=>?_)
   .have hg:=jf j;have wi:=zu j hz;have ab:=ab o[i] (List.getElem_mem j);generalize o[i]=c at*;obtain⟨row,n⟩:=c;refine zw hg ?_;refine zg (b:=decide (n<0)) (λh3=>?_) (λh3=>?_)
    .have e:LB=false:=by
      cases LB
      .rfl
      exact absurd (of_decide_eq_true h3) (ab rfl)
     rw[e]at hL;refine aA hL ?_;refine zI j trivial ?_;rw[wi];rfl
    refine zI j trivial ?_;rw[wi];rfl
   (conv=>whnf);refine aC U ?_;rintro _ ⟨x,y,w,rfl,hw⟩;have hb:(E !=0||w==0)=true:=by by_cases h3:E=0<;>simp_all
   (conv=>whnf);show axK _ _ (.w (.c (bool ((17:Int)==17&&(E !=0||w==0)))))=_;rw[hb];exact rfl
end
end Go.Proofs.YtnlbmefhdiabcaaGreat
