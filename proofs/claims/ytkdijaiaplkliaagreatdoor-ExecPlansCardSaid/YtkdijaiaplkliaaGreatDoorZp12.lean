import Derived.Test.YtkdijaiaplkliaaGreatDoorRows
import Derived.Lib.LaidPrint
import Derived.Test.YtkdijaiaplkliaaGreatDoorZp11
set_option linter.unusedSimpArgs false
set_option linter.unusedVariables false
set_option maxRecDepth 100000
set_option maxHeartbeats 4000000
open _root_ renaming cond_false->am,List->aA,cond_true->aE
open Go.AM.Sat renaming w->aB
open Go.Proofs.YtkdijaiaplkliaaGreatDoor.Rows renaming laid_internal_strconv_uint64pow10->aC,laid_unicode_utf8_acceptRanges->aD
open Go.Proofs.YtkdijaiaplkliaaGreatDoor.Stp renaming foldS->aF
open Go.Pinned renaming isNotPrint16->aG,isNotPrint32->aH,isPrint16->aJ,isPrint32->aK,utf8First->aL
open Go.Proofs.Tryz renaming lays177_ren->aI
open List renaming drop_eq_nil_of_le->aM
open Go renaming World->aN,DataW->aR
open Bool renaming or_eq_false_iff->aO,and_eq_true_iff->aP
open Option.some renaming inj->aQ
namespace Go.Proofs.YtkdijaiaplkliaaGreatDoor
open Go Go.AM
theorem anO{s:ByteArray}(h:yB s=true):zo s ⟨#[]⟩=false:=by grind[yB]
theorem aky{i:ByteArray}{v:Val}{k:aA Ex}(h:(Ex.mk 2 i v k).err=0):yB i=true:=by
 have g:=(vf h).1;unfold yD qh at g;simp only[show((2:Int)==1)=false from rfl,show((2:Int)==2)=true from rfl,show((2:Int)==16)=false from rfl,am,aE,Bool.true_and,Bool.false_and]at g
 grind
theorem azM{cols:aA Col}{x:Ex}(p:x.err=0){b:Bnd}(g:Xq cols x=some b):zo b.col ⟨#[]⟩=false/\0<=zf cols b.col/\xA cols (zf cols b.col)=2:=by
 obtain⟨op,nm,v,ks⟩:=x;unfold Xq at g;split at g
 case h_2=>cases g
 rename_i aa R v' U J v1 r o2 P v2 I heq;cases heq;have i:=un (vf p).2;cases j:((op !=12&&op !=13)&&op !=10)
 .rw[j,am]at g;cases o:(U==2)
  .rw[o,am]at g;obtain⟨rfl,rfl,hk,h0,l,rfl⟩:=KQ g;exact⟨anO (aky (i _ dT :(Ex.mk 2 P v2 I).err=0)),h0,l⟩
  rw[o,aE]at g;obtain⟨rfl,rfl,hk,h0,l,rfl⟩:=KQ g;exact⟨anO (aky (i _ dT :(Ex.mk 2 J v1 r).err=0)),h0,l⟩
 grind
def awc(cols:aA Col)(p:Bnd):Prop:=(p.col=⟨#[]⟩/\p.lo=0/\p.hi=0)\/(zo p.col ⟨#[]⟩=false/\ -1000000000000000<=p.lo/\p.hi<=1000000000000000/\0<=zf cols p.col/\xA cols (zf cols p.col)=2)
theorem ao4{cols:aA Col}:∀(l:aA Ex) (p:Bnd),(∀x∈l,x.err=0)->awc cols p->awc cols (l.foldl (λp e=>jp p (Xq cols e)) p)
 |[],p,_,g=>g
 |x::l,p,i,g=>by
  rw[List.foldl_cons];refine ao4 l _ (λy J=>i y (by simp[J])) ?_;cases I:Xq cols x with
  |none=>exact g
  |some b=>
   obtain⟨j,o,r⟩:=azM (i x dT) I;unfold jp;simp only;cases h1:(!zo p.col ⟨#[]⟩&&!zo p.col b.col)
   .rw[am];cases h2:zo p.col ⟨#[]⟩
    .rw[am];rcases g with⟨g,_⟩|⟨P,q2,q3,R,U⟩
     .grind[AM.beqS_self]
     refine .inr ⟨P,?_,?_,R,U⟩<;>grind[QL,Vn]
    rw[aE];refine .inr ⟨j,?_,?_,o,r⟩<;>grind[QL,Vn]
   simp_all
theorem arc{n:Int}(g: -1000000000000000<=n)(i:n<=1000000000000000):inB n=true:=V6 g i
theorem aAo(g:ByteArray)(cols:aA Col){e:Ex}(J:e.err=0):(wT g cols e).scans=true/\(zo (wT g cols e).col ⟨#[]⟩=false->0<=zf cols (wT g cols e).col/\xA cols (zf cols (wT g cols e).col)=2):=by
 have hi:awc cols (vm cols e.opds):=ao4 e.opds ⟨⟨#[]⟩,0,0⟩ (λx P=>abG e J x P) (.inl ⟨rfl,rfl,rfl⟩);unfold wT;generalize vm cols e.opds=p at*;have i:(yJ p).col=p.col:=by grind[yJ]
 have R:Yr ua=true:=by grind[Yr,ua,Ex.zero,VP,xf,AM.beqS_self]
 constructor
 .show Qs 1 (yJ p).col (yJ p).lo (yJ p).hi ua (([]:aA Pln).length:Int)=true;unfold Qs;rw[R];show(bif zo (yJ p).col ⟨#[]⟩then(yJ p).lo==0&&(yJ p).hi==0 else(inB (yJ p).lo&&(inB (yJ p).hi&&decide ((yJ p).lo<=(yJ p).hi)))||((yJ p).lo==1&&(yJ p).hi==0))=true;rw[i];rcases hi with⟨l,o,r⟩|⟨l,o,r,_,_⟩
  .grind[yJ,AM.beqS_self]
  rw[l,am];unfold yJ;by_cases I:p.lo>p.hi
  .simp_all
  rw[decide_eq_false I,am,arc o d8,arc d8 r,decide_eq_true (by omega:p.lo<=p.hi)];rfl
 intro j;have j:zo (yJ p).col ⟨#[]⟩=false:=j;show 0<=zf cols (yJ p).col/\xA cols (zf cols (yJ p).col)=2;rw[i]at j⊢;rcases hi with⟨l,_⟩|⟨_,_,_,U,h5⟩
 .grind[AM.beqS_self]
 grind
theorem arJ(g:ByteArray):(Qt g).scans=true:=by
 have i:Yr ua=true:=by grind[Yr,ua,Ex.zero,VP,xf,AM.beqS_self]
 show Qs 1 ⟨#[]⟩ 0 0 ua (([]:aA Pln).length:Int)=true
 grind[Qs,AM.beqS_self]
theorem art{d:aA Nmd}{q:Qry}(h:(vi d q).1=0):(QM q.src (Xi d q.src).cols q.steps q.steps.length).qry=(⟨q.src,q.steps.map aF⟩,true)/\vi d ⟨q.src,q.steps.map aF⟩=vi d q/\qj d (QM q.src (Xi d q.src).cols q.steps q.steps.length)=0:=by
 obtain⟨J,l,t,hf,aa⟩:=ab4 h;have hw:Xi d q.src=t:=by grind[Xi]
 rw[hw];obtain⟨hb,_⟩:=ajC q.src t.cols q.steps;have g:(jV d t.cols q.steps).1=0:=d9
 obtain⟨f1,f2⟩:=akz g;have U:(Zr q.src t.cols q.steps).scans=true/\(Zr q.src t.cols q.steps).tb=q.src/\(zo (Zr q.src t.cols q.steps).col ⟨#[]⟩=false->uW t (Zr q.src t.cols q.steps).col=0):=by
  cases P:q.steps with
  |nil=>exact⟨arJ _,rfl,λi=>by have:zo ⟨#[]⟩ ⟨#[]⟩=false:=i<;>grind[AM.beqS_self]⟩
  |cons s r=>
   show(bif s.op==1 then wT q.src t.cols s.cond.foldE else Qt q.src).scans=true/\(bif s.op==1 then wT q.src t.cols s.cond.foldE else Qt q.src).tb=q.src/\(zo (bif s.op==1 then wT q.src t.cols s.cond.foldE else Qt q.src).col ⟨#[]⟩=false->uW t (bif s.op==1 then wT q.src t.cols s.cond.foldE else Qt q.src).col=0);cases ho:(s.op==1)
   .rw[am];exact⟨arJ _,rfl,λi=>by have:zo ⟨#[]⟩ ⟨#[]⟩=false:=i<;>grind[AM.beqS_self]⟩
   rw[aE];rw[P]at g;simp only[jV]at g;have I:(zT d t.cols s).1=0:=by
    cases i:((zT d t.cols s).1 !=0)
    .grind
    simp_all
   have j:=(V4 (Kx d9 I)).1;obtain⟨a,b⟩:=aAo q.src t.cols (ji j);refine⟨a,rfl,λi=>?_⟩
   grind[uW]
 have o:(QM q.src t.cols q.steps q.steps.length).qry=(⟨q.src,q.steps.map aF⟩,true):=by simp_all[Pln.qry]
 have R:(⟨q.src,q.steps.map aF⟩:Qry).err=0:=by
  unfold Qry.err at l⊢;simp only[List.length_map];cases p:(!yB q.src)
  .rw[p,am]at l;cases c2:decide ((q.steps.length:Int)>16)
   .rw[am,am];refine aiM.2 λs hs=>?_
    grind
   grind
  grind
 grind[vi,qj]
theorem aqB{cols:aA Col}{rows:aA (aA Val)}{e:Ex}(g:e.chk=0)(j:(e.ty cols).2=0)(i:zo (yJ (vm cols e.opds)).col ⟨#[]⟩=false):
 whereR cols (rows.filter (K2 (zf cols (yJ (vm cols e.opds)).col).toNat (yJ (vm cols e.opds)).lo (yJ (vm cols e.opds)).hi)) e=whereR cols rows e:=by unfold whereR<;>grind[List.filter_filter,auk,avC,ji,Jp]
theorem aor{d:aA Nmd}{q:Qry}(h:(vi d q).1=0):exR d (QM q.src (Xi d q.src).cols q.steps q.steps.length)=runS d (Ks d q) q.steps:=by
 obtain⟨_,_,o⟩:=art h;obtain⟨g,he,t,hf,aa⟩:=ab4 h;have hw:Xi d q.src=t:=by grind[Xi]
 have hs:Ks d q=t:=by grind[Ks]
 have I:=vq g hf;rw[hw]at o⊢;rw[hs];obtain⟨P,hn⟩:=ajC q.src t.cols q.steps;have i:(jV d t.cols q.steps).1=0:=d9
 have j:=aby (QM q.src t.cols q.steps q.steps.length);have hv:=arv o;unfold exR;rw[o];show Ww (oStep d) (ZV d (QM q.src t.cols q.steps q.steps.length).base.1) (QM q.src t.cols q.steps q.steps.length).nodes=_;rw[avf d _ _ g hv j,hn,ave d (λs=>(u6 s.op,s.foldS)) (λ_=>rfl),P];rw[P]at hv;have hv:zH (ZV d (Zr q.src t.cols q.steps))=0:=hv;show runS d (ZV d (Zr q.src t.cols q.steps)) (q.steps.map aF)=_;rw[<-adW g I i];have U:ZV d (Qt q.src)=t:=by
  show(bif zo ⟨#[]⟩ ⟨#[]⟩then(zU q.src d).getD ⟨[],[]⟩else _)=t
  grind[AM.beqS_self]
 cases hl:q.steps with
 |nil=>grind[Zr]
 |cons s r=>
  rw[hl]at hv i;have e0:Zr q.src t.cols (s::r)=bif s.op==1 then wT q.src t.cols s.cond.foldE else Qt q.src:=rfl
  rw[e0]at hv⊢;cases ho:(s.op==1)
  .simp_all
  rw[ho,aE]at hv;rw[aE];have l:s.op=1:=d9
  simp only[jV]at i;have J:(zT d t.cols s).1=0:=by
   cases R:((zT d t.cols s).1 !=0)
   .grind
   simp_all
  obtain⟨k1,k2,k3,_⟩:=V4 (Kx l J);have k2:(s.cond.foldE.ty t.cols).2=0:=by grind[Ex.tyE]
  obtain⟨f1,f2⟩:=agq J;have p:ZV d (wT q.src t.cols s.cond.foldE)=bif zo (yJ (vm t.cols s.cond.foldE.opds)).col ⟨#[]⟩then t else⟨t.cols,t.rows.filter (K2 (zf t.cols (yJ (vm t.cols s.cond.foldE.opds)).col).toNat (yJ (vm t.cols s.cond.foldE.opds)).lo (yJ (vm t.cols s.cond.foldE.opds)).hi)⟩:=by
   show(bif zo (yJ (vm t.cols s.cond.foldE.opds)).col ⟨#[]⟩then(zU q.src d).getD ⟨[],[]⟩else⟨((zU q.src d).getD ⟨[],[]⟩).cols,((zU q.src d).getD ⟨[],[]⟩).rows.filter (K2 (zf ((zU q.src d).getD ⟨[],[]⟩).cols (yJ (vm t.cols s.cond.foldE.opds)).col).toNat (yJ (vm t.cols s.cond.foldE.opds)).lo (yJ (vm t.cols s.cond.foldE.opds)).hi)⟩)=_
   grind
  rw[p]at hv⊢;cases R:zo (yJ (vm t.cols s.cond.foldE.opds)).col ⟨#[]⟩
  .rw[R,am]at hv;rw[am]
   grind[adG,aF,stR,aqB,runS]
  rfl
noncomputable def exQ(d:aA Nmd)(q:Qry):Int×Tbl:=bif (ofQ d q).1 !=0 then((ofQ d q).1,⟨[],[]⟩)else exR d (ofQ d q).2
theorem au8(d:aA Nmd)(q:Qry):exQ d q=nRunL d q:=by
 unfold exQ nRunL ofQ;cases h:((vi d q).1 !=0)
 .simp_all[aor]
 simp only[aE,h]
section
attribute [local irreducible] Sat zA zX
theorem aql(d:aA Nmd)(U:yH d=0)(p:ByteArray)(l:aA Stp)(y2:aA Col)(ah:l.length<=16)(ab:∀s∈l,s.Sm)(hQ:dY wK [.c (.d (.sl (zq d))),Qry.w ⟨p,l⟩] (xH (0,y2)))(tc:aA Col)(tr:aA (aA Val))(hf:zU p d=some ⟨tc,tr⟩)(y:Int×Tbl)(hy:runS d ⟨tc,tr⟩ l=y):
 dY ZR [.c (.d (.sl (zq d))),Qry.w ⟨p,l⟩] (wO y):=by
 have ac:=vq U hf;have aa:=y4 d p;rw[hf]at aa;clear hf;have J:=λt s h1 h2=>acw d t s h1 h2
 have j:=λt s=>adH (d:=d) (t:=t) (s:=s) U
 refine zC ?_;refine kT.s T8 ?_;refine aB hQ ?_;refine aB aa ?_;refine yq (P:=Pg) (f:=T8.f) (body:=(kT.l 0)) (λz:Nat×Tbl=>⟨[(0,.w (.c (.d (.sl (zq d))))),(4,cV (.ptr 4 0)),(8,cV (.ptr 8 0)),(32,.w (.c (.d (.sl (qB l))))),(33,zm (qB l).length),(34,zm z.1)],[(4,.box [.nil,.nil]),(8,.box [.d (.sl (zl z.2.cols)),.d (.sl (zg z.2.rows))])]⟩) (λz=>l.length-z.1) (λz=>z.1<=l.length/\zH z.2=0/\y=runS d z.2 (l.drop z.1)) ⟨(0,⟨tc,tr⟩),⟨Nat.zero_le _,ac,hy.symm⟩,ze ?_⟩ ?_
 .exact rfl
 rintro⟨i,⟨c,R⟩⟩ hz;obtain⟨hi,hK,o⟩:i<=l.length/\zH ⟨c,R⟩=0/\y=runS d ⟨c,R⟩ (l.drop i):=hz;clear hy ac;refine zj (λh3=>?_) (λh3=>?_)
 .have g:i<l.length:=by have:=of_decide_eq_true h3;grind[qU]
  have hg:=YR g;have wi:IntKind.i64.wrap ((i:Int)+1)=((i+1:Nat):Int):=zB g d8;rw[zt g]at o;simp only[runS]at o;have I:=((jb _).1 hK).2.1;have J:=J ⟨c,R⟩ l[i] (ab _ (List.getElem_mem g)) I;have j:=j ⟨c,R⟩ l[i] hK;clear I hK ab;generalize l[i]=s at*;generalize nStepL d ⟨c,R⟩ s=x at*;obtain⟨x1,⟨x2,x3⟩⟩:=x;obtain⟨op,⟨eo,nm,⟨vk,vn,vs⟩,ks⟩,ae,ai,af,ag,sn,tb⟩:=s;(conv=>whnf);refine⟨d8,_,hg,rfl,?_⟩;refine aB J ?_;refine zx (b:=x1 !=0) (λh4=>?_) (λh4=>?_)
  .simp only[h4,aE]at o;subst o;exact⟨rfl,rfl⟩
  simp only[h4,am]at o;(conv=>whnf);refine⟨(i+1,⟨x2,x3⟩),⟨⟨g,j d9,o⟩,d9⟩,ze ?_⟩;(conv=>whnf);rw[wi];rfl
 have ad:l.length<=i:=by grind[qU]
 rw[aM ad]at o;have o:y=(0,⟨c,R⟩):=o;subst o;exact⟨rfl,rfl⟩
theorem agT(d:aA Nmd)(q:Qry)(hs:∀s∈q.steps,s.Sm):dY ZR [.c (.d (.sl (zq d))),q.w] (wO (nRunL d q)):=by
 have o:=VM d q hs;unfold nRunL;by_cases I:(vi d q).1=0
 .obtain⟨p,J,t,P,_⟩:=ab4 I;have j:Ks d q=t:=by grind[Ks]
  rw[I];rw[show vi d q=(0,(vi d q).2)by grind]at o;rw[j];obtain⟨tc,R⟩:=t;obtain⟨g,l⟩:=q;exact aql d p g l _ (aay J) hs o tc R P _ rfl
 have i:((vi d q).1 !=0)=true:=d9
 rw[i];obtain⟨g,l⟩:=q;exact aqm d g l _ _ i o
theorem aq5{s:Stp}(h:s.Sm):s.foldS.Sm:=by
 unfold aF;cases(s.op==1)
 .exact h
 exact⟨h.sorts,h.cols,h.aggs,h.items⟩
theorem auV(g:ByteArray)(cols:aA Col)(l:aA Stp)(o:l.length<=100000)(hs:∀s∈l,s.Sm):(QM g cols l l.length).Sm:=by
 obtain⟨j,_⟩:=ajC g cols l;obtain⟨b,i⟩:=ahp g cols l;refine⟨d9,?_,λs h=>?_⟩
 .rw[j,i];show ua.lens<=1000000
  decide
 grind[aq5]
theorem ajW(d:aA Nmd)(q:Qry)(hs:∀s∈q.steps,s.Sm):dY JZ [.c (.d (.sl (zq d))),q.w] (wO (exQ d q)):=by
 have g:=afV d q hs;have i:(ofQ d q).1=0->dY jz [.c (.d (.sl (zq d))),(ofQ d q).2.w] (wO (exR d (ofQ d q).2)):=λh=>by
  refine ad9 d _ ?_;unfold ofQ at h⊢;cases J:((vi d q).1 !=0)
  .simp only[am]
   grind[vi,aay,auV]
  rw[J,aE]at h
  grind
 unfold exQ;generalize ofQ d q=x at*;obtain⟨e,p⟩:=x;simp only at g i⊢;have g:dY jA [.c (.d (.sl (zq d))),q.w] ⟨.tup [.agg p.cs,.c (int e)],[]⟩:=by rw[<-qd];exact g
 rw[qd]at i;generalize exR d p=y at*;obtain⟨y1,⟨yc,yr⟩⟩:=y;obtain⟨al,l⟩:=q;obtain⟨pop,ah,j,ad,aa,⟨I,⟨U,ae,⟨ai,aj,ak⟩,o⟩,ab,R,P,af,pn,ag⟩,ac⟩:=p;rw[vu]at g i;refine zC ?_;refine ac0.s T8 ?_;refine aB g ?_;refine zx (b:=e !=0) (λh=>?_) (λh=>?_)
 .rw[h];exact⟨rfl,rfl⟩
 rw[h];refine aB (i (by simpa using h)) ?_;exact⟨rfl,rfl⟩
end
section
attribute [local irreducible] Sat zA zX zo
def shL:aA Stp->Int->Bool
 |[],_=>true
 |s::r,n=>bif !(Qo s).2||decide (n+(Qo s).1>1)then false else shL r (n+(Qo s).1)
def aiA(q:Qry):Bool:=shL q.steps 0&&decide ((q.steps.length:Int)<=20)
theorem apb:∀(l:aA Stp) (n:Int),shL l n=true->∀s∈l,s.Sm
 |[],_,_,_,h=>by cases h
 |s::r,n,h,t,g=>by
  simp only[shL]at h;cases i:(!(Qo s).2||decide (n+(Qo s).1>1))
  .rw[i,am]at h;rcases List.mem_cons.1 g with rfl|g
   .exact(aBy (by simpa using (aO.1 i).1)).1
   exact apb r _ h t g
  grind
theorem ak8(q:Qry):dY jm [q.w] (rB (aiA q)):=by
 obtain⟨p,l⟩:=q;refine Vt dU λhb=>?_
 have ad:l.length<=9223372036854775807:=by simp_all[Qry.w,agb,Jy,bnd,qU]
 clear hb;obtain⟨y,U⟩:∃y,y=shL l 0:=⟨_,rfl⟩;have e:aiA ⟨p,l⟩=(y&&decide ((l.length:Int)<=20)):=by rw[U];rfl
 rw[e];refine ace.s T8 ?_;refine yq (P:=Pg) (f:=T8.f) (body:=(ace.l 0)) (λz:Nat×Int=>⟨[(1,cV (.ptr 1 0)),(3,zm z.2),(4,zm z.1)],[(1,.box [str p,.d (.sl (qB l))])]⟩) (λz=>l.length-z.1) (λz=>z.1<=l.length/\(0<=z.2/\z.2<=1)/\y=shL (l.drop z.1) z.2) ⟨(0,0),⟨Nat.zero_le _,⟨d8,d8⟩,U⟩,ze ?_⟩ ?_
 .exact rfl
 rintro⟨i,n⟩ hz;obtain⟨hi,hn,g⟩:i<=l.length/\(0<=n/\n<=1)/\y=shL (l.drop i) n:=hz;clear U;refine zj (λh1=>?_) (λh1=>?_)
 .have j:i<l.length:=by simp_all[qU]
  have hg:=YR j;have wi:=zB j d8;rw[zt j]at g;simp only[shL]at g;have hm:=ays l[i];have J:=aBx l[i];generalize l[i]=s at*;generalize Qo s=x at*;obtain⟨I,x2⟩:=x;have wn:IntKind.i64.wrap (n+I)=n+I:=yf d9 d9;obtain⟨op,⟨eo,nm,⟨vk,vn,vs⟩,ks⟩,aa,ae,ab,ac,sn,tb⟩:=s;simp only at g J;(conv=>whnf);refine⟨d8,_,hg,rfl,?_⟩;refine aB hm ?_;cases o:(!x2||decide (n+I>1))
  .rw[o,am]at g;have hx:=(aO.1 o).2;have hx:=of_decide_eq_false hx;rw[wn,o];(conv=>whnf);refine⟨(i+1,n+I),⟨⟨j,⟨d8,d8⟩,g⟩,d9⟩,ze ?_⟩;(conv=>whnf);rw[wi];rfl
  rw[o,aE]at g;rw[wn,o,g];exact rfl
 have R:l.length<=i:=by grind[qU]
 rw[aM R]at g;have g:y=true:=g;rw[g];(conv=>whnf);rw[qU];rfl
theorem al2(d:aA Nmd)(q:Qry)(hs:dY wB [.c (.d (.sl (zq d)))] (rB false)):dY u0 [.c (.d (.sl (zq d))),q.w] (rB true):=by obtain⟨g,l⟩:=q;refine ZY.s T8 ?_;refine aB hs ?_;refine aB jU ?_;rfl
theorem al3(d:aA Nmd)(q:Qry)(hs:dY wB [.c (.d (.sl (zq d)))] (rB true))(g:dY jm [q.w] (rB false)):dY u0 [.c (.d (.sl (zq d))),q.w] (rB true):=by obtain⟨i,l⟩:=q;refine ZY.s T8 ?_;refine aB hs ?_;refine aB g ?_;refine aB jU ?_;rfl
theorem al4(d:aA Nmd)(q:Qry)(hs:dY wB [.c (.d (.sl (zq d)))] (rB true))(p:dY jm [q.w] (rB true))(y:Int×Tbl)
 (o:dY JZ [.c (.d (.sl (zq d))),q.w] (wO y)) (j:dY ZR [.c (.d (.sl (zq d))),q.w] (wO y)):dY u0 [.c (.d (.sl (zq d))),q.w] (rB true):=by
 have i:=Xe y.2 y.2;rw[abP]at i;obtain⟨I,l⟩:=q;obtain⟨e,J,P⟩:=y;have g:(e==e)=true:=dT
 refine ZY.s T8 ?_;refine aB hs ?_;refine aB p ?_;refine aB o ?_;refine aB j ?_;refine aB i ?_;rw[g];refine aB jU ?_;rfl
theorem aiv(d:aA Nmd)(q:Qry):dY u0 [.c (.d (.sl (zq d))),q.w] (rB true):=by
 have hs:=ak9 d;cases o:decide (smD d.length d<=800)with
 |false=>rw[o]at hs;exact al2 d q hs
 |true=>
  rw[o]at hs;have i:=ak8 q;cases j:aiA q with
  |false=>rw[j]at i;exact al3 d q hs i
  |true=>
   rw[j]at i;have g:∀s∈q.steps,s.Sm:=apb q.steps 0 (aP.1 j).1;have l:=ajW d q g;rw[au8]at l;exact al4 d q hs i _ l (agT d q g)
end
section
open Go Go.AM Go.Lib
theorem QB{W w':aN}(h:∀b,VT W b->w'.heap[b]?=W.heap[b]?){a:Addr}{v:Value}(hv:W.cell? a=some v):w'.cell? a=some v:=by have g:VT W a.block:=aN.block_lt_of_cell? W a hv;rw[<-hv];simp only[aN.cell?,h _ g]
theorem X5{W w':aN}(h:∀b,VT W b->w'.heap[b]?=W.heap[b]?){g:Nat}{k:IntKind}{t:aA Nat}(r:TabSlice g k t W):TabSlice g k t w':=by obtain⟨R,o,c,i,l⟩:=r;exact⟨R,o,c,QB h i,λj p=>QB h (l j p)⟩
theorem au7 {P:Program}{w:aN}{g t e:Nat}{n:Nat}(U:P.globalNamed "internal/strconv.uint64pow10" =some g)(J:(P.globals[g]?).map (·.type)=some t)
 (ht:P.underlying t=some (.array n e)) (he:P.underlying e=some (.int .u64)) (l:P.cellsOf e=1) (o:P.cellsOf t=n)
 (h:VarReads P w "internal/strconv.uint64pow10" (tabData .u64 pow10Tab)): ∃j f,w.heap[g]? =some (.cells (pow10Tab.map λz=>Value.int .u64 z).toArray j f):=by
 obtain⟨g',t',cs,R,p,r,I,i,hd⟩:=h;obtain rfl:=aQ (U.symm.trans r);obtain rfl:=aQ (J.symm.trans I);have e1:=cells_of_tab ht he l o hd;simp only[aN.var?,U,Option.bind_some]at i;split at i
 .rename_i c j f hc;cases i;refine⟨j,f,?_⟩;rw[hc,<-e1]
 cases i
theorem aye{W w':aN}(h:∀b,VT W b->w'.heap[b]?=W.heap[b]?)(I:Psi W):Psi w':=by
 obtain⟨o,⟨j,a2,a3,a4,a5⟩,⟨l,g⟩,t,f,c⟩:=I;refine⟨λk hk=>?_,⟨X5 h j,X5 h a2,X5 h a3,X5 h a4,a5⟩,⟨λc p=>QB h (l c p),λi hi=>⟨QB h (g i hi).1,QB h (g i hi).2⟩⟩,t,f,?_⟩
 .obtain⟨m,r⟩:=o k hk;exact⟨m,QB h r⟩
 rw[h _ ?_];exact c;exact(Array.getElem?_eq_some_iff.1 c).1
theorem aCb:aJ=sliceData .u16 goPrintTabs.p16:=dU
theorem aB9:aG=sliceData .u16 goPrintTabs.n16:=dU
theorem aCc:aK=sliceData .u32 goPrintTabs.p32:=dU
theorem aCa:aH=sliceData .u16 goPrintTabs.n32:=dU
theorem azR:aL=firstData:=dU
theorem aB8:(aD:aR Unit)=acceptData:=dU
theorem aCd:(aC:aR Unit)=tabData .u64 pow10Tab:=dU
theorem J7{P:Program}{w:aN}{l:aA (String×aR Unit)}{n:String}{d:aR Unit}(h:laidMet P l w)(g:(n,d)∈l):VarReads P w n d:=Go.Lib.laidMet.reads h g
theorem az5:Lays.n339 Tryz.prog aI:={Tryz.lays177 with}
theorem az4:Lays.n260 Tryz.prog aI:={Tryz.lays177 with}
theorem aBv:PrintExtra Tryz.prog aI:=⟨dU,dU,dU,dU,dU,dU,dU,dU,dU,dU⟩
theorem aBw:U8Extra Tryz.prog aI:=⟨dU,dU,dU,dU,dU,dU,dU⟩
theorem axE{l:aA (String×aR Unit)}{W:aN}(j:W.ShapedOpen Tryz.prog)(g:laidMet Tryz.prog l W)
 (m1:("strconv.isPrint16",aJ)∈l) (o:("strconv.isNotPrint16",aG)∈l) (p:("strconv.isPrint32",aK)∈l) (r:("strconv.isNotPrint32",aH)∈l)
 (I:("unicode/utf8.first",aL)∈l) (J:("unicode/utf8.acceptRanges",aD)∈l) (P:("internal/strconv.uint64pow10",aC)∈l):Psi W:=by
 refine⟨λk hk=>?_,printTabs_of_reads az5 aBv (aCb▸J7 g m1) (aB9▸J7 g o) (aCc▸J7 g p) (aCa▸J7 g r),
  utf8Tabs_of_reads az4 aBw (azR▸J7 g I) (aB8▸J7 g J),?_⟩
 .have i:k=0:=by have:=Nat.le_of_ble_eq_true (hk:Nat.ble (k+1) 1=true);omega
  subst i;exact Tryz.laysM144.s1_3 W j
 exact au7 (t:=327) (e:=290) (n:=20) dU dU dU dU dU dU (aCd▸J7 g P)
theorem anI{l:aA (String×aR Unit)}{W:aN}(g:W.ShapedOpen Tryz.prog)(i:laidMet Tryz.prog l W)
 (m1:("strconv.isPrint16",aJ)∈l) (j:("strconv.isNotPrint16",aG)∈l) (o:("strconv.isPrint32",aK)∈l) (p:("strconv.isNotPrint32",aH)∈l)
 (r:("unicode/utf8.first",aL)∈l) (I:("unicode/utf8.acceptRanges",aD)∈l) (J:("internal/strconv.uint64pow10",aC)∈l):Glb (VT W) W:=
 λ_ h=>aye h (axE g i m1 j o p r I J)
end
section
attribute [local irreducible] Sat zA zX zo
theorem aqh(d:aA Nmd)(q:Qry)(hs:dY wB [.c (.d (.sl (zq d)))] (rB false)):dY ux [.c (.d (.sl (zq d))),q.w] (rB true):=by obtain⟨g,l⟩:=q;refine j6.s T8 ?_;refine aB hs ?_;refine aB jU ?_;rfl
theorem aqi(d:aA Nmd)(q:Qry)(hs:dY wB [.c (.d (.sl (zq d)))] (rB true))(g:dY jm [q.w] (rB false)):dY ux [.c (.d (.sl (zq d))),q.w] (rB true):=by obtain⟨i,l⟩:=q;refine j6.s T8 ?_;refine aB hs ?_;refine aB g ?_;refine aB jU ?_;rfl
theorem aqj(d:aA Nmd)(q:Qry)(hs:dY wB [.c (.d (.sl (zq d)))] (rB true))(J:dY jm [q.w] (rB true))(e:Int)(I:(e !=0)=true)(p:Pln)
 (g:dY jA [.c (.d (.sl (zq d))),q.w] (rPE (e,p))):dY ux [.c (.d (.sl (zq d))),q.w] (rB true):=by
 have g:dY jA [.c (.d (.sl (zq d))),q.w] ⟨.tup [.agg p.cs,.c (int e)],[]⟩:=by rw[<-qd];exact g
 obtain⟨al,l⟩:=q;obtain⟨pop,ah,i,ad,aa,⟨o,⟨U,ae,⟨ai,aj,ak⟩,j⟩,ab,R,P,af,pn,ag⟩,ac⟩:=p;rw[vu]at g;refine j6.s T8 ?_;refine aB hs ?_;refine aB J ?_;refine aB g ?_;rw[I];refine aB jU ?_;rfl
theorem aqk(d:aA Nmd)(q x:Qry)(hs:dY wB [.c (.d (.sl (zq d)))] (rB true))(hf:dY jm [q.w] (rB true))(p:Pln)(i:dY jA [.c (.d (.sl (zq d))),q.w] (rPE (0,p)))(y:Int×Tbl)
 (o:dY jz [.c (.d (.sl (zq d))),p.w] (wO y)) (j:dY Zl [p.w] (rQB (x,true)))
 (hX:dY ZR [.c (.d (.sl (zq d))),x.w] (wO y)) (hN:dY ZR [.c (.d (.sl (zq d))),q.w] (wO y)):dY ux [.c (.d (.sl (zq d))),q.w] (rB true):=by
 have i:dY jA [.c (.d (.sl (zq d))),q.w] ⟨.tup [.agg p.cs,.c (int 0)],[]⟩:=by rw[<-qd];exact i
 rw[qd]at o j;have I:=Xe y.2 y.2;rw[abP]at I;obtain⟨aq,l⟩:=q;obtain⟨U,l2⟩:=x;obtain⟨e,yc,yr⟩:=y;obtain⟨pop,ak,J,ag,ad,⟨R,⟨ac,ah,⟨al,an,ao⟩,P⟩,ae,ab,aa,ai,pn,aj⟩,af⟩:=p;rw[vu]at i o j;have g:(e==e)=true:=dT
 refine j6.s T8 ?_;refine aB hs ?_;refine aB hf ?_;refine aB i ?_;refine aB o ?_;refine aB j ?_;refine aB hX ?_;refine aB hN ?_;refine aB I ?_;rw[g];refine aB I ?_;rw[g];refine aB jU ?_;rfl
theorem amc(d:aA Nmd)(q:Qry):dY ux [.c (.d (.sl (zq d))),q.w] (rB true):=by
 have hs:=ak9 d;cases hb:decide (smD d.length d<=800)with
 |false=>rw[hb]at hs;exact aqh d q hs
 |true=>
  rw[hb]at hs;have p:=ak8 q;cases J:aiA q with
  |false=>rw[J]at p;exact aqi d q hs p
  |true=>
   rw[J]at p;have g:∀s∈q.steps,s.Sm:=apb q.steps 0 (aP.1 J).1;have l:=afV d q g;have U:=agT d q g;unfold ofQ at l;cases j:((vi d q).1 !=0)
   .rw[j,am]at l;have h0:(vi d q).1=0:=by simpa using j
    obtain⟨o,he,t,I,R⟩:=ab4 h0;have aa:=aay he;have i:=auV q.src (Xi d q.src).cols q.steps d8 g;obtain⟨p1,p2,_⟩:=art h0;have hR:=ad9 d _ i;rw[aor h0]at hR;have hP:=aaE _ i.len i.lens;rw[p1]at hP;have hX:=agT d ⟨q.src,q.steps.map aF⟩ (λs hs=>by obtain⟨u,hu,rfl⟩:=List.mem_map.1 hs;exact aq5 (g u hu))
    have e1:nRunL d q=runS d (Ks d q) q.steps:=by unfold nRunL;rw[j];rfl
    have e2:nRunL d ⟨q.src,q.steps.map aF⟩=runS d (Ks d q) q.steps:=by
     unfold nRunL;rw[p2,j];show runS d (Ks d q) (q.steps.map aF)=_;have P:Ks d q=t:=by unfold Ks;rw[I];rfl
     rw[P];exact adW o (vq o I) (by rw[<-R];exact h0)
    rw[e1]at U;rw[e2]at hX;exact aqk d q _ hs p _ l _ hR hP hX U
   rw[j,aE]at l;exact aqj d q hs p _ j _ l
end
end Go.Proofs.YtkdijaiaplkliaaGreatDoor
