import Derived.Test.YtnlbmefhdiabcaaGreatProg
import Derived.Lib.Strings
import Derived.Lib.Slices
import Derived.Lib.Walk
import Derived.Lib.Bytealg
import Derived.Lib.Mul64
import Derived.Lib.IndexMore
import Derived.WalkKit
import Derived.Laws.AppendOwn
import Derived.Laws.OwnMore
import Derived.Test.YtnlbmefhdiabcaaGreatZt7
set_option linter.unusedSimpArgs false
set_option linter.unusedVariables false
set_option maxRecDepth 100000
set_option maxHeartbeats 4000000
open _root_ renaming List->am,cond_false->aA,cond_true->aC,congrArg->aF,bne_self_eq_false->aI,Option->aK,decide_eq_false_iff_not->aL,beq_self_eq_true->aM,of_decide_eq_false->aQ,of_decide_eq_true->aS,decide_eq_false->aW,reduceCtorEq->bA,decide_eq_true->bO,bne_eq_false_iff_eq->cL
open List renaming drop_eq_nil_of_le->aB,length_append->bE,getElem_mem->bG,mem_cons_self->bJ,eq_nil_of_length_eq_zero->bK,sizeOf_lt_of_mem->bN,pairwise_cons->bQ,mem_cons->bR,take_append_drop->bS,mem_of_getElem?->bT,drop_eq_getElem_cons->bU,take_succ_eq_append_getElem->bX,take_of_length_le->bY,set_cons_succ->cB,mem_map->cD,singleton_append->cH,mem_iff_getElem?->cI,mem_cons_of_mem->cJ,pairwise_append->cK,map_cons->cN
open Go.IntKind renaming i64->aD,u64->bM
open Go renaming IntKind->aE,FuncId->aT
open Nat renaming eq_of_beq_eq_true->aG,zero_le->bF,beq->bI,le_refl->bL,lt_of_lt_of_le->bP,lt_of_le_of_lt->bW,le_of_ble_eq_true->cc
open Bool renaming false_eq_true->aH,true_eq_false->aJ,not_true->aN,not_false->aO,and_false->aP,false_and->aR,false_or->aU,true_and->aV,or_false->aY,and_true->aZ,or_eq_false_iff->bB,true_or->bC,or_true->bD,or_eq_true->bV,and_eq_true->cC,and_eq_false_iff->cG
open Go.Op renaming bytesLess->aX
open Option renaming bind_eq_some_iff->bH,map_eq_some_iff->bZ
open SizeOf renaming sizeOf->co
open Go.AM.RD renaming keep->cA
open BitVec renaming ofInt->cE
open Go.Lib renaming half_mul_le->cF
open Go.ByteArray renaming toList_eq->cM
namespace Go.AM
mutual
def bnd:D->Prop
 |.lit _=>True
 |.sl l=>l.length<=9223372036854775807/\bnds l
 |.fn _ _=>True
def bnds:am (am D)->Prop
 |[]=>True
 |e::r=>bndc e/\bnds r
def bndc:am D->Prop
 |[]=>True
 |d::r=>bnd d/\bndc r
end
mutual
theorem ayR{w:World}{ok:Nat->Prop}:∀(d:D) (v:Value),RD w ok d v->bnd d
 |.lit _,_,_=>by grind[bnd]
 |.sl l,v,h=>by
   simp only[RD]at h;obtain⟨a,n,c,r,i,I,j,g⟩:=h;simp only[bnd];refine⟨by rw[<-i];simp only[maxLen]at j;omega,?_⟩;rcases g with g|⟨b,o,sz,_,_,p⟩
   .subst g;simp only[bnds]
   exact RDs_bnd l b sz o p
 |.fn _ _,_,_=>by grind[bnd]
theorem RDs_bnd{w:World}{ok:Nat->Prop}:∀(l:am (am D)) (b sz o:Nat),RDs w ok b sz o l->bnds l
 |[],_,_,_,_=>by grind[bnds]
 |e::r,b,sz,o,h=>by simp only[RDs]at h;simp only[bnds];exact⟨RDc_bnd e b o h.2.1,RDs_bnd r b sz (o+sz) h.2.2⟩
theorem RDc_bnd{w:World}{ok:Nat->Prop}:∀(l:am D) (b o:Nat),RDc w ok b o l->bndc l
 |[],_,_,_=>by grind[bndc]
 |d::r,b,o,h=>by simp only[RDc]at h;simp only[bndc];obtain⟨⟨v,_,g⟩,i⟩:=h;exact⟨ayR d v g,RDc_bnd r b (o+1) i⟩
end
theorem aBJ{l}:bnds l↔ ∀e∈l,bndc e:=by induction l<;>grind[bnds]
def aev:C->Prop
 |.d x=>bnd x
 |.fp l=>bndc l
 |_=>True
def aq1:W->Prop
 |.c x=>aev x
 |.agg cs=>∀x∈cs,aev x
theorem ayO{m:Nat->Gh}{w}{ok:Nat->Prop}{c}{v}(h:CR m w ok c v):aev c:=by
 cases c with
 |d x=>exact ayR x v h
 |fp l=>obtain⟨b,o,_,_,h⟩:=h;exact RDc_bnd l b o h
 |_=>trivial
theorem auV{m:Nat->Gh}{w}{ok:Nat->Prop}:∀{cs:am C}{vs:am Value},CRs m w ok cs vs->∀c∈cs,aev c
 |[],_,_,c,g=>by cases g
 |x::r,[],h,_,_=>h.elim
 |x::r,v::vs,h,c,g=>by
  rcases bR.1 g with rfl|g
  .exact ayO h.1
  exact auV h.2 c g
theorem aF7{m:Nat->Gh}{w}{ok:Nat->Prop}{x}{v}(h:WR m w ok x v):aq1 x:=by
 cases x with
 |c x=>exact ayO h
 |agg cs=>obtain⟨vs,_,h⟩:=h;exact auV h
theorem auY{m:Nat->Gh}{w}{ok:Nat->Prop}:∀{xs:am W}{vs:am Value},qN m w ok xs vs->∀x∈xs,aq1 x
 |[],_,_,c,g=>by cases g
 |x::r,[],h,_,_=>h.elim
 |x::r,v::vs,h,c,g=>by
  rcases bR.1 g with rfl|g
  .exact aF7 h.1
  exact auY h.2 c g
theorem Uq{P}{k}{args}{Q:Res->Prop}(hk:qT P k=true)(h:(∀x∈args,aq1 x)->Sat P k args Q):Sat P k args Q:=
 ⟨hk,λw A g hA i=>(h (auY i)).2 w A g hA i⟩
theorem yZ{P}{k}{args}{Q:Res->Prop}(i:Nat){l}(hk:qT P k=true)(j:args[i]?=some (.c (.d (.sl l))))(h:l.length<=9223372036854775807->Sat P k args Q):Sat P k args Q:=
 Uq hk λg=>h (by have:=g _ (bT j)<;>grind[aq1,aev,bnd])
theorem zu{i}{n:Nat}(h:i<n)(g:n<=9223372036854775807):aD.wrap ((i:Int)+1)=((i+1:Nat):Int):=by grind[IntKind.wrap_i64]
theorem zT{n}(g: -9223372036854775808<=n)(i:n<=9223372036854775807):aD.wrap n=n:=by grind[IntKind.wrap_i64]
noncomputable def andR(l:am Prop)(K:Prop):Prop:=List.rec (motive:=λ_=>Prop) K (λp _ g=>p/\g) l
theorem au2:∀(l) (K:Prop),andR l K=Zs l K
 |[],_=>rfl
 |p::r,K=>by show(p/\andR r K)=(p/\Zs r K);rw[au2 r K]
noncomputable def forceN(l:am Nat)(K:am Nat->Prop):Prop:=List.rec (motive:=λ_=>(am Nat->Prop)->Prop) (λK=>K []) (λx _ g K=>g (λr=>K (x::r))) l K
theorem an0:∀(l) (K:am Nat->Prop),forceN l K=K l
 |[],_=>rfl
 |x::r,K=>an0 r λr=>K (x::r)
noncomputable def aCallR(P:Program)(dst:aK Nat)(f:aT)(args:am W)(s:S)(K:S->Prop):Prop:=
 forceN (u7 s.pl [] (Xz args)) λU=>
  zH P f (args.map (W.pk s.pl U)) (ZO s.pl U 0 U) λr=>cond (Ky U (QL dst U) r) (K (agJ s U (QL dst U) dst r)) False
noncomputable def aopR(P:Program)(dst:aK Tmp)(op:AOp)(s:S)(K:S->Prop):Prop:=
 match op with
 |.callh f args=>aCallR P dst f (args.map s.ow) s K
 |op=>yg P dst op s K
theorem aEF(P):aopR P=yg P:=by
 funext dst op s K;cases op<;>try rfl
 simp_all[aopR,yg,aCallR,ajG,an0]
noncomputable def opsG(ap:aK Tmp->AOp->S->(S->Prop)->Prop)(f:aT->am W->aK W)(n:Nat):am AI->S->(S->Prop)->Prop:=
 Nat.rec (motive:=λ_=>am AI->S->(S->Prop)->Prop) (λ_ _ _=>False) (λ_ j ops s K=>match ops with
  |[]=>K s
  |.mk dst g p op drop::r=>
    match g with
    |none=>match dst with
     |none=>ap none op s λl=>qo (l.drop drop) λi=>j r i K
     |some d=>kY f op s (ap (some d) op s λl=>split p (some d) l λi=>qo (i.drop drop) λi=>j r i K) λI v=>
      bif p then
       qo (s.put (some d) v) λl=>scK f 100 none (some d) drop r l (andR I (split true (some d) l λi=>qo (i.drop drop) λi=>j r i K)) λJ i P=>
        andR I (andR J (j P i K))
      else andR I (qo ((s.put (some d) v).drop drop) λi=>j r i K)
    |some (d,o)=>match s.tmp d with
     |.w (.c (.d (.lit (.bool b))))=>
       bif (bif b then o else !o)then ap dst op s λl=>split p dst l λi=>qo (i.drop drop) λi=>j r i K
       else qo ((s.put dst wQ).drop drop) λs=>j r s K
     |.tup []=>qo ((s.put dst wQ).drop drop) λs=>j r s K
     |_=>False) n
theorem avL(P)(f:aT->am W->aK W):∀n,opsG (yg P) f n=wC P f n
 |0=>by funext ops s K;unfold wC;rfl
 |n+1=>by
  funext ops s K;have j:=avL P f n;cases ops with
  |nil=>unfold wC;rfl
  |cons i r=>
   obtain⟨dst,g,l,op,drop⟩:=i;unfold wC;rw[<-j];simp only[<-au2];rfl
noncomputable def opsR(P:Program)(f:aT->am W->aK W)(n:Nat):am AI->S->(S->Prop)->Prop:=opsG (aopR P) f n
theorem avM(P)(f:aT->am W->aK W)(n):opsR P f n=wC P f n:=by grind[opsR,aEF,avL]
noncomputable def mwtrR(P:Program)(f:aT->am W->aK W)(t:ATr):S->(S->Prop)->Prop:=
 ATr.rec (motive:=λ_=>S->(S->Prop)->Prop) (λs K=>K s) (λops _ i s K=>opsR P f 1000 ops s λj=>i j K) (λ_ _ ia g s K=>ia s K/\g s K) t
theorem ac6(P)(f:aT->am W->aK W):∀t,mwtrR P f t=aaQ P f t
 |.fin=>rfl
 |.run ops t=>by funext s K;unfold aaQ;rw[<-ac6 P f t,<-avM];rfl
 |.br a b=>by funext s K;unfold aaQ;rw[<-ac6 P f a,<-ac6 P f b];rfl
noncomputable def mwpR(P:Program)(f:aT->am W->aK W)(c:ACode):(E->S->Prop)->S->Prop:=
 ACode.rec (motive:=λ_=>(E->S->Prop)->S->Prop)
  (λQ s=>Q .normal s)
  (λops Q s=>opsR P f 1000 ops s (Q .normal))
  (λ_ _ ia g Q s=>ia (aa3 g Q) s)
  (λc _ _ ia g Q s=>match xe (s.o c)with
   |some t=>cond t (ia Q s) (g Q s)
   |none=>False)
  (λid _ ia Q s=>ia (Qo id Q) s)
  (λj _ g Q s=>z6 g j Q s)
  (λ_ ia Q s=>ia Q s)
  (λi Q s=>Q (.exit i) s)
  (λQ s=>Q .ret s)
  (λt Q s=>mwtrR P f t s (Q .normal)) c
theorem jQ(P)(f:aT->am W->aK W):∀c,mwpR P f c=YE P f c
 |.skip=>by funext Q s;unfold YE;rfl
 |.reg ops=>by funext Q s;unfold YE;rw[<-avM];rfl
 |.seq a b=>by funext Q s;unfold YE;rw[<-jQ P f a,<-jQ P f b];rfl
 |.cond c a b=>by funext Q s;unfold YE;rw[<-jQ P f a,<-jQ P f b];rfl
 |.block i a=>by funext Q s;unfold YE;rw[<-jQ P f a];rfl
 |.loop k b=>by funext Q s;unfold YE;rw[<-jQ P f b];rfl
 |.scope a=>by funext Q s;unfold YE;rw[<-jQ P f a];rfl
 |.exit i=>by funext Q s;unfold YE;rfl
 |.ret=>by funext Q s;unfold YE;rfl
 |.tree t=>by funext Q s;unfold YE;rw[<-ac6];rfl
noncomputable def wpF(P:Program)(f:aT->am W->aK W)(F:AFun)(args:am W)(Q:Res->Prop):Prop:=
 qo ⟨j6 0 args,[]⟩ λs=>mwpR P f F.code (Jq F.res [] Q) s
noncomputable def wpFH(P:Program)(f:aT->am W->aK W)(F:AFun)(args:am W)(hs:am Pl)(Q:Res->Prop):Prop:=
 qo ⟨j6 0 (args.map (W.ren ((j5 100000 hs).map some))),Ym 100000 (hs.map (Pl.ren ((j5 100000 hs).map some)))⟩ λs=>
  mwpR P f F.code (Jq F.res (j5 100000 hs) Q) s
theorem z7{P}{k}{ords}{A}{args}{Q:Res->Prop}(T:Tab P)(g:cFun P ords k=some A.erase)(i:qT P k=true)(h:wpF P T.f A args Q):Sat P k args Q:=by refine atW T g i ?_<;>simp_all[wpF,aCM,jQ]
theorem vF{P}{k}{ords}{A}{args}{hs}{Q:Res->Prop}(T:Tab P)(g:cFun P ords k=some A.erase)(i:qT P k=true)(j:hs.length<=1000)(h:wpFH P T.f A args hs Q):zH P k args hs Q:=by refine ao2 T g i j ?_<;>simp_all[wpFH,axA,jQ]
theorem afv{P}{f:aT->am W->aK W}(c){Q g:E->S->Prop}(i:∀e s,Q e s->g e s)(s):mwpR P f c Q s->mwpR P f c g s:=by rw[jQ];grind[Xv]
theorem yD{P}{f:aT->am W->aK W}{body}{g:am Nat}{Q:E->S->Prop}{s}{m:Type}(σ:m->S)(μ:m->Nat)(R:m->Prop)(h0:∃i,R i/\xO s g (· =σ i))
 (l:∀i,R i->mwpR P f body (gW (λo=>∃j,(R j/\μ j<μ i)/\xO o g (· =σ j)) Q) (σ i)):z6 (mwpR P f body) g Q s:=
 aCB (afv body) σ μ R h0 l
theorem zX{P}{f:aT->am W->aK W}{body}{g:am Nat}{Q:E->S->Prop}{s}(n)(σ:Nat->S)(R:Nat->Prop)(h0:R 0/\xO s g (· =σ 0))
 (J:∀i,i<=n->R i->mwpR P f body (gW (λj=>i<n/\R (i+1)/\xO j g (· =σ (i+1))) Q) (σ i)):z6 (mwpR P f body) g Q s:=by
 refine yD σ (λi=>n-i) (λi=>i<=n/\R i) ⟨0,⟨bF _,h0.1⟩,h0.2⟩ ?_;rintro i ⟨l,o⟩;refine afv body (λe j h=>?_) _ (J i l o);cases e with
 |normal=>
  obtain⟨p,r,I⟩:=h;exact⟨i+1,⟨⟨p,r⟩,ej⟩,I⟩
 |exit k=>exact h
 |ret=>exact h
def al9:am Nat->am Nat->am Nat
 |[],b=>b
 |x::r,b=>x::al9 r b
def vX(b:am Nat):am Nat->am Nat
 |[]=> []
 |x::r=>bif isin x b then vX b r else x::vX b r
def aa7(a b):=al9 a (vX a b)
def fL{a:Type}:am Nat->(am Nat->a)->a
 |[],K=>K []
 |x::r,K=>fL r λs=>K (x::s)
def usO:O->am Nat->am Nat
 |.t n,l=>n::l
 |.k _,l=>l
def ayE:am O->am Nat->am Nat
 |[],l=>l
 |x::r,l=>usO x (ayE r l)
def aHf:aK O->am Nat->am Nat
 |some x,l=>usO x l
 |none,l=>l
def aHg:am (Nat×Nat×O)->am Nat->am Nat
 |[],l=>l
 |x::r,l=>usO x.2.2 (aHg r l)
def ayD:am Operand->am Nat
 |[]=> []
 |.tmp t::r=>t::ayD r
 |_::r=>ayD r
def usA:AOp->am Nat
 |.cap x|.clr _ _ x|.slen x|.bnot x|.ineg x|.conv _ x|.mov x|.bx x|.ld _ _ x|.nc x|.b2s x|.s2b x|.fa _ x|.fld _ _ _ x|.ext x _|.len x|.isn _ x=>usO x []
 |.pick a b c=>usO a (usO b (usO c []))
 |.alloc _=> []
 |.build _ g=>aHg g []
 |.lits _ g=>ayE g []
 |.st _ a x=>usO a (usO x [])
 |.clo _ l|.clof _ l|.callh _ l|.call _ l=>ayE l []
 |.eqa _ _ a b|.beq _ a b|.shf _ a b|.cpy _ a b|.ia _ a b|.six a b|.app _ _ a b|.appz _ _ _ a b|.apps a b|.bin _ a b|.mm _ a b|.mk _ _ _ a b=>usO a (usO b [])
 |.stop=> []
 |.sli _ x a b|.slw _ x a b|.sls x a b=>usO x (aHf a (aHf b []))
 |.pure o _=>ayD o.operands.toList
 |.calv x l=>usO x (ayE l [])
def axH:aK Nat->am Nat
 |some d=> [d]
 |none=> []
def aH3:aK (Nat×Bool)->am Nat
 |some x=> [x.1]
 |none=> []
def awz{a:Type}(out:am Nat):am AI->(am AI->am Nat->a)->a
 |[],K=>K [] out
 |.mk d g i op _::r,K=>awz out r λxs l=>fL (aa7 (vX (axH d) l) (al9 (usA op) (aH3 g))) λj=>K (.mk d g i op l::xs) j
def aw8{a:Type}(i:am Nat):am AI->(am AI->am Nat->a)->a
 |[],K=>K [] i
 |.mk d g j op l::r,K=>fL (aa7 i (axH d)) λo=>fL (vX l o) λp=>fL (vX p o) λI=>aw8 I r λxs e=>K (.mk d g j op p::xs) e
def eqO(d:Nat):aK Nat->Bool
 |some e=>bI e d
 |none=>false
def aEq(d:Nat):am AI->am AI->am AI
 |[],j=>j
 |.mk e g i o l::r,j=>bif eqO d e then j else aEq d r (.mk e g i o l::j)
def awS{a:Type}:am AI->am Nat->am Nat->(am Nat->am Nat->a)->a
 |[],U,c,K=>K U c
 |.mk e g _ _ i::r,U,c,K=>match g with
   |some q=>bif isin q.1 U then awS r (al9 (axH e) U) (al9 (axH e) (al9 i c)) K else awS r U c K
   |none=>awS r U c K
def aBX:am Nat->am Nat
 |[]=> []
 |x::r=>bif isin x r then aBX r else x::aBX r
def aHC:am Nat->Bool
 |_::_::_=>true
 |_=>false
def aw3{b:Type}:am AI->am AI->(am AI->am AI->b)->b
 |i,[],K=>K [] i
 |i,.mk dst g j op drop::r,K=>
  match op with
  |.pick (.t d) _ _=>awS (aEq d i []) [d] [] λU l=>fL (bif aHC U then aa7 drop (aa7 (aBX l) [d])else drop) λo=>aw3 (.mk dst g j op o::i) r λxs a=>K (.mk dst g j op o::xs) a
  |_=>aw3 (.mk dst g j op drop::i) r λxs a=>K (.mk dst g j op drop::xs) a
def bwT{c:Type}(out:am Nat):ATr->(ATr->am Nat->c)->c
 |.fin,K=>K .fin out
 |.run ops t,K=>bwT out t λo l=>awz l ops λxs g=>K (.run xs o) g
 |.br a b,K=>bwT out a λx i=>bwT out b λy j=>fL (aa7 i j) λl=>K (.br x y) l
def fwT{c:Type}:ATr->am Nat->am AI->(ATr->am Nat->c)->c
 |.fin,d,_,K=>K .fin d
 |.run ops t,d,g,K=>aw8 d ops λxs j=>aw3 g xs λys i=>fwT t j i λo l=>K (.run ys o) l
 |.br a b,d,g,K=>fwT a d g λx j=>fwT b d g λy l=>fL (aa7 j l) λe=>K (.br x y) e
def aGf(i:Nat):am (Nat×am Nat)->am Nat
 |[]=> []
 |(j,l)::r=>bif bI j i then l else aGf i r
def bwC{d:Type}:ACode->am (am Nat)->am (Nat×am Nat)->am Nat->am Nat->(ACode->am Nat->am (am Nat)->d)->d
 |.skip,g,_,_,out,K=>K .skip out g
 |.reg ops,g,_,_,out,K=>awz out ops λxs l=>K (.reg xs) l g
 |.seq a b,g,k,r,out,K=>bwC b g k r out λy l g=>bwC a g k r l λx j g=>K (.seq x y) j g
 |.cond c a b,g,k,r,out,K=>bwC b g k r out λy p g=>bwC a g k r out λx o g=>fL (usO c (aa7 o p)) λl=>K (.cond c x y) l g
 |.block i a,g,k,r,out,K=>bwC a g ((i,out)::k) r out λx l g=>K (.block i x) l g
 |.loop _ a,g,k,r,_,K=>match g with
   |q::g=>bwC a g k r q λx _ g=>K (.loop q x) q g
   |[]=>K .skip [] []
 |.scope a,g,k,r,out,K=>bwC a g k r out λx l g=>K (.scope x) l g
 |.exit i,g,k,_,_,K=>fL (aGf i k) λl=>K (.exit i) l g
 |.ret,g,_,r,_,K=>K .ret r g
 |.tree t,g,_,_,out,K=>bwT out t λx l=>K (.tree x) l g
def fwC{f:Type}:ACode->am Nat->(ACode->am Nat->f)->f
 |.skip,d,K=>K .skip d
 |.reg ops,d,K=>aw8 d ops λxs g=>aw3 [] xs λys _=>K (.reg ys) g
 |.seq a b,d,K=>fwC a d λx g=>fwC b g λy j=>K (.seq x y) j
 |.cond c a b,d,K=>fwC a d λx g=>fwC b d λy j=>fL (aa7 g j) λe=>K (.cond c x y) e
 |.block i a,d,K=>fwC a d λx g=>fL (aa7 g d) λe=>K (.block i x) e
 |.loop q a,d,K=>fwC a q λx g=>fL (aa7 g q) λe=>K (.loop q x) e
 |.scope a,d,K=>fwC a d λx g=>K (.scope x) g
 |.exit i,d,K=>K (.exit i) d
 |.ret,d,K=>K .ret d
 |.tree t,d,K=>fwT t d [] λx g=>K (.tree x) g
def aC4:am ARes->am Nat
 |[]=> []
 |.tmp t::r=>t::aC4 r
 |.cell a _ _::r=>a::aC4 r
def aEk(P:Program):am Field->aK (am Nat)
 |[]=>some []
 |f::r=>match agr P f.type,aEk P r with
  |some k,some l=>some (k::l)
  |_,_=>none
def aGr(P:Program)(t:TypeId):aK (am Nat):=match P.underlying t with
 |some (.struct g)=>aEk P g.toList
 |_=>none
def aHZ(P:Program)(op:Op)(ty:TypeId):aK AOp:=match op with
 |.binOp b t x y _=>match ab2 P b t y with
   |some neg=>some (.isn neg (cO x))
   |none=>match aGr P t with
    |some n=>match b with
     |.eql=>some (.eqa false n (cO x) (cO y))
     |.neq=>some (.eqa true n (cO x) (cO y))
     |_=>none
    |none=>match J3 P b t x y with
     |some z=>some z
     |none=>bif adg b&&agx P t then some (.bin b (cO x) (cO y))else some (.pure op ty)
 |op=>cOp P op ty
def aqi(P:Program)(hs:am Nat)(all:am Oper)(gs:am Nat):am Nat->aK (am AI)
 |[]=>some []
 |i::r=>match all[i]? with
  |some o=>match(bif isin i hs then aBK P o.op o.type else aHZ P o.op o.type),Y9 all o.guard,aqi P hs all gs r with
   |some x,some g,some l=>some (.mk o.dst g (isin i gs) x []::l)
   |_,_,_=>none
  |none=>none
def ajN(P:Program)(hs:am Nat)(all:am Oper)(gs:am Nat):Tr->aK ATr
 |.fin=>some .fin
 |.run l t=>match aqi P hs all gs l,ajN P hs all gs t with
   |some x,some y=>some (.run x y)
   |_,_=>none
 |.br a b=>match ajN P hs all gs a,ajN P hs all gs b with
   |some x,some y=>some (.br x y)
   |_,_=>none
def aHo(P:Program)(N:Nat)(ords:am (Nat×am Nat))(id:Nat)(ops:am Oper):Bool->aK ACode
 |false=>(aqi P (wV ords id) ops (u4 ops) (yj 0 ops.length)).map .reg
 |true=>match aget ords (2000000+id)with
  |some l=>match arp 300 l with
   |some (t,_)=>(ajN P (wV ords id) ops (u4 ops) t).map .tree
   |none=>none
  |none=>match aget ords id with
   |some g=>(aqi P (wV ords id) ops (u4 ops) g).map .reg
   |none=>none
def UR(P:Program)(N:Nat)(ords:am (Nat×am Nat)):Code->aK ACode
 |.skip=>some .skip
 |.region id ops d=>aHo P N ords id ops.toList d
 |.seq a b=>match UR P N ords a,UR P N ords b with
   |some x,some y=>some (.seq x y)
   |_,_=>none
 |.cond c a b=>match UR P N ords a,UR P N ords b with
   |some x,some y=>some (.cond (cO c) x y)
   |_,_=>none
 |.block i a=>(UR P N ords a).map (.block i)
 |.loop a=>(UR P N ords a).map (.loop [])
 |.scope a=>(UR P N ords a).map .scope
 |.label _=>some .skip
 |.exit i=>some (.exit i)
 |.ret=>some .ret
 |_=>none
def aHV(P:Program)(ords:am (Nat×am Nat))(g:am (am Nat))(k:Nat):aK AFun:=match P.funcs[k]? with
 |some fn=>match fn.body with
  |some c=>match UR P fn.ntmps ords c,aey P fn.results.toList with
   |some x,some r=>bwC x g [] (aC4 r) [] λy _ _=>fwC y (yj 0 (fn.params.size+fn.nfree)) λz _=>some ⟨z,r⟩
   |_,_=>none
  |none=>none
 |none=>none
structure CC(P:Program)(k:Nat) where
 o:am (Nat×am Nat)
 A:AFun
 ok:cFun P o k=some A.erase
theorem u8r(n)(h:n<256):UInt8.ofBitVec (BitVec.ofFin ⟨n,h⟩)=UInt8.ofNat n:=by apply UInt8.toNat_inj.1;simp_all[Nat.mod_eq_of_lt]
theorem amk{a:Type}(l:am a):Array.mk l=l.toArray:=rfl
def ev{a:Type}(x){y}(h:x=y:=by conv=>lhs;reduce;simp only[u8r,amk,UInt8.reduceOfNat,Int.reduceOfNat,Int.reduceNegSucc]):{y:a //x=y}:=⟨y,h⟩
def WS:ACode->am ACode->am ACode
 |.seq a b,l=>WS b (WS a l)
 |.cond _ a b,l=>WS b (WS a l)
 |.block _ a,l=>WS a l
 |.loop _ a,l=>a::WS a l
 |.scope a,l=>WS a l
 |_,l=>l
def aGO:Nat->am ACode->ACode
 |_,[]=>.skip
 |0,x::_=>x
 |n+1,_::r=>aGO n r
def aGF:am ACode->Nat
 |[]=>0
 |_::r=>aGF r+1
def CC.l{P}{k}(c:CC P k)(n):=aGO (aGF (WS c.A.code [])-1-n) (WS c.A.code [])
theorem Sat.w{P}{k}{args}{R}{Q:Res->Prop}{p g}(h:Sat P k args (λr=>r=R))(j:p)(i:Sat P k args Q=g:=by(conv=>rhs;whnf)<;>exact rfl)(e1:Q R=p:=by(conv=>lhs;whnf)<;>exact rfl):g:=by subst e1 i;exact h.mono λ_ e=>ek
theorem zg{b}{p q g:Prop}(i:b=true->p)(j:b=false->q)(e:cond b p q=g:=by(conv=>rhs;whnf)<;>exact rfl):g:=ek
theorem Sat.cal{P}{k}{args}{R}{Q:Res->Prop}(h:Sat P k args (λr=>r=R))(g:Q R):Sat P k args Q:=h.mono λ_ e=>ek
theorem CC.s{P}{k}(c:CC P k)(T:Tab P){args}{Q:Res->Prop}{p}(h:p)(e:wpF P T.f c.A args Q=p:=by(conv=>lhs;whnf)<;>exact rfl)(g:qT P k=true:=by kernel_rfl):Sat P k args Q:=z7 T c.ok g (e▸h)
theorem zw{B g}{n:Int}{l:am (am D)}{sz}{y}{K:am D->Prop}{p}(i:B)(j:p)(e:(0<=n/\∃y,l[n.toNat]?=some y/\y.length=sz/\K y)=g:=by(conv=>rhs;whnf)<;>exact rfl)(hB:B=(l[n.toNat]?=some y):=by exact rfl)(hA:0<=n:=by omega)(hC:y.length=sz:=by exact rfl)(e1:K y=p:=by(conv=>lhs;whnf)<;>exact rfl):g:=by subst e e1;exact⟨hA,y,hB▸i,hC,j⟩
theorem xK{g}{n:Int}{l:am (am D)}{sz}{y}{K:am D->Prop}{p}(i:p)(e:(0<=n/\∃y,l[n.toNat]?=some y/\y.length=sz/\K y)=g:=by(conv=>rhs;whnf)<;>exact rfl)(hB:l[n.toNat]?=some y:=by exact rfl)(hA:0<=n:=by omega)(hC:y.length=sz:=by exact rfl)(e1:K y=p:=by(conv=>lhs;whnf)<;>exact rfl):g:=by subst e e1;exact⟨hA,y,hB,hC,i⟩
theorem yQ{A B C K g p}(i:p)(e:(A/\B/\C/\K)=g:=by(conv=>rhs;whnf)<;>exact rfl)(hA:A:=by simp)(hB:B:=by unfold zW;simp;omega)(hC:C:=by simp;omega)(e1:K=p:=by(conv=>lhs;whnf)<;>exact rfl):g:=by subst e e1;exact⟨hA,hB,hC,i⟩
theorem aw2{A B K g p}(i:p)(e:(A/\B/\K)=g:=by(conv=>rhs;whnf)<;>exact rfl)(hA:A:=by omega)(hB:B:=by omega)(e1:K=p:=by(conv=>lhs;whnf)<;>exact rfl):g:=by subst e e1;exact⟨hA,hB,i⟩
theorem UP{A K g p}(i:p)(e:(A/\K)=g:=by(conv=>rhs;whnf)<;>exact rfl)(hA:A:=by first|exact rfl|omega)(e1:K=p:=by(conv=>lhs;whnf)<;>exact rfl):g:=by subst e e1;exact⟨hA,i⟩
theorem ow{a:Type}{A K:a->Prop}{y}{g p}(i:p)(e:(∃y,A y/\K y)=g:=by(conv=>rhs;whnf)<;>exact rfl)(hA:A y:=by exact rfl)(e1:K y=p:=by(conv=>lhs;whnf)<;>exact rfl):g:=by subst e e1;exact⟨y,hA,i⟩
theorem zI{A B g p}{s}{i}{I:S->Prop}(hA:A)(hB:B)(j:p)(e:(A/\B/\xO s i I)=g:=by(conv=>rhs;whnf)<;>exact rfl)(e1:Ki s i I=p:=by(conv=>lhs;whnf)<;>exact rfl):g:=by subst e e1;exact⟨hA,hB,zi j⟩
theorem xm{P}(T:Tab P)(body)(n)(σ:Nat->S)(R:Nat->Prop){j:am Nat}{Q:E->S->Prop}{s}{g}
 (l:∀i,i<=n->R i->mwpR P T.f body (gW (λp=>i<n/\R (i+1)/\xO p j (· =σ (i+1))) Q) (σ i)) (e:z6 (mwpR P T.f body) j Q s=g:=by(conv=>rhs;whnf)<;>exact rfl) (h0:R 0:=by first|exact trivial|exact rfl) (o:Ki s j (· =σ 0):=by(conv=>whnf)<;>exact rfl):g:=by subst e;exact zX n σ R ⟨h0,zi o⟩ l
theorem xL{i n:Nat}{p q g:Prop}(j:i<n->p)(l:n<=i->q)(e:cond (decide ((i:Int)<(n:Int))) p q=g:=by(conv=>rhs;whnf)<;>exact rfl):g:=by
 subst e;cases h:decide ((i:Int)<(n:Int))
 .exact l (by have:=aQ h;omega)
 exact j (by have:=aS h;omega)
theorem Zc{i n:Nat}{p q g:Prop}(j:i<n->p)(l:i=n->q)(e:cond (decide ((i:Int)<(n:Int))) p q=g:=by(conv=>rhs;whnf)<;>exact rfl)(o:i<=n:=by omega):g:=
 xL j (λh=>l (Nat.le_antisymm o h)) e
end Go.AM
namespace Go.Proofs.YtnlbmefhdiabcaaGreat
open Go Go.AM
noncomputable abbrev Pg:Program:=Tryz.prog
abbrev ex(k:Nat)(a:List W)(x:Res):Prop:=Sat Pg k a λr=>r=x
def afd:=6
def aut:=8
def uW:=10
def Zx:=11
def akC:=13
def aiw:=14
def akz:=15
def Xn:=16
def Xo:=17
def XQ:=18
def ar7:=19
def apN:=20
def apv:=21
def ae9:=22
def afo:=23
def ase:=24
def abD:=25
def amv:=26
def adS:=27
def aul:=30
def asf:=31
def YB:=32
def ar2:=33
def akB:=35
def Jv:=36
def ku:=37
def xu:=38
def jj:=39
def aiu:=40
def apz:=41
def ar8:=42
def uO:=43
def amx:=44
def Wt:=45
def adU:=46
def auu:=47
def abB:=48
def ae8:=49
def akv:=50
def kq:=51
def abC:=52
def amm:=53
def acY:=54
def afa:=55
def aml:=56
def akt:=57
def aaJ:=58
def amw:=59
def afm:=60
def ar1:=61
def U1:=62
def kf:=63
def apC:=64
def YA:=65
def aaK:=66
def apA:=67
def afg:=68
def apM:=69
def ad3:=70
def apP:=71
def JR:=72
def kw:=73
def akL:=74
def U5:=75
def uz:=76
def abY:=77
def U3:=78
def U2:=79
def VK:=80
def Z1:=81
def ar0:=82
def ahD:=83
def apy:=84
def ar4:=85
def ar5:=86
def afj:=87
def gP:=88
def abL:=89
def ar6:=90
def JN:=91
def apH:=92
def abJ:=93
def gS:=94
def gR:=95
def kk:=96
def abP:=97
def Xp:=98
def VJ:=99
def gM:=100
def Y0:=101
def ad1:=102
def arX:=103
def abT:=104
def aaI:=105
def j9:=106
def kh:=107
def Jy:=108
def ki:=109
def Jz:=110
def aaL:=111
def ac2:=112
def afp:=113
def YZ:=114
def apK:=115
def kr:=116
def apB:=117
def Jw:=118
def qe:=119
def akw:=120
def ad0:=121
def apL:=122
def adZ:=123
def amz:=124
def amy:=125
def aiz:=126
def apR:=127
def afr:=128
def ad2:=129
def apQ:=130
def JP:=131
def ko:=132
def aiB:=133
def Z3:=134
def JQ:=135
def Yj:=136
def abQ:=137
def vx:=138
def Wb:=139
def aaM:=140
def Xs:=141
def U4:=142
def ag9:=143
def Vk:=144
def abR:=145
def akK:=146
def aiA:=147
def akJ:=148
def acZ:=149
def ZG:=150
def Xt:=151
def ac0:=152
def ahC:=153
def aug:=154
def gN:=155
def abF:=156
def amq:=157
def aky:=158
def amt:=159
def apE:=160
def ar3:=161
def akA:=162
def ams:=163
def jP:=164
def apF:=165
def YD:=166
def ar9:=167
def aum:=168
def amu:=169
def apG:=170
def axu:=171
def Vi:=172
def kl:=173
def apJ:=174
def aup:=175
def Uf:=176
def akG:=177
def aus:=178
def aur:=179
def abN:=180
def akF:=181
def akH:=182
def abO:=183
def afk:=184
def asa:=185
def VI:=186
def ac1:=187
def VG:=188
def Ke:=189
def kU:=190
def Xq:=191
def jm:=192
def Ju:=193
def X8:=194
def Vg:=195
def JL:=196
def JM:=198
def akI:=199
def km:=200
def JA:=201
def kt:=202
def abX:=203
def ag7:=204
def ag8:=205
def WF:=206
def abZ:=207
def abV:=208
def Y1:=209
def ZH:=210
def kV:=211
def Ui:=212
def arU:=213
def afb:=214
def apO:=215
def aui:=216
def afc:=217
def XO:=218
def amo:=219
def acX:=220
def arW:=221
def abS:=222
def apD:=223
def adW:=224
def abK:=225
def adX:=226
def aix:=227
def auq:=228
def asd:=229
def afl:=230
def Qf:=231
def adV:=232
def asb:=233
def yT:=234
def Q6:=235
def Xr:=236
def WH:=237
def Kd:=238
def gO:=241
def Ws:=242
def UZ:=243
def gL:=244
def abU:=245
def adY:=246
def Ug:=247
def uo:=248
def WI:=249
def ac3:=250
def XP:=251
def Vj:=252
def abE:=253
def auh:=254
def axt:=255
def xH:=256
def Q8:=257
def Q7:=258
def adT:=260
def aku:=261
def Zz:=262
def Zy:=263
def aee:=264
def jk:=265
def afh:=266
def afi:=267
def aun:=268
def apI:=269
def akD:=270
def abI:=271
def Z2:=272
def jl:=273
def vi:=274
def VE:=276
def JO:=286
def abW:=287
def VF:=288
def Uh:=289
def azT:=290
def azU:=291
def amn:=292
def Qx:=293
def Vh:=296
def aiv:=297
def amr:=298
def auo:=299
def ag6:=300
def abM:=301
def gQ:=302
def afe:=303
def abH:=304
def akE:=305
def aiy:=306
def Q9:=307
def Wa:=313
def WG:=314
def arY:=315
def auj:=316
def afq:=317
def aef:=318
def Ue:=320
def UE:=321
def amp:=322
def abG:=324
def Q5:=326
def aff:=328
def kj:=329
def Jt:=330
def apx:=331
def arZ:=332
def akx:=333
def ag5:=334
def auk:=336
abbrev up(n:Nat):am Nat:=yj 0 n
noncomputable def cp(o:am (Nat×am Nat))(g:am (am Nat))(k:Nat){A:AFun}(_:aHV Pg o g k=some A:=by conv=>lhs;reduce;simp only[u8r,amk,UInt8.reduceOfNat,Int.reduceOfNat,Int.reduceNegSucc])(h:cFun Pg o k=some A.erase:=by kernel_rfl):CC Pg k:=⟨o,A,h⟩
noncomputable section
def Xc:=cp [(10,[0,1,2,3,4,5,6,7,8,9,10,11,12,14,15,16,13,17,18,19])] [[4,8,9,13,14,16],[0,2,4,7]] 6
def Qr:=cp [] [[3,5,6]] 8
def aaz:=cp [] [[0,4,8,32,33,34]] 10
def aaC:=cp [(8,up 14)] [[0,3,4,8,10]] 11
def gg:=cp [] [[0,3]] 13
def QW:=cp [] [[1,3],[1,3,4]] 14
def YW:=cp [] [[1,5],[1,4],[1,3]] 15
def WV:=cp [] [] 16
def W6:=cp [] [] 17
def ZX:=cp [] [[0,10,38,39,40]] 18
def aeL:=cp [(6,up 9)] [[0,1,5]] 19
def QI:=cp [(9,up 9),(22,up 9)] [[1,59,60,61],[1,59,60,61,71,72,73],[1,22,23,24]] 20
def ao7:=cp [] [] 21
def aeC:=cp [(1000007,[1]),(28,up 13)] [[0,3,5,6,11,13,14,46,47,48]] 22
def KU:=cp [(19,up 8),(2000025,[1,7,0,1,2,3,6,7,9,2,1,8,4,5,8,10,11,12,13,14,0,1,1,5,2,1,7,4,8,10,11,12,13,14,0,1,1,8,2,1,6,4,10,11,12,13,14,0,1,6,10,4,11,12,13,14,0])] [[0,2,3,5,11,13,15,16],[0,2,3,5,11,13,14]] 23
def aeN:=cp [(6,up 25)] [[0,1,5]] 24
def alZ:=cp [(1000003,[2])] [] 25
def abk:=cp [] [[1,2,5]] 26
def Yu:=cp [(7,up 38),(28,[0,1,2,3,5,6,4,7,8,9,10])] [[4,14,107,108,109],[2,4,10,11,84,85,86],[1,2,4,23,24,25]] 27
def ahr:=cp [] [[1,3]] 30
def aeO:=cp [] [[1,4,8,9,10]] 31
def Yv:=cp [] [[0,3,9,10]] 32
def aeG:=cp [] [] 33
def gf:=cp [] [[0,3]] 35
def apc:=cp [] [] 36
def KY:=cp [(9,up 12)] [[0,12,13,14]] 37
def xT:=cp [] [[1,57,58,59]] 38
def ul:=cp [] [] 39
def KO:=cp [] [[0,3]] 40
def QG:=cp [(17,up 10),(22,up 16)] [[1,6],[1,6,7],[1,3]] 41
def qG:=cp [] [[1,5,11]] 42
def wX:=cp [] [] 43
def abo:=cp [] [[17,18,19]] 44
def Wl:=cp [] [] 45
def adE:=cp [] [[0,12,13]] 46
def at6:=cp [(1000001,[2])] [] 47
def alX:=cp [] [] 48
def aeB:=cp [(10,[0,1,3,4,2,5,6,7,8])] [[2,3,11,12,13]] 49
def k9:=cp [(5,up 12)] [[0,2,3,4]] 50
def Xd:=cp [] [[0,1,7,8]] 51
def alY:=cp [] [] 52
def abg:=cp [(6,up 8)] [[0,13,14,15]] 53
def acx:=cp [] [] 54
def aeD:=cp [] [[0,11,29,30,31]] 55
def VS:=cp [(1000002,[1]),(8,up 14),(9,up 12),(1000012,[1])] [[6,16,17,18]] 56
def WU:=cp [(1000001,[2])] [[1,6,13,14,15]] 57
def ub:=cp [(1000009,[1])] [[6,25,26,27],[0,3,9,10,11]] 58
def abl:=cp [(6,up 11)] [[0,1,5]] 59
def aeM:=cp [(2000009,[1,3,1,2,4,2,1,1,0,2,1,5,3,5,6,7,8,0,1,5,5,3,6,7,8,0,1,6,5,0,3,6,7,8,0]),(13,up 15),(14,[0,1,2,3,4,5,7,8,9,10,11,12,6,13,14,15])] [[2,3,7,8,9]] 60
def aeF:=cp [(6,up 9)] [[0,1,5]] 61
def US:=cp [] [] 62
def ah9:=cp [] [] 63
def adI:=cp [] [[1,3]] 64
def ao5:=cp [] [] 65
def Qu:=cp [(9,[0,1,2,4,5,6,3,7,8,9]),(1000009,[3])] [[7,8]] 66
def adG:=cp [] [[0,1,5]] 67
def aeH:=cp [] [[1,2,3,7]] 68
def adM:=cp [] [[4,37,38,39]] 69
def adO:=cp [(24,up 21)] [[0,3,6,13,14,15]] 70
def apq:=cp [] [] 71
def Qc:=cp [] [[0,6,11,12,13]] 72
def Yf:=cp [] [[0,6,24,25,26]] 73
def ajW:=cp [(1000001,[1])] [] 74
def qi:=cp [] [[0,6,29,30,31]] 75
def zQ:=cp [(1000010,[1]),(15,[0,1,3,4,5,2,6,7,8]),(18,up 13),(42,up 7)] [[20,130,131,132],[5,10,20,106,107,108],[1,5,8,10,83,84,85],[1,5,8,10,16,83,84,85,89,90,91],[1,5,8,10,46,47,48]] 76
def VZ:=cp [(1000013,[0]),(1000015,[1,2])] [[2,3,4,7,19,20,21]] 77
def qh:=cp [(4,[0,1,3,4,2,5,6,7]),(2000005,[1,2,0,3,2,1,1,1,2,1,5,2,4,5,6,7,0,1,5,4,2,5,6,7,0,1,6,4,1,2,5,6,7,0]),(2000006,[1,1,1,2,1,1,0,2,1,5,2,3,4,5,6,0,1,5,3,2,4,5,6,0,2,1,1,2,2,1,5,0,3,4,5,6,0,1,1,3,2,1,4,0,4,5,6,0,1,4,4,0,5,6,0,1,1,3,2,1,5,0,2,4,5,6,0,1,1,2,2,1,4,0,4,5,6,0,1,4,4,0,5,6,0]),(17,up 12),(22,up 16)] [[4,6,10,11,12,13,14,15,60,61,62],[4,6,10,11,12,13,14,15,17,18,60,61,62,75,76,77]] 78
def qg:=cp [(4,[0,1,3,4,2,5,6,7]),(5,[0,2,1,3,4,5]),(2000006,[1,1,1,2,1,1,0,2,1,5,2,3,4,5,6,0,1,5,3,2,4,5,6,0,2,1,1,2,2,1,5,0,3,4,5,6,0,1,1,3,2,1,4,0,4,5,6,0,1,4,4,0,5,6,0,1,1,3,2,1,5,0,2,4,5,6,0,1,1,2,2,1,4,0,4,5,6,0,1,4,4,0,5,6,0]),(2000015,[1,7,0,1,2,3,4,5,6,2,1,1,7,2,1,4,8,9,10,11,0,1,4,9,8,10,11,0,2,1,1,8,2,1,4,7,9,10,11,0,1,1,9,2,1,3,7,10,11,0,1,3,10,7,11,0,1,1,9,2,1,4,7,8,10,11,0,1,1,8,2,1,3,7,10,11,0,1,3,10,7,11,0]),(1000015,[999999]),(17,up 16),(2000023,[1,3,0,2,4,2,1,7,1,3,5,6,7,8,9,0,1,1,3,2,1,6,1,5,6,7,8,9,0,1,6,5,1,6,7,8,9,0])] [[4,6,10,11,12,13,14,15,55,56,57],[4,6,10,11,12,13,14,15,17,18,55,56,57,62,63,64]] 79
def yv:=cp [(2000004,[1,3,0,1,3,2,1,5,2,4,5,6,7,0,1,5,4,2,5,6,7,0]),(11,[0,1,2,4,3,5,6,7,8]),(1000013,[1]),(18,up 24),(19,up 16),(2000026,[1,11,0,2,3,5,6,7,8,9,10,11,12,2,1,1,1,2,1,7,4,13,14,15,16,17,18,0,1,7,13,4,14,15,16,17,18,0,2,1,1,4,2,1,7,1,13,14,15,16,17,18,0,1,1,13,2,1,6,1,14,15,16,17,18,0,1,6,14,1,15,16,17,18,0,1,1,13,2,1,7,1,4,14,15,16,17,18,0,1,1,4,2,1,6,1,14,15,16,17,18,0,1,6,14,1,15,16,17,18,0])] [[4,19,124,125,126],[4,6,11,69,70,71],[4,6,8,9,10,11,40,41,42]] 80
def qE:=cp [] [[4,5,8,43,44,45],[4,5,8,12,13,43,44,45,50,51,52],[4,5,8,23,24,25]] 81
def aeE:=cp [] [[0,3]] 82
def ahq:=cp [] [[1,2,5]] 83
def ao9:=cp [] [] 84
def aeI:=cp [] [] 85
def aeJ:=cp [] [] 86
def arb:=cp [] [] 87
def WY:=cp [] [[0,1,6,7]] 88
def ZS:=cp [] [[0,3,6,7,8]] 89
def aeK:=cp [] [[0,1,5]] 90
end
noncomputable section
def vG:=cp [] [] 91
def uM:=cp [(5,up 7),(10,[0,1,2,3,4,5,7,8,9,10,11,12,6,13,14,15]),(13,up 11),(28,up 19),(33,up 10)] [[16,18],[1,5,8,16,17],[0,1,5,8,13],[0,1,5,8,10],[0,1,5,8,9]] 92
def ZR:=cp [(7,up 8),(14,up 19)] [[1,2,4,8,9],[1,2,4,8,9,10],[1,2,4,7]] 93
def vq:=cp [(9,up 13),(13,up 13),(15,up 26),(2000018,[1,15,0,2,3,4,5,6,7,8,10,11,12,13,14,15,16,2,1,8,1,9,17,18,19,20,21,22,0,1,1,9,2,1,7,1,17,18,19,20,21,22,0,1,1,17,2,1,6,1,18,19,20,21,22,0,1,6,18,1,19,20,21,22,0])] [[2,3,4,6,10,11,12],[2,3,4,6,10,11,12,13,14,15]] 94
def WZ:=cp [(2000010,[1,12,0,2,3,4,5,6,7,8,9,10,11,13,2,1,8,1,12,14,15,16,17,18,19,0,1,1,12,2,1,7,1,14,15,16,17,18,19,0,1,1,14,2,1,6,1,15,16,17,18,19,0,1,6,15,1,16,17,18,19,0])] [[2,3,4,6,10,11,12]] 95
def vT:=cp [(8,up 13),(10,[0,1,2,3,4,5,6,7,9,10,12,13,8,11,14,15,16,17,18]),(17,up 40),(18,up 30),(2000019,[1,5,0,3,4,5,6,2,1,7,1,2,7,8,9,10,11,0,1,1,2,2,1,6,1,7,8,9,10,11,0,1,6,7,1,8,9,10,11,0])] [[4,8,12,13,14],[1,2,4,6,8,9]] 96
def qL:=cp [(8,up 15),(17,up 15)] [[2,3,4,7,8],[2,3,4,7,8,9],[2,3,4,7,8,9,10,11],[2,3,4,7,8,9,10,11,12,13]] 97
def wA:=cp [(9,up 15),(15,up 18)] [[2,3,5,6],[2,3,5,6,7,8]] 98
def VH:=cp [] [[0,23,24]] 99
def ajQ:=cp [] [] 100
def YY:=cp [] [[0,1,7,8]] 101
def apm:=cp [] [] 102
def aBL:=cp [] [] 103
def Wm:=cp [(6,up 9)] [[0,1,12,13]] 104
def ua:=cp [(1000009,[1])] [[6,25,26,27],[0,3,9,10,11]] 105
def Va:=cp [(1000000,[4])] [] 106
def aia:=cp [] [] 107
def Yx:=cp [(1000011,[2])] [[0,1,5,6]] 108
def aib:=cp [] [] 109
def Jm:=cp [(1000002,[2])] [] 110
def aaD:=cp [(1000001,[0])] [] 111
def acA:=cp [] [] 112
def W7:=cp [(7,up 15)] [[0,3,4],[0,3,4,5]] 113
def gn:=cp [(4,up 10)] [[0,1,5]] 114
def adL:=cp [] [[0,1,5,6]] 115
def Xe:=cp [] [[0,1,7,8]] 116
def Jj:=cp [] [[0,5],[0,3,4]] 117
def Yw:=cp [] [[0,1,2,11,12,13]] 118
def apn:=cp [] [] 119
def ajR:=cp [] [] 120
def apk:=cp [(1000001,[0])] [] 121
def aph:=cp [] [] 122
def apj:=cp [] [] 123
def abp:=cp [(1000008,[2])] [[3,8,9,10]] 124
def XM:=cp [(1000006,[2]),(1000017,[2])] [[3,36,37,38]] 125
def aie:=cp [(1000005,[1])] [] 126
def apr:=cp [] [] 127
def are:=cp [(1000001,[1])] [] 128
def apo:=cp [(4,[0,6,7,8,9,10,11,12,1,2,3,4,5,13,14,15,16,17])] [] 129
def Jn:=cp [] [[0,6,10,11,12]] 130
def ag2:=cp [] [] 131
def KW:=cp [] [] 132
def aig:=cp [] [] 133
def ZU:=cp [] [] 134
def ag3:=cp [] [] 135
def QX:=cp [] [[0,4,7,8,9]] 136
def abm:=cp [] [] 137
def jU:=cp [(1000000,[4])] [] 138
def aif:=cp [(2000001,[1,2,1,4,2,1,1,0,2,1,1,2,2,1,1,3,2,1,4,5,6,7,8,0,1,4,6,5,7,8,0,1,5,6,3,5,7,8,0,2,1,1,3,2,1,1,2,2,1,4,5,6,7,8,0,1,4,6,5,7,8,0,1,5,6,2,5,7,8,0,1,6,6,3,2,5,7,8,0,2,1,1,3,2,1,1,0,2,1,1,2,2,1,4,5,6,7,8,0,1,4,6,5,7,8,0,1,5,6,2,5,7,8,0,1,6,6,0,2,5,7,8,0,1,7,6,0,3,2,5,7,8,0]),(1000001,[6])] [] 139
def Zu:=cp [(4,up 12)] [[0,1,2,13,14]] 140
def aeP:=cp [] [] 141
def jV:=cp [(2000011,[1,3,0,1,5,2,1,2,2,3,2,1,3,4,6,7,0,1,3,6,4,7,0,1,5,6,2,3,4,7,0]),(12,up 11)] [[0,1,2,13,14,15]] 142
def Qb:=cp [] [[2,5,8,9,10]] 143
def Vc:=cp [] [[1,5,9,10,11]] 144
def abn:=cp [] [] 145
def ajV:=cp [(2000001,[1,9,0,1,2,3,4,5,6,7,8,2,1,2,9,10,2,1,1,11,2,1,4,12,13,14,15,0,1,4,13,12,14,15,0,2,1,1,12,2,1,4,11,13,14,15,0,1,1,13,2,1,3,11,14,15,0,1,3,14,11,15,0,1,1,13,2,1,4,11,12,14,15,0,1,1,12,2,1,3,11,14,15,0,1,3,14,11,15,0,2,1,1,12,2,1,2,9,10,2,1,4,11,13,14,15,0,1,1,13,2,1,3,11,14,15,0,1,3,14,11,15,0,1,1,13,2,1,2,9,10,2,1,3,11,14,15,0,1,3,14,11,15,0,1,5,14,9,10,11,15,0,1,1,13,2,1,2,9,10,2,1,4,11,12,14,15,0,1,1,12,2,1,3,11,14,15,0,1,3,14,11,15,0,1,1,12,2,1,2,9,10,2,1,3,11,14,15,0,1,3,14,11,15,0,1,5,14,9,10,11,15,0]),(1000001,[999999]),(2000002,[1,16,0,1,2,3,4,5,6,7,8,9,10,11,12,13,14,16,2,1,1,15,2,1,5,17,18,19,20,21,0,1,5,20,17,18,19,21,0,2,1,1,17,2,1,5,15,18,19,20,21,0,1,5,20,15,18,19,21,0,1,6,20,15,17,18,19,21,0])] [] 146
def KZ:=cp [] [] 147
def Vb:=cp [] [[0,5,8,9,10]] 148
def acy:=cp [] [] 149
def VD:=cp [(1000000,[4])] [] 150
def aeQ:=cp [(1,[0,1,2,3,5,6,7,8,9,10,4,11,12,13,14])] [] 151
def W8:=cp [(6,up 9)] [[0,1,12,13]] 152
def at2:=cp [] [] 153
def aay:=cp [] [] 154
def qX:=cp [(2,[0,1,2,3,7,4,5,6])] [[2,3,5,20,21,22],[2,3,5,7,8,20,21,22,30,31,32],[2,3,5,7,8,10,11,12,20,21,22,30,31,32,52,53,54]] 155
def vd:=cp [(1,[0,1,3,4,2,5,6,7])] [[4,8,9,10,13,44,45,46],[4,8,9,10,13,15,16,44,45,46,57,58,59],[2,3,4,8,9,10,26,27,28]] 156
def abh:=cp [] [[0,3,4]] 157
def awB:=cp [] [] 158
def abj:=cp [] [] 159
def ape:=cp [] [] 160
def aq8:=cp [] [] 161
def WW:=cp [] [[0,3,4]] 162
def VY:=cp [] [[1,3,4,5]] 163
def Jk:=cp [(9,up 9)] [[0,3],[0,3,4]] 164
def Jl:=cp [] [[0,3,4]] 165
def QH:=cp [] [[0,3,7,8]] 166
def KQ:=cp [] [[0,1,6,7]] 167
def ahs:=cp [] [[0,1,5]] 168
def al4:=cp [] [] 169
def apf:=cp [] [] 170
def ajS:=cp [(4,up 8),(5,up 10)] [[1,2,3,4,9]] 171
def W4:=cp [] [] 172
def ard:=cp [(2000001,[1,4,0,1,5,6,2,1,3,2,3,4,2,1,2,7,8,2,1,1,9,2,1,4,10,11,12,13,0,1,4,11,10,12,13,0,2,1,1,10,2,1,4,9,11,12,13,0,1,1,11,2,1,3,9,12,13,0,1,3,12,9,13,0,1,1,11,2,1,4,9,10,12,13,0,1,1,10,2,1,3,9,12,13,0,1,3,12,9,13,0,2,1,1,10,2,1,2,7,8,2,1,4,9,11,12,13,0,1,1,11,2,1,3,9,12,13,0,1,3,12,9,13,0,1,3,11,7,8,2,1,3,9,12,13,0,1,3,12,9,13,0,1,1,11,2,1,2,7,8,2,1,4,9,10,12,13,0,1,1,10,2,1,3,9,12,13,0,1,3,12,9,13,0,1,3,10,7,8,2,1,3,9,12,13,0,1,3,12,9,13,0,2,1,1,10,2,1,3,2,3,4,2,1,2,7,8,2,1,4,9,11,12,13,0,1,1,11,2,1,3,9,12,13,0,1,3,12,9,13,0,1,3,11,7,8,2,1,3,9,12,13,0,1,3,12,9,13,0,1,6,11,2,3,4,7,8,2,1,3,9,12,13,0,1,3,12,9,13,0,1,1,11,2,1,3,2,3,4,2,1,2,7,8,2,1,4,9,10,12,13,0,1,1,10,2,1,3,9,12,13,0,1,3,12,9,13,0,1,3,10,7,8,2,1,3,9,12,13,0,1,3,12,9,13,0,1,6,10,2,3,4,7,8,2,1,3,9,12,13,0,1,3,12,9,13,0]),(1000001,[999999])] [] 173
def adK:=cp [(2000004,[1,12,0,1,2,3,4,5,9,10,11,12,13,14,2,1,3,6,7,8,2,1,2,15,16,2,1,1,17,2,1,4,18,19,20,21,0,1,4,19,18,20,21,0,2,1,1,18,2,1,4,17,19,20,21,0,1,1,19,2,1,3,17,20,21,0,1,3,20,17,21,0,1,1,19,2,1,4,17,18,20,21,0,1,1,18,2,1,3,17,20,21,0,1,3,20,17,21,0,2,1,1,18,2,1,2,15,16,2,1,4,17,19,20,21,0,1,1,19,2,1,3,17,20,21,0,1,3,20,17,21,0,1,3,19,15,16,2,1,3,17,20,21,0,1,3,20,17,21,0,1,1,19,2,1,2,15,16,2,1,4,17,18,20,21,0,1,1,18,2,1,3,17,20,21,0,1,3,20,17,21,0,1,3,18,15,16,2,1,3,17,20,21,0,1,3,20,17,21,0,2,1,1,18,2,1,3,6,7,8,2,1,2,15,16,2,1,4,17,19,20,21,0,1,1,19,2,1,3,17,20,21,0,1,3,20,17,21,0,1,3,19,15,16,2,1,3,17,20,21,0,1,3,20,17,21,0,1,6,19,6,7,8,15,16,2,1,3,17,20,21,0,1,3,20,17,21,0,1,1,19,2,1,3,6,7,8,2,1,2,15,16,2,1,4,17,18,20,21,0,1,1,18,2,1,3,17,20,21,0,1,3,20,17,21,0,1,3,18,15,16,2,1,3,17,20,21,0,1,3,20,17,21,0,1,6,18,6,7,8,15,16,2,1,3,17,20,21,0,1,3,20,17,21,0]),(1000004,[999999])] [[2,3,4,5,6,11]] 174
def at5:=cp [(2,[0,1,3,4,2,5,6,7]),(3,[0,1,3,4,2,5,6,7])] [] 175
def uZ:=cp [] [[1,2,3,7,8]] 176
def W5:=cp [(8,up 30),(9,up 16)] [[2,3,4,5,9,10,11,12]] 177
def ahv:=cp [] [[0,1,5]] 178
def aaB:=cp [(5,up 13)] [[1,2,3,7,8]] 179
def al5:=cp [] [] 180
def gm:=cp [(4,up 10)] [[0,1,5]] 181
def gq:=cp [(1,[0,1,2,3,5,6,7,8,4,9,10,11]),(5,up 17)] [[11,12,13]] 182
def vU:=cp [(12,up 16)] [[2,3,5,6,7],[2,3,5,6,7,8,9]] 183
def arc:=cp [] [] 184
def KR:=cp [] [] 185
def aed:=cp [] [] 186
def acz:=cp [] [] 187
def wx:=cp [(1000003,[4]),(1000006,[4]),(1000010,[7]),(1000015,[5])] [[0,1,2,6],[0,1,2,6,7,8],[0,1,2,6,7,8]] 188
def YX:=cp [] [[0,1,7,8]] 189
def kS:=cp [(1000001,[1])] [] 190
def apa:=cp [] [] 193
def kR:=cp [] [] 194
def acv:=cp [] [] 195
def agZ:=cp [] [] 196
def JH:=cp [] [] 198
def ajU:=cp [] [] 199
def KV:=cp [] [] 200
def apl:=cp [] [] 201
def KX:=cp [] [[1,6,13,14,15]] 202
def abq:=cp [] [[13,14,15]] 203
def JJ:=cp [] [] 204
def JK:=cp [(1000004,[2])] [[0,8,9,10]] 205
def WE:=cp [] [] 206
def al7:=cp [] [] 207
def Wo:=cp [] [[0,1,7,8]] 208
def vl:=cp [] [[0,1,7,8]] 209
def xj:=cp [(1000003,[4]),(1000006,[4]),(1000010,[7]),(1000015,[5])] [[0,1,2,6],[0,1,2,6,7,8],[0,1,2,6,7,8]] 210
def kT:=cp [] [] 211
def wG:=cp [(1000003,[4]),(1000006,[4]),(1000010,[7]),(1000015,[5])] [[0,1,2,6],[0,1,2,6,7,8],[0,1,2,6,7,8]] 212
def aez:=cp [] [[3,6,7,8]] 213
def aq2:=cp [] [] 214
def adN:=cp [] [] 215
def ahp:=cp [(6,up 8)] [[0,12,13,14]] 216
def Xb:=cp [(1000005,[2]),(16,up 8),(18,[0,1,2,4,5,6,3,7,8,9,10])] [[0,1,5,6,7,8,27,28,29]] 217
def VU:=cp [] [[1,5,19,20,21]] 218
def VV:=cp [] [[2,5,8,9,10]] 219
def acw:=cp [] [[0,1,4,5,8,9,10]] 220
end
noncomputable section
def KN:=cp [] [[0,5,8,9,10]] 221
def uw:=cp [(1000009,[1])] [[6,25,26,27],[0,3,9,10,11]] 222
def apd:=cp [] [] 223
def adH:=cp [] [[1,2,5,6]] 224
def abi:=cp [] [[1,3,4]] 225
def adJ:=cp [] [[1,3,4]] 226
def qm:=cp [(6,up 9),(11,up 18),(14,up 18),(17,up 9)] [] 227
def ahu:=cp [] [[0,1,5]] 228
def KT:=cp [] [[0,1,2,7,8]] 229
def ZK:=cp [(5,[0,1,2,3,4,5,6,7,8,10,9,11,12]),(8,up 16)] [[2,4,5,7,8,9,10]] 231
def apb:=cp [] [] 232
def KS:=cp [(6,up 11)] [[0,1,5]] 233
def zR:=cp [(11,up 9),(13,up 9),(23,up 10),(24,up 12)] [[0,1,5,6,7,8]] 234
def wB:=cp [(4,up 17),(6,up 18)] [[0,1,2,3,8],[0,1,2,3,8,9]] 236
def xx:=cp [(5,up 11),(11,up 18),(17,up 12),(23,up 18),(35,up 14),(1000040,[5]),(1000042,[5]),(1000044,[5])] [[0,1,2,3,4,18,19,20,21,22],[0,14,17],[0,2,4,14,15],[0,10,13],[0,1,4,10,11]] 237
def ajT:=cp [] [] 241
def abf:=cp [] [] 242
def aeA:=cp [] [] 243
def ajO:=cp [] [] 244
def Wn:=cp [] [[0,1,7,8]] 245
def api:=cp [] [] 246
def ZV:=cp [] [[0,1,7,8]] 247
def xz:=cp [(4,up 17),(6,up 18)] [[0,1,2,3,8],[0,1,2,3,8,9]] 248
def xy:=cp [(5,up 11),(11,up 18),(17,up 12),(23,up 18),(35,up 14),(1000040,[5]),(1000042,[5]),(1000044,[5])] [[0,1,2,3,4,18,19,20,21,22],[0,14,17],[0,2,4,14,15],[0,10,13],[0,1,4,10,11]] 249
def W9:=cp [(4,up 6)] [[0,3,7,8]] 250
def wF:=cp [(4,up 17),(6,up 18)] [[0,1,2,3,8],[0,1,2,3,8,9]] 251
def xF:=cp [(5,up 11),(11,up 18),(17,up 12),(23,up 18),(35,up 14),(1000040,[5]),(1000042,[5]),(1000044,[5])] [[0,1,2,3,4,18,19,20,21,22],[0,14,17],[0,2,4,14,15],[0,10,13],[0,1,4,10,11]] 252
def al0:=cp [] [] 253
def at3:=cp [(1,up 9)] [] 254
def awA:=cp [] [] 255
def qB:=cp [(7,up 13),(9,up 14),(11,up 13),(14,up 13),(17,up 8)] [] 256
def w6:=cp [] [[0,1,2,8,9,10]] 257
def aic:=cp [] [] 258
def ao6:=cp [] [] 260
def ajP:=cp [] [[2,3,4,8,9,10]] 261
def Qt:=cp [(7,up 8)] [[0,1,4,5,6]] 262
def Qs:=cp [(7,up 8)] [[0,1,4,5,6]] 263
def aeb:=cp [] [] 264
def qF:=cp [(4,up 33)] [] 265
def ara:=cp [] [] 266
def WX:=cp [(6,up 9),(7,up 8),(8,up 19)] [] 267
def v7:=cp [(14,up 34)] [[0,1,4,5,6]] 268
def apg:=cp [] [] 269
def gh:=cp [] [[0,3]] 270
def al3:=cp [] [] 271
def ZT:=cp [(7,up 11),(9,up 11),(10,[0,1,2,3,4,5,8,9,6,7,10])] [] 272
def Ye:=cp [] [] 273
def wz:=cp [] [] 274
def ZE:=cp [(1000004,[7]),(1000006,[11]),(1000008,[7])] [[0,2,4,10,11]] 276
def JI:=cp [] [[1,15,16]] 286
def al6:=cp [] [] 287
def ZF:=cp [(1000004,[7]),(1000006,[11]),(1000008,[7])] [[0,2,4,10,11]] 288
def ZW:=cp [(1000004,[7]),(1000006,[11]),(1000008,[7])] [[0,2,4,10,11]] 289
def anK:=cp [] [] 290
def ay7:=cp [] [] 291
def VT:=cp [] [] 292
def Qp:=cp [(3,up 12),(7,up 11),(9,up 11),(10,[0,1,2,3,4,5,8,9,6,7,10])] [] 293
def aq9:=cp [] [] 296
def KP:=cp [] [[1,4]] 297
def XK:=cp [] [] 298
def aht:=cp [(8,up 9)] [[0,2,3,4]] 299
def ag1:=cp [] [] 300
def XL:=cp [] [[0,1,2,7]] 301
def gi:=cp [] [] 302
def aq4:=cp [] [] 303
def al1:=cp [] [] 304
def gj:=cp [] [] 305
def aid:=cp [] [] 306
def jd:=cp [(3,up 24)] [[0,1,2,3,10]] 307
def je:=cp [(3,up 24)] [[0,1,2,3,10]] 313
def jF:=cp [(3,up 24)] [[0,1,2,3,10]] 314
def aq3:=cp [] [] 315
def Qq:=cp [] [] 316
def aec:=cp [] [] 318
def VX:=cp [] [] 320
def aaA:=cp [(2,up 9),(4,up 9),(5,up 9)] [] 321
def al2:=cp [] [] 322
def VW:=cp [] [] 324
def jc:=cp [] [] 326
def aq7:=cp [] [] 328
def aq6:=cp [] [] 329
def ao8:=cp [] [] 330
def adF:=cp [] [[0,1,4,5,6]] 331
def aq5:=cp [] [] 332
def gc:=cp [] [] 333
def ag0:=cp [(6,up 8)] [[2,8,9,10,14,15,16,17,18],[2,8,9,10,11,13,14,15,16]] 334
def at4:=cp [] [] 336
end
end Go.Proofs.YtnlbmefhdiabcaaGreat
namespace Go.AM
theorem beqS_iff(x y):zl x y=true↔x=y:=by
 unfold zl;rw[cM,cM];constructor
 .intro h;have h:=eq_of_beq h;cases x;simp_all
 simp_all
theorem beqS_self(x):zl x x=true:=(beqS_iff x x).2 rfl
theorem WP(x y):zl x y=false↔x≠y:=by grind[beqS_iff]
theorem VQ(x y)(xs ys):aX (x::xs) (y::ys)=true↔x<y\/(x=y/\aX xs ys=true):=by simp[aX]
theorem KM:∀(l),aX l l=false
 |[]=>rfl
 |x::r=>by have:=KM r;simp[aX,this]
theorem k8:∀(a b c),aX a b=true->aX b c=true->aX a c=true
 |_,_,[],_,h=>by grind[aX]
 |_,[],_::_,h,_=>by grind[aX]
 |[],_::_,_::_,_,_=>rfl
 |x::xs,y::ys,z::j,i,g=>by
  rw[VQ]at i g⊢;rcases i with i|⟨rfl,i⟩
  .rcases g with g|⟨rfl,g⟩
   .exact .inl (UInt8.lt_trans i g)
   exact .inl i
  rcases g with g|⟨rfl,g⟩
  .exact .inl g
  exact .inr ⟨rfl,k8 xs ys j i g⟩
theorem adD:∀(a b),aX a b=false->aX b a=false->a=b
 |[],[],_,_=>rfl
 |[],y::ys,h,_=>by grind[aX]
 |x::xs,[],_,h=>by grind[aX]
 |x::xs,y::ys,i,j=>by
  have g1:¬(x<y\/(x=y/\aX xs ys=true)):=λh=>by grind[VQ]
  have g2:¬(y<x\/(y=x/\aX ys xs=true)):=λh=>by grind[VQ]
  have g:x=y:=by
   rcases UInt8.lt_or_lt_of_ne (a:=x) (b:=y)|> λf=>Decidable.em (x=y)with h|h
   .exact h
   grind
  subst g;rw[adD xs ys ?_ ?_]
  .cases h:aX xs ys
   .rfl
   exact absurd (.inr ⟨rfl,h⟩) g1
  cases h:aX ys xs
  .rfl
  exact absurd (.inr ⟨rfl,h⟩) g2
theorem ltS_irrefl(x):Wv x x=false:=KM _
theorem aoc{x y z}(g:Wv x y=true)(i:Wv y z=true):Wv x z=true:=k8 _ _ _ g i
theorem aFe{x y}(g:Wv x y=false)(i:Wv y x=false):x=y:=by have h:=adD _ _ g i;exact(beqS_iff x y).1 (by simp_all[zl])
theorem az3{x y}(h:Wv x y=true):Wv y x=false:=by grind[aoc,ltS_irrefl]
end Go.AM
namespace Go.Proofs
set_option maxHeartbeats 1000000 in
set_option maxRecDepth 100000 in
theorem Tryz.stringslite_IndexByte(s:ByteArray)(c:Int)(w:World):
 Calls Tryz.prog 235 #[.string s,.int .u8 c] w λe w'=>e=.returned (.int .i64 (Lib.indexByte s.data.toList c.toNat.toUInt8))/\w'=w:=by
 go_enter Tryz.func235,Tryz.ntmps235
 go_wp2
 rw[run_callFunc_extern Tryz.func275 er er er (e:=Extern.BytealgIndexByte.indexByte) er,Lib.run_indexByteString];simp only[Result.andThen];rw[Oper.upon_value]
 go_wp2
 go_ret
 simp_all
end Go.Proofs
namespace Go.Proofs.YtnlbmefhdiabcaaGreat
open Go Go.AM
def int(n:Int):C:=.d (.lit (.int .i64 n))
def str(b:ByteArray):C:=.d (.lit (.string b))
def bool(n:Bool):C:=.d (.lit (.bool n))
def rI(n:Int):Res:=⟨.w (.c (int n)),[]⟩
def rB(n:Bool):Res:=⟨.w (.c (bool n)),[]⟩
theorem aDt{P}{k}{args:am W}{x:Value}(hk:qT P k=true)(l:x.oneCell'=true)
 (h:∀(w:World) (A:Nat->Prop) (g:am Value),qN (λ_=>⟨none,0⟩) w A args g->Calls P k g.toArray w λe w'=>e=.returned x/\w'=w):
 Sat P k args (λr=>r=⟨.w (.c (.d (.lit x))),[]⟩):=by
 refine⟨hk,λw A g hA j=>(h w A g j).mono ?_⟩;rintro e w' ⟨rfl,rfl⟩;refine⟨x,_,rfl,rfl,⟨bL _,λ_=>⟨none,0⟩,?_,?_,?_,?_,?_,?_⟩,Grows.refl _ _⟩
 .grind[VR,WR,CR,RD]
 .intro p y i;cases i
 .grind
 .grind
 .intro p y i;cases i
 grind
theorem atS{m:Nat->Gh}{w}{A:Nat->Prop}{g}{x y}(h:qN m w A [.c (.d (.lit x)),.c (.d (.lit y))] g):g=[x,y]:=by
 match g,h with
 |[v,u],h=>grind[qN,WR,CR,RD]
def aew(s:ByteArray)(c:Int):=Lib.indexByte s.data.toList c.toNat.toUInt8
theorem ajn(s)(c):ex Q6 [.c (str s),.c (.d (.lit (.int .u8 c)))] (rI (aew s c)):=by
 refine aDt er rfl λw A g h=>?_
 rw[atS h];exact Tryz.stringslite_IndexByte s c w
attribute [local irreducible] Sat
set_option maxRecDepth 100000
def T0:Tab Pg:=⟨λ_ _=>none,λ_ _ _ h=>by cases h⟩
theorem apY(s)(c):ex VI [.c (str s),.c (.d (.lit (.int .u8 c)))] (rI (aew s c)):=by refine z7 T0 aed.ok er ?_;refine Sat.cal (ajn s c) ?_;rfl
structure Val where
 k:Int
 n:Int
 s:ByteArray
def Val.ds(v:Val):am D:=[.lit (.int .i64 v.k),.lit (.int .i64 v.n),.lit (.string v.s)]
def Val.w(v:Val):W:=.agg [int v.k,int v.n,str v.s]
def inB(n):=decide (n>= -1000000000000000)&&decide (n<=1000000000000000)
theorem ayc(n):ex arX [.c (int n)] (rB (inB n)):=by refine z7 T0 aBL.ok er ?_;exact rfl
theorem asr(n:Int):(n !=n)=false:=ep
theorem beqS_self(b):zl b b=true:=by grind[zl]
theorem ap3(n):ex gL [.c (int n)] (rB false):=by refine ajO.s T0 ?_;exact aF rB (asr n)
theorem aej(n):ex Ws [.c (int n)] (rB false):=by refine abf.s T0 ?_;exact aF rB (asr n)
theorem ai2(b):ex UZ [.c (str b)] (rB false):=by refine aeA.s T0 ?_;exact aF rB (show(!zl b b)=false by grind[beqS_self])
def T1f(k:aT)(l:am W):aK W:=
 match l with
 |[.c (.d (.lit (.int .i64 n)))]=>bif bI k arX then some (.c (bool (inB n)))else bif bI k gL||bI k Ws then some (.c (bool false))else none
 |[.c (.d (.lit (.string _)))]=>bif bI k UZ then some (.c (bool false))else none
 |[.c (.d (.lit (.string s))),.c (.d (.lit (.int .u8 c)))]=>bif bI k VI then some (.c (int (aew s c)))else none
 |_=>none
theorem xV{c}{w z}{y:aK W}(h:(bif c then some w else y)=some z):(c=true/\z=w)\/(c=false/\y=some z):=ek
theorem aF4(k)(l)(w)(h:T1f k l=some w):Sat Pg k l (λr=>r=⟨.w w,[]⟩):=by
 unfold T1f at h;split at h
 .rcases xV h with⟨g,rfl⟩|⟨_,h⟩
  .rw[aG g];exact ayc _
  rcases xV h with⟨g,rfl⟩|⟨_,h⟩
  .rw[bV]at g;rcases g with g|g
   .rw[aG g];exact ap3 _
   rw[aG g];exact aej _
  cases h
 .rcases xV h with⟨g,rfl⟩|⟨_,h⟩
  .rw[aG g];exact ai2 _
  cases h
 .rcases xV h with⟨g,rfl⟩|⟨_,h⟩
  .rw[aG g];exact apY _ _
  cases h
 cases h
def T1:Tab Pg:=⟨T1f,aF4⟩
def xM(a b:Int):=bif decide (a<b)then-1 else bif decide (a>b)then 1 else 0
def ZZ(a b):=bif Wv a b then-1 else bif zl a b then 0 else 1
theorem aaf(a b):ex JL [.c (int a),.c (int b)] (rI (xM a b)):=by
 unfold xM;refine z7 T1 agZ.ok er ?_
 repeat' (conv=>whnf
          refine zt (λh=>?_) (λh=>?_))
 all_goals refine aF rI ?_
 all_goals simp only[*,aC,aA]
theorem aca(a b):ex X8 [.c (int a),.c (int b)] (rI (xM a b)):=by
 unfold xM;refine z7 T1 kR.ok er ?_
 repeat' (conv=>whnf
          refine zt (λh=>?_) (λh=>?_))
 all_goals refine aF rI ?_
 all_goals simp only[*,aC,aA]
theorem afP(a b):ex Vg [.c (str a),.c (str b)] (rI (ZZ a b)):=by
 unfold ZZ;refine z7 T1 acv.ok er ?_
 repeat' (conv=>whnf
          refine zt (λh=>?_) (λh=>?_))
 all_goals refine aF rI ?_
 .grind
 .grind
 grind
def aHP:ByteArray:=⟨#[95,46,58,47,60,62,36,42,126,45]⟩
def Wu(c):=(decide (c>=97)&&decide (c<=122))||(decide (c>=65)&&decide (c<=90))||(decide (c>=48)&&decide (c<=57))||decide (aew aHP c>=0)
theorem ayb(c):ex gM [.c (.d (.lit (.int .u8 c)))] (rB (Wu c)):=by refine z7 T1 ajQ.ok er ?_;exact rfl
def yy(k:Int)(v:Val):Int:=
 bif v.k !=0&&(v.k !=k||!(k==1||k==2||k==3))then 14 else
 bif (v.k==1&&v.n !=0&&v.n !=1)then 2 else bif (v.k==2&&!inB v.n)then 2 else
 bif v.k==3&&decide ((v.s.size:Int)>200)then 7 else
 bif v.k !=3&&!zl v.s ⟨#[]⟩then 1 else bif (v.k==0||v.k==3)&&v.n !=0 then 1 else 0
theorem ai1(k)(v):ex abB [.c (int k),v.w] (rI (yy k v)):=by
 obtain⟨a,n,s⟩:=v;unfold yy;refine z7 T1 alX.ok er ?_
 repeat' (conv=>whnf
          refine zt (λh=>?_) (λh=>?_))
 all_goals refine aF rI ?_
 all_goals first|(simp only[*,aC,aA];done)|simp_all only[aH]
end Go.Proofs.YtnlbmefhdiabcaaGreat
namespace Go.Proofs.YtnlbmefhdiabcaaGreat
open Go Go.AM
section
attribute [local irreducible] Sat z6
def T2f(k:aT)(l:am W):aK W:=
 match l with
 |[.c (.d (.lit (.int .u8 c)))]=>bif bI k gM then some (.c (bool (Wu c)))else none
 |[.c (.d (.lit (.int .i64 m))),.c (.d (.lit (.int .i64 n)))]=>bif bI k JL||bI k X8 then some (.c (int (xM m n)))else none
 |[.c (.d (.lit (.string m))),.c (.d (.lit (.string n)))]=>bif bI k Vg then some (.c (int (ZZ m n)))else none
 |[.c (.d (.lit (.int .i64 t))),.agg [.d (.lit (.int .i64 g)),.d (.lit (.int .i64 n)),.d (.lit (.string s))]]=>bif bI k abB then some (.c (int (yy t ⟨g,n,s⟩)))else none
 |_=>T1f k l
theorem aBl(k)(l)(w)(h:T2f k l=some w):Sat Pg k l (λr=>r=⟨.w w,[]⟩):=by
 unfold T2f at h;split at h
 .rcases xV h with⟨g,rfl⟩|⟨_,h⟩
  .rw[aG g];exact ayb _
  cases h
 .rcases xV h with⟨g,rfl⟩|⟨_,h⟩
  .rw[bV]at g;rcases g with g|g
   .rw[aG g];exact aaf _ _
   rw[aG g];exact aca _ _
  cases h
 .rcases xV h with⟨g,rfl⟩|⟨_,h⟩
  .rw[aG g];exact afP _ _
  cases h
 .rcases xV h with⟨g,rfl⟩|⟨_,h⟩
  .rw[aG g];exact ai1 _ ⟨_,_,_⟩
  cases h
 grind[aF4]
def T2:Tab Pg:=⟨T2f,aBl⟩
def zS(a b:Val):=bif a.k !=b.k then xM a.k b.k else bif a.k==3 then ZZ a.s b.s else bif a.k==1||a.k==2 then xM a.n b.n else 0
theorem uE(a b):ex qe [a.w,b.w] (rI (zS a b)):=by
 obtain⟨g,i,a3⟩:=a;obtain⟨j,l,o⟩:=b;unfold zS;refine z7 T2 apn.ok er ?_
 repeat' (conv=>whnf
          refine zt (λh=>?_) (λh=>?_))
 all_goals refine aF rI ?_
 all_goals first|(simp only[*,aC,aA];done)|simp_all only[aH]
def JB:am UInt8->Int
 |[]=>0
 |c::r=>bif !Wu c.toNat then 3 else JB r
def qj(s):=bif zl s ⟨#[]⟩||decide ((s.size:Int)>40)then 3 else JB s.data.toList
theorem zm{a:Type}{l:am a}{i}(h:i<l.length):l.drop i=l[i]::l.drop (i+1):=bU h
theorem qS(s:ByteArray):s.data.toList.length=s.size:=ep
theorem aag(s):ex adU [.c (str s)] (rI (qj s)):=by
 unfold qj;refine adE.s T2 ?_;refine zg (λh=>?_) (λh=>?_)
 .rw[h];rfl
 rw[h];simp only[bB,aL]at h;refine xm T2 (adE.l 0) s.size (λi=>⟨[(0,.w (.c (str s))),(12,zh s.size),(13,zh i)],[]⟩) (λi=>JB s.data.toList=JB (s.data.toList.drop i)) ?_
 intro i P g;refine xL (λj=>?_) (λJ=>?_)
 .have o:i<s.data.toList.length:=by grind[qS]
  rw[zm o]at g;(conv=>whnf);refine⟨⟨ej,ej⟩,?_⟩;have I:s.data.toList.getD ((i:Int)).toNat 0=s.data.toList[i]:=ek
  rw[I];generalize s.data.toList[i]=b at g;refine zg (λp=>?_) (λp=>?_)
  ·(conv=>whnf);simp only[JB,p,aC]at g;exact aF rI g.symm
  (conv=>whnf);simp only[JB,p,aA]at g;refine zI j g ?_;rw[zu j ej];rfl
 rw[aB (by grind[qS])]at g;(conv=>whnf);exact aF rI g.symm
def rowD(r:am Val):=r.map Val.ds
def zE(r:am Val):W:=.c (.d (.sl (rowD r)))
theorem zp(r):(rowD r).length=r.length:=by simp[rowD]
theorem yq{r}{i:Nat}(h:i<r.length):(rowD r)[((i:Int)).toNat]?=some (r[i]).ds:=by grind[rowD]
def ZY{a:Type}(c:a->a->Int):am a->am a->Int
 |[],[]=>0
 |[],_::_=> -1
 |_::_,[]=>1
 |x::xs,y::ys=>bif c x y !=0 then c x y else ZY c xs ys
theorem aBO{α}(c:α->α->Int){a b:am α}{i}(h:a.length<=i):ZY c (a.drop i) (b.drop i)=bif decide (((b.length:Int))>i)then-1 else 0:=by
 rw[aB h];by_cases g:i<b.length
 .rw[zm g];have:decide (((b.length:Int))>i)=true:=bO ej;rw[this];rfl
 rw[aB ej];have:decide (((b.length:Int))>i)=false:=aW ej;rw[this];rfl
theorem Vs(g:aT)(c:Val->Val->Int)(hc:∀x y,ex g [x.w,y.w] (rI (c x y)))(a b):
 ex Jw [zE a,zE b,.c (.d (.fn g []))] (rI (ZY c a b)):=by
 refine yZ 0 er rfl λp=>?_
 rw[zp]at p;refine Yw.s T2 ?_
 refine zX (P:=Pg) (f:=T2.f) (body:=(Yw.l 0)) a.length (λi=>⟨[(0,.w (zE a)),(1,.w (zE b)),(2,.w (.c (.d (.fn g [])))),(11,.w (zE a)),(12,zh (rowD a).length),(13,zh i)],[]⟩)
  (λi=>i<=b.length/\ZY c a b=ZY c (a.drop i) (b.drop i)) ⟨⟨bF _,rfl⟩,zi ?_⟩ ?_
 .exact rfl
 intro i hi j;obtain⟨aa,j⟩:=j;refine zg (λh1=>?_) (λh1=>?_)
 .have o:i<a.length:=by simp_all[zp]
  (conv=>whnf);refine zw (yq o) ?_;refine zg (λR=>?_) (λR=>?_)
  .have I:b.length<=i:=by simp_all[zp]
   rw[zm o,aB I]at j;(conv=>whnf);exact aF rI j.symm
  have J:i<b.length:=by grind[zp]
  refine zw (yq J) ?_;refine Sat.cal (hc a[i] b[i]) ?_;rw[zm o,zm J]at j;refine zg (λT=>?_) (λT=>?_)
  .simp only[ZY,T,aC]at j;(conv=>whnf);exact aF rI j.symm
  simp only[ZY,T,aA]at j;(conv=>whnf);refine⟨o,⟨J,j⟩,zi ?_⟩;(conv=>whnf);rw[zu o p];rfl
 have I:a.length<=i:=by grind[zp]
 have U:i=a.length:=ej
 rw[aBO c I]at j;subst U;refine zg (λR=>?_) (λR=>?_)
 .have:decide (((b.length:Int))>a.length)=true:=bO (by simp_all[zp]);rw[this]at j;(conv=>whnf);exact aF rI j.symm
 have:decide (((b.length:Int))>a.length)=false:=aW (by grind[zp]);rw[this]at j;(conv=>whnf);exact aF rI j.symm
def ordR(a b):=ZY zS a b
theorem Zh(a b):ex YA [zE a,zE b] (rI (ordR a b)):=by refine ao5.s T2 ?_;refine Sat.cal (Vs qe zS uE a b) ?_;rfl
structure Col where
 name:ByteArray
 t:Int
def Col.ds(c:Col):am D:=[.lit (.string c.name),.lit (.int .i64 c.t)]
def Col.w(c:Col):W:=.agg [str c.name,int c.t]
def zj(r:am Col):=r.map Col.ds
theorem zy(r):(zj r).length=r.length:=by simp[zj]
theorem yN{r}{i:Nat}(h:i<r.length):(zj r)[((i:Int)).toNat]?=some (r[i]).ds:=by grind[zj]
def zO{a:Type}(p:a->Bool):Int->am a->Int
 |_,[]=> -1
 |i,x::r=>bif p x then i else zO p (i+1) r
theorem Yo(g:aT)(cap)(p:Col->Bool)(U:∀x:Col,ex g [x.w,.c (.fp cap)] (rB (p x)))(l):
 ex Y0 [.c (.d (.sl (zj l))),.c (.d (.fn g [cap]))] (rI (zO p 0 l)):=by
 refine yZ 0 er rfl λo=>?_
 rw[zy]at o;refine YY.s T2 ?_
 refine zX (P:=Pg) (f:=T2.f) (body:=(YY.l 0)) l.length (λi=>⟨[(0,.w (.c (.d (.sl (zj l))))),(1,.w (.c (.d (.fn g [cap])))),(7,zh (zj l).length),(8,zh i)],[]⟩)
  (λi=>zO p 0 l=zO p i (l.drop i)) ⟨rfl,zi ?_⟩ ?_
 .exact rfl
 intro i hi I;refine zg (λT=>?_) (λT=>?_)
 .have j:i<l.length:=by simp_all[zy]
  (conv=>whnf);refine zw (yN j) ?_;refine Sat.cal (U l[i]) ?_;rw[zm j]at I;refine zg (λJ=>?_) (λJ=>?_)
  .simp only[zO,J,aC]at I;(conv=>whnf);exact aF rI I.symm
  simp only[zO,J,aA]at I;refine zI j I ?_;rw[zu j o];rfl
 have R:l.length<=i:=by grind[zy]
 rw[aB R]at I;(conv=>whnf);exact aF rI I.symm
theorem alp(x:Col)(name):ex ad1 [x.w,.c (.fp [.lit (.string name)])] (rB (zl x.name name)):=by obtain⟨a,b⟩:=x;refine z7 T2 apm.ok er ?_;exact rfl
def ze(l:am Col)(name):=zO (λx=>zl x.name name) 0 l
theorem vN(l)(rows)(name)(hr:∃d,rows=.d d):ex auu [.agg [.d (.sl (zj l)),rows],.c (str name)] (rI (ze l name)):=by obtain⟨d,rfl⟩:=hr;refine at6.s T2 ?_;refine Sat.cal (Yo ad1 [.lit (.string name)] (λx=>zl x.name name) (λx=>alp x name) l) ?_;rfl
def T3f(k:aT)(l:am W):aK W:=
 match l with
 |[.c (.d (.lit (.string s)))]=>bif bI k adU then some (.c (int (qj s)))else T2f k l
 |[.agg [.d (.lit (.int .i64 g)),.d (.lit (.int .i64 j)),.d (.lit (.string p))],.agg [.d (.lit (.int .i64 i)),.d (.lit (.int .i64 o)),.d (.lit (.string r))]]=>
   bif bI k qe then some (.c (int (zS ⟨g,j,p⟩ ⟨i,o,r⟩)))else none
 |_=>T2f k l
theorem awl(k)(l)(w)(h:T3f k l=some w):Sat Pg k l (λr=>r=⟨.w w,[]⟩):=by
 unfold T3f at h;split at h
 .rcases xV h with⟨g,rfl⟩|⟨_,h⟩
  .rw[aG g];exact aag _
  grind[aBl]
 .rcases xV h with⟨g,rfl⟩|⟨_,h⟩
  .rw[aG g];exact uE ⟨_,_,_⟩ ⟨_,_,_⟩
  cases h
 grind[aBl]
def T3:Tab Pg:=⟨T3f,awl⟩
def xG:am Col->am Val->Int
 |c::cs,v::vs=>bif yy c.t v !=0 then yy c.t v else xG cs vs
 |_,_=>0
def valuesErr(cols)(row):=bif ((row.length:Int)) !=cols.length then 10 else xG cols row
theorem UK(cols):xG cols []=0:=by cases cols<;>rfl
theorem Wh(cols)(row):ex amm [.c (.d (.sl (zj cols))),zE row] (rI (valuesErr cols row)):=by
 refine yZ 1 er rfl λj=>?_
 rw[zp]at j;unfold valuesErr;refine abg.s T3 ?_;rw[zp,zy];refine zt (λh=>?_) (λh=>?_)
 .rw[h];rfl
 rw[h];have U:row.length=cols.length:=ek
 conv=>whnf
 refine zX (P:=Pg) (f:=T3.f) (body:=(abg.l 0)) row.length (λi=>⟨[(0,.w (.c (.d (.sl (zj cols))))),(13,.w (zE row)),(14,zh (rowD row).length),(15,zh i)],[]⟩)
  (λi=>xG cols row=xG (cols.drop i) (row.drop i)) ⟨rfl,zi ?_⟩ ?_
 .exact rfl
 intro i T o;refine zg (λR=>?_) (λR=>?_)
 .have g:i<row.length:=by simp_all[zp]
  have p:i<cols.length:=ej
  rw[zm g,zm p]at o;refine zw (yq g) ?_;refine zw (yN p) ?_;refine zg (b:=yy cols[i].t row[i] !=0) (λI=>?_) (λI=>?_)
  .simp only[xG,I,aC]at o;(conv=>whnf);exact aF rI o.symm
  simp only[xG,I,aA]at o;refine zI g o ?_;rw[zu g j];rfl
 have J:row.length<=i:=by grind[zp]
 rw[aB J,UK]at o;(conv=>whnf);exact aF rI o.symm
structure Tbl where
 cols:am Col
 rows:am (am Val)
def zd(l:am (am Val)):=l.map λr=> [D.sl (rowD r)]
def Tbl.w(t:Tbl):W:=.agg [.d (.sl (zj t.cols)),.d (.sl (zd t.rows))]
def Tbl.ds(t:Tbl):am D:=[.sl (zj t.cols),.sl (zd t.rows)]
theorem zq(r):(zd r).length=r.length:=by simp[zd]
theorem zZ{r}{i:Nat}(h:i<r.length):(zd r)[((i:Int)).toNat]?=some [D.sl (rowD r[i])]:=by grind[zd]
def ux(all:am Col):Nat->am Col->Int
 |_,[]=>0
 |i,c::r=>bif qj c.name !=0 then qj c.name else bif decide (ze (all.take i) c.name>=0)then 4 else bif c.t !=1&&c.t !=2&&c.t !=3 then 14 else ux all (i+1) r
def xi(cols:am Col):am (am Val)->Int
 |[]=>0
 |r::g=>bif ((r.length:Int)) !=cols.length then 10 else bif xG cols r !=0 then xG cols r else xi cols g
def tblErr(t:Tbl):=
 bif decide ((t.cols.length:Int)>32)||decide ((t.rows.length:Int)>20000)then 7 else bif ux t.cols 0 t.cols !=0 then ux t.cols 0 t.cols else xi t.cols t.rows
theorem anP(l)(i):(zj l).take i=zj (l.take i):=by grind[zj,List.map_take]
theorem avf(l):∀y∈zj l,y.length=2:=by intro y g;simp only[zj,cD]at g;obtain⟨x,_,rfl⟩:=g;rfl
set_option maxHeartbeats 1000000 in
theorem qk(t:Tbl):ex apN [t.w] (rI (tblErr t)):=by
 obtain⟨cols,rows⟩:=t;unfold tblErr;refine Uq er λhb=>?_
 have hb:=hb _ (List.mem_singleton.2 rfl);refine QI.s T3 ?_;rw[zq,zy];refine zt (λh=>?_) (λh=>?_)
 .rw[h];rfl
 rw[h];simp only[bB,aL]at h;simp only[aA];(conv=>whnf)
 refine zX (P:=Pg) (f:=T3.f) (body:=(QI.l 0)) cols.length (λi=>⟨[(1,cV (.ptr 1 0)),(22,.w (.c (.d (.sl (zj cols))))),(23,zh (zj cols).length),(24,zh i)],[(1,.box [.d (.sl (zj cols)),.d (.sl (zd rows))])]⟩)
  (λi=>ux cols 0 cols=ux cols i (cols.drop i)) ⟨rfl,zi ?_⟩ ?_
 .exact rfl
 intro i hi g;refine zg (λh1=>?_) (λh1=>?_)
 .have o:i<cols.length:=by simp_all[zy]
  rw[zm o]at g;refine zw (yN o) ?_;refine zg (b:=qj cols[i].name !=0) (λJ=>?_) (λJ=>?_)
  .simp only[ux,J,aC]at g;(conv=>whnf);rw[g,J];rfl
  simp only[ux,J,aA]at g;refine aw2 ?_ (hA:=by grind[ye]) (hB:=by grind[ye]);have ht:(zj cols).take (ye (some ((i:Int))) ((zj cols).length:Int)).toNat=zj (cols.take i):=by grind[ye,anP]
  rw[ht];refine Sat.w (vN (cols.take i) (.d (.sl [])) cols[i].name ⟨_,rfl⟩) ?_;refine zt (b:=decide (ze (cols.take i) cols[i].name>=0)) (λU=>?_) (λU=>?_)
  .simp only[U,aC]at g;(conv=>whnf);rw[g];rfl
  simp only[U,aA]at g;refine zg (b:=cols[i].t !=1&&cols[i].t !=2&&cols[i].t !=3) (λR=>?_) (λR=>?_)
  .simp only[R,aC]at g;(conv=>whnf);rw[g];rfl
  simp only[R,aA]at g;refine zI o g ?_;rw[zu o ej];rfl
 have p:cols.length<=i:=by grind[zy]
 rw[aB p]at g;have ac:(ux cols 0 cols !=0)=false:=by rw[g];rfl
 rw[ac];simp only[aA];(conv=>whnf)
 refine zX (P:=Pg) (f:=T3.f) (body:=(QI.l 2)) rows.length (λi=>⟨[(1,cV (.ptr 1 0)),(59,.w (.c (.d (.sl (zd rows))))),(60,zh (zd rows).length),(61,zh i)],[(1,.box [.d (.sl (zj cols)),.d (.sl (zd rows))])]⟩)
  (λi=>xi cols rows=xi cols (rows.drop i)) ⟨rfl,zi ?_⟩ ?_
 .exact rfl
 clear g p h1 hi i;intro i hi g;refine zg (λh1=>?_) (λh1=>?_)
 .have o:i<rows.length:=by simp_all[zq]
  rw[zm o]at g;have ab:(rows[i]).length<=9223372036854775807:=by
   have:=hb (.d (.sl (zd rows))) ek;simp only[aev,bnd]at this;have:=aBJ.1 this.2 [D.sl (rowD rows[i])] (by grind[zd])
   grind[bndc,bnd,zp]
  refine zw (zZ o) ?_;generalize rows[i]=row at g ab;(conv=>whnf);rw[zp,zy];refine zt (λJ=>?_) (λJ=>?_)
  .simp only[xi,J,aC]at g;(conv=>whnf);exact aF rI g.symm
  simp only[xi,J,aA]at g;have hl:row.length=cols.length:=ek
  conv=>whnf
  refine zX (P:=Pg) (f:=T3.f) (body:=(QI.l 1)) row.length (λj=>⟨[(1,cV (.ptr 1 0)),(59,.w (.c (.d (.sl (zd rows))))),(60,zh (zd rows).length),(61,zh i),(71,.w (zE row)),(72,zh (rowD row).length),(73,zh j)],[(1,.box [.d (.sl (zj cols)),.d (.sl (zd rows))])]⟩)
   (λj=>xG cols row=xG (cols.drop j) (row.drop j)) ⟨rfl,zi ?_⟩ ?_
  .exact rfl
  intro j hj T;refine zg (λU=>?_) (λU=>?_)
  .have I:j<row.length:=by simp_all[zp]
   have aa:j<cols.length:=ej
   rw[zm I,zm aa]at T;refine zw (yq I) ?_;refine zw (yN aa) ?_;refine zg (b:=yy cols[j].t row[j] !=0) (λR=>?_) (λR=>?_)
   .simp only[xG,R,aC]at T;rw[T,R]at g;(conv=>whnf);exact aF rI g.symm
   simp only[xG,R,aA]at T;refine zI I T ?_;rw[zu I ab];rfl
  have p:row.length<=j:=by grind[zp]
  rw[aB p,UK]at T;rw[T]at g;refine zI o g ?_;rw[zu o ej];rfl
 have p:rows.length<=i:=by grind[zq]
 rw[aB p]at g;(conv=>whnf);exact aF rI g.symm
def yH(a b:Val):=(a.k==b.k)&&((a.n==b.n)&&(zl a.s b.s&&true))
def xB{a:Type}(e:a->a->Bool):am a->am a->Bool
 |[],[]=>true
 |x::xs,y::ys=>bif !e x y then false else xB e xs ys
 |_,_=>false
def xS(a b):=bif ((a.length:Int)) !=b.length then false else xB yH a b
theorem UO{α}(e:α->α->Bool){a b:am α}{i}(h:a.length<=i)(g:a.length=b.length):xB e (a.drop i) (b.drop i)=true:=by rw[aB h,aB ej];rfl
theorem amA{c β:Type}{a:am c}{b:am β}(h:(((a.length:Int)) !=(b.length:Int))=false):a.length=b.length:=ek
theorem am4(a b):ex ar1 [zE a,zE b] (rB (xS a b)):=by
 refine yZ 0 er rfl λj=>?_
 rw[zp]at j;unfold xS;refine aeF.s T3 ?_;rw[zp,zp];refine zt (λh=>?_) (λh=>?_)
 .rw[h];rfl
 rw[h];have R:=amA h;simp only[aA];refine xm T3 (aeF.l 0) a.length (λi=>⟨[(0,.w (zE a)),(1,.w (zE b)),(5,zh i)],[]⟩) (λi=>xB yH a b=xB yH (a.drop i) (b.drop i)) ?_
 intro i T o;refine zg (λP=>?_) (λP=>?_)
 .have g:i<a.length:=by simp_all[zp]
  have p:i<b.length:=ej
  rw[zm g,zm p]at o;refine zw (yq g) ?_;refine zw (yq p) ?_;refine zg (b:=!yH a[i] b[i]) (λI=>?_) (λI=>?_)
  .simp only[xB,I,aC]at o;(conv=>whnf);exact aF rB o.symm
  simp only[xB,I,aA]at o;refine zI g o ?_;rw[zu g j];rfl
 have J:a.length<=i:=by grind[zp]
 rw[UO _ J R]at o;(conv=>whnf);exact aF rB o.symm
def eqC(a b:Col):=zl a.name b.name&&((a.t==b.t)&&true)
def qV(a b):=bif ((a.length:Int)) !=b.length then false else xB eqC a b
theorem aiT(a b):ex abT [.c (.d (.sl (zj a))),.c (.d (.sl (zj b)))] (rB (qV a b)):=by
 refine yZ 0 er rfl λj=>?_
 rw[zy]at j;unfold qV;refine Wm.s T3 ?_;rw[zy,zy];refine zt (λh=>?_) (λh=>?_)
 .rw[h];rfl
 rw[h];have R:=amA h;simp only[aA];refine xm T3 (Wm.l 0) a.length (λi=>⟨[(0,.w (.c (.d (.sl (zj a))))),(1,.w (.c (.d (.sl (zj b))))),(12,zh (zj a).length),(13,zh i)],[]⟩) (λi=>xB eqC a b=xB eqC (a.drop i) (b.drop i)) ?_
 intro i T o;refine zg (λP=>?_) (λP=>?_)
 .have g:i<a.length:=by simp_all[zy]
  have p:i<b.length:=ej
  rw[zm g,zm p]at o;refine zw (yN g) ?_;refine zw (yN p) ?_;refine zg (b:=!eqC a[i] b[i]) (λI=>?_) (λI=>?_)
  .simp only[xB,I,aC]at o;(conv=>whnf);exact aF rB o.symm
  simp only[xB,I,aA]at o;refine zI g o ?_;rw[zu g j];rfl
 have J:a.length<=i:=by grind[zy]
 rw[UO _ J R]at o;(conv=>whnf);exact aF rB o.symm
structure Chg where
 row:am Val
 n:Int
def Chg.ds(c:Chg):am D:=[.sl (rowD c.row),.lit (.int .i64 c.n)]
def Chg.w(c:Chg):W:=.agg [.d (.sl (rowD c.row)),int c.n]
def yz(r:am Chg):=r.map Chg.ds
def Xf(r:am Chg):W:=.c (.d (.sl (yz r)))
theorem xA(r):(yz r).length=r.length:=by simp[yz]
theorem jf{r}{i:Nat}(h:i<r.length):(yz r)[((i:Int)).toNat]?=some (r[i]).ds:=by grind[yz]
def eqG(a b:Chg):=!((a.n !=b.n)||!xS a.row b.row)
def agM(a b):=bif ((a.length:Int)) !=b.length then false else xB eqG a b
theorem anf(a b):ex ase [Xf a,Xf b] (rB (agM a b)):=by
 refine yZ 0 er rfl λp=>?_
 rw[xA]at p;unfold agM;refine aeN.s T3 ?_;rw[xA,xA];refine zt (λh=>?_) (λh=>?_)
 .rw[h];rfl
 rw[h];have U:=amA h;simp only[aA];refine xm T3 (aeN.l 0) a.length (λi=>⟨[(0,.w (Xf a)),(1,.w (Xf b)),(5,zh i)],[]⟩) (λi=>xB eqG a b=xB eqG (a.drop i) (b.drop i)) ?_
 intro i hi o;refine zg (λP=>?_) (λP=>?_)
 .have j:i<a.length:=by simp_all[xA]
  have I:i<b.length:=ej
  rw[zm j,zm I]at o;have g:∀e,eqG a[i] b[i]=e->xB eqG a b=bif !e then false else xB eqG (a.drop (i+1)) (b.drop (i+1)):=λe he=>by grind[xB]
  refine zw (jf j) ?_;refine zw (jf I) ?_;refine zg (b:=a[i].n !=b[i].n) (λR=>?_) (λR=>?_)
  .have o:=g false (by grind[eqG]);(conv=>whnf);exact aF rB o.symm
  refine zw (jf j) ?_;refine zw (jf I) ?_;refine Sat.w (am4 a[i].row b[i].row) ?_;refine zt (b:=!xS a[i].row b[i].row) (λT=>?_) (λT=>?_)
  .have o:=g false (by grind[eqG]);(conv=>whnf);exact aF rB o.symm
  have o:=g true (by grind[eqG]);refine zI j o ?_;rw[zu j p];rfl
 have J:a.length<=i:=by grind[xA]
 rw[UO _ J U]at o;(conv=>whnf);exact aF rB o.symm
def xE{a:Type}(p:a->Bool):am a->Bool
 |[]=>true
 |x::r=>bif p x then xE p r else false
def ago(l:am Col):=bif decide ((l.length:Int)<=40)then xE (λc=>!decide ((c.name.size:Int)>300)) l else false
theorem auB(l):ex akB [.c (.d (.sl (zj l)))] (rB (ago l)):=by
 refine yZ 0 er rfl λo=>?_
 rw[zy]at o;refine gf.s T3 ?_
 refine zX (P:=Pg) (f:=T3.f) (body:=(gf.l 0)) l.length (λi=>⟨[(0,.w (.c (.d (.sl (zj l))))),(3,zh i)],[]⟩)
  (λi=>i<=41/\(l.length<=40->xE (λc=>!decide ((c.name.size:Int)>300)) l=xE (λc=>!decide ((c.name.size:Int)>300)) (l.drop i))) ⟨⟨ej,λ_=>rfl⟩,zi ?_⟩ ?_
 .exact rfl
 intro i T p;obtain⟨R,p⟩:=p;refine zg (b:=decide ((i:Int)<((zj l).length:Int))&&decide ((i:Int)<=40)) (λI=>?_) (λI=>?_)
 .simp only[cC,decide_eq_true_eq,zy]at I;have j:i<l.length:=ej
  refine zw (yN j) ?_;refine zg (b:=decide (((l[i].name.size:Nat):Int)>300)) (λJ=>?_) (λJ=>?_)
  ·(conv=>whnf);refine aF rB ?_;unfold ago;by_cases g:l.length<=40
   .have:=p g;rw[zm j]at this;simp_all[xE]
   grind
  (conv=>whnf);refine⟨j,⟨ej,λg=>?_⟩,zi ?_⟩
  .have:=p g;rw[zm j]at this;simp_all[xE]
  (conv=>whnf);rw[zu j o];rfl
 simp only[cG,aL,zy]at I;(conv=>whnf);rw[zy];refine aF rB ?_;unfold ago;by_cases g:l.length<=40
 .have:=p g;rw[aB ej]at this;rw[this];cases decide ((l.length:Int)<=40)<;>rfl
 grind
def K6(r:am Val):=bif decide ((r.length:Int)>40)then false else xE (λv=>!decide ((v.s.size:Int)>300)) r
def aeV(t:Tbl):=bif !ago t.cols||decide ((t.rows.length:Int)>40)then false else xE K6 t.rows
theorem afQ(t):ex aiw [t.w] (rB (aeV t)):=by
 obtain⟨cols,rows⟩:=t;unfold aeV;refine QW.s T3 ?_;refine Sat.w (auB cols) ?_;rw[zq];refine zt (λh=>?_) (λh=>?_)
 .rw[h];rfl
 rw[h];simp only[bB,aL]at h;simp only[aA];refine xm T3 (QW.l 1) rows.length (λi=>⟨[(1,cV (.ptr 1 0)),(3,zh i)],[(1,.box [.d (.sl (zj cols)),.d (.sl (zd rows))])]⟩) (λi=>xE K6 rows=xE K6 (rows.drop i)) ?_
 intro i U o;(conv=>whnf);rw[zq];refine xL (λg=>?_) (λJ=>?_)
 .rw[zm g]at o;simp only[xE]at o;refine zw (zZ g) ?_;rw[zp];refine zt (λP=>?_) (λP=>?_)
  .have:K6 rows[i]=false:=by grind[K6]
   rw[this]at o;(conv=>whnf);exact aF rB o.symm
  have T:K6 rows[i]=xE (λv=>!decide ((v.s.size:Int)>300)) rows[i]:=by grind[K6]
  rw[T]at o;have P:=aQ P;refine xm T3 (QW.l 0) rows[i].length (λj=>⟨[(1,cV (.ptr 1 0)),(3,zh i),(4,zh j)],[(1,.box [.d (.sl (zj cols)),.d (.sl (zd rows))])]⟩) (λj=>xE (λv=>!decide ((v.s.size:Int)>300)) rows[i]=xE (λv=>!decide ((v.s.size:Int)>300)) (rows[i].drop j)) ?_
  intro j hj I;refine zw (zZ g) ?_;rw[zp];refine xL (λp=>?_) (λJ=>?_)
  .rw[zm p]at I;refine zw (zZ g) ?_;refine zw (yq p) ?_;refine zg (b:=decide (((rows[i][j].s.size:Nat):Int)>300)) (λR=>?_) (λR=>?_)
   .simp only[xE,R,aN,aA]at I;rw[I]at o;(conv=>whnf);exact aF rB o.symm
   simp only[xE,R,aO,aC]at I;refine zI p I ?_;rw[zu p ej];rfl
  rw[aB J]at I;rw[I]at o;refine zI g o ?_;rw[zu g ej];rfl
 rw[aB J]at o;(conv=>whnf);exact aF rB o.symm
def DQ(X:Res)(r:Res):=r.v.plain=true/\r.asData=X
theorem zJ{P}{k}{args}{X}(h:Sat P k args (DQ X)):Sat P k args (λr=>r=X):=h.data λ_ h=>h
def rC(x:C):Res:=⟨.w (.c x),[]⟩
theorem w7(l)(g:l.length<=1000000):ex Wt [.c (.d (.sl (zj l)))] (rC (.d (.sl (zj l)))):=by
 refine zJ (z7 T3 Wl.ok er ?_)
 conv=>whnf
 refine⟨λh=>?_,?_⟩
 .refine UP ?_;rw[h];rfl
 (conv=>whnf);refine⟨avf l,by grind[zW,zy],by grind[zy],?_⟩;refine UP ?_;refine Eq.trans (b:=rC (.d (.sl (([]++zj l).take (0+(zj l).length))))) rfl ?_;simp_all
end
end Go.Proofs.YtnlbmefhdiabcaaGreat
namespace Go.AM
def S.mvOwn(s:S)(d p q sz n:Nat)(g):=(s.redo [p,q] [(q,.arr sz g false)]).put (some d) (cV (.own q sz n))
theorem wY{s}(d p q sz n)(i)(hq:q<100000)(h:aget s.sl d=some (cV (.own p sz n)))(P:aget s.pl p=some (.arr sz i false)):VO s (s.mvOwn d p q sz n i):=by
 intro F N m a w hr;have hh:F.h q=none:=by
  cases e:F.h q with
  |none=>rfl
  |some g=>have:=hr.hdom q g e;omega
 have U:∀r,isin r [p,q]=false->jA m q (m p) r=m r:=λr R=>Zo m _ (arT R).2
 have j:=hr.places p _ P;have o:∀r x b,aget [(q,Pl.arr sz i false)] r=some x->(jA m q (m p) r).b=some b->b<w.heap.size/\(w.heap.size<=b\/∃T y,isin T [p,q]=true/\aget s.pl T=some y/\y.live=true/\(m T).b=some b):=by intro r x b I J;obtain⟨rfl,rfl⟩:=yM I;rw[yh]at J;exact⟨(hr.mine b ⟨p,_,P,rfl,J⟩).2,.inr ⟨p,_,by simp[isin],P,rfl,J⟩⟩
 have hrel:Rel F N (jA m q (m p)) (s.redo [p,q] [(q,.arr sz i false)]) a w:=by
  refine hr.redo [p,q] [(q,.arr sz i false)] _ w U (λ_ _ _=>rfl) (yx.refl w) rfl rfl (Out.refl w) (bL _) ?_ ?_ ?_ (λr x I=>by grind[yM])
  .intro r x I;obtain⟨rfl,rfl⟩:=yM I;have hk:=adk hr [p,r] [(r,.arr sz i false)] (jA m r (m p)) w U (λ_ _ _=>rfl) (bL _) o;obtain⟨h0,hn,h⟩:=j;refine⟨h0,by grind[yh],?_⟩
   grind[yh,RDs.keep']
  .exact o
  grind[yM]
 obtain⟨x,aa,ab⟩:=hr.slots d _ h;refine⟨_,{hrel with slots:=λk v l=>?_}⟩;have l:aget (xf d (cV (.own q sz n)) (s.redo [p,q] [(q,.arr sz i false)]).sl) k=some v:=l;rw[yR]at l;by_cases e:d=k
 .rw[if_pos e]at l
  grind[CR,cV,VR,WR,yh]
 rw[if_neg e]at l;exact hrel.slots k v l
end Go.AM
namespace Go.Proofs.YtnlbmefhdiabcaaGreat
open Go Go.AM
section
attribute [local irreducible] Sat zH z6
def aEx:am D:=[.sl [],.lit (.int .i64 0)]
theorem ak9(n:Nat)(j:n<=1000000):zH Pg ac1 [.c .nil,.c (int n)] [] (λr=>(n=0/\r=⟨.w (.c .nil),[]⟩)\/(0<n/\r=⟨.w (.c (.own 0 2 0)),[.arr 2 (List.replicate n aEx) false]⟩)):=by
 refine vF T3 acz.ok er ep ?_;have h0:aD.wrap ((0:Int)-0)=0:=zT ej ej;have i:aD.wrap ((n:Int)-aD.wrap (0-0))=n:=by grind[zT]
 conv=>whnf
 rw[i];refine zt (λg=>?_) (λg=>?_)
 .have g:=aS g;(conv=>whnf);refine⟨by simp[ye],by simp[ye],by simp[ye],?_⟩;(conv=>whnf);refine⟨ej,by grind[zW],ej,?_⟩;refine aw2 ?_ (hA:=by simp[ye]) (hB:=by simp[ye]);exact .inr ⟨ej,rfl⟩
 have g:=aQ g;(conv=>whnf);exact .inl ⟨ej,rfl⟩
theorem ama(l):∀y∈yz l,y.length=2:=by intro y g;simp only[yz,cD]at g;obtain⟨x,_,rfl⟩:=g;rfl
theorem acD(a b):yz a++yz b=yz (a++b):=by simp[yz]
def aaU(sz:Nat)(l:am (am D)):Res:=⟨.w (.c (.own 0 sz l.length)),[.arr sz l false]⟩
def ccC(xs ys:am Chg):W:=.c (.d (.sl [[.sl (yz xs)],[.sl (yz ys)]]))
def ccS(xs ys:am Chg)(a b:Int):S:=⟨[(0,.w (ccC xs ys)),(3,zh a),(9,.w (ccC xs ys)),(10,zh 2),(11,zh b)],[]⟩
def ccT(xs ys:am Chg)(p n:Nat)(g:am (am D))(b:Int):S:=⟨[(6,cV (.own p 2 n)),(25,.w (ccC xs ys)),(26,zh 2),(27,zh b)],[(p,.arr 2 g false)]⟩
def ccF(xs ys:am Chg)(x:Nat×am (am D)):S:=match x.1 with|0=>ccT xs ys 33 0 x.2 0|1=>ccT xs ys 33 xs.length x.2 1|_=>ccT xs ys 33 (xs++ys).length x.2 2
theorem avb{xs ys}(I:xs.length<=100000)(J:ys.length<=100000){Q:E->S->Prop}{s}(g)(h0:xO s [6,25,26,27] (· =ccT xs ys 33 0 g 0))
 (p:Q (.exit 2) ⟨[(6,cV (.own 33 2 (xs++ys).length)),(25,.w (ccC xs ys)),(26,zh 2),(27,zh 2),(28,yf (decide ((2:Int)<2)))],[(33,.arr 2 (yz (xs++ys)) false)]⟩):
 z6 (mwpR Pg T3.f (ua.l 1)) [6,25,26,27] Q s:=by
 have v1:aD.wrap ((0:Int)+1)=1:=zT ej ej;have r:aD.wrap ((1:Int)+1)=2:=zT ej ej;refine yD (P:=Pg) (f:=T3.f) (body:=(ua.l 1)) (ccF xs ys) (λx=>2-x.1) (λx=>x.1=0\/(x.1=1/\x.2=yz xs)\/(x.1=2/\x.2=yz (xs++ys))) ⟨(0,g),.inl rfl,h0⟩ ?_;rintro⟨i,g⟩ o;have j:i=0\/(i=1/\g=yz xs)\/(i=2/\g=yz (xs++ys)):=o;clear o;rcases j with rfl|⟨rfl,j⟩|⟨rfl,j⟩
 .refine xK ?_;refine⟨ama xs,by grind[zW,xA],by grind[xA],?_⟩;(conv=>whnf);refine⟨(1,g.take 0++yz xs),⟨.inr (.inl ⟨rfl,ep⟩),ek⟩,zi ?_⟩;(conv=>whnf);rw[v1,Nat.zero_add,xA];rfl
 .refine xK ?_;refine⟨ama ys,by grind[zW,xA],by grind[xA],?_⟩;(conv=>whnf);refine⟨(2,g.take xs.length++yz ys),⟨.inr (.inr ⟨rfl,by grind[xA,acD]⟩),ek⟩,zi ?_⟩;(conv=>whnf);rw[r,xA,<-bE];rfl
 (conv=>whnf);subst j;exact p
theorem aha(xs ys)(g:xs.length<=100000)(j:ys.length<=100000):
 ex aaI [ccC xs ys] ⟨.w (.c (.own 0 2 (xs++ys).length)),[.arr 2 (yz (xs++ys)) false]⟩:=by
 refine z7 T3 ua.ok er ?_;have I:aD.wrap ((0:Int)+((yz xs).length:Nat))=((xs.length:Nat):Int):=by grind[xA,zT]
 have J:aD.wrap (((xs.length:Nat):Int)+((yz ys).length:Nat))=((xs.length+ys.length:Nat):Int):=by grind[xA,zT]
 have v1:aD.wrap ((0:Int)+1)=1:=zT ej ej;have p:aD.wrap ((1:Int)+1)=2:=zT ej ej;refine xm T3 (ua.l 0) 2 (λi=>match i with|0=>ccS xs ys 0 0|1=>ccS xs ys xs.length 1|_=>ccS xs ys ((xs.length+ys.length:Nat):Int) 2) (λ_=>True) ?_
 intro i P _;obtain rfl|rfl|rfl:i=0\/i=1\/i=2:=ej
 .refine xK ?_;rw[I];(conv=>whnf);refine⟨ej,trivial,zi ?_⟩;(conv=>whnf);rw[v1];rfl
 .refine xK ?_;rw[J];(conv=>whnf);refine⟨ej,trivial,zi ?_⟩;(conv=>whnf);rw[p];rfl
 (conv=>whnf);refine zH.mono (ak9 (xs.length+ys.length) ej) ?_;rintro r (⟨o,rfl⟩|⟨o,rfl⟩)
 ·(conv=>whnf);refine avb g j [] ⟨_,zx 6 33 2 ej ej rfl,?_⟩ ?_
  .exact rfl
  exact rfl
 (conv=>whnf);refine avb g j (List.replicate (xs.length+ys.length) aEx) ⟨_,wY 6 600384 33 2 0 _ ej rfl rfl,?_⟩ ?_
 .exact rfl
 exact rfl
theorem adn(g:aT)(p:Chg->Bool)(T:∀x:Chg,ex g [x.w] (rB (p x)))(l):
 ex Ke [Xf l,.c (.d (.fn g []))] (rI (zO p 0 l)):=by
 refine yZ 0 er rfl λo=>?_
 rw[xA]at o;refine YX.s T3 ?_;refine xm T3 (YX.l 0) l.length (λi=>⟨[(0,.w (Xf l)),(1,.w (.c (.d (.fn g [])))),(7,zh (yz l).length),(8,zh i)],[]⟩) (λi=>zO p 0 l=zO p i (l.drop i)) ?_
 intro i U I;refine zg (λR=>?_) (λR=>?_)
 .have j:i<l.length:=by simp_all[xA]
  (conv=>whnf);refine zw (jf j) ?_;refine Sat.cal (T l[i]) ?_;rw[zm j]at I;refine zg (λJ=>?_) (λJ=>?_)
  .simp only[zO,J,aC]at I;(conv=>whnf);exact aF rI I.symm
  simp only[zO,J,aA]at I;refine zI j I ?_;rw[zu j o];rfl
 have P:l.length<=i:=by grind[xA]
 rw[aB P]at I;(conv=>whnf);exact aF rI I.symm
theorem ath(c:Chg):ex ki [c.w] (rB (c.n==0)):=by obtain⟨a,b⟩:=c;refine z7 T3 aib.ok er ?_;exact rfl
theorem akd{α}(p:α->Bool):∀(l) (i:Nat),(zO p i l= -1/\l.filter (λx=>!p x)=l)\/∃k,k<l.length/\zO p i l=((i+k:Nat):Int)/\(l.take k).filter (λx=>!p x)=l.take k/\(l.take (k+1)).filter (λx=>!p x)=l.take k
 |[],i=>.inl ⟨rfl,rfl⟩
 |x::r,i=>by
  cases o:p x
  .have I:=akd p r (i+1);have e:zO p (i:Int) (x::r)=zO p ((i+1:Nat):Int) r:=by simp_all[zO]
   rcases I with⟨g,j⟩|⟨k,g,j,J,P⟩
   .grind
   grind
  refine .inr ⟨0,ep,by simp_all[zO],ep,by simp[o]⟩
def aH0(g:aT)(n:Nat)(x:Nat×Nat×am (am D)):S:=⟨[(0,cV (.own 100000 2 n)),(1,.w (.c (.d (.fn g [])))),(5,zh x.1),(6,zh x.2.1)],[(100000,.arr 2 x.2.2 false)]⟩
theorem ats{a:Type}:∀{l:am a}{i:Nat}(_:i<l.length) (x:a),(l.set i x).take (i+1)=l.take i++[x]
 |[],_,h,_=>by cases h
 |y::r,0,_,x=>ep
 |y::r,i+1,h,x=>by simp only[cB,List.take_succ_cons,List.cons_append];rw[ats (by simpa using h) x]
theorem atq{a:Type}:∀{l:am a}{i j:Nat}(_:i<j) (x:a),(l.set i x).drop j=l.drop j
 |[],_,_,_,_=>ep
 |y::r,0,j+1,_,x=>ep
 |y::r,i+1,j+1,h,x=>by simp only[cB,List.drop_succ_cons];exact atq ej x
theorem adt{α}{e g:am α}(h:e.length=g.length):zM e 0 g=g:=by simp_all[zM]
theorem aub{a:Type}(q:a->Bool){l:am a}{j}(h:j<l.length):(l.take (j+1)).filter q=(l.take j).filter q++(bif q l[j]then [l[j]]else []):=by grind[bX]
theorem acb(g:aT)(p:Chg->Bool)(hp:∀x:Chg,ex g [x.w] (rB (p x)))(l)(hl:l.length<=1000000):
 zH Pg Jy [.c (.own 0 2 l.length),.c (.d (.fn g []))] [.arr 2 (yz l) false] (λr=>∃o:am (am D),o.take (l.filter λx=>!p x).length=yz (l.filter λx=>!p x)/\r=⟨.w (.c (.own 0 2 (l.filter λx=>!p x).length)),[.arr 2 o false]⟩):=by
 refine vF T3 Yx.ok er ep ?_
 conv=>whnf
 have ht:(yz l).take l.length=yz l:=by grind[xA]
 rw[ht];refine Sat.cal (adn g p hp l) ?_;rcases akd p l 0 with⟨J,T⟩|⟨k,J,T,h3,h4⟩
 .have J:zO p 0 l= -1:=J;rw[J,T];(conv=>whnf);exact⟨yz l,ht,rfl⟩
 have T:zO p 0 l=((k:Nat):Int):=ek
 rw[T];have wk:aD.wrap ((k:Int)+1)=((k+1:Nat):Int):=zu J ej;(conv=>whnf)
 refine yD (P:=Pg) (f:=T3.f) (body:=(Yx.l 0)) (aH0 g l.length) (λx=>l.length-x.2.1)
  (λx=>x.1<x.2.1/\x.2.1<=l.length/\x.2.2.length=l.length/\(∀y∈x.2.2,y.length=2)/\x.2.2.take x.1=yz ((l.take x.2.1).filter λc=>!p c)/\x.2.2.drop x.2.1=yz (l.drop x.2.1))
  ⟨(k,k+1,yz l),⟨ek,ek,xA l,ama l,by grind[yz,List.map_take],by grind[yz,List.map_drop]⟩,zi ?_⟩ ?_
 ·(conv=>whnf);rw[wk];rfl
 rintro⟨i,j,o⟩ hR;have hS:i<j/\j<=l.length/\o.length=l.length/\(∀y∈o,y.length=2)/\o.take i=yz ((l.take j).filter λc=>!p c)/\o.drop j=yz (l.drop j):=hR;clear hR;obtain⟨g1,g2,g3,g4,g5,g6⟩:=hS;refine zg (λh5=>?_) (λh5=>?_)
 .have R:j<l.length:=by have h5:decide ((j:Int)<(l.length:Int))=true:=h5;simp_all
  have ad:j<o.length:=ej
  have ab:o[j]?=some (l[j]).ds:=by grind[zm,yz]
  have U:o.drop (j+1)=yz (l.drop (j+1)):=by grind[zm,yz]
  have wj:aD.wrap ((j:Int)+1)=((j+1:Nat):Int):=zu R ej;have wi:aD.wrap ((i:Int)+1)=((i+1:Nat):Int):=zu (n:=l.length) ej ej;have hf:=aub (λc=>!p c) R;refine aw2 ?_ (hA:=ek) (hB:=ek);refine⟨_,ab,?_⟩;refine Sat.w (hp l[j]) ?_;refine zt (b:=!p l[j]) (λh6=>?_) (λh6=>?_)
  .rw[h6]at hf;refine aw2 ?_ (hA:=ek) (hB:=ek);have I:i<o.length:=ej
   have aa:o[i]?=some o[i]:=am.getElem?_eq_getElem I;have ac:o[i].length=2:=g4 _ (bG _);refine⟨o[i],aa,eu,?_⟩;rw[show zM o[i] 0 [D.sl (rowD l[j].row),D.lit (.int .i64 l[j].n)]=(l[j]).ds from adt ac];(conv=>whnf);refine⟨(i+1,j+1,o.set i (l[j]).ds),⟨⟨ek,ek,ek,?_,?_,?_⟩,ek⟩,zi ?_⟩
   .grind
   .show(o.set i _).take (i+1)=_;rw[ats I,hf,g5,aC,<-acD];rfl
   .grind[atq]
   (conv=>whnf);rw[wi,wj];rfl
  rw[h6]at hf;(conv=>whnf);refine⟨(i,j+1,o),⟨⟨ek,ek,g3,g4,?_,U⟩,ek⟩,zi ?_⟩
  .simp_all
  (conv=>whnf);rw[wj];rfl
 have hj:j=l.length:=ek
 subst hj;rw[List.take_length]at g5;have hi:(l.filter λc=>!p c).length=i:=by grind[xA]
 rw[hi];(conv=>whnf);refine⟨by grind[ye],by grind[ye],by grind[ye],?_⟩;refine aw2 ?_ (hA:=by grind[ye]) (hB:=by grind[ye]);refine⟨_,?_,rfl⟩<;>grind[ye,Int.toNat_natCast,zM,List.length_take]
def zo(l:am ByteArray):=l.map λb=> [D.lit (.string b)]
def Kq(l:am ByteArray):W:=.c (.d (.sl (zo l)))
theorem zA(l):(zo l).length=l.length:=by simp[zo]
theorem xh{r}{i:Nat}(h:i<r.length):(zo r)[((i:Int)).toNat]?=some [D.lit (.string r[i])]:=by grind[zo]
theorem aiV(l)(s):ex abV [Kq l,.c (str s)] (rI (zO (λx=>zl s x) 0 l)):=by
 refine yZ 0 er rfl λj=>?_
 rw[zA]at j;refine Wo.s T3 ?_
 refine zX (P:=Pg) (f:=T3.f) (body:=(Wo.l 0)) l.length (λi=>⟨[(0,.w (Kq l)),(1,.w (.c (str s))),(7,zh (zo l).length),(8,zh i)],[]⟩)
  (λi=>zO (λx=>zl s x) 0 l=zO (λx=>zl s x) i (l.drop i)) ⟨rfl,zi ?_⟩ ?_
 .exact rfl
 intro i R o;refine zg (λJ=>?_) (λJ=>?_)
 .have g:i<l.length:=by simp_all[zA]
  rw[zm g]at o;refine zw (xh g) ?_;refine zg (λp=>?_) (λp=>?_)
  .simp only[zO,p,aC]at o;(conv=>whnf);exact aF rI o.symm
  simp only[zO,p,aA]at o;refine zI g o ?_;rw[zu g j];rfl
 have I:l.length<=i:=by grind[zA]
 rw[aB I]at o;(conv=>whnf);exact aF rI o.symm
def hasB(l:am ByteArray)(s):=l.any λx=>zl s x
theorem Yg{α}(p:α->Bool):∀(l) (i:Nat),decide (zO p (i:Int) l>=0)=l.any p
 |[],i=>by grind[zO]
 |x::r,i=>by
  simp only[zO,List.any_cons];by_cases h:p x=true
  .simp_all
  simp only[Bool.not_eq_true]at h;simp only[h,aA,aU];exact Yg p r (i+1)
theorem yJ(l)(s):ex ko [Kq l,.c (str s)] (rB (hasB l s)):=by refine KW.s T3 ?_;refine Sat.w (aiV l s) ?_;exact aF rB (Yg _ l 0)
def gJ(c:Int):=((decide (c<97)||decide (c>122))&&(decide (c<48)||decide (c>57)))&&(c !=95)
def gK:am UInt8->Bool
 |[]=>true
 |c::r=>bif gJ c.toNat then false else gK r
def kws:am ByteArray:=[⟨#[97,110,100]⟩,⟨#[111,114]⟩,⟨#[110,111,116]⟩,⟨#[110,117,108,108]⟩,⟨#[116,114,117,101]⟩,⟨#[102,97,108,115,101]⟩]
def jC(s:ByteArray):Int:=(s.data.toList.getD 0 0).toNat
def z8(s):=bif zl s ⟨#[]⟩||decide ((s.size:Int)>40)||decide (jC s<97)||decide (jC s>122)then false else bif !gK s.data.toList then false else !hasB kws s
theorem atu{s}(h:zl s ⟨#[]⟩=false):0<s.size:=by
 rcases Nat.eq_zero_or_pos s.size with e|e
 .have:s=⟨#[]⟩:=by obtain⟨d⟩:=s;have:d= #[]:=Array.eq_empty_of_size_eq_zero e;rw[this]
  grind[beqS_self]
 exact e
theorem am1(s):ex VJ [.c (str s)] (rB (z8 s)):=by
 unfold z8;refine VH.s T3 ?_;have key:(!(zl s ⟨#[]⟩||decide ((s.size:Int)>40)))=true->0<s.size:=λh=>by grind[atu]
 refine⟨λh=>⟨⟨ej,ek⟩,trivial⟩,?_⟩
 conv=>whnf
 refine⟨λh=>⟨⟨ej,ek⟩,trivial⟩,?_⟩
 refine zg (b:=zl s ⟨#[]⟩||decide ((s.size:Int)>40)||decide (jC s<97)||decide (jC s>122)) (λh=>?_) (λh=>?_)
 ·(conv=>whnf);rw[h];rfl
 rw[h];simp only[bB,aL]at h;have P:(s.size:Int)<=40:=ej
 simp only[aA];refine xm T3 (VH.l 0) s.size (λi=>⟨[(0,.w (.c (str s))),(23,zh s.size),(24,zh i)],[]⟩) (λi=>gK s.data.toList=gK (s.data.toList.drop i)) ?_
 intro i R g;refine xL (λj=>?_) (λJ=>?_)
 .have o:i<s.data.toList.length:=by grind[qS]
  rw[zm o]at g;(conv=>whnf);refine⟨⟨ej,ej⟩,?_⟩;have I:s.data.toList.getD ((i:Int)).toNat 0=s.data.toList[i]:=ek
  rw[I];generalize s.data.toList[i]=b at g;refine zg (b:=gJ b.toNat) (λp=>?_) (λp=>?_)
  .simp only[gK,p,aC]at g;(conv=>whnf);rw[g];rfl
  simp only[gK,p,aA]at g;refine zI j g ?_;rw[zu j ej];rfl
 rw[aB (by grind[qS])]at g;refine Sat.w (yJ kws s) ?_;rw[g];rfl
def y9(s:ByteArray):Int:=
 bif zl s ⟨#[109,105,110]⟩||(zl s ⟨#[109,97,120]⟩||(zl s ⟨#[104,97,115]⟩||zl s ⟨#[115,116,97,114,116,115]⟩))then 2 else
 bif zl s ⟨#[97,98,115]⟩||zl s ⟨#[108,101,110]⟩then 1 else 0
theorem aAC(s):ex abW [.c (str s)] (rI (y9 s)):=by
 unfold y9;refine z7 T3 al6.ok er ?_
 repeat' (conv=>whnf
          refine zt (λh=>?_) (λh=>?_))
 all_goals refine aF rI ?_
 all_goals first|(simp only[*,aC,aA];done)|(simp_all only[aH,aC,aA];done)|(simp_all;done)
def arn(c:Int):=(decide (c<32)||decide (c>126))||(c==34)
def K4:am UInt8->Int
 |[]=>0
 |c::r=>bif arn c.toNat then 10 else K4 r
def jZ(v):=bif yy v.k v !=0 then yy v.k v else K4 v.s.data.toList
theorem zY{b}{x y:Int}(g:x≠0)(h:(bif b then x else y)=0):b=false/\y=0:=ek
theorem aa8{k}{v}(h:(yy k v !=0)=false):(v.s.size:Int)<=200:=by
 rw[cL]at h;unfold yy at h;obtain⟨_,h⟩:=zY ej h;obtain⟨_,h⟩:=zY ej h;obtain⟨_,h⟩:=zY ej h;obtain⟨i,h⟩:=zY ej h;obtain⟨g,_⟩:=zY ej h;by_cases e:v.k=3
 .simp_all
 rw[show(v.k !=3)=true by simpa using e,aV,Bool.not_eq_false']at g;rw[(AM.beqS_iff _ _).1 g]
 decide
theorem as7(v):ex JO [v.w] (rI (jZ v)):=by
 obtain⟨k,n,s⟩:=v;unfold jZ;refine JI.s T3 ?_;refine zg (b:=yy k ⟨k,n,s⟩ !=0) (λh=>?_) (λh=>?_)
 ·(conv=>whnf);rw[h];rfl
 have P:(s.size:Int)<=200:=aa8 h;simp only[h,aA];refine xm T3 (JI.l 0) s.size (λi=>⟨[(1,cV (.ptr 1 0)),(15,zh s.size),(16,zh i)],[(1,.box [int k,int n,str s])]⟩) (λi=>K4 s.data.toList=K4 (s.data.toList.drop i)) ?_
 intro i R g;refine xL (λj=>?_) (λJ=>?_)
 .have o:i<s.data.toList.length:=by grind[qS]
  rw[zm o]at g;(conv=>whnf);refine⟨⟨ej,ej⟩,?_⟩;have I:s.data.toList.getD ((i:Int)).toNat 0=s.data.toList[i]:=ek
  rw[I];generalize s.data.toList[i]=b at g;refine zg (b:=arn b.toNat) (λp=>?_) (λp=>?_)
  .simp only[K4,p,aC]at g;(conv=>whnf);rw[g];rfl
  simp only[K4,p,aA]at g;refine zI j g ?_;rw[zu j ej];rfl
 rw[aB (by grind[qS])]at g;(conv=>whnf);rw[g];rfl
def vR(n Za:Int):Int:=bif decide (n<Za)then 8 else bif decide (n>16)then 7 else 0
theorem aDu(n Za):ex adZ [.c (int n),.c (int Za)] (rI (vR n Za)):=by
 unfold vR;refine z7 T3 apj.ok er ?_
 repeat' (conv=>whnf
          refine zt (λh=>?_) (λh=>?_))
 all_goals refine aF rI ?_
 all_goals first|(simp only[*,aC,aA];done)|(simp_all only[aH,aC,aA];done)|(simp_all;done)
def T4f(k:aT)(l:am W):aK W:=
 match l with
 |[.c (.d (.lit (.string s)))]=>bif bI k VJ then some (.c (bool (z8 s)))else bif bI k abW then some (.c (int (y9 s)))else T3f k l
 |[.c (.d (.lit (.int .i64 m))),.c (.d (.lit (.int .i64 n)))]=>bif bI k adZ then some (.c (int (vR m n)))else T3f k l
 |[.agg [.d (.lit (.int .i64 g)),.d (.lit (.int .i64 n)),.d (.lit (.string s))]]=>bif bI k JO then some (.c (int (jZ ⟨g,n,s⟩)))else none
 |_=>T3f k l
theorem aF5(k)(l)(w)(h:T4f k l=some w):Sat Pg k l (λr=>r=⟨.w w,[]⟩):=by
 unfold T4f at h;split at h
 .rcases xV h with⟨g,rfl⟩|⟨_,h⟩
  .rw[aG g];exact am1 _
  rcases xV h with⟨g,rfl⟩|⟨_,h⟩
  .rw[aG g];exact aAC _
  grind[awl]
 .rcases xV h with⟨g,rfl⟩|⟨_,h⟩
  .rw[aG g];exact aDu _ _
  grind[awl]
 .rcases xV h with⟨g,rfl⟩|⟨_,h⟩
  .rw[aG g];exact as7 ⟨_,_,_⟩
  cases h
 grind[awl]
def T4:Tab Pg:=⟨T4f,aF5⟩
def wD(op:Int)(i:ByteArray)(v:Val)(l g)(name j):=
 bif (l !=g)||((!zl i ⟨#[]⟩&&!name)||(!yH v ⟨0,0,⟨#[]⟩⟩&&!j))then 1 else
 bif j then jZ v else bif name&&!z8 i then 3 else bif op==16&&y9 i==0 then 5 else bif op==16&&y9 i !=g then 1 else 0
def yK(op)(i)(v)(g):=
 bif op==1 then wD op i v g 0 false true else bif op==2 then wD op i v g 0 true false else
 bif op==3||op==4 then wD op i v g 1 false false else bif op==16 then wD op i v g g true false else
 bif decide (op<5)||decide (op>15)then 1 else wD op i v g 2 false false
inductive Ex where
 |mk (op:Int) (nm:ByteArray) (v:Val) (ks:am Ex)
mutual
def Ex.ds:Ex->am D
 |.mk op i v g=> [.lit (.int .i64 op),.lit (.string i),.lit (.int .i64 v.k),.lit (.int .i64 v.n),.lit (.string v.s),.sl (exsD g)]
def exsD:am Ex->am (am D)
 |[]=> []
 |e::r=>e.ds::exsD r
end
def Ex.cs:Ex->am C
 |.mk op i v g=> [int op,str i,int v.k,int v.n,str v.s,.d (.sl (exsD g))]
def Ex.w(e:Ex):W:=.agg e.cs
def Ex.err1:Ex->Int
 |.mk op i v g=>yK op i v g.length
theorem acK:∀l,exsD l=l.map Ex.ds
 |[]=>rfl
 |e::r=>by simp only[exsD,cN,acK r]
theorem xX(l):(exsD l).length=l.length:=by simp[acK]
theorem Zv{r}{i:Nat}(h:i<r.length):(exsD r)[((i:Int)).toNat]?=some (r[i]).ds:=by grind[acK]
theorem aDr(e:Ex):ex adY [e.w] (rI e.err1):=by
 obtain⟨op,i,⟨j,l,vs⟩,g⟩:=e;show ex adY [.agg [int op,str i,int j,int l,str vs,.d (.sl (exsD g))]] (rI (yK op i ⟨j,l,vs⟩ g.length));rw[<-xX];refine z7 T4 api.ok er ?_;generalize(exsD g)=o
 repeat' (conv=>whnf
          refine zt (λh=>?_) (λh=>?_))
 all_goals refine aF rI ?_
 all_goals unfold yK wD yH
 all_goals generalize((List.length o:Nat):Int)=m at*
 all_goals try simp only[aC,aA,bC,aU,bD,aY,aZ,aP,aV,aR,aN,aO,aI,aM,aH,aJ,bA]at*
 all_goals first|done|(simp only[*,aC,aA,bC,aU,bD,aY,aZ,aP,aV,aR,aN,aO,aI,aM,aH,aJ,bA];done)|(simp_all only[aC,aA,bC,aU,bD,aY,aZ,aP,aV,aR,aN,aO,aI,aM,aH,aJ,bA];done)|skip
mutual
def Ex.meas:Ex->Int->Int×Int
 |.mk _ _ _ g,n=>((measL g (n+1) 0).1,(measL g (n+1) 0).2+1)
def measL:am Ex->Int->Int->Int×Int
 |[],n,d=>(n,d)
 |k::r,n,d=>bif decide (n>200)then(n,d)else measL r (k.meas n).1 (yL true d (k.meas n).2)
end
theorem gY(a b):yL true a b=max a b:=by show(if b>a then b else a)=_;omega
theorem aoe:∀(g) (n d:Int),n<=201->(∀k∈g,∀n,n<=200->n+1<=(k.meas n).1/\(k.meas n).1<=201/\1<=(k.meas n).2/\(k.meas n).2<=(k.meas n).1-n)->
 n<=(measL g n d).1/\(measL g n d).1<=201/\d<=(measL g n d).2/\(measL g n d).2<=max d ((measL g n d).1-n)
 |[],n,d,j,_=>by grind[measL]
 |k::r,n,d,j,h=>by
  simp only[measL];by_cases e:n>200
  .rw[bO e,aC];grind
  rw[aW e,aA];have i:=h k (bJ ..) n ej;have o:=aoe r (k.meas n).1 (yL true d (k.meas n).2) i.2.1 (λx l=>h x (cJ _ l))
  grind[gY]
theorem asn:∀(e:Ex) (n:Int),n<=200->n+1<=(e.meas n).1/\(e.meas n).1<=201/\1<=(e.meas n).2/\(e.meas n).2<=(e.meas n).1-n
 |.mk op j v i,n,g=>by
   have h:=aoe i (n+1) 0 ej (λk hk n g=>asn k n g)
   grind[Ex.meas]
theorem aB6{g:am Ex}{i}(h:i<g.length)(n d):measL (g.drop i) n d=bif decide (n>200)then(n,d)else measL (g.drop (i+1)) (g[i].meas n).1 (yL true d (g[i].meas n).2):=by rw[zm h];rfl
def aHB(g:am Ex)(i:Nat)(n d:Int):S:=⟨[(1,zh n),(6,zh d),(13,.w (.c (.d (.sl (exsD g))))),(14,zh (exsD g).length),(15,zh i)],[]⟩
def agI(x:Int×Int):Res:=⟨.tup [.c (int x.1),.c (int x.2)],[]⟩
theorem agn{op}{i}{v}{g}(h:aq1 (Ex.mk op i v g).w):g.length<=9223372036854775807:=by
 have:=h (.d (.sl (exsD g))) (by simp[Ex.cs])
 grind[aev,bnd,xX]
theorem ahN(e:Ex)(n)(h0:0<=n)(hn:n<=200):ex kt [e.w,.c (int n)] (agI (e.meas n)):=by
 obtain⟨op,nm,v,g⟩:=e;have ih:∀k∈g,∀n:Int,0<=n->n<=200->ex kt [k.w,.c (int n)] (agI (k.meas n)):=λk hk n h0 hn=>ahN k n h0 hn
 refine Uq er λhb=>?_
 have T:=agn (hb _ (bJ ..));have hq:∀m d:Int,measL g (n+1) 0=(m,d)->agI (Ex.meas (.mk op nm v g) n)=agI (m,d+1):=λm d h=>by grind[Ex.meas]
 refine KX.s T4 ?_
 refine yD (P:=Pg) (f:=T4.f) (body:=(KX.l 0)) (λx:Nat×Int×Int=>aHB g x.1 x.2.1 x.2.2) (λx=>g.length-x.1) (λx=>x.1<=g.length/\0<=x.2.1/\x.2.1<=201/\0<=x.2.2/\x.2.2<=201/\measL g (n+1) 0=measL (g.drop x.1) x.2.1 x.2.2)
  ⟨(0,n+1,0),⟨bF _,ek,ek,ek,ek,rfl⟩,zi ?_⟩ ?_
 ·(conv=>whnf);rw[zT ej ej];rfl
 rintro⟨i,j,I⟩ hx;obtain⟨hi,ad,ah,af,ag,p⟩:i<=g.length/\0<=j/\j<=201/\0<=I/\I<=201/\measL g (n+1) 0=measL (g.drop i) j I:=hx;have wd:aD.wrap (I+1)=I+1:=zT ej ej;refine zg (λh1=>?_) (λh1=>?_)
 .have o:i<g.length:=by have:=aS h1;grind[xX]
  rw[aB6 o]at p;have hg:(exsD g)[((i:Int)).toNat]?=some (g[i]).ds:=Zv o;have hm:g[i]∈g:=bG o;generalize g[i]=k at*;have ae:=ih k hm j ad;have R:=asn k j;obtain⟨ab,aa,v1,U⟩:=k;refine zw hg ?_;refine zg (b:=decide (j>200)) (λJ=>?_) (λJ=>?_)
  .rw[J,aC]at p;rw[hq _ _ p];(conv=>whnf);exact aF (λx=>agI (j,x)) wd
  rw[J,aA]at p;have J:=aQ J;have R:=R ej;refine Sat.w (ae ej) ?_;refine⟨(i+1,(Ex.meas (.mk ab aa v1 U) j).1,yL true I (Ex.meas (.mk ab aa v1 U) j).2),⟨⟨ek,ek,ek,?_,?_,p⟩,ek⟩,zi ?_⟩
  .grind[gY]
  .grind[gY]
  (conv=>whnf);rw[zu o T];rfl
 have ac:g.length<=i:=by grind[xX]
 rw[aB ac]at p;rw[hq _ _ p];(conv=>whnf);exact aF (λx=>agI (j,x)) wd
termination_by co e
decreasing_by
 simp_wf
 have:=bN hk;omega
mutual
def Ex.err:Ex->Int
 |.mk op i v g=>bif yK op i v g.length !=0 then yK op i v g.length else errL g
def errL:am Ex->Int
 |[]=>0
 |k::r=>bif k.err !=0 then k.err else errL r
end
theorem anT{g:am Ex}{i}(h:i<g.length):errL (g.drop i)=bif g[i].err !=0 then g[i].err else errL (g.drop (i+1)):=by rw[zm h];rfl
theorem aoA(e:Ex):ex abX [e.w] (rI e.err):=by
 have p:=aDr e;obtain⟨op,nm,v,g⟩:=e;have ih:∀k∈g,ex abX [k.w] (rI k.err):=λk hk=>aoA k
 refine Uq er λhb=>?_
 have I:=agn (hb _ (bJ ..));simp only[Ex.err];refine abq.s T4 ?_;refine Sat.w p ?_;refine zt (b:=yK op nm v g.length !=0) (λh=>?_) (λh=>?_)
 ·(conv=>whnf);rw[h];rfl
 rw[h];simp only[aA];refine xm T4 (abq.l 0) g.length (λi=>⟨[(13,.w (.c (.d (.sl (exsD g))))),(14,zh (exsD g).length),(15,zh i)],[]⟩) (λi=>errL g=errL (g.drop i)) ?_
 intro i hi o;refine zg (λh1=>?_) (λh1=>?_)
 .have j:i<g.length:=by simp_all[xX]
  rw[anT j]at o;have hg:(exsD g)[((i:Int)).toNat]?=some (g[i]).ds:=Zv j;have hm:g[i]∈g:=bG j;generalize g[i]=k at*;have R:=ih k hm;obtain⟨aa,U,v1,T⟩:=k;refine zw hg ?_;refine Sat.w R ?_;generalize(Ex.err (.mk aa U v1 T))=x at*;refine zt (b:=x !=0) (λJ=>?_) (λJ=>?_)
  .rw[J,aC]at o;(conv=>whnf);rw[o];rfl
  rw[J,aA]at o;refine zI j o ?_;rw[zu j I];rfl
 have P:g.length<=i:=by grind[xX]
 rw[aB P]at o;(conv=>whnf);rw[o];rfl
termination_by co e
decreasing_by
 simp_wf
 have:=bN hk;omega
def Ex.chk(e:Ex):=bif decide ((e.meas 0).1>200)then 7 else bif decide ((e.meas 0).2>16)then 20 else e.err
theorem adm(e:Ex):ex apL [e.w] (rI e.chk):=by
 have j:=ahN e 0 ej ej;have l:=aoA e;unfold Ex.chk;obtain⟨op,I,v,o⟩:=e;refine aph.s T4 ?_;refine Sat.cal (j) ?_;generalize(Ex.meas (.mk op I v o) 0)=m at*;obtain⟨m1,p⟩:=m;refine zg (b:=decide (m1>200)) (λg=>?_) (λg=>?_)
 ·(conv=>whnf);rw[g];rfl
 refine zg (b:=decide (p>16)) (λi=>?_) (λi=>?_)
 ·(conv=>whnf);rw[g,i];rfl
 refine Sat.w l ?_;rw[g,i];rfl
def ask:am ByteArray->am Pl
 |[]=> [.box [.nil]]
 |s::l=> [.box [.own 1 1 (s::l).length],.arr 1 (zo (s::l)) false]
def zU(l:am ByteArray)(s:ByteArray):Int:=bif !z8 s then 3 else bif hasB l s then 4 else 0
def aF9(l:am ByteArray)(s:ByteArray):am Pl:=
 match l with
 |[]=> [.box [.own 1 1 1],.arr 1 (zo [s]) false]
 |x::r=> [.box [.own 2 1 ((x::r).length+1)],.gone,.arr 1 (zo ((x::r)++[s])) false]
def QU(l:am ByteArray)(s:ByteArray):Res:=⟨.w (.c (int (zU l s))),bif zU l s !=0 then ask l else aF9 l s⟩
theorem aqG{l}{s}(h:(!z8 s)=true):zU l s=3:=by grind[zU]
theorem aBu{l}{s}(h:(!z8 s)=false)(g:hasB l s=true):zU l s=4:=by grind[zU]
theorem aqF{l}{s}(h:(!z8 s)=false)(g:hasB l s=false):zU l s=0:=by grind[zU]
theorem aDS(l):∀y∈zo l,y.length=1:=by intro y g;obtain⟨r,_,rfl⟩:=cD.1 g;rfl
theorem KB(l)(s)(o:l.length<=1000000):zH Pg ag7 [.c (.ptr 0 0),.c (str s)] (ask l) (λr=>r=QU l s):=by
 cases l with
 |nil=>
  unfold QU;refine vF T4 JJ.ok er (cc rfl) ?_;refine zg (b:=!z8 s) (λh=>?_) (λh=>?_)
  ·(conv=>whnf);rw[aqG h];rfl
  refine Sat.w (yJ [] s) ?_;refine yQ ?_ (hA:=ep) (hB:=by grind[zW]) (hC:=ep);rw[aqF h rfl];rfl
 |cons x r=>
  unfold QU;have j:(zo (x::r)).take ((x::r).length)=zo (x::r):=by grind[zA]
  refine vF T4 JJ.ok er (cc rfl) ?_;refine zg (b:=!z8 s) (λh=>?_) (λh=>?_)
  ·(conv=>whnf);rw[aqG h];rfl
  (conv=>whnf);have i:=yJ (x::r) s;unfold Kq at i;rw[<-j]at i;refine Sat.w i ?_;refine zt (b:=hasB (x::r) s) (λg=>?_) (λg=>?_)
  ·(conv=>whnf);rw[aBu h g];rfl
  refine yQ ?_ (hA:=ep) (hB:=by grind[zW]) (hC:=ek);rw[aqF h g];show _=(⟨_,[.box [.own 2 1 ((x::r).length+1)],.gone,.arr 1 (zo ((x::r)++[s])) false]⟩:Res);rw[show zo ((x::r)++[s])=(zo (x::r)).take ((x::r).length)++zo [s]by grind[zo]];rfl
def yV:am ByteArray->am ByteArray->Int
 |_,[]=>0
 |g,s::r=>bif zU g s !=0 then zU g s else yV (g++[s]) r
def WN:am ByteArray->am ByteArray->am ByteArray
 |g,[]=>g
 |g,s::r=>bif zU g s !=0 then g else WN (g++[s]) r
def Ji(g l:am ByteArray):Res:=⟨.w (.c (int (yV g l))),ask (WN g l)⟩
theorem anG{g r}{s}(h:(zU g s !=0)=true):Ji g (s::r)=⟨.w (.c (int (zU g s))),ask g⟩:=by simp only[Ji,yV,WN,h,aC]
theorem au1{g r}{s}(h:(zU g s !=0)=false):Ji g (s::r)=Ji (g++[s]) r:=by simp_all[Ji,yV,WN]
def aHU(l:am ByteArray)(i:Nat):am ByteArray->S
 |[]=>⟨[(0,cV (.ptr 100000 0)),(8,.w (Kq l)),(9,zh (zo l).length),(10,zh i)],[(100000,.box [.nil])]⟩
 |x::r=>⟨[(0,cV (.ptr 100000 0)),(8,.w (Kq l)),(9,zh (zo l).length),(10,zh i)],[(100000,.box [.own 600256 1 (x::r).length]),(600256,.arr 1 (zo (x::r)) false)]⟩
theorem zD{a:Type}{l:am a}{i}(h:i<l.length):l.take (i+1)=l.take i++[l[i]]:=bX h
theorem av0(l)(hl:l.length<=1000):zH Pg ag8 [.c (.ptr 0 0),Kq l] [.box [.nil]] (λr=>r=Ji [] l):=by
 refine vF T4 JK.ok er (cc rfl) ?_
 conv=>whnf
 refine yD (P:=Pg) (f:=T4.f) (body:=(JK.l 0)) (λx:Nat×am ByteArray=>aHU l x.1 x.2) (λx=>l.length-x.1) (λx=>x.1<=l.length/\x.2.length=x.1/\Ji [] l=Ji x.2 (l.drop x.1)) ⟨(0,[]),⟨bF _,rfl,rfl⟩,zi ?_⟩ ?_
 .exact rfl
 rintro⟨i,p⟩ hx;obtain⟨hi,ha,j⟩:i<=l.length/\p.length=i/\Ji [] l=Ji p (l.drop i):=hx;have U:i<l.length->aD.wrap ((i:Int)+1)=((i+1:Nat):Int):=λh=>zu h ej
 cases p with
 |nil=>
  refine zg (λI=>?_) (λI=>?_)
  .have g:i<l.length:=by have I:decide ((i:Int)<((zo l).length:Int))=true:=I;simp_all[zA]
   have T:=xh g;rw[zm g]at j;generalize l[i]=s at*;refine zw T ?_;refine zH.mono (KB [] s ep) ?_;rintro _ rfl;by_cases o:(zU [] s !=0)=true
   .have e:QU [] s=⟨.w (.c (int (zU [] s))),[.box [.nil]]⟩:=by unfold QU;rw[o];rfl
    rw[anG o]at j;rw[e,j];refine zg (λk=>?_) (λk=>?_)
    .exact rfl
    grind
   have o:(zU [] s !=0)=false:=ek
   have J:zU [] s=0:=ek
   have e:QU [] s=⟨.w (.c (int 0)),[.box [.own 1 1 1],.arr 1 (zo [s]) false]⟩:=by unfold QU;rw[o,J];rfl
   rw[au1 o]at j;rw[e];(conv=>whnf);refine⟨(i+1,[s]),⟨⟨g,ek,j⟩,ek⟩,zi ?_⟩;(conv=>whnf);rw[U g];rfl
  have R:l.length<=i:=by grind[zA]
  rw[aB R]at j;rw[j];exact rfl
 |cons x r=>
  refine zg (λI=>?_) (λI=>?_)
  .have g:i<l.length:=by have I:decide ((i:Int)<((zo l).length:Int))=true:=I;simp_all[zA]
   have T:=xh g;rw[zm g]at j;generalize l[i]=s at*;refine zw T ?_;refine zH.mono (KB (x::r) s ej) ?_;rintro _ rfl;by_cases o:(zU (x::r) s !=0)=true
   .have e:QU (x::r) s=⟨.w (.c (int (zU (x::r) s))),[.box [.own 1 1 (x::r).length],.arr 1 (zo (x::r)) false]⟩:=by unfold QU;rw[o];rfl
    rw[anG o]at j;rw[e,j];refine zg (λk=>?_) (λk=>?_)
    .exact rfl
    grind
   have o:(zU (x::r) s !=0)=false:=ek
   have J:zU (x::r) s=0:=ek
   have e:QU (x::r) s=⟨.w (.c (int 0)),[.box [.own 2 1 ((x::r).length+1)],.gone,.arr 1 (zo ((x::r)++[s])) false]⟩:=by unfold QU;rw[o,J];rfl
   rw[au1 o]at j;rw[e];(conv=>whnf);refine⟨(i+1,(x::r)++[s]),⟨⟨g,ek,j⟩,ek⟩,zi ?_⟩;(conv=>whnf);rw[U g];show _=S.mk _ [(100000,.box [.own 600256 1 (x::(r++[s])).length]),_];rw[show(x::(r++[s])).length=(x::r).length+1 by simp];rfl
  have R:l.length<=i:=by grind[zA]
  rw[aB R]at j;rw[j];exact rfl
def zB(l:am Int):=l.map λn=> [D.lit (.int .i64 n)]
theorem xg(l):(zB l).length=l.length:=by simp[zB]
theorem j7{r}{i:Nat}(h:i<r.length):(zB r)[((i:Int)).toNat]?=some [D.lit (.int .i64 r[i])]:=by grind[zB]
theorem aiU(l)(s):ex abU [.c (.d (.sl (zB l))),.c (int s)] (rI (zO (λx=>s==x) 0 l)):=by
 refine yZ 0 er rfl λj=>?_
 rw[xg]at j;refine Wn.s T4 ?_
 refine zX (P:=Pg) (f:=T4.f) (body:=(Wn.l 0)) l.length (λi=>⟨[(0,.w (.c (.d (.sl (zB l))))),(1,.w (.c (int s))),(7,zh (zB l).length),(8,zh i)],[]⟩)
  (λi=>zO (λx=>s==x) 0 l=zO (λx=>s==x) i (l.drop i)) ⟨rfl,zi ?_⟩ ?_
 .exact rfl
 intro i R o;refine zg (λJ=>?_) (λJ=>?_)
 .have g:i<l.length:=by simp_all[xg]
  rw[zm g]at o;refine zw (j7 g) ?_;refine zg (λp=>?_) (λp=>?_)
  .simp only[zO,p,aC]at o;(conv=>whnf);exact aF rI o.symm
  simp only[zO,p,aA]at o;refine zI g o ?_;rw[zu g j];rfl
 have I:l.length<=i:=by grind[xg]
 rw[aB I]at o;(conv=>whnf);exact aF rI o.symm
def jL(l:am Int)(s):=l.any λx=>s==x
theorem aeg(l)(s):ex km [.c (.d (.sl (zB l))),.c (int s)] (rB (jL l s)):=by refine KV.s T4 ?_;refine Sat.w (aiU l s) ?_;exact aF rB (Yg _ l 0)
def kd:am (am D)->am Int
 |[.lit (.int _ m)]::r=>m::kd r
 |_=> []
theorem ayg(L)(op)(rest)(h:zB (kd L)=L):ex akI [.c (.d (.sl L)),.c (.fp (.lit (.int .i64 op)::rest))] (rB (jL (kd L) op)):=by
 rw[<-h];generalize kd L=l at*;have e:kd (zB l)=l:=by clear h;induction l<;>grind[kd,zB]
 rw[e];refine ajU.s T4 ?_;refine Sat.cal (aeg l op) ?_;rfl
def QQ(op:Int)(i:ByteArray)(v:Val)(g:Int):=((op==0&&zl i ⟨#[]⟩)&&yH v ⟨0,0,⟨#[]⟩⟩)&&g==0
def Ex.zero:Ex->Bool
 |.mk op i v g=>QQ op i v g.length
theorem aDF(op)(g)(k n)(s)(l):ex JA [.agg [int op,str g,int k,int n,str s,.d (.sl l)]] (rB (QQ op g ⟨k,n,s⟩ l.length)):=by
 refine z7 T4 apl.ok er ?_
 repeat' (conv=>whnf
          refine zt (λh=>?_) (λh=>?_))
 all_goals refine aF rB ?_
 all_goals unfold QQ yH
 all_goals try simp only[aC,aA,bC,aU,bD,aY,aZ,aP,aV,aR,aN,aO,aI,aM,aH,aJ,bA]at*
 all_goals first|done|(simp only[*,aC,aA,bC,aU,bD,aY,aZ,aP,aV,aR,aN,aO,aI,aM,aH,aJ,bA];done)|(simp_all only[aC,aA,bC,aU,bD,aY,aZ,aP,aV,aR,aN,aO,aI,aM,aH,aJ,bA];done)|skip
def ac4:C->aK Int|.d (.lit (.int .i64 n))=>some n|_=>none
def amC:C->aK ByteArray|.d (.lit (.string n))=>some n|_=>none
def slD:C->aK (am (am D))|.d (.sl n)=>some n|_=>none
theorem Uk{c}{n}(h:ac4 c=some n):c=int n:=by
 unfold ac4 at h;split at h
 .cases h;rfl
 cases h
theorem agB{c}{n}(h:amC c=some n):c=str n:=by
 unfold amC at h;split at h
 .cases h;rfl
 cases h
theorem aGZ{c}{n}(h:slD c=some n):c=.d (.sl n):=by unfold slD at h;grind
def zc:am C->aK W
 |[a,b,c,d,e,f]=>(ac4 a).bind λop=>(amC b).bind λg=>(ac4 c).bind λk=>(ac4 d).bind λn=>(amC e).bind λs=>(slD f).bind λl=>some (.c (bool (QQ op g ⟨k,n,s⟩ l.length)))
 |_=>none
def T5f(k:aT)(l:am W):aK W:=
 bif bI k JA then(match l with|[.agg cs]=>zc cs|_=>none)else T4f k l
theorem aBm(k)(l)(w)(h:T5f k l=some w):Sat Pg k l (λr=>r=⟨.w w,[]⟩):=by
 unfold T5f at h;cases hk:bI k JA
 .simp_all[aF5]
 rw[hk,aC]at h;rw[aG hk];split at h
 .rename_i cs;unfold zc at h;split at h
  .obtain⟨op,g,h⟩:=bH.1 h;obtain⟨J,i,h⟩:=bH.1 h;obtain⟨v,j,h⟩:=bH.1 h;obtain⟨n,o,h⟩:=bH.1 h;obtain⟨s,p,h⟩:=bH.1 h;obtain⟨l,I,h⟩:=bH.1 h;cases h;rw[Uk g,agB i,Uk j,Uk o,agB p,aGZ I];exact aDF _ _ _ _ _ _
  cases h
 cases h
def T5:Tab Pg:=⟨T5f,aBm⟩
structure Itm where
 e:Ex
 nm:ByteArray
def Itm.ds(x:Itm):=x.e.ds++[.lit (.string x.nm)]
structure Agg where
 fn:ByteArray
 col:ByteArray
 nm:ByteArray
def Agg.ds(x:Agg):am D:=[.lit (.string x.fn),.lit (.string x.col),.lit (.string x.nm)]
structure Srt where
 col:ByteArray
 desc:Bool
def Srt.ds(x:Srt):am D:=[.lit (.string x.col),.lit (.bool x.desc)]
structure Stp where
 op:Int
 cond:Ex
 items:am Itm
 cols:am ByteArray
 aggs:am Agg
 sorts:am Srt
 n:Int
 table:ByteArray
def Stp.ds(s:Stp):=[.lit (.int .i64 s.op)]++(s.cond.ds++[.sl (s.items.map Itm.ds),.sl (zo s.cols),.sl (s.aggs.map Agg.ds),.sl (s.sorts.map Srt.ds),.lit (.int .i64 s.n),.lit (.string s.table)])
def Stp.w(s:Stp):W:=.agg (s.ds.map .d)
def X6(op:Int)(z:Bool)(g cols j i n:Int)(l):=
 bif decide (op<1)||decide (op>9)then false else
 bif ((!jL [1] op&&!z)||((!jL [2] op&&decide (g>0))||((!jL [3] op&&decide (j>0))||((!jL [4] op&&decide (i>0))||(!jL [5] op&&n !=0)))))then false else
 bif !jL [6,7,8] op&&!zl l ⟨#[]⟩then false else
 jL [3,6,7,8,9] op||cols==0
def Stp.uses(s:Stp):=X6 s.op s.cond.zero s.items.length s.cols.length s.aggs.length s.sorts.length s.n s.table
theorem aDE(op)(l)(p)(k n)(s)(o g cols j i)(m)(I):
 ex ad0 [.agg [int op,int l,str p,int k,int n,str s,.d (.sl o),.d (.sl g),.d (.sl cols),.d (.sl j),.d (.sl i),int m,str I]] (rB (X6 op (QQ l p ⟨k,n,s⟩ o.length) g.length cols.length j.length i.length m I)):=by
 refine z7 T5 apk.ok er ?_
 repeat' (conv=>whnf
          first|refine zt (λh=>?_) (λh=>?_)|(refine Sat.mono (ayg _ _ _ rfl) ?_;rintro _ rfl))
 all_goals refine aF rB ?_
 all_goals unfold X6
 all_goals try simp only[List.take_length,kd]at*
 all_goals generalize((List.length cols:Nat):Int)=J at*
 all_goals try simp only[aC,aA,bC,aU,bD,aY,aZ,aP,aV,aR,aN,aO,aI,aM,aH,aJ,bA]at*
 all_goals first|done|(simp only[*,aC,aA,bC,aU,bD,aY,aZ,aP,aV,aR,aN,aO,aI,aM,aH,aJ,bA];done)|(simp_all only[aC,aA,bC,aU,bD,aY,aZ,aP,aV,aR,aN,aO,aI,aM,aH,aJ,bA];done)|skip
def yI(l:am Itm):=l.map Itm.ds
theorem qP(l):(yI l).length=l.length:=by simp[yI]
theorem j8{r}{i:Nat}(h:i<r.length):(yI r)[((i:Int)).toNat]?=some (r[i]).ds:=by grind[yI]
theorem acr{g}{s}(h:(zU g s !=0)=true):QU g s=⟨.w (.c (int (zU g s))),ask g⟩:=by grind[QU]
theorem agf{g}{s}(h:(zU g s !=0)=false):QU g s=⟨.w (.c (int 0)),aF9 g s⟩:=by grind[QU]
def yG:am ByteArray->am Itm->Int
 |_,[]=>0
 |g,x::r=>bif x.e.chk !=0 then x.e.chk else bif zU g x.nm !=0 then zU g x.nm else yG (g++[x.nm]) r
def itS(l:am Itm)(i:Nat):am ByteArray->S
 |[]=>⟨[(3,cV (.ptr 3 0)),(8,.w (.c (.d (.sl (yI l))))),(9,zh (yI l).length),(10,zh i)],[(3,.box [.nil])]⟩
 |x::r=>⟨[(3,cV (.ptr 3 0)),(8,.w (.c (.d (.sl (yI l))))),(9,zh (yI l).length),(10,zh i)],[(3,.box [.own 600352 1 (x::r).length]),(600352,.arr 1 (zo (x::r)) false)]⟩
theorem aAJ(l)(hl:l.length<=1000):ex amz [.c (.d (.sl (yI l)))] (rI (yG [] l)):=by
 refine abp.s T5 ?_;refine yD (P:=Pg) (f:=T5.f) (body:=(abp.l 0)) (λx:Nat×am ByteArray=>itS l x.1 x.2) (λx=>l.length-x.1) (λx=>x.1<=l.length/\x.2.length=x.1/\yG [] l=yG x.2 (l.drop x.1)) ⟨(0,[]),⟨bF _,rfl,rfl⟩,zi ?_⟩ ?_
 .exact rfl
 rintro⟨i,o⟩ hx;obtain⟨hi,ha,j⟩:i<=l.length/\o.length=i/\yG [] l=yG o (l.drop i):=hx;have wi:i<l.length->aD.wrap ((i:Int)+1)=((i+1:Nat):Int):=λh=>zu h ej
 have U:decide ((i:Int)<((yI l).length:Int))=true->i<l.length:=λh=>by simp_all[qP]
 have T:decide ((i:Int)<((yI l).length:Int))=false->yG [] l=0:=λh=>by have:=aQ h;rw[qP]at this;rw[j,aB ej];cases o<;>rfl
 have aa:∀g:i<l.length,yG [] l=bif l[i].e.chk !=0 then l[i].e.chk else bif zU o l[i].nm !=0 then zU o l[i].nm else yG (o++[l[i].nm]) (l.drop (i+1)):=λg=>by rw[j,zm g];rfl
 cases o with
 |nil=>
  refine zg (λh1=>?_) (λh1=>?_)
  .have g:=U h1;have hg:=j8 g;have j:=aa g;generalize l[i]=x at*;obtain⟨⟨R,J,v1,I⟩,s⟩:=x;refine zw hg ?_;refine Sat.cal (adm (.mk R J v1 I)) ?_;generalize(Ex.chk (.mk R J v1 I))=e1 at*;refine zg (b:=e1 !=0) (λh2=>?_) (λh2=>?_)
   .simp only[h2,aC]at j;(conv=>whnf);rw[j];rfl
   simp only[h2,aA]at j;(conv=>whnf);refine zH.mono (KB [] s ep) ?_;rintro _ rfl;by_cases p:(zU [] s !=0)=true
   .rw[acr p];simp only[p,aC]at j;generalize zU [] s=e2 at*;refine zg (λk=>?_) (λk=>?_)
    ·(conv=>whnf);rw[j];rfl
    exact absurd (p.symm.trans k) ep
   have p:(zU [] s !=0)=false:=ek
   rw[agf p];simp only[p,aA]at j;(conv=>whnf);refine⟨(i+1,[s]),⟨⟨g,ek,j⟩,ek⟩,zi ?_⟩;(conv=>whnf);rw[wi g];rfl
  have hE:=T h1;rw[hE];exact rfl
 |cons y r=>
  refine zg (λh1=>?_) (λh1=>?_)
  .have g:=U h1;have hg:=j8 g;have j:=aa g;generalize l[i]=x at*;obtain⟨⟨R,J,v1,I⟩,s⟩:=x;refine zw hg ?_;refine Sat.cal (adm (.mk R J v1 I)) ?_;generalize(Ex.chk (.mk R J v1 I))=e1 at*;refine zg (b:=e1 !=0) (λh2=>?_) (λh2=>?_)
   .simp only[h2,aC]at j;(conv=>whnf);rw[j];rfl
   simp only[h2,aA]at j;(conv=>whnf);refine zH.mono (KB (y::r) s ej) ?_;rintro _ rfl;by_cases p:(zU (y::r) s !=0)=true
   .rw[acr p];simp only[p,aC]at j;generalize zU (y::r) s=e2 at*;refine zg (λk=>?_) (λk=>?_)
    ·(conv=>whnf);rw[j];rfl
    exact absurd (p.symm.trans k) ep
   have p:(zU (y::r) s !=0)=false:=ek
   rw[agf p];simp only[p,aA]at j;(conv=>whnf);refine⟨(i+1,(y::r)++[s]),⟨⟨g,ek,j⟩,ek⟩,zi ?_⟩;(conv=>whnf);rw[wi g];show _=S.mk _ [(3,.box [.own 600352 1 (y::(r++[s])).length]),_];rw[show(y::(r++[s])).length=(y::r).length+1 by simp];rfl
  have hE:=T h1;rw[hE];exact rfl
def qx(l)(Za):=bif vR l.length Za !=0 then vR l.length Za else yV [] l
theorem att{n Za}(h:(vR n Za !=0)=false):n<=16:=by
 rw[cL]at h;unfold vR at h;obtain⟨_,h⟩:=zY ej h;obtain⟨h,_⟩:=zY ej h
 grind
theorem aa1(l)(Za):ex aiz [Kq l,.c (int Za)] (rI (qx l Za)):=by
 unfold qx;rw[<-zA];refine aie.s T5 ?_;refine zg (b:=vR (zo l).length Za !=0) (λh=>?_) (λh=>?_)
 ·(conv=>whnf);rw[h];rfl
 have g:=att h;rw[zA]at g;(conv=>whnf);refine zH.mono (av0 l ej) ?_;rintro _ rfl;rw[h,aA];unfold Ji;generalize yV [] l=e;cases WN [] l with
 |nil=>
  exact rfl
 |cons x r=>
  exact rfl
def ql(l:am Agg):=l.map Agg.ds
theorem wR(l):(ql l).length=l.length:=by simp[ql]
theorem Y7{r}{i:Nat}(h:i<r.length):(ql r)[((i:Int)).toNat]?=some (r[i]).ds:=by grind[ql]
def gC:am ByteArray:=[⟨#[115,117,109]⟩,⟨#[109,105,110]⟩,⟨#[109,97,120]⟩,⟨#[102,105,114,115,116]⟩]
def Ve:ByteArray:=⟨#[99,111,117,110,116]⟩
def Qk(x:Agg):=bif !zl x.fn Ve&&!hasB gC x.fn then true else zl x.fn Ve== !zl x.col ⟨#[]⟩
def Ql(x:Agg):Int:=bif Qk x then 5 else bif !zl x.col ⟨#[]⟩&&!z8 x.col then 3 else 0
def qd:am ByteArray->am Agg->Int
 |_,[]=>0
 |g,x::r=>bif Ql x !=0 then Ql x else bif zU g x.nm !=0 then zU g x.nm else qd (g++[x.nm]) r
def Xi(cols)(g):=
 bif aD.wrap ((cols.length:Int)+g.length)==0 then 8 else bif decide ((cols.length:Int)>16)||decide ((g.length:Int)>16)then 7 else
 bif yV [] cols !=0 then yV [] cols else qd cols g
def grS(l:am Agg)(i p:Nat):am ByteArray->S
 |[]=>⟨[(3,cV (.ptr 3 0)),(36,.w (.c (.d (.sl (ql l))))),(37,zh (ql l).length),(38,zh i)],[(3,.box [.nil])]⟩
 |x::r=>⟨[(3,cV (.ptr 3 0)),(36,.w (.c (.d (.sl (ql l))))),(37,zh (ql l).length),(38,zh i)],[(3,.box [.own p 1 (x::r).length]),(p,.arr 1 (zo (x::r)) false)]⟩
theorem ajJ:∀(l g),(yV g l !=0)=false->WN g l=g++l
 |[],g,_=>by simp[WN]
 |s::r,g,h=>by
  simp only[yV]at h;simp only[WN];cases i:(zU g s !=0)
  .simp_all[ajJ]
  simp_all
theorem avv(g:am Agg)(cols:am ByteArray)(ae:g.length<=16)(af:cols.length<=16)(s)(p0)(ad:p0=600496\/p0=601152)(hs:xO s [3,36,37,38] (· =grS g 0 p0 cols)):
 z6 (mwpR Pg T5.f (XM.l 0)) [3,36,37,38] (Qo 1 (aa3 (mwpR Pg T5.f (.seq (.reg [⟨(some 2),none,false,.mov (.k (zh 0)),[3,36,37,38]⟩]) .ret)) (Jq XM.A.res [] λr=>r=rI (qd cols g)))) s:=by
 refine yD (P:=Pg) (f:=T5.f) (body:=(XM.l 0)) (λx:Nat×Nat×am ByteArray=>grS g x.1 x.2.1 x.2.2) (λx=>g.length-x.1) (λx=>x.1<=g.length/\(x.2.1=600496\/x.2.1=601152)/\x.2.2.length=x.1+cols.length/\qd cols g=qd x.2.2 (g.drop x.1)) ⟨(0,p0,cols),⟨bF _,ad,ep,rfl⟩,hs⟩ ?_;rintro⟨i,p,ac⟩ hx;obtain⟨hi,hp,ha,aa⟩:i<=g.length/\(p=600496\/p=601152)/\ac.length=i+cols.length/\qd cols g=qd ac (g.drop i):=hx;have wi:i<g.length->aD.wrap ((i:Int)+1)=((i+1:Nat):Int):=λh=>zu h ej
 have J:decide ((i:Int)<((ql g).length:Int))=true->i<g.length:=λh=>by simp_all[wR]
 have I:decide ((i:Int)<((ql g).length:Int))=false->qd cols g=0:=λh=>by have:=aQ h;rw[wR]at this;rw[aa,aB ej];cases ac<;>rfl
 have ab:∀R:i<g.length,qd cols g=bif Ql g[i] !=0 then Ql g[i]else bif zU ac g[i].nm !=0 then zU ac g[i].nm else qd (ac++[g[i].nm]) (g.drop (i+1)):=λR=>by rw[aa,zm R];rfl
 cases ac with
 |nil=>
  refine zg (λh1=>?_) (λh1=>?_)
  .have R:=J h1;have hg:=Y7 R;have U:=ab R;generalize g[i]=x at*;obtain⟨fn,o,s⟩:=x;have T:=yJ gC fn;have j:=KB [] s ek;by_cases he:(zU [] s !=0)=true
   .rw[acr he]at j;simp only[he,aC]at U;generalize zU [] s=e2 at*;refine zw hg ?_;repeat' ((conv=>whnf);first|((with_reducible show Sat _ _ _ _);refine Sat.mono T ?_;rintro _ rfl)|((with_reducible show zH _ _ _ _ _);refine zH.mono j ?_;rintro _ rfl)|refine zt (λh=>?_) (λh=>?_))
    all_goals first|(exfalso;simp_all;done)|skip
    all_goals (conv=>whnf)
    all_goals rw[U]
    all_goals clear T j ab I J hs U aa wi hg
    all_goals unfold Ql Qk
    all_goals refine aF rI ?_
    all_goals ((try unfold Ve at*);(try generalize zl fn ⟨#[99,111,117,110,116]⟩=a at*);(try generalize hasB gC fn=b at*);(try generalize zl o ⟨#[]⟩=c at*);(try generalize z8 o=d at*);(try cases a)<;>(try cases b)<;>(try cases c)<;>(try cases d)<;>simp_all;done)
   have he:(zU [] s !=0)=false:=ek
   rw[agf he]at j;simp only[he,aA]at U;unfold Ql Qk at U;refine zw hg ?_;repeat' ((conv=>whnf);first|((with_reducible show Sat _ _ _ _);refine Sat.mono T ?_;rintro _ rfl)|((with_reducible show zH _ _ _ _ _);refine zH.mono j ?_;rintro _ rfl)|refine zt (λh=>?_) (λh=>?_))
   all_goals first|((conv=>whnf);(with_reducible show _=_);rw[U];refine aF rI ?_;clear T j ab I J hs U aa wi hg;((try unfold Ve at*);(try generalize zl fn ⟨#[99,111,117,110,116]⟩=a at*);(try generalize hasB gC fn=b at*);(try generalize zl o ⟨#[]⟩=c at*);(try generalize z8 o=d at*);(try cases a)<;>(try cases b)<;>(try cases c)<;>(try cases d)<;>simp_all;done))|skip
   all_goals
    (conv=>whnf);refine⟨(i+1,601152,[]++[s]),⟨⟨R,.inr rfl,by simp at ha⊢;omega,?_⟩,by show g.length-(i+1)<g.length-i;omega⟩,zi ?_⟩
    .rw[U];clear T j ab I J hs U aa wi hg;((try unfold Ve at*);(try generalize zl fn ⟨#[99,111,117,110,116]⟩=a at*);(try generalize hasB gC fn=b at*);(try generalize zl o ⟨#[]⟩=c at*);(try generalize z8 o=d at*);(try cases a)<;>(try cases b)<;>(try cases c)<;>(try cases d)<;>simp_all;done)
    (conv=>whnf);rw[wi R];rfl
  have hE:=I h1;rw[hE];exact rfl
 |cons y r=>
  rcases hp with rfl|rfl
  all_goals
   refine zg (λh1=>?_) (λh1=>?_)
   .have R:=J h1;have hg:=Y7 R;have U:=ab R;generalize g[i]=x at*;obtain⟨fn,o,s⟩:=x;have T:=yJ gC fn;have j:=KB (y::r) s (by first|(simp;done)|(simp at ha⊢;omega));by_cases he:(zU (y::r) s !=0)=true
    .rw[acr he]at j;simp only[he,aC]at U;generalize zU (y::r) s=e2 at*;refine zw hg ?_;repeat' ((conv=>whnf);first|((with_reducible show Sat _ _ _ _);refine Sat.mono T ?_;rintro _ rfl)|((with_reducible show zH _ _ _ _ _);refine zH.mono j ?_;rintro _ rfl)|refine zt (λh=>?_) (λh=>?_))
     all_goals first|(exfalso;simp_all;done)|skip
     all_goals (conv=>whnf)
     all_goals rw[U]
     all_goals clear T j ab I J hs U aa wi hg
     all_goals unfold Ql Qk
     all_goals refine aF rI ?_
     all_goals ((try unfold Ve at*);(try generalize zl fn ⟨#[99,111,117,110,116]⟩=a at*);(try generalize hasB gC fn=b at*);(try generalize zl o ⟨#[]⟩=c at*);(try generalize z8 o=d at*);(try cases a)<;>(try cases b)<;>(try cases c)<;>(try cases d)<;>simp_all;done)
    have he:(zU (y::r) s !=0)=false:=by simpa using he
    rw[agf he]at j;simp only[he,aA]at U;unfold Ql Qk at U;refine zw hg ?_;repeat' ((conv=>whnf);first|((with_reducible show Sat _ _ _ _);refine Sat.mono T ?_;rintro _ rfl)|((with_reducible show zH _ _ _ _ _);refine zH.mono j ?_;rintro _ rfl)|refine zt (λh=>?_) (λh=>?_))
    all_goals first|((conv=>whnf);(with_reducible show _=_);rw[U];refine aF rI ?_;clear T j ab I J hs U aa wi hg;((try unfold Ve at*);(try generalize zl fn ⟨#[99,111,117,110,116]⟩=a at*);(try generalize hasB gC fn=b at*);(try generalize zl o ⟨#[]⟩=c at*);(try generalize z8 o=d at*);(try cases a)<;>(try cases b)<;>(try cases c)<;>(try cases d)<;>simp_all;done))|skip
    all_goals
     (conv=>whnf);refine⟨(i+1,601152,(y::r)++[s]),⟨⟨R,.inr rfl,by simp at ha⊢;omega,?_⟩,by show g.length-(i+1)<g.length-i;omega⟩,zi ?_⟩
     .rw[U];clear T j ab I J hs U aa wi hg;((try unfold Ve at*);(try generalize zl fn ⟨#[99,111,117,110,116]⟩=a at*);(try generalize hasB gC fn=b at*);(try generalize zl o ⟨#[]⟩=c at*);(try generalize z8 o=d at*);(try cases a)<;>(try cases b)<;>(try cases c)<;>(try cases d)<;>simp_all;done)
     (conv=>whnf);rw[wi R];show _=S.mk _ [(3,.box [.own 601152 1 (y::(r++[s])).length]),_];rw[show(y::(r++[s])).length=(y::r).length+1 by simp];rfl
   have hE:=I h1;rw[hE];exact rfl
theorem aAI(op T)(nm)(k n)(s)(U j)(cols)(g)(l)(m)(tb):
 ex amy [.agg [int op,int T,str nm,int k,int n,str s,.d (.sl U),.d (.sl j),.d (.sl (zo cols)),.d (.sl (ql g)),.d (.sl l),int m,str tb]] (rI (Xi cols g)):=by
 unfold Xi;rw[<-zA,<-wR];refine XM.s T5 ?_;refine zg (b:=aD.wrap (((zo cols).length:Int)+(ql g).length)==0) (λh=>?_) (λh=>?_)
 ·(conv=>whnf);rw[h];rfl
 rw[h,aA];refine zg (b:=decide (((zo cols).length:Int)>16)||decide (((ql g).length:Int)>16)) (λI=>?_) (λI=>?_)
 ·(conv=>whnf);rw[I];rfl
 rw[I,aA];simp only[bB,aL,zA,wR]at I;refine zH.mono (av0 cols ej) ?_;rintro _ rfl;have o:=ajJ cols [];unfold Ji;generalize yV [] cols=e at*;by_cases J:(e !=0)=true
 .rw[J,aC];cases WN [] cols with
  |nil=>
   refine zg (λP=>?_) (λP=>?_)
   .exact rfl
   grind
  |cons x r=>
   refine zg (λP=>?_) (λP=>?_)
   .exact rfl
   grind
 have J:(e !=0)=false:=ek
 have R:e=0:=ek
 rw[o J,List.nil_append,J,aA,R];have i:cols.length<=16:=ej
 cases p:cols with
 |nil=>
  rw[p]at i;refine avv g [] ej i _ 600496 (.inl rfl) (zi ?_);exact rfl
 |cons x r=>
  rw[p]at i;refine avv g (x::r) ej i _ 600496 (.inl rfl) (zi ?_);exact rfl
def yU(l:am Srt):=l.map Srt.ds
theorem w9(l):(yU l).length=l.length:=by simp[yU]
theorem ZB{r}{i:Nat}(h:i<r.length):(yU r)[((i:Int)).toNat]?=some (r[i]).ds:=by grind[yU]
def Stp.err(s:Stp):=
 bif !s.uses then 1 else bif s.op==1 then s.cond.chk else
 bif s.op==2 then(bif vR s.items.length 1 !=0 then vR s.items.length 1 else yG [] s.items)else
 bif s.op==3 then Xi s.cols s.aggs else bif s.op==4 then qx (s.sorts.map Srt.col) 1 else
 bif s.op==5 then(bif decide (s.n<0)||decide (s.n>20000)then 2 else 0)else bif s.op==9 then qx s.cols 0 else
 bif !z8 s.table then 3 else qx s.cols (bif s.op==6 then 1 else 0)
def aIC(l:am Srt)(i:Nat):am ByteArray->S
 |[]=>⟨[(4,cV .nil),(37,.w (.c (.d (.sl (yU l))))),(38,zh (yU l).length),(39,zh i)],[]⟩
 |x::r=>⟨[(4,cV (.own 47 1 (x::r).length)),(37,.w (.c (.d (.sl (yU l))))),(38,zh (yU l).length),(39,zh i)],[(47,.arr 1 (zo (x::r)) false)]⟩
theorem jv(s:Stp)(hs:s.sorts.length<=1000000):ex apM [s.w] (rI s.err):=by
 obtain⟨op,⟨U,nm,⟨vk,vn,vs⟩,ks⟩,j,cols,o,g,n,tb⟩:=s;have hu:ex ad0 [Stp.w ⟨op,⟨U,nm,⟨vk,vn,vs⟩,ks⟩,j,cols,o,g,n,tb⟩] (rB (Stp.uses ⟨op,⟨U,nm,⟨vk,vn,vs⟩,ks⟩,j,cols,o,g,n,tb⟩)):=by have:=aDE op U nm vk vn vs (exsD ks) (yI j) (zo cols) (ql o) (yU g) n tb;rw[xX,qP,zA,wR,w9]at this;exact this
 have hg:=aAI op U nm vk vn vs (exsD ks) (yI j) cols o (yU g) n tb;have he:=adm ⟨U,nm,⟨vk,vn,vs⟩,ks⟩;have hi:=aAJ j;have hc:=aa1 cols;have hs:g.length<=1000000:=hs;unfold Stp.err;simp only;generalize(Stp.uses ⟨op,⟨U,nm,⟨vk,vn,vs⟩,ks⟩,j,cols,o,g,n,tb⟩)=u at*;generalize Ex.chk ⟨U,nm,⟨vk,vn,vs⟩,ks⟩=ce,Xi cols o=ge at*;rw[<-qP];refine adM.s T5 ?_;refine Sat.w hu ?_;refine zt (b:=!u) (λh1=>?_) (λh1=>?_)
 ·(conv=>whnf);rw[h1];rfl
 rw[h1,aA];refine zg (b:=op==1) (λh2=>?_) (λh2=>?_)
 .refine Sat.w he ?_;rw[h2];rfl
 rw[h2,aA];refine zg (b:=op==2) (λh3=>?_) (λh3=>?_)
 .rw[h3,aC];refine zg (b:=vR (yI j).length 1 !=0) (λP=>?_) (λP=>?_)
  ·(conv=>whnf);rw[P];rfl
  have hl:=att P;rw[qP]at hl;rw[P,aA];(conv=>whnf);refine Sat.cal (hi ej) ?_;rfl
 rw[h3,aA];refine zg (b:=op==3) (λP=>?_) (λP=>?_)
 .rw[P,aC];(conv=>whnf);refine Sat.cal (hg) ?_;rfl
 rw[P,aA];refine zg (b:=op==4) (λh5=>?_) (λh5=>?_)
 .rw[h5,aC];refine xm T5 (adM.l 0) g.length (λi=>aIC g i ((g.map Srt.col).take i)) (λ_=>True) ?_
  .intro i ad _;have wi:i<g.length->aD.wrap ((i:Int)+1)=((i+1:Nat):Int):=λh=>zu h ej
   have T:decide ((i:Int)<((yU g).length:Int))=true->i<g.length:=λh=>by simp_all[w9]
   have I:decide ((i:Int)<((yU g).length:Int))=false->(g.map Srt.col).take i=g.map Srt.col:=λh=>by grind[w9,List.length_map]
   have J:∀h:i<g.length,(g.map Srt.col).take (i+1)=(g.map Srt.col).take i++[g[i].col]:=λh=>by grind[zD]
   have ac:((g.map Srt.col).take i).length<=1000000:=ek
   cases R:(g.map Srt.col).take i with
   |nil=>
    rw[R]at J I;refine zg (λk1=>?_) (λk1=>?_)
    .have p:=T k1;have hg:=ZB p;refine zw hg ?_;refine yQ ?_ (hA:=ep) (hB:=by grind[zW]) (hC:=ep);refine zI p trivial ?_;rw[J,wi p];rfl
    have hE:=I k1;rw[<-hE];refine Sat.cal (aa1 [] 1) ?_;rfl
   |cons y r=>
    rw[R]at J I ac;refine zg (λk1=>?_) (λk1=>?_)
    .have p:=T k1;have hg:=ZB p;have J:=J p;generalize g[i]=x at*;obtain⟨c,b⟩:=x;refine zw hg ?_;refine yQ ?_ (hA:=ep) (hB:=by grind[zW]) (hC:=ek);refine zI p trivial ?_;rw[J,wi p];have ab:(zo (y::r)).take ((y::r).length)=zo (y::r):=by grind[zA]
     show _=S.mk [(4,cV (.own 47 1 (y::(r++[c])).length)),_,_,_] [(47,.arr 1 (zo ((y::r)++[c])) false)];rw[show(y::(r++[c])).length=(y::r).length+1 by simp,show zo ((y::r)++[c])=(zo (y::r)).take ((y::r).length)++zo [c]by grind[zo]];rfl
    have hE:=I k1;have ab:(zo (y::r)).take ((y::r).length)=zo (y::r):=by grind[zA]
    have aa:=aa1 (y::r) 1;unfold Kq at aa;rw[<-ab]at aa;rw[<-hE];refine Sat.cal (aa) ?_;rfl
 rw[h5,aA];refine zg (b:=op==5) (λh6=>?_) (λh6=>?_)
 .rw[h6,aC];refine zg (b:=decide (n<0)||decide (n>20000)) (λh7=>?_) (λh7=>?_)
  .rw[h7,aC];exact rfl
  rw[h7,aA];exact rfl
 rw[h6,aA];refine zg (b:=op==9) (λh7=>?_) (λh7=>?_)
 .rw[h7,aC];refine Sat.cal (hc 0) ?_;rfl
 rw[h7,aA];refine zg (b:=!z8 tb) (λh8=>?_) (λh8=>?_)
 .rw[h8,aC];exact rfl
 rw[h8,aA];refine zg (b:=op==6) (λh9=>?_) (λh9=>?_)
 .rw[h9,aC];refine Sat.cal (hc 1) ?_;rfl
 rw[h9,aA];refine Sat.cal (hc 0) ?_;rfl
structure Qry where
 src:ByteArray
 steps:am Stp
def vp(l:am Stp):=l.map Stp.ds
theorem xI(l):(vp l).length=l.length:=by simp[vp]
theorem jx{r}{i:Nat}(h:i<r.length):(vp r)[((i:Int)).toNat]?=some (r[i]).ds:=by grind[vp]
def Qry.w(q:Qry):W:=.agg [str q.src,.d (.sl (vp q.steps))]
def vY:am Stp->Int
 |[]=>0
 |s::r=>bif s.err !=0 then s.err else vY r
def Qry.err(q:Qry):=bif !z8 q.src then 3 else bif decide ((q.steps.length:Int)>16)then 7 else vY q.steps
theorem afR(q:Qry)(hs:∀s∈q.steps,s.sorts.length<=1000000):ex amx [q.w] (rI q.err):=by
 obtain⟨U,l⟩:=q;unfold Qry.err;rw[<-xI];refine abo.s T5 ?_;refine zg (b:=!z8 U) (λp=>?_) (λp=>?_)
 .rw[p,aC];exact rfl
 rw[p,aA];refine zg (b:=decide (((vp l).length:Int)>16)) (λo=>?_) (λo=>?_)
 .rw[o,aC];exact rfl
 rw[o,aA];have o:=aQ o;rw[xI]at o;refine xm T5 (abo.l 0) l.length (λi=>⟨[(17,.w (.c (.d (.sl (vp l))))),(18,zh (vp l).length),(19,zh i)],[]⟩) (λi=>vY l=vY (l.drop i)) ?_
 intro i hi j;refine zg (λk1=>?_) (λk1=>?_)
 .have g:i<l.length:=by simp_all[xI]
  rw[zm g]at j;have hg:=jx g;have hm:=hs _ (bG g);generalize l[i]=s at*;have J:=jv s hm;simp only[vY]at j;generalize s.err=e at*;obtain⟨op,⟨eo,nm,⟨vk,vn,vs⟩,ks⟩,P,cols,aa,T,n,tb⟩:=s;refine zw hg ?_;refine Sat.w J ?_;refine zt (b:=e !=0) (λR=>?_) (λR=>?_)
  .rw[R,aC]at j;rw[j];rfl
  rw[R,aA]at j;refine zI g j ?_;rw[zu g ej];rfl
 have I:l.length<=i:=by grind[xI]
 rw[aB I]at j;rw[j];rfl
def jo(s:Stp)(name):=bif s.op==1||s.op==2 then false else bif s.op==6||s.op==7 then zl s.table name else true
theorem asZ(s)(name):ex kf [s.w,.c (.fp [.lit (.string name)])] (rB (jo s name)):=by
 obtain⟨op,⟨o,I,⟨J,P,vs⟩,p⟩,g,cols,j,i,n,l⟩:=s;show Sat _ _ _ (λr=>r=rB (bif op==1||op==2 then false else bif op==6||op==7 then zl l name else true));refine z7 T5 ah9.ok er ?_
 repeat' (conv=>whnf
          refine zt (λh=>?_) (λh=>?_))
 all_goals refine aF rB ?_
 all_goals try simp only[aC,aA,bC,aU,bD,aY,aZ,aP,aV,aR,aN,aO,aI,aM,aH,aJ,bA]at*
 all_goals first|done|(simp only[*,aC,aA,bC,aU,bD,aY,aZ,aP,aV,aR,aN,aO,aI,aM,aH,aJ,bA];done)|(simp_all only[aC,aA,bC,aU,bD,aY,aZ,aP,aV,aR,aN,aO,aI,aM,aH,aJ,bA];done)|skip
theorem aei(g:aT)(cap)(p:Stp->Bool)(l)(hp:∀x:Stp,ex g [x.w,.c (.fp cap)] (rB (p x))):
 ex kr [.c (.d (.sl (vp l))),.c (.d (.fn g [cap]))] (rI (zO p 0 l)):=by
 refine yZ 0 er rfl λI=>?_
 rw[xI]at I;refine Xe.s T5 ?_
 refine zX (P:=Pg) (f:=T5.f) (body:=(Xe.l 0)) l.length (λi=>⟨[(0,.w (.c (.d (.sl (vp l))))),(1,.w (.c (.d (.fn g [cap])))),(7,zh (vp l).length),(8,zh i)],[]⟩)
  (λi=>zO p 0 l=zO p i (l.drop i)) ⟨rfl,zi ?_⟩ ?_
 .exact rfl
 intro i hi o;refine zg (λh1=>?_) (λh1=>?_)
 .have j:i<l.length:=by simp_all[xI]
  rw[zm j]at o;have hg:=jx j;have T:=hp l[i];simp only[zO]at o;generalize hs:l[i]=s at*;generalize p s=b at*;clear hs;obtain⟨op,⟨eo,nm,⟨vk,vn,vs⟩,ks⟩,U,cols,ab,aa,n,tb⟩:=s;refine zw hg ?_;refine Sat.w T ?_;refine zt (b:=b) (λJ=>?_) (λJ=>?_)
  .rw[J,aC]at o;(conv=>whnf);exact aF rI o.symm
  rw[J,aA]at o;refine zI j o ?_;rw[zu j I];rfl
 have R:l.length<=i:=by grind[xI]
 rw[aB R]at o;(conv=>whnf);exact aF rI o.symm
theorem aa0(g:aT)(cap)(p:Stp->Bool)(l)(i:∀x:Stp,ex g [x.w,.c (.fp cap)] (rB (p x))):
 ex U1 [.c (.d (.sl (vp l))),.c (.d (.fn g [cap]))] (rB (l.any p)):=by refine US.s T5 ?_;refine Sat.w (aei g cap p l i) ?_;exact aF rB (Yg _ l 0)
def Wc(q:Qry)(name):=bif q.err !=0||!zl q.src name then false else !q.steps.any λs=>jo s name
theorem Kn(q)(name)(hs:∀s∈q.steps,s.sorts.length<=1000000):ex abD [q.w,.c (str name)] (rB (Wc q name)):=by
 have j:=afR q hs;unfold Wc;generalize q.err=e at*;obtain⟨g,l⟩:=q;have i:=aa0 kf [.lit (.string name)] (λs=>jo s name) l (λx=>asZ x name);show Sat _ _ _ (λr=>r=rB (bif e !=0||!zl g name then false else !l.any λs=>jo s name));generalize(l.any λs=>jo s name)=b at*;refine alZ.s T5 ?_;refine Sat.w j ?_;refine zt (b:=e !=0||!zl g name) (λh=>?_) (λh=>?_)
 ·(conv=>whnf);rw[h];rfl
 rw[h,aA];refine Sat.w i ?_;rfl
theorem ahf(a b):ex gO [.c (int a),.c (int b)] (rI (xM a b)):=by
 unfold xM;refine z7 T5 ajT.ok er ?_
 repeat' (conv=>whnf
          refine zt (λh=>?_) (λh=>?_))
 all_goals refine aF rI ?_
 all_goals first|(simp only[*,aC,aA];done)|(simp_all only[aH,aC,aA];done)|(simp_all;done)
def T6f(k:aT)(l:am W):aK W:=
 match l with
 |[.c (.d (.lit (.int .i64 m))),.c (.d (.lit (.int .i64 n)))]=>bif bI k gO then some (.c (int (xM m n)))else T5f k l
 |_=>T5f k l
theorem alN(k)(l)(w)(h:T6f k l=some w):Sat Pg k l (λr=>r=⟨.w w,[]⟩):=by
 unfold T6f at h;split at h
 .rcases xV h with⟨g,rfl⟩|⟨_,h⟩
  .rw[aG g];exact ahf _ _
  grind[aBm]
 grind[aBm]
def T6:Tab Pg:=⟨T6f,alN⟩
def axI(a b:Val):=bif a.k !=b.k then xM a.k b.k else bif a.k==1||a.k==2 then xM a.n b.n else bif a.k !=3||zl a.s b.s then 0 else bif Wv a.s b.s then-1 else 1
theorem aCT(a b):axI a b=zS a b:=by grind[axI,zS,ZZ,AM.beqS_iff,AM.ltS_irrefl]
theorem vB(a b):ex Ju [a.w,b.w] (rI (zS a b)):=by
 rw[<-aCT];unfold axI;refine z7 T6 apa.ok er ?_
 repeat' (conv=>whnf
          refine zt (λh=>?_) (λh=>?_))
 all_goals refine aF rI ?_
 all_goals first|(simp only[*,aC,aA];done)|(simp_all only[aH,aC,aA];done)|(simp_all;done)
theorem vJ(a b):ex YZ [zE a,zE b] (rI (ordR a b)):=by
 refine yZ 0 er rfl λI=>?_
 rw[zp]at I;refine z7 T6 gn.ok er ?_;refine zX (P:=Pg) (f:=T6.f) (body:=(gn.l 0)) a.length (λi=>⟨[(0,.w (zE a)),(1,.w (zE b)),(5,zh i)],[]⟩) (λi=>i<=b.length/\ordR a b=ordR (a.drop i) (b.drop i)) ⟨⟨bF _,rfl⟩,zi ?_⟩ ?_
 .exact rfl
 intro i hi j;obtain⟨ab,g⟩:=j;refine zg (b:=decide ((i:Int)<((rowD a).length:Int))&&decide ((i:Int)<((rowD b).length:Int))) (λU=>?_) (λU=>?_)
 .simp only[cC,decide_eq_true_eq,zp]at U;have p:i<a.length:=ej
  have T:i<b.length:=ej
  have hg:=yq p;have aa:=yq T;rw[zm p,zm T]at g;have j:ordR a b=bif zS a[i] b[i] !=0 then zS a[i] b[i]else ordR (a.drop (i+1)) (b.drop (i+1)):=g
  have ho:=vB a[i] b[i];generalize zS a[i] b[i]=o at*;generalize b[i]=y at*;obtain⟨y1,y2,y3⟩:=y;refine zw hg ?_;refine zw aa ?_;refine Sat.w ho ?_;refine zt (b:=o !=0) (λh3=>?_) (λh3=>?_)
  .rw[h3,aC]at j;rw[j];rfl
  rw[h3,aA]at j;refine⟨p,⟨T,j⟩,zi ?_⟩;rw[zu p I];rfl
 simp only[cG,aL,zp]at U;refine zg (b:=decide (((rowD a).length:Int)<((rowD b).length:Int))) (λJ=>?_) (λJ=>?_)
 .have J:=aS J;simp only[zp]at J;rw[aB (by omega:a.length<=i),zm (by omega:i<b.length)]at g;have j:ordR a b= -1:=g;rw[j];rfl
 have J:=aQ J;simp only[zp]at J;refine zg (b:=decide (((rowD a).length:Int)>((rowD b).length:Int))) (λR=>?_) (λR=>?_)
 .have R:=aS R;simp only[zp]at R;rw[aB (by omega:b.length<=i),zm (by omega:i<a.length)]at g;have j:ordR a b=1:=g;rw[j];rfl
 have R:=aQ R;simp only[zp]at R;rw[aB (by omega:b.length<=i),aB (by omega:a.length<=i)]at g;have j:ordR a b=0:=g;rw[j];rfl
mutual
def Ex.deep:Ex->Int->Int->Int
 |.mk _ l v j,i,g=>bif ((decide (i<1)||decide (g-1<0))||decide ((l.size:Int)>300))||decide ((v.s.size:Int)>300)then-1 else deepL j (i-1) (g-1)
def deepL:am Ex->Int->Int->Int
 |[],_,g=>g
 |k::r,i,g=>bif decide (k.deep i g<0)then-1 else deepL r i (k.deep i g)
end
theorem arq:∀(j) (i g:Int), -1<=g->(∀k∈j,∀i g,0<=g-> -1<=k.deep i g/\k.deep i g<=g)->0<=g-> -1<=deepL j i g/\deepL j i g<=g
 |[],_,g,h,_,_=>by grind[deepL]
 |k::r,i,g,h,hk,h0=>by
  simp only[deepL];have o:=hk k (bJ ..) i g h0;by_cases e:k.deep i g<0
  .simp_all
  rw[aW e,aA];have:=arq r i (k.deep i g) ej (λx l=>hk x (cJ _ l)) ej;omega
theorem avj:∀(e:Ex) (i g:Int),0<=g-> -1<=e.deep i g/\e.deep i g<=g
 |.mk op o v l,i,g,h0=>by
   simp only[Ex.deep];cases j:(((decide (i<1)||decide (g-1<0))||decide ((o.size:Int)>300))||decide ((v.s.size:Int)>300))
   .rw[aA];simp only[bB,aL]at j;have:=arq l (i-1) (g-1) ej (λk hk i g h=>avj k i g h) ej;omega
   rw[aC];omega
theorem awV{g:am Ex}{i}(h:i<g.length)(j l):deepL (g.drop i) j l=bif decide (g[i].deep j l<0)then-1 else deepL (g.drop (i+1)) j (g[i].deep j l):=by rw[zm h];rfl
theorem asX(e:Ex)(g o)(h1:0<=g)(h2:g<=40)(h3:0<=o)(h4:o<=300):ex afg [e.w,.c (int g),.c (int o)] (rI (e.deep g o)):=by
 obtain⟨op,nm,v,j⟩:=e;have ih:∀k∈j,∀g o:Int,0<=g->g<=40->0<=o->o<=300->ex afg [k.w,.c (int g),.c (int o)] (rI (k.deep g o)):=λk hk g o a b c d=>asX k g o a b c d
 refine Uq er λhb=>?_
 have ag:=agn (hb _ (bJ ..));simp only[Ex.deep];have w1:aD.wrap (o-1)=o-1:=zT ej ej;rw[<-w1];refine aeH.s T5 ?_;refine zg (b:=((decide (g<1)||decide (aD.wrap (o-1)<0))||decide ((nm.size:Int)>300))||decide ((v.s.size:Int)>300)) (λU=>?_) (λU=>?_)
 .rw[U,aC];exact rfl
 rw[U,aA];rw[w1]at U⊢;simp only[bB,aL]at U;have w2:aD.wrap (g-1)=g-1:=zT ej ej;refine yD (P:=Pg) (f:=T5.f) (body:=(aeH.l 0)) (λx:Nat×Int=>⟨[(1,zh g),(2,zh x.2),(3,cV (.ptr 3 0)),(7,zh x.1)],[(3,.box [int op,str nm,int v.k,int v.n,str v.s,.d (.sl (exsD j))])]⟩) (λx=>j.length-x.1) (λx=>x.1<=j.length/\0<=x.2/\x.2<=300/\deepL j (g-1) (o-1)=deepL (j.drop x.1) (g-1) x.2) ⟨(0,o-1),⟨bF _,ek,ek,rfl⟩,zi ?_⟩ ?_
 .exact rfl
 rintro⟨i,J⟩ hx;obtain⟨hi,R,ac,I⟩:i<=j.length/\0<=J/\J<=300/\deepL j (g-1) (o-1)=deepL (j.drop i) (g-1) J:=hx;have wi:i<j.length->aD.wrap ((i:Int)+1)=((i+1:Nat):Int):=λh=>zu h ej
 refine zg (λk2=>?_) (λk2=>?_)
 .have p:i<j.length:=by have k2:decide ((i:Int)<((exsD j).length:Int))=true:=k2;have:=aS k2;grind[xX]
  rw[awV p]at I;have hg:(exsD j)[((i:Int)).toNat]?=some (j[i]).ds:=Zv p;have hm:j[i]∈j:=bG p;generalize j[i]=k at*;have T:=ih k hm (g-1) J ej ej R ac;have ab:=avj k (g-1) J R;rw[<-w2]at T;rw[<-w2]at I ab;obtain⟨af,ae,v1,ad⟩:=k;refine zw hg ?_;refine Sat.w T ?_;generalize(Ex.deep (.mk af ae v1 ad) (aD.wrap (g-1)) J)=x at*;refine zt (b:=decide (x<0)) (λk3=>?_) (λk3=>?_)
  .rw[k3,aC]at I;rw[<-w2,I];rfl
  rw[k3,aA]at I;have k3:=aQ k3;rw[w2]at I;refine⟨(i+1,x),⟨⟨p,ek,ek,I⟩,ek⟩,zi ?_⟩;rw[wi p];rfl
 have aa:j.length<=i:=by grind[xX]
 rw[aB aa]at I;rw[I];exact rfl
termination_by co e
decreasing_by
 simp_wf
 have:=bN hk;omega
def Ex.small(e:Ex):=decide (e.deep 40 300>=0)
theorem aox(e:Ex):ex Jv [e.w] (rB e.small):=by have h:=asX e 40 300 ej ej ej ej;obtain⟨op,i,v,g⟩:=e;refine z7 T5 apc.ok er ?_;refine Sat.cal (h) ?_;rfl
def Vf(x:Itm):=!(!x.e.small||decide ((x.nm.size:Int)>300))
def UN(x:Agg):=!(decide ((x.col.size:Int)>300)||decide ((x.nm.size:Int)>300))
def Vx(x:ByteArray):=!decide ((x.size:Int)>300)
def Stp.few(s:Stp):=
 bif ((((!s.cond.small||decide ((s.items.length:Int)>30))||decide ((s.cols.length:Int)>30))||decide ((s.aggs.length:Int)>30))||decide ((s.sorts.length:Int)>30))||decide ((s.table.size:Int)>300)then false else
 bif !xE Vf s.items then false else bif !xE Vx s.cols then false else xE UN s.aggs
def fsS(cs:am C)(k:Nat)(i:Nat):S:=⟨[(1,cV (.ptr 1 0)),(k,zh i)],[(1,.box cs)]⟩
theorem auD(s:Stp):ex akz [s.w] (rB s.few):=by
 have hc:=aox s.cond;obtain⟨op,⟨T,nm,⟨vk,vn,vs⟩,ks⟩,g,cols,o,I,n,tb⟩:=s;have hc:ex Jv [Ex.w ⟨T,nm,⟨vk,vn,vs⟩,ks⟩] (rB (Ex.small ⟨T,nm,⟨vk,vn,vs⟩,ks⟩)):=hc;unfold Stp.few;simp only;generalize(Ex.small ⟨T,nm,⟨vk,vn,vs⟩,ks⟩)=b0 at*;rw[<-qP,<-zA,<-wR,<-w9];obtain⟨cs,af⟩:∃cs,cs=[int op,int T,str nm,int vk,int vn,str vs,.d (.sl (exsD ks)),.d (.sl (yI g)),.d (.sl (zo cols)),.d (.sl (ql o)),.d (.sl (yU I)),int n,str tb]:=⟨_,rfl⟩;refine YW.s T5 ?_;refine Sat.w hc ?_;refine zt (b:=((((!b0||decide (((yI g).length:Int)>30))||decide (((zo cols).length:Int)>30))||decide (((ql o).length:Int)>30))||decide (((yU I).length:Int)>30))||decide ((tb.size:Int)>300)) (λh1=>?_) (λh1=>?_)
 .rw[h1,aC];exact rfl
 rw[h1,aA];simp only[bB,aL,qP,zA,wR,w9]at h1;refine xm T5 (YW.l 0) g.length (λi=>fsS [int op,int T,str nm,int vk,int vn,str vs,.d (.sl (exsD ks)),.d (.sl (yI g)),.d (.sl (zo cols)),.d (.sl (ql o)),.d (.sl (yU I)),int n,str tb] 3 i) (λi=>xE Vf g=xE Vf (g.drop i)) ?_
 intro i hi j;refine zg (λR=>?_) (λR=>?_)
 .have p:i<g.length:=by have:=aS R;grind[qP]
  rw[zm p]at j;have U:=j8 p;simp only[xE]at j;generalize g[i]=x at*;have aa:=aox x.e;unfold Vf at j;obtain⟨⟨ad,ac,v1,ab⟩,s⟩:=x;have aa:ex Jv [Ex.w ⟨ad,ac,v1,ab⟩] (rB (Ex.small ⟨ad,ac,v1,ab⟩)):=aa;simp only at j;generalize(Ex.small ⟨ad,ac,v1,ab⟩)=b1 at*;refine zw U ?_;refine Sat.w aa ?_;cases b1 with
  |false=>
   (conv=>whnf);simp only[aC,aA,bC,aU,bD,aY,aZ,aP,aV,aR,aN,aO,aI,aM,aH,aJ,bA]at j;rw[show xE Vf g=false from j];rfl
  |true=>
   refine zw U ?_;refine zg (b:=decide ((s.size:Int)>300)) (λP=>?_) (λP=>?_)
   .rw[P]at j;simp only[aC,aA,bC,aU,bD,aY,aZ,aP,aV,aR,aN,aO,aI,aM,aH,aJ,bA]at j;(conv=>whnf);rw[show xE Vf g=false from j];rfl
   rw[P]at j;simp only[aC,aA,bC,aU,bD,aY,aZ,aP,aV,aR,aN,aO,aI,aM,aH,aJ,bA]at j;refine zI p j ?_;rw[zu p ej];rfl
 have J:g.length<=i:=by grind[qP]
 rw[aB J]at j;have j:xE Vf g=true:=j;rw[j,aN,aA];refine xm T5 (YW.l 1) cols.length (λi=>fsS [int op,int T,str nm,int vk,int vn,str vs,.d (.sl (exsD ks)),.d (.sl (yI g)),.d (.sl (zo cols)),.d (.sl (ql o)),.d (.sl (yU I)),int n,str tb] 4 i) (λi=>xE Vx cols=xE Vx (cols.drop i)) ?_
 intro i hi j;refine zg (λR=>?_) (λR=>?_)
 .have p:i<cols.length:=by have:=aS R;grind[zA]
  rw[zm p]at j;have U:=xh p;simp only[xE]at j;generalize cols[i]=s at*;unfold Vx at j;refine zw U ?_;refine zg (b:=decide ((s.size:Int)>300)) (λP=>?_) (λP=>?_)
  .rw[P]at j;rw[show xE Vx cols=false from j];rfl
  rw[P]at j;refine zI p j ?_;rw[zu p ej];rfl
 have J:cols.length<=i:=by grind[zA]
 rw[aB J]at j;have j:xE Vx cols=true:=j;rw[j,aN,aA];refine xm T5 (YW.l 2) o.length (λi=>fsS [int op,int T,str nm,int vk,int vn,str vs,.d (.sl (exsD ks)),.d (.sl (yI g)),.d (.sl (zo cols)),.d (.sl (ql o)),.d (.sl (yU I)),int n,str tb] 5 i) (λi=>xE UN o=xE UN (o.drop i)) ?_
 intro i hi j;refine zg (λR=>?_) (λR=>?_)
 .have p:i<o.length:=by have:=aS R;grind[wR]
  rw[zm p]at j;have U:=Y7 p;simp only[xE]at j;generalize o[i]=x at*;unfold UN at j;obtain⟨fn,ae,s⟩:=x;refine zw U ?_;refine zg (b:=decide ((ae.size:Int)>300)) (λP=>?_) (λP=>?_)
  .rw[P]at j;rw[show xE UN o=false from j];rfl
  rw[P]at j;refine zw U ?_;refine zg (b:=decide ((s.size:Int)>300)) (λk3=>?_) (λk3=>?_)
  .rw[k3]at j;simp only[aC,aA,bC,aU,bD,aY,aZ,aP,aV,aR,aN,aO,aI,aM,aH,aJ,bA]at j;rw[show xE UN o=false from j];rfl
  rw[k3]at j;refine zI p j ?_;rw[zu p ej];rfl
 have J:o.length<=i:=by grind[wR]
 rw[aB J]at j;rw[j];exact rfl
def Qry.few(q:Qry):=bif decide ((q.steps.length:Int)>30)||decide ((q.src.size:Int)>300)then false else xE Stp.few q.steps
theorem aFt(q:Qry):ex aul [q.w] (rB q.few):=by
 obtain⟨o,l⟩:=q;unfold Qry.few;rw[<-xI];refine ahr.s T5 ?_;refine zg (b:=decide (((vp l).length:Int)>30)||decide ((o.size:Int)>300)) (λp=>?_) (λp=>?_)
 .rw[p,aC];exact rfl
 rw[p,aA];simp only[bB,aL,xI]at p;refine xm T5 (ahr.l 0) l.length (λi=>⟨[(1,cV (.ptr 1 0)),(3,zh i)],[(1,.box [str o,.d (.sl (vp l))])]⟩) (λi=>xE Stp.few l=xE Stp.few (l.drop i)) ?_
 intro i hi j;refine zg (λk1=>?_) (λk1=>?_)
 .have g:i<l.length:=by simp_all[xI]
  rw[zm g]at j;have U:=jx g;simp only[xE]at j;generalize l[i]=s at*;have J:=auD s;generalize s.few=b at*;obtain⟨op,⟨eo,nm,⟨vk,vn,vs⟩,ks⟩,P,cols,T,R,n,tb⟩:=s;refine zw U ?_;refine Sat.w J ?_;cases b with
  |false=>
   rw[show xE Stp.few l=false from j];rfl
  |true=>
   refine zI g j ?_;rw[zu g ej];rfl
 have I:l.length<=i:=by grind[xI]
 rw[aB I]at j;rw[j];exact rfl
theorem as5(x:Col)(name):ex JP [x.w,.c (.fp [.lit (.string name)])] (rB (zl x.name name)):=by obtain⟨a,b⟩:=x;refine z7 T6 ag2.ok er ?_;exact rfl
theorem qq(l)(name):ex akL [.c (.d (.sl (zj l))),.c (str name)] (rI (ze l name)):=by refine ajW.s T6 ?_;refine Sat.w (Yo JP [.lit (.string name)] (λx=>zl x.name name) (λx=>as5 x name) l) ?_;rfl
def qc(k g:Int):=k==g||k==0
theorem Ur(k g):ex apP [.c (int k),.c (int g)] (rB (qc k g)):=by
 unfold qc;refine z7 T6 apq.ok er ?_
 repeat' (conv=>whnf
          refine zt (λh=>?_) (λh=>?_))
 all_goals refine aF rB ?_
 simp_all
theorem aAB(k g):ex abZ [.c (int k),.c (.fp [.lit (.int .i64 g)])] (rB (!qc k g)):=by refine al7.s T6 ?_;refine Sat.w (Ur k g) ?_;rfl
theorem kW(g:aT)(cap)(p:Int->Bool)(U:∀x:Int,ex g [.c (int x),.c (.fp cap)] (rB (p x)))(l):
 ex Ug [.c (.d (.sl (zB l))),.c (.d (.fn g [cap]))] (rI (zO p 0 l)):=by
 refine yZ 0 er rfl λo=>?_
 rw[xg]at o;refine ZV.s T6 ?_
 refine zX (P:=Pg) (f:=T6.f) (body:=(ZV.l 0)) l.length (λi=>⟨[(0,.w (.c (.d (.sl (zB l))))),(1,.w (.c (.d (.fn g [cap])))),(7,zh (zB l).length),(8,zh i)],[]⟩)
  (λi=>zO p 0 l=zO p i (l.drop i)) ⟨rfl,zi ?_⟩ ?_
 .exact rfl
 intro i hi I;refine zg (λT=>?_) (λT=>?_)
 .have j:i<l.length:=by simp_all[xg]
  (conv=>whnf);refine zw (j7 j) ?_;refine Sat.cal (U l[i]) ?_;rw[zm j]at I;refine zg (λJ=>?_) (λJ=>?_)
  .simp only[zO,J,aC]at I;(conv=>whnf);exact aF rI I.symm
  simp only[zO,J,aA]at I;refine zI j I ?_;rw[zu j o];rfl
 have R:l.length<=i:=by grind[xg]
 rw[aB R]at I;(conv=>whnf);exact aF rI I.symm
theorem JE(g:aT)(cap)(p:Int->Bool)(i:∀x:Int,ex g [.c (int x),.c (.fp cap)] (rB (p x)))(l):
 ex WF [.c (.d (.sl (zB l))),.c (.d (.fn g [cap]))] (rB (l.any p)):=by refine WE.s T6 ?_;refine Sat.w (kW g cap p i l) ?_;exact aF rB (Yg _ l 0)
def xq(l:am Int)(g):=!l.any λk=>!qc k g
theorem aiZ(l)(g):ex afr [.c (.d (.sl (zB l))),.c (int g)] (rB (xq l g)):=by refine are.s T6 ?_;refine Sat.w (JE abZ [.lit (.int .i64 g)] (λk=>!qc k g) (λx=>aAB x g) l) ?_;rfl
def rII(x:Int×Int):Res:=⟨.tup [.c (int x.1),.c (int x.2)],[]⟩
def uI(b:Bool)(k:Int):Int×Int:=bif b then(k,0)else(0,14)
theorem qC(b)(k):ex apR [.c (bool b),.c (int k)] (rII (uI b k)):=by
 cases b<;>
 .refine z7 T6 apr.ok er ?_;exact rfl
def ZL(g)(l):=
 bif zl g ⟨#[109,105,110]⟩||zl g ⟨#[109,97,120]⟩then uI (xq l 2||xq l 3) (yL true (l.getD 0 0) (l.getD 1 0))else
 bif zl g ⟨#[97,98,115]⟩then uI (xq l 2) 2 else bif zl g ⟨#[108,101,110]⟩then uI (xq l 3) 2 else uI (xq l 3) 1
theorem aAE(j)(l)(g:(zl j ⟨#[109,105,110]⟩||zl j ⟨#[109,97,120]⟩)=true->2<=l.length):ex ad2 [.c (str j),.c (.d (.sl (zB l)))] (rII (ZL j l)):=by
 unfold ZL;have T:=aiZ l 2;have I:=aiZ l 3;have o:2<=l.length->(zB l)[(0:Int).toNat]?=some [D.lit (.int .i64 (l.getD 0 0))]:=λh=>by
  have:=j7 (r:=l) (i:=0) ej
  grind
 have g1:2<=l.length->(zB l)[(1:Int).toNat]?=some [D.lit (.int .i64 (l.getD 1 0))]:=λh=>by
  have:=j7 (r:=l) (i:=1) ej
  grind
 generalize l.getD 0 0=J,l.getD 1 0=P,xq l 2=R,xq l 3=p at*;refine apo.s T6 ?_;generalize zl j ⟨#[109,105,110]⟩=U at*;cases U with
 |true=>
  have g:=g rfl;have o:=o g;have g1:=g1 g;refine zw o ?_;refine zw g1 ?_;refine Sat.w T ?_;cases R with
  |true=>
   refine Sat.w (qC true (yL true J P)) ?_;rfl
  |false=>
   refine Sat.w I ?_;refine Sat.w (qC p (yL true J P)) ?_;rfl
 |false=>
  (conv=>whnf);generalize zl j ⟨#[109,97,120]⟩=p2 at*;cases p2 with
  |true=>
   have g:=g rfl;have o:=o g;have g1:=g1 g;refine zw o ?_;refine zw g1 ?_;refine Sat.w T ?_;cases R with
   |true=>
    refine Sat.w (qC true (yL true J P)) ?_;rfl
   |false=>
    refine Sat.w I ?_;refine Sat.w (qC p (yL true J P)) ?_;rfl
  |false=>
   (conv=>whnf);generalize zl j ⟨#[97,98,115]⟩=p3 at*;cases p3 with
   |true=>
    refine Sat.w T ?_;refine Sat.w (qC R 2) ?_;rfl
   |false=>
    (conv=>whnf);generalize zl j ⟨#[108,101,110]⟩=p4 at*;cases p4 with
    |true=>
     refine Sat.w I ?_;refine Sat.w (qC p 2) ?_;rfl
    |false=>
     refine Sat.w I ?_;refine Sat.w (qC p 1) ?_;rfl
def QM(op:Int)(g):=bif op==1||op==2 then 0 else bif op==3||op==4 then 1 else bif op==16 then y9 g else 2
theorem UF{op}{j}{v}{i g}{name l}(h:wD op j v i g name l=0):i=g:=by have o:=(zY ej h).1<;>simp_all
theorem aux{op}{j}{v}{p g}(I:(op==16)=true)(h:wD op j v p g true false=0):g=y9 j:=by have i:=(zY ej h).2;simp only[aA]at i;have l:=(zY ej i).2;have o:=(zY ej l).2;have r:=(zY ej o).1;simp_all
theorem Yl{op}{p}{v}{o}(h:yK op p v o=0):o=QM op p/\1<=op/\op<=16:=by
 unfold yK at h;unfold QM;cases i:(op==1)
 .rw[i,aA]at h;cases j:(op==2)
  .rw[j,aA]at h;cases g:(op==3||op==4)
   .rw[g,aA]at h;cases l:(op==16)
    .rw[l,aA]at h;obtain⟨r,I⟩:=zY ej h
     grind[UF]
    rw[l,aC]at h
    grind[aux]
   rw[g,aC]at h;simp only[bV,beq_iff_eq]at g
   grind[UF]
  rw[j,aC]at h
  grind[UF]
 rw[i,aC]at h
 grind[UF]
theorem ay3(g):0<=y9 g/\y9 g<=2:=by grind[y9]
theorem ac7(op)(g):QM op g<=2:=by have:=ay3 g<;>grind[QM]
theorem aBB{g}(h:(zl g ⟨#[109,105,110]⟩||zl g ⟨#[109,97,120]⟩)=true):y9 g=2:=by grind[y9]
def uu(cols:am Col)(i:Int):=((cols[i.toNat]?).map Col.t).getD 0
def uP(cols:am Col)(op:Int)(g:ByteArray)(v:Val)(l):=
 bif op==1 then(v.k,0)else
 bif op==2 then(bif decide (ze cols g<0)then(0,16)else(uu cols (ze cols g),0))else
 bif op==3||(op==14||op==15)then uI (xq l 1) 1 else
 bif op==10||op==11 then uI (qc (l.getD 0 0) (l.getD 1 0)||qc (l.getD 1 0) (l.getD 0 0)) 1 else
 bif op==12||op==13 then uI (xq l 2||xq l 3) 1 else
 bif op==16 then ZL g l else uI (xq l 2) 2
mutual
def Ex.ty(cols:am Col):Ex->Int×Int
 |.mk op i v g=>bif (tyL cols g).1 !=0 then(0,(tyL cols g).1)else uP cols op i v (tyL cols g).2
def tyL(cols:am Col):am Ex->Int×am Int
 |[]=>(0,[])
 |k::r=>bif (k.ty cols).2 !=0 then((k.ty cols).2,[])else((tyL cols r).1,(k.ty cols).1::(tyL cols r).2)
end
theorem atP(cols){g:am Ex}{i}(h:i<g.length):tyL cols (g.drop i)=bif (g[i].ty cols).2 !=0 then((g[i].ty cols).2,[])else((tyL cols (g.drop (i+1))).1,(g[i].ty cols).1::(tyL cols (g.drop (i+1))).2):=by rw[zm h];rfl
theorem ans(cols):∀g,(tyL cols g).1=0->(tyL cols g).2.length=g.length
 |[],_=>rfl
 |k::r,h=>by simp only[tyL]at h⊢;cases i:((k.ty cols).2 !=0)<;>simp_all[ans]
theorem V9:∀{i:am Ex},errL i=0->∀k∈i,k.err=0
 |[],_,k,hk=>by cases hk
 |a::r,h,k,hk=>by
  simp only[errL]at h;cases g:(a.err !=0)
  .rw[g,aA]at h;rcases bR.1 hk with rfl|hk
   .simpa using g
   exact V9 h k hk
  simp_all
theorem Xg:∀(p:Col->Bool) (l:am Col) (i:Int),0<=i->zO p i l<0\/(i<=zO p i l/\zO p i l<i+l.length)
 |p,[],i,h=>.inl (by simp[zO])
 |p,a::r,i,h=>by
  simp only[zO];cases p a
  .rw[aA];rcases Xg p r (i+1) ej with g|g
   .grind
   grind
  rw[aC];grind
def tnS(cols:am Col)(op:Int)(l:ByteArray)(v:Val)(j:am Ex)(i:Nat)(g:am Int):S:=⟨[(0,.w (.c (.d (.sl (zj cols))))),(3,cV (.ptr 3 0)),(6,cV (.own 31 1 g.length)),(13,.w (.c (.d (.sl (exsD j))))),(14,zh (exsD j).length),(15,zh i)],[(3,.box [int op,str l,int v.k,int v.n,str v.s,.d (.sl (exsD j))]),(31,.arr 1 (zB g) false)]⟩
theorem Wr(a b):zB a++zB b=zB (a++b):=by simp[zB]
theorem aaq(cols):∀(e:Ex),e.err=0->ex ad3 [.c (.d (.sl (zj cols))),e.w] (rII (e.ty cols))
 |.mk op o v j,he=>by
   have aa:yK op o v j.length=0/\errL j=0:=by
    simp only[Ex.err]at he;cases hb:(yK op o v j.length !=0)
    .simp_all
    simp_all
   have ae:=V9 aa.2;have ih:∀k∈j,ex ad3 [.c (.d (.sl (zj cols))),k.w] (rII (k.ty cols)):=λk hk=>aaq cols k (ae k hk)
   obtain⟨af,a2,a3⟩:=Yl aa.1;have az:=ac7 op o;have ay:j.length<=2:=ej
   have ag:Ex.ty cols (.mk op o v j)=bif (tyL cols j).1 !=0 then(0,(tyL cols j).1)else uP cols op o v (tyL cols j).2:=by grind[Ex.ty]
   rw[ag];have ab:=ans cols j;clear he aa ae ag;refine adO.s T6 ?_;refine yD (P:=Pg) (f:=T6.f) (body:=(adO.l 0)) (λx:Nat×am Int=>tnS cols op o v j x.1 x.2) (λx=>j.length-x.1) (λx=>x.1<=j.length/\x.2.length=x.1/\(tyL cols j).1=(tyL cols (j.drop x.1)).1/\((tyL cols j).1=0->(tyL cols j).2=x.2++(tyL cols (j.drop x.1)).2)) ⟨(0,[]),⟨bF _,rfl,rfl,λ_=>rfl⟩,⟨_,zx 6 31 1 ej ej rfl,?_⟩⟩ ?_
   .exact rfl
   rintro⟨i,g⟩ hx;obtain⟨hi,ha,J,hL⟩:i<=j.length/\g.length=i/\(tyL cols j).1=(tyL cols (j.drop i)).1/\((tyL cols j).1=0->(tyL cols j).2=g++(tyL cols (j.drop i)).2):=hx;have ac:(zB g).take g.length=zB g:=by grind[xg]
   obtain⟨vk,vn,vs⟩:=v;have wi:i<j.length->aD.wrap ((i:Int)+1)=((i+1:Nat):Int):=λh=>zu h ej
   refine zg (λh1=>?_) (λh1=>?_)
   .have I:i<j.length:=by have:=aS h1;grind[xX]
    rw[atP cols I]at J hL;have hg:(exsD j)[((i:Int)).toNat]?=some (j[i]).ds:=Zv I;have hm:j[i]∈j:=bG I;generalize j[i]=k at*;have aj:=ih k hm;obtain⟨an,al,v1,ak⟩:=k;generalize(Ex.ty cols (.mk an al v1 ak))=x at*;obtain⟨U,x2⟩:=x;simp only at J hL;refine zw hg ?_;refine Sat.w aj ?_;refine zt (b:=x2 !=0) (λR=>?_) (λR=>?_)
    .rw[R,aC]at J;have J:(tyL cols j).1=x2:=J;rw[J,R,aC];exact rfl
    rw[R,aA]at J hL;refine yQ ?_;refine⟨(i+1,g++[U]),⟨⟨I,ek,J,λh=>ek⟩,ek⟩,zi ?_⟩;(conv=>whnf);rw[wi I,ac];show _=S.mk [_,_,(6,cV (.own 31 1 (g++[U]).length)),_,_,_] [_,(31,.arr 1 (zB (g++[U])) false)];rw[<-Wr,bE];rfl
   have ai:i=j.length:=by grind[xX]
   rw[ai,List.drop_length]at J hL;have J:(tyL cols j).1=0:=J;have hL:=hL J;have hL:(tyL cols j).2=g:=ek
   have ab:=ab J;rw[J,hL];rw[hL]at ab;simp only[aI,aA];have hA:∀w,ex afr [.c (.d (.sl ((zB g).take g.length))),.c (int w)] (rB (xq g w)):=λw=>by grind[aiZ]
   have hC:(op==16)=true->ex ad2 [.c (str o),.c (.d (.sl ((zB g).take g.length)))] (rII (ZL o g)):=λh=>by
    rw[ac];refine aAE o g λa0=>?_
    have ho:op=16:=by simpa using h
    rw[ho]at af;have a1:(j.length:Int)=y9 o:=af
    grind[aBB]
   have R:(op==10||op==11)=true->g.length=2:=λh=>by
    simp only[bV,beq_iff_eq]at h
    grind[QM]
   have g0:(op==10||op==11)=true->(zB g)[(0:Int).toNat]?=some [D.lit (.int .i64 (g.getD 0 0))]:=λh=>by
    have R:=R h;have:=j7 (r:=g) (i:=0) ej
    grind
   have g1:(op==10||op==11)=true->(zB g)[(1:Int).toNat]?=some [D.lit (.int .i64 (g.getD 1 0))]:=λh=>by
    have R:=R h;have:=j7 (r:=g) (i:=1) ej
    grind
   have ad:=qq cols o;have I:decide (ze cols o<0)=false->(zj cols)[(ze cols o).toNat]?=some [D.lit (.string ((cols[(ze cols o).toNat]?).map Col.name|>.getD o)),D.lit (.int .i64 (uu cols (ze cols o)))]/\0<=ze cols o:=λh=>by
    have h:=aQ h;have h3:=Xg (λx=>zl x.name o) cols 0 (Int.le_refl _);have h4:0<=ze cols o/\ze cols o<cols.length:=by unfold ze at h⊢;omega
    grind[uu,zj,Col.ds]
   obtain⟨T,p⟩:∃T,T=uP cols op o ⟨vk,vn,vs⟩ g:=⟨_,rfl⟩;rw[<-p];unfold uP at p;generalize ze cols o=ci at*;generalize uu cols ci=ct at*;generalize g.getD 0 0=x0,g.getD 1 0=U at*;(conv=>whnf);generalize(op==1)=p1 at*;cases p1 with
   |true=>
    (conv=>whnf);rw[p];rfl
   |false=>
    (conv=>whnf);generalize(op==2)=p2 at*;cases p2 with
    |true=>
     refine Sat.w ad ?_;refine zt (b:=decide (ci<0)) (λc=>?_) (λc=>?_)
     .rw[c]at p;(conv=>whnf);rw[p];rfl
     obtain⟨hg,ah⟩:=I c;rw[c]at p;refine zw hg ?_ (hA:=ah);rw[p];rfl
    |false=>
     (conv=>whnf);generalize(op==3)=p3 at*;cases p3 with
     |true=>
      refine Sat.w (hA 1) ?_;refine Sat.w (qC (xq g 1) 1) ?_;rw[p];rfl
     |false=>
      (conv=>whnf);generalize(op==14)=av at*;cases av with
      |true=>
       refine Sat.w (hA 1) ?_;refine Sat.w (qC (xq g 1) 1) ?_;rw[p];rfl
      |false=>
       (conv=>whnf);generalize(op==15)=aw at*;cases aw with
       |true=>
        refine Sat.w (hA 1) ?_;refine Sat.w (qC (xq g 1) 1) ?_;rw[p];rfl
       |false=>
        (conv=>whnf);generalize(op==10)=ao at*;cases ao with
        |true=>
         have R:=R rfl;have g0:=g0 rfl;have g1:=g1 rfl;refine aw2 ?_;refine⟨_,g0,?_⟩;(conv=>whnf);refine aw2 ?_;refine⟨_,g1,?_⟩;refine Sat.w (Ur x0 U) ?_;generalize qc x0 U=f at*;cases f with
         |true=>
          refine Sat.w (qC true 1) ?_;rw[p];rfl
         |false=>
          refine aw2 ?_;refine⟨_,g1,?_⟩;(conv=>whnf);refine aw2 ?_;refine⟨_,g0,?_⟩;refine Sat.w (Ur U x0) ?_;refine Sat.w (qC (qc U x0) 1) ?_;rw[p];rfl
        |false=>
         (conv=>whnf);generalize(op==11)=aq at*;cases aq with
         |true=>
          have R:=R rfl;have g0:=g0 rfl;have g1:=g1 rfl;refine aw2 ?_;refine⟨_,g0,?_⟩;(conv=>whnf);refine aw2 ?_;refine⟨_,g1,?_⟩;refine Sat.w (Ur x0 U) ?_;generalize qc x0 U=f at*;cases f with
          |true=>
           refine Sat.w (qC true 1) ?_;rw[p];rfl
          |false=>
           refine aw2 ?_;refine⟨_,g1,?_⟩;(conv=>whnf);refine aw2 ?_;refine⟨_,g0,?_⟩;refine Sat.w (Ur U x0) ?_;refine Sat.w (qC (qc U x0) 1) ?_;rw[p];rfl
         |false=>
          (conv=>whnf);generalize(op==12)=ar at*;cases ar with
          |true=>
           refine Sat.w (hA 2) ?_;generalize xq g 2=b2 at*;cases b2 with
           |true=>
            refine Sat.w (qC true 1) ?_;rw[p];rfl
           |false=>
            refine Sat.w (hA 3) ?_;refine Sat.w (qC (xq g 3) 1) ?_;rw[p];rfl
          |false=>
           (conv=>whnf);generalize(op==13)=au at*;cases au with
           |true=>
            refine Sat.w (hA 2) ?_;generalize xq g 2=b2 at*;cases b2 with
            |true=>
             refine Sat.w (qC true 1) ?_;rw[p];rfl
            |false=>
             refine Sat.w (hA 3) ?_;refine Sat.w (qC (xq g 3) 1) ?_;rw[p];rfl
           |false=>
            (conv=>whnf);generalize(op==16)=ax at*;cases ax with
            |true=>
             refine Sat.w (hC rfl) ?_;rw[p];rfl
            |false=>
             refine Sat.w (hA 2) ?_;refine Sat.w (qC (xq g 2) 2) ?_;rw[p];rfl
termination_by e=>co e
decreasing_by
 simp_wf
 have:=bN hk;omega
def yi(b:Bool):Val:=⟨1,bif b then 1 else 0,⟨#[]⟩⟩
def zF:Val:=⟨0,0,⟨#[]⟩⟩
def qp(n)(ok):=bif ok then⟨2,n,⟨#[]⟩⟩else zF
def rV(v:Val):Res:=⟨.w v.w,[]⟩
def wK(v:Val):=v.s.size<=100000
theorem WA(b):wK (yi b):=by unfold wK;show(0:Nat)<=_;omega
theorem ajt:wK zF:=by unfold wK;show(0:Nat)<=_;omega
theorem KC(n)(b):wK (qp n b):=by cases b<;>(unfold wK;show(0:Nat)<=_;omega)
theorem aAO(k n):wK ⟨k,n,⟨#[]⟩⟩:=by unfold wK;show(0:Nat)<=_;omega
theorem Uv{b}{x y}(g:wK x)(i:wK y):wK (bif b then x else y):=ek
theorem aAM(b):ex afb [.c (bool b)] (rV (yi b)):=by
 cases b<;>
 .refine z7 T6 aq2.ok er ?_;exact rfl
theorem ayd(n)(b):ex adT [.c (int n),.c (bool b)] (rV (qp n b)):=by
 cases b<;>
 .refine z7 T6 ao6.ok er ?_;exact rfl
def T8f(k:aT)(l:am W):aK W:=
 match l with
 |[.c (.d (.lit (.bool b)))]=>bif bI k afb then some (.agg [int 1,int (bif b then 1 else 0),str ⟨#[]⟩])else T6f k l
 |[.c (.d (.lit (.int .i64 n))),.c (.d (.lit (.bool b)))]=>bif bI k adT then some (.agg [int (bif b then 2 else 0),int (bif b then n else 0),str ⟨#[]⟩])else T6f k l
 |_=>T6f k l
theorem ahY(k)(l)(w)(h:T8f k l=some w):Sat Pg k l (λr=>r=⟨.w w,[]⟩):=by
 unfold T8f at h;split at h
 .rcases xV h with⟨g,rfl⟩|⟨_,h⟩
  .rw[aG g];exact aAM _
  grind[alN]
 .rename_i n b;rcases xV h with⟨g,rfl⟩|⟨_,h⟩
  .rw[aG g];have:=ayd n b;cases b<;>exact this
  grind[alN]
 grind[alN]
def T8:Tab Pg:=⟨T8f,ahY⟩
def wW(a b):=bif yH a (yi false)||yH b (yi false)then yi false else bif a.k==0||b.k==0 then zF else yi true
theorem as4(a b):ex auh [a.w,b.w] (rV (wW a b)):=by
 obtain⟨i,l,a3⟩:=a;obtain⟨j,o,p⟩:=b;unfold wW;refine at3.s T8 ?_;refine zg (b:=yH ⟨i,l,a3⟩ (yi false)||yH ⟨j,o,p⟩ (yi false)) (λh=>?_) (λh=>?_)
 ·(conv=>whnf);rw[h];rfl
 refine zg (b:=i==0||j==0) (λg=>?_) (λg=>?_)
 ·(conv=>whnf);rw[h,g];rfl
 (conv=>whnf);rw[h,g];rfl
def wg(a):=bif a.k==0 then a else yi (a.n==0)
theorem agN(a):ex axt [a.w] (rV (wg a)):=by
 obtain⟨g,i,a3⟩:=a;unfold wg;refine awA.s T8 ?_;refine zg (b:=g==0) (λh=>?_) (λh=>?_)
 ·(conv=>whnf);rw[h];rfl
 (conv=>whnf);rw[h];rfl
theorem av3{a}(h:wK a):wK (wg a):=Uv h (WA _)
theorem aDN(a b):wK (wW a b):=Uv (WA _) (Uv ajt (WA _))
theorem xR{n}(h:inB n=true): -1000000000000000<=n/\n<=1000000000000000:=by simp_all[inB]
def Qd(a b:Int)(rest):=bif b==0 then zF else bif rest then⟨2,Int.tmod a b,⟨#[]⟩⟩else⟨2,aD.wrap (Int.tdiv a b),⟨#[]⟩⟩
theorem av2(a b)(rest):wK (Qd a b rest):=Uv ajt (Uv (aAO _ _) (aAO _ _))
theorem ahM(a b)(rest):ex amn [.c (int a),.c (int b),.c (bool rest)] (rV (Qd a b rest)):=by
 unfold Qd;cases i:(b==0)with
 |true=>
  refine VT.s T8 ?_;refine zg (λh=>?_) (λh=>?_)
  .exact rfl
  grind
 |false=>
  have g:b≠0:=ek
  cases rest with
  |true=>
   refine VT.s T8 ?_;rw[i];refine⟨g,?_⟩;exact rfl
  |false=>
   refine VT.s T8 ?_;rw[i];refine⟨g,?_⟩;exact rfl
def rNB(n:Int)(b:Bool):Res:=⟨.tup [.c (int n),.c (bool b)],[]⟩
theorem X0(n)(b):ex arY [.c (int n),.c (bool b)] (rNB (bif b&&inB n then n else 0) (b&&inB n)):=by
 refine aq3.s T8 ?_;refine zg (b:=!b||!inB n) (λh=>?_) (λh=>?_)
 .have h:(b&&inB n)=false:=ek
  rw[h];rfl
 have h:(b&&inB n)=true:=ek
 rw[h];rfl
def qA(a b):=inB a&&inB b&&inB (a+b)
theorem avZ(a b):ex azT [.c (int a),.c (int b)] (rNB (bif qA a b then a+b else 0) (qA a b)):=by
 unfold qA;cases I:(!inB a||!inB b)with
 |true=>
  have e:(inB a&&inB b)=false:=ek
  rw[e];refine anK.s T8 ?_;refine zg (λh=>?_) (λh=>?_)
  .exact rfl
  grind
 |false=>
  have i:inB a=true:=ek
  have j:inB b=true:=ek
  have o:=xR i;have p:=xR j;have l:aD.wrap (a+b)=a+b:=zT ej ej;have g:=X0 (a+b) true;rw[i,j];refine anK.s T8 ?_;refine zg (λh=>?_) (λh=>?_)
  .grind
  (conv=>whnf);rw[l];refine Sat.w g ?_;rfl
def VB(n:Int):W:=.c (.d (.lit (.int .u64 n)))
theorem adB{x}(h:0<=x)(g:x<18446744073709551616):bM.wrap x=x:=by grind[IntKind.wrap_u64]
theorem QP(a)(h:inB a=true):ex akx [.c (int a)] ⟨.tup [VB (a.natAbs:Int),.c (bool (decide (a<0)))],[]⟩:=by
 have j:=xR h;by_cases h0:a<0
 .have e1:aD.wrap (0-a)=(a.natAbs:Int):=by grind[zT]
  have g:bM.wrap (a.natAbs:Int)=(a.natAbs:Int):=adB ej ej;have i:decide (a<0)=true:=bO h0;refine gc.s T8 ?_;rw[i];(conv=>whnf);rw[e1,g];rfl
 have g:bM.wrap a=(a.natAbs:Int):=by grind[adB]
 have i:decide (a<0)=false:=aW h0;refine gc.s T8 ?_;rw[i];(conv=>whnf);rw[g];rfl
theorem aCE(a:Nat)(j:a<18446744073709551616):WQ .and bM (a:Int) 4294967295=((a%4294967296:Nat):Int):=by
 have g:(cE 64 (a:Int)).toNat=a:=ek
 have i:(cE 64 4294967295).toNat=2^32-1:=rfl;show bM.wrap ((cE 64 (a:Int)&&&cE 64 4294967295).toNat:Int)=_;rw[BitVec.toNat_and,g,i,Nat.and_two_pow_sub_one_eq_mod]
 grind[adB]
theorem aDI(a:Nat):Wy false bM (a:Int) 32=((a/4294967296:Nat):Int):=by
 show(a:Int).fdiv (2^min (32:Nat) 64)=_
 grind
theorem wN(a:Nat)(h:a<18446744073709551616):bM.wrap (a:Int)=(a:Int):=adB ej ej
theorem wM(a:Nat):bM.wrap (a:Int)=((a%18446744073709551616:Nat):Int):=by grind[IntKind.wrap_u64]
theorem aow(x y:Nat)(j:x<18446744073709551616)(l:y<18446744073709551616):ex JM [VB x,VB y] ⟨.tup [VB ((x*y/18446744073709551616:Nat):Int),VB ((x*y%18446744073709551616:Nat):Int)],[]⟩:=by
 obtain⟨P,p,R,g⟩:=Lib.mul64_hi x y j l;have I:=cF (a:=x/4294967296) (b:=y/4294967296) ej ej;have J:=cF (a:=x/4294967296) (b:=y%4294967296) ej ej;have bc:=cF (a:=x%4294967296) (b:=y/4294967296) ej ej;have T:=aCE x j;have U:=aCE y l;have h4:=aDI x;have h5:=aDI y;refine z7 T8 JH.ok er ?_;refine⟨et,?_⟩
 conv=>whnf
 refine⟨et,?_⟩
 conv=>whnf
 refine⟨et,?_⟩;refine⟨et,?_⟩;refine⟨et,?_⟩
 conv=>whnf
 have m1:∀a b:Nat,(a:Int)*(b:Int)=((a*b:Nat):Int):=λa b=>(Int.natCast_mul a b).symm
 have o:∀a b:Nat,(a:Int)+(b:Int)=((a+b:Nat):Int):=λa b=>(Int.natCast_add a b).symm
 rw[T,U,h4,h5];simp only[m1,wN _ P,aDI,wN _ (bW J ej),o,wN _ p,aCE _ p,wN _ (bW bc ej),wN _ R,wN _ (bW I ej),wM (x*y)];have i:x*y/18446744073709551616<18446744073709551616:=Nat.div_lt_of_lt_mul (bP (Nat.mul_lt_mul'' j l) ej);rw[<-g]at i;rw[wN _ (bW (Nat.le_add_right _ _) i),o,wN _ i,g];rfl
theorem aAA(l:Nat)(i:l<18446744073709551616):ex ag5 [VB 0,VB l,VB 1] ⟨.tup [VB l,VB 0],[]⟩:=by
 have e1:bM.wrap (Int.tdiv (l:Int) 1)=(l:Int):=by simp_all[wN]
 have g:Int.tmod (l:Int) 1=0:=Int.tmod_one _;refine z7 T8 ag0.ok er ?_;refine⟨et,?_⟩;refine⟨et,?_⟩;rw[e1,g];rfl
def uA(a b):=inB a&&inB b&&inB (a*b)
theorem as9(a b)(i:inB a=true)(j:inB b=true)(g:a.natAbs*b.natAbs<18446744073709551616):
 ex abG [.c (int a),.c (int b),.c (int 1)] ⟨.tup [VB ((a.natAbs*b.natAbs:Nat):Int),VB 0,.c (bool (!(decide (a<0)==decide (b<0)))),.c (bool (decide (((a.natAbs*b.natAbs:Nat):Int)<=1000000000000000)))],[]⟩:=by
 have J:=xR i;have P:=xR j;have p:=QP a i;have r:=QP b j;have l:=aow a.natAbs b.natAbs ej ej;have I:=aAA (a.natAbs*b.natAbs) g;have o:a.natAbs*b.natAbs/18446744073709551616=0:=Nat.div_eq_of_lt g;have e1:a.natAbs*b.natAbs%18446744073709551616=a.natAbs*b.natAbs:=Nat.mod_eq_of_lt g;rw[o,e1]at l;have hr:(!inB a||!inB b)=false:=ek
 refine VW.s T8 ?_;refine zg (λh0=>?_) (λh0=>?_)
 .have h0:(((!inB a||!inB b)||decide ((1:Int)<1))||!inB 1)=true:=h0;rw[hr]at h0;exact absurd h0 et
 refine Sat.w p ?_;refine Sat.w r ?_;refine Sat.w l ?_;refine Sat.w I ?_;rfl
theorem ap5(a b)(h:(inB a&&inB b)=false\/18446744073709551616<=a.natAbs*b.natAbs):
 ex abG [.c (int a),.c (int b),.c (int 1)] ⟨.tup [VB 0,VB 0,.c (bool false),.c (bool false)],[]⟩:=by
 cases hr:(!inB a||!inB b)with
 |true=>
  refine VW.s T8 ?_;refine zg (λh0=>?_) (λh0=>?_)
  .exact rfl
  have h0:(((!inB a||!inB b)||decide ((1:Int)<1))||!inB 1)=false:=h0;rw[hr]at h0;simp at h0
 |false=>
  have i:inB a=true:=ek
  have j:inB b=true:=ek
  have J:18446744073709551616<=a.natAbs*b.natAbs:=ek
  have I:=xR i;have g:=xR j;have o:=QP a i;have p:=QP b j;have r:=aow a.natAbs b.natAbs ej ej;have P:1<=a.natAbs*b.natAbs/18446744073709551616:=ej
  generalize a.natAbs=x,b.natAbs=y at*;generalize x*y/18446744073709551616=l at*;refine VW.s T8 ?_;refine zg (λh0=>?_) (λh0=>?_)
  .have h0:(((!inB a||!inB b)||decide ((1:Int)<1))||!inB 1)=true:=h0;rw[hr]at h0;exact absurd h0 et
  refine Sat.w o ?_;refine Sat.w p ?_;refine Sat.w r ?_;refine zt (λg=>?_) (λg=>?_)
  .exact rfl
  have g:decide ((l:Int)>=1)=false:=g;have:=aQ g;omega
theorem ahH(a b:Int):((a.natAbs*b.natAbs:Nat):Int)=((a*b).natAbs:Int):=by rw[Int.natAbs_mul]
theorem ax3(a b):ex auj [.c (int a),.c (int b),.c (int 1)] (rNB (bif uA a b then a*b else 0) (uA a b)):=by
 unfold uA;by_cases h0:(inB a&&inB b)=false\/18446744073709551616<=a.natAbs*b.natAbs
 .have i:=ap5 a b h0;have e:(inB a&&inB b&&inB (a*b))=false:=by
   rcases h0 with h0|h0
   .grind
   have R:=ahH a b;have:inB (a*b)=false:=by grind[inB]
   simp_all
  rw[e];refine Qq.s T8 ?_;refine Sat.w i ?_;refine Sat.w (X0 0 false) ?_;rfl
 have g:(inB a&&inB b)=true:=ek
 have hm:a.natAbs*b.natAbs<18446744073709551616:=ek
 simp only[cC]at g;have i:=as9 a b g.1 g.2 hm;have R:=ahH a b;have J:(!(decide (a<0)==decide (b<0)))=true->a*b<=0:=by grind[Int.mul_nonpos_of_nonneg_of_nonpos]
 have l:(!(decide (a<0)==decide (b<0)))=false->0<=a*b:=ek
 rw[g.1,g.2];generalize(!(decide (a<0)==decide (b<0)))=s at*;have I:inB (a*b)=decide (((a.natAbs*b.natAbs:Nat):Int)<=1000000000000000):=by
  rw[R];unfold inB;by_cases h:((a*b).natAbs:Int)<=1000000000000000
  .grind
  rw[aW h];by_cases h5:a*b>= -1000000000000000
  .rw[aW (p:=a*b<=1000000000000000) ej,aP]
  simp_all[aW]
 rw[<-I]at i;generalize a.natAbs*b.natAbs=m,a*b=p at*;cases j:inB p with
 |true=>
  rw[j]at i;have hp:=xR j;have T:aD.wrap (m:Int)=(m:Int):=zT ej ej;cases s with
  |true=>
   have U:=J rfl;have P:aD.wrap (0-(m:Int))=p:=by grind[zT]
   have o:=X0 p true;rw[j]at o;refine Qq.s T8 ?_;refine Sat.w i ?_;rw[T,P];refine Sat.w o ?_;rfl
  |false=>
   have U:=l rfl;have P:(m:Int)=p:=ej
   have o:=X0 p true;rw[j]at o;refine Qq.s T8 ?_;refine Sat.w i ?_;rw[T,P];refine Sat.w o ?_;rfl
 |false=>
  rw[j]at i;cases s with
  |true=>
   refine Qq.s T8 ?_;refine Sat.w i ?_;refine Sat.w (X0 (aD.wrap (0-aD.wrap (m:Int))) false) ?_;rfl
  |false=>
   refine Qq.s T8 ?_;refine Sat.w i ?_;refine Sat.w (X0 (aD.wrap (m:Int)) false) ?_;rfl
theorem aDq(a b):ex azU [.c (int a),.c (int b)] (rNB (bif uA a b then a*b else 0) (uA a b)):=by have h:=ax3 a b;refine ay7.s T8 ?_;refine Sat.w h ?_;rfl
def u6(s p:ByteArray):=bif decide ((s.size:Int)>=(p.size:Int))then zl (s.extract 0 p.size) p else false
theorem ate(s p):ex Q5 [.c (str s),.c (str p)] (rB (u6 s p)):=by
 unfold u6;cases h:decide ((s.size:Int)>=(p.size:Int))with
 |false=>
  refine jc.s T8 ?_;rw[h];exact rfl
 |true=>
  refine jc.s T8 ?_;rw[h];(conv=>whnf);refine⟨by show(0:Int)<=0;omega,by show(0:Int)<=p.size;omega,aS h,?_⟩;exact rfl
theorem apX(s p):ex aef [.c (str s),.c (str p)] (rB (u6 s p)):=by have h:=ate s p;generalize u6 s p=b at*;refine aec.s T8 ?_;refine Sat.w h ?_;rfl
def vg(s t:ByteArray):=Lib.contains s.data.toList t.data.toList
def aav:=∀s t:ByteArray,s.size<=100000->ex afq [.c (str s),.c (str t)] (rB (vg s t))
def CK(g i j o:Bool)(l:am Val)(u):=
 (g=true\/i=true->u.k=2)/\(g=false->i=false->j=true\/o=true->∃b,u=yi b)/\(g=false->i=false->j=false->o=false->u∈l)
def at0(l:am Val)(i):=l.getD i zF
def jD(g)(l):=
 bif zl g ⟨#[97,98,115]⟩then qp (yL true (at0 l 0).n (aD.wrap (0-(at0 l 0).n))) true else
 bif zl g ⟨#[108,101,110]⟩then qp (at0 l 0).s.size true else
 bif zl g ⟨#[104,97,115]⟩then yi (vg (at0 l 0).s (at0 l 1).s)else
 bif zl g ⟨#[115,116,97,114,116,115]⟩then yi (u6 (at0 l 0).s (at0 l 1).s)else
 bif decide (zS (at0 l 1) (at0 l 0)<0)==zl g ⟨#[109,105,110]⟩then at0 l 1 else at0 l 0
theorem aAF(hC:aav)(j)(l)(hn:y9 j≠0)(hl:(l.length:Int)=y9 j)(hs:∀v∈l,wK v):wK (jD j l)/\ex Qx [.c (str j),zE l] (rV (jD j l))/\CK (zl j ⟨#[97,98,115]⟩) (zl j ⟨#[108,101,110]⟩) (zl j ⟨#[104,97,115]⟩) (zl j ⟨#[115,116,97,114,116,115]⟩) l (jD j l):=by
 unfold y9 at hn hl;unfold jD;generalize e1:zl j ⟨#[97,98,115]⟩=p1,T:zl j ⟨#[108,101,110]⟩=p2 at*;generalize U:zl j ⟨#[104,97,115]⟩=p3 at*;generalize e4:zl j ⟨#[115,116,97,114,116,115]⟩=p4,e5:zl j ⟨#[109,105,110]⟩=R at*;generalize zl j ⟨#[109,97,120]⟩=p6 at*;have h1:1<=l.length:=ek
 have P:p1=false->p2=false->l.length=2:=ek
 clear hn hl
 match l,h1,P,hs with
 |x::r,_,P,hs=>
 have hx:=hs x (bJ ..);obtain⟨p,o,g⟩:=x;cases p1 with
 |true=>
  refine⟨KC (yL true o (aD.wrap (0-o))) true,?_,⟨λ_=>rfl,λh=>(by cases h),λh=>(by cases h)⟩⟩;refine Qp.s T8 ?_;rw[e1];refine xK ?_;refine xK ?_;exact rfl
 |false=>
  cases p2 with
  |true=>
   refine⟨KC g.size true,?_,⟨λ_=>rfl,λ_ h=>(by cases h),λ_ h=>(by cases h)⟩⟩;refine Qp.s T8 ?_;rw[e1];(conv=>whnf);rw[T];refine xK ?_;exact rfl
  |false=>
   have P:=P rfl rfl
   match r,P,hs with
   |[y],_,hs=>
   obtain⟨I,J,i⟩:=y;cases p3 with
   |true=>
    have hb:=hC g i hx;show wK (yi (vg g i))/\Sat Pg Qx _ (λr=>r=rV (yi (vg g i)))/\CK _ _ _ _ _ (yi (vg g i));generalize vg g i=b at*;refine⟨WA _,?_,⟨λh=> ek,λ_ _ _=>⟨_,rfl⟩,λ_ _ h=>(by cases h)⟩⟩;refine Qp.s T8 ?_;rw[e1];(conv=>whnf);rw[T];(conv=>whnf);rw[U];refine xK ?_;refine xK ?_;refine Sat.w hb ?_;rfl
   |false=>
    cases p4 with
    |true=>
     have hb:=apX g i;show wK (yi (u6 g i))/\Sat Pg Qx _ (λr=>r=rV (yi (u6 g i)))/\CK _ _ _ _ _ (yi (u6 g i));generalize u6 g i=b at*;refine⟨WA _,?_,⟨λh=> ek,λ_ _ _=>⟨_,rfl⟩,λ_ _ _ h=>(by cases h)⟩⟩;refine Qp.s T8 ?_;rw[e1];(conv=>whnf);rw[T];(conv=>whnf);rw[U];(conv=>whnf);rw[e4];refine xK ?_;refine xK ?_;refine Sat.w hb ?_;rfl
    |false=>
     show wK (bif decide (zS ⟨I,J,i⟩ ⟨p,o,g⟩<0)==R then⟨I,J,i⟩else⟨p,o,g⟩)/\Sat Pg Qx _ (λr=>r=rV (bif decide (zS ⟨I,J,i⟩ ⟨p,o,g⟩<0)==R then⟨I,J,i⟩else⟨p,o,g⟩))/\CK _ _ _ _ _ (bif decide (zS ⟨I,J,i⟩ ⟨p,o,g⟩<0)==R then⟨I,J,i⟩else⟨p,o,g⟩);refine⟨Uv (hs _ ep) (hs _ ep),?_,⟨λh=> ek,λ_ _ h=> ek,λ_ _ _ _=>ek⟩⟩;refine Qp.s T8 ?_;rw[e1];(conv=>whnf);rw[T];(conv=>whnf);rw[U];(conv=>whnf);rw[e4];refine xK ?_;refine xK ?_;refine zg (λc=>?_) (λc=>?_)
     .have c:(decide (zS ⟨I,J,i⟩ ⟨p,o,g⟩<0)==R)=true:=ek
      rw[c];refine xK ?_;exact rfl
     have c:(decide (zS ⟨I,J,i⟩ ⟨p,o,g⟩<0)==R)=false:=ek
     rw[c];refine xK ?_;exact rfl
def BK(op:Int)(g:ByteArray)(l)(u):=
 ((op==3)=true->(∀v∈l,v.k≠0)->∃b,u=yi b)/\
 ((op==3)=false->(op==4)=false->(op==5)=false->(op==6)=false->(op==7)=false->(op==8)=false->(op==9)=false->(op==16)=false->∃b,u=yi b)/\
 ((op==16)=true->CK (zl g ⟨#[97,98,115]⟩) (zl g ⟨#[108,101,110]⟩) (zl g ⟨#[104,97,115]⟩) (zl g ⟨#[115,116,97,114,116,115]⟩) l u)
def xp(op:Int)(g:ByteArray)(l):=
 bif op==3 then wg (at0 l 0)else bif op==4 then qp (aD.wrap (0-(at0 l 0).n)) true else
 bif op==5 then qp (bif qA (at0 l 0).n (at0 l 1).n then(at0 l 0).n+(at0 l 1).n else 0) (qA (at0 l 0).n (at0 l 1).n)else
 bif op==6 then qp (bif qA (at0 l 0).n (aD.wrap (0-(at0 l 1).n))then(at0 l 0).n+aD.wrap (0-(at0 l 1).n)else 0) (qA (at0 l 0).n (aD.wrap (0-(at0 l 1).n)))else
 bif op==7 then qp (bif uA (at0 l 0).n (at0 l 1).n then(at0 l 0).n*(at0 l 1).n else 0) (uA (at0 l 0).n (at0 l 1).n)else
 bif op==8||op==9 then Qd (at0 l 0).n (at0 l 1).n (op==9)else bif op==16 then jD g l else
 yi ((((op==10&&(zS (at0 l 0) (at0 l 1)==0))||(op==11&&(zS (at0 l 0) (at0 l 1) !=0)))||(op==12&&decide (zS (at0 l 0) (at0 l 1)<0)))||(op==13&&decide (zS (at0 l 0) (at0 l 1)<=0)))
theorem aDs(hC:aav)(op)(j)(v)(ks)(l)(ad:yK op j v ks.length=0)(ho:3<=op)(hl:l.length=ks.length)(ae:op=16->y9 j≠0)(hs:∀v∈l,wK v):
 (wK (xp op j l)/\BK op j l (xp op j l))/\ex xH [(Ex.mk op j v ks).w,zE l] (rV (xp op j l)):=by
 unfold BK xp;obtain⟨ai,_,aj⟩:=Yl ad;have ac:op=16->QM op j=y9 j:=λh=>by rw[h];rfl
 have ah:op≠3->op≠4->op≠16->QM op j=2:=λh3 h4 h5=>by grind[QM]
 have ag:op=3\/op=4->QM op j=1:=λh=>by rcases h with rfl|rfl<;>rfl
 have aa:(op==16)=true->(wK (jD j l)/\CK (zl j ⟨#[97,98,115]⟩) (zl j ⟨#[108,101,110]⟩) (zl j ⟨#[104,97,115]⟩) (zl j ⟨#[115,116,97,114,116,115]⟩) l (jD j l))/\ex Qx [.c (str j),zE l] (rV (jD j l)):=λh=>by grind[aAF]
 have hE:(op==3)=false->(op==4)=false->(op==16)=false->l.length=2:=λh3 h4 h5=>ek
 have h1:1<=l.length:=ek
 have h5:(op==5)=true->l.length=2:=λh=>ek
 have h6:(op==6)=true->l.length=2:=λh=>ek
 have h7:(op==7)=true->l.length=2:=λh=>ek
 have h8:(op==8)=true->l.length=2:=λh=>ek
 have h9:(op==9)=true->l.length=2:=λh=>ek
 have I:∀k:Int,(op==k)=true->k≠16->∀{X:Prop},(op==16)=true->X:=λk h1 h2 _ h3=>ek
 clear ah ag ac ai ad hl ae ho aj;generalize e3:(op==3)=p3 at*;generalize e4:(op==4)=p4 at*;generalize e5:(op==5)=p5 at*;generalize e6:(op==6)=p6 at*;generalize e7:(op==7)=p7 at*;generalize e8:(op==8)=p8 at*;generalize ab:(op==16)=ak at*;obtain⟨vk,vn,vs⟩:=v
 match l,h1,aa,hE,h5,h6,h7,h8,h9,hs with
 |x::r,_,aa,hE,h5,h6,h7,h8,h9,hs=>
 have hx:=hs x (bJ ..);clear hs;obtain⟨o,g,p⟩:=x;cases p3 with
 |true=>
  show(wK (wg ⟨o,g,p⟩)/\(_->_->∃b,wg ⟨o,g,p⟩=yi b)/\_/\_)/\Sat Pg xH _ (λr=>r=rV (wg ⟨o,g,p⟩));refine⟨⟨av3 hx,λ_ hk=>⟨(g==0),by unfold wg;rw[show(Val.mk o g p).k=o from rfl,show(o==0)=false by simpa using hk ⟨o,g,p⟩ ep];rfl⟩,λh=>(by cases h),I 3 e3 ej⟩,?_⟩;refine qB.s T8 ?_;rw[e3];refine xK ?_;refine Sat.w (agN ⟨o,g,p⟩) ?_;rfl
 |false=>
  cases p4 with
  |true=>
   show(wK (qp (aD.wrap (0-g)) true)/\_/\_/\_)/\Sat Pg xH _ (λr=>r=rV (qp (aD.wrap (0-g)) true));refine⟨⟨KC _ _,λh=>(by cases h),λ_ h=>(by cases h),I 4 e4 ej⟩,?_⟩;refine qB.s T8 ?_;rw[e3];(conv=>whnf);rw[e4];refine xK ?_;exact rfl
  |false=>
   cases p5 with
   |true=>
    have R:=h5 rfl
    match r,R with
    |[y],_=>
    obtain⟨J,i,P⟩:=y;have T:=avZ g i;show(wK (qp (bif qA g i then g+i else 0) (qA g i))/\_/\_/\_)/\Sat Pg xH _ (λr=>r=rV (qp (bif qA g i then g+i else 0) (qA g i)));generalize(bif qA g i then g+i else 0)=n at*;generalize qA g i=c at*;refine⟨⟨KC _ _,λh=>(by cases h),λ_ _ h=>(by cases h),I 5 e5 ej⟩,?_⟩;refine qB.s T8 ?_;rw[e3];(conv=>whnf);rw[e4];(conv=>whnf);rw[e5];refine xK ?_;refine xK ?_;refine Sat.w T ?_;cases c<;>rfl
   |false=>
    cases p6 with
    |true=>
     have R:=h6 rfl
     match r,R with
     |[y],_=>
     obtain⟨J,i,P⟩:=y;have T:=avZ g (aD.wrap (0-i));show(wK (qp (bif qA g (aD.wrap (0-i))then g+aD.wrap (0-i)else 0) (qA g (aD.wrap (0-i))))/\_/\_/\_)/\Sat Pg xH _ (λr=>r=rV (qp (bif qA g (aD.wrap (0-i))then g+aD.wrap (0-i)else 0) (qA g (aD.wrap (0-i)))));generalize(bif qA g (aD.wrap (0-i))then g+aD.wrap (0-i)else 0)=n at*;generalize qA g (aD.wrap (0-i))=c at*;refine⟨⟨KC _ _,λh=>(by cases h),λ_ _ _ h=>(by cases h),I 6 e6 ej⟩,?_⟩;refine qB.s T8 ?_;rw[e3];(conv=>whnf);rw[e4];(conv=>whnf);rw[e5];(conv=>whnf);rw[e6];refine xK ?_;refine xK ?_;refine Sat.w T ?_;cases c<;>rfl
    |false=>
     cases p7 with
     |true=>
      have R:=h7 rfl
      match r,R with
      |[y],_=>
      obtain⟨J,i,P⟩:=y;have T:=aDq g i;show(wK (qp (bif uA g i then g*i else 0) (uA g i))/\_/\_/\_)/\Sat Pg xH _ (λr=>r=rV (qp (bif uA g i then g*i else 0) (uA g i)));generalize(bif uA g i then g*i else 0)=n at*;generalize uA g i=c at*;refine⟨⟨KC _ _,λh=>(by cases h),λ_ _ _ _ h=>(by cases h),I 7 e7 ej⟩,?_⟩;refine qB.s T8 ?_;rw[e3];(conv=>whnf);rw[e4];(conv=>whnf);rw[e5];(conv=>whnf);rw[e6];(conv=>whnf);rw[e7];refine xK ?_;refine xK ?_;refine Sat.w T ?_;cases c<;>rfl
     |false=>
      cases p8 with
      |true=>
       have R:=h8 rfl
       match r,R with
       |[y],_=>
       obtain⟨J,i,P⟩:=y;have T:=ahM g i (op==9);have U:=av2 g i (op==9);show(wK (Qd g i (op==9))/\_/\_/\_)/\Sat Pg xH _ (λr=>r=rV (Qd g i (op==9)));generalize Qd g i (op==9)=v1 at*;refine⟨⟨U,λh=>(by cases h),λ_ _ _ _ _ h=>(by cases h),I 8 e8 ej⟩,?_⟩;obtain⟨u1,u2,u3⟩:=v1;refine qB.s T8 ?_;rw[e3];(conv=>whnf);rw[e4];(conv=>whnf);rw[e5];(conv=>whnf);rw[e6];(conv=>whnf);rw[e7];(conv=>whnf);rw[e8];refine xK ?_;refine xK ?_;refine Sat.w T ?_;rfl
      |false=>
       cases e9:(op==9)with
       |true=>
        have R:=h9 e9
        match r,R with
        |[y],_=>
        obtain⟨J,i,P⟩:=y;have T:=ahM g i (op==9);have U:=av2 g i (op==9);show(wK (Qd g i true)/\_/\_/\_)/\Sat Pg xH _ (λr=>r=rV (Qd g i true));rw[show Qd g i true=Qd g i (op==9)by rw[e9]];generalize Qd g i (op==9)=v1 at*;refine⟨⟨U,λh=>(by cases h),λ_ _ _ _ _ _ h=>(by cases h),I 9 e9 ej⟩,?_⟩;obtain⟨u1,u2,u3⟩:=v1;refine qB.s T8 ?_;rw[e3];(conv=>whnf);rw[e4];(conv=>whnf);rw[e5];(conv=>whnf);rw[e6];(conv=>whnf);rw[e7];(conv=>whnf);rw[e8];(conv=>whnf);rw[e9];refine xK ?_;refine xK ?_;refine Sat.w T ?_;rfl
       |false=>
        cases ak with
        |true=>
         obtain⟨⟨U,af⟩,T⟩:=aa rfl;show(wK (jD j (⟨o,g,p⟩::r))/\_/\_/\_)/\Sat Pg xH _ (λz=>z=rV (jD j (⟨o,g,p⟩::r)));generalize jD j (⟨o,g,p⟩::r)=v1 at*;refine⟨⟨U,λh=>(by cases h),λ_ _ _ _ _ _ _ h=>(by cases h),λ_=>af⟩,?_⟩;obtain⟨u1,u2,u3⟩:=v1;refine qB.s T8 ?_;rw[e3];(conv=>whnf);rw[e4];(conv=>whnf);rw[e5];(conv=>whnf);rw[e6];(conv=>whnf);rw[e7];(conv=>whnf);rw[e8];(conv=>whnf);rw[e9];(conv=>whnf);rw[ab];refine Sat.w T ?_;rfl
        |false=>
         have R:=hE rfl rfl rfl
         match r,R with
         |[y],_=>
         obtain⟨J,i,P⟩:=y;show(wK (yi ((((op==10&&(zS ⟨o,g,p⟩ ⟨J,i,P⟩==0))||(op==11&&(zS ⟨o,g,p⟩ ⟨J,i,P⟩ !=0)))||(op==12&&decide (zS ⟨o,g,p⟩ ⟨J,i,P⟩<0)))||(op==13&&decide (zS ⟨o,g,p⟩ ⟨J,i,P⟩<=0))))/\_/\_/\_)/\Sat Pg xH _ (λr=>r=rV (yi ((((op==10&&(zS ⟨o,g,p⟩ ⟨J,i,P⟩==0))||(op==11&&(zS ⟨o,g,p⟩ ⟨J,i,P⟩ !=0)))||(op==12&&decide (zS ⟨o,g,p⟩ ⟨J,i,P⟩<0)))||(op==13&&decide (zS ⟨o,g,p⟩ ⟨J,i,P⟩<=0)))));refine⟨⟨WA _,λh=>(by cases h),λ_ _ _ _ _ _ _ _=>⟨_,rfl⟩,λh=>(by cases h)⟩,?_⟩;refine qB.s T8 ?_;rw[e3];(conv=>whnf);rw[e4];(conv=>whnf);rw[e5];(conv=>whnf);rw[e6];(conv=>whnf);rw[e7];(conv=>whnf);rw[e8];(conv=>whnf);rw[e9];(conv=>whnf);rw[ab];refine xK ?_;refine xK ?_;exact rfl
def ym(l:am Val):=l.any λv=>v.k==0
mutual
def Ex.val(cols:am Col)(row:am Val):Ex->Val
 |.mk op i v g=>bif op==1 then v else bif op==2 then at0 row (ze cols i).toNat else
   bif op==14 then wW (at0 (valL cols row g) 0) (at0 (valL cols row g) 1)else
   bif op==15 then wg (wW (wg (at0 (valL cols row g) 0)) (wg (at0 (valL cols row g) 1)))else
   bif ym (valL cols row g)then zF else xp op i (valL cols row g)
def valL(cols:am Col)(row:am Val):am Ex->am Val
 |[]=> []
 |k::r=>k.val cols row::valL cols row r
end
theorem Yq(cols)(row):∀g,valL cols row g=g.map (Ex.val cols row)
 |[]=>rfl
 |k::r=>by simp only[valL,cN,Yq cols row r]
theorem auO(x:Col)(op)(g)(rest):ex abE [x.w,.c (.fp (.lit (.int .i64 op):: .lit (.string g)::rest))] (rB (zl x.name g)):=by refine z7 T8 al0.ok er ?_;exact rfl
def vlS(cols:am Col)(row:am Val)(op:Int)(l:ByteArray)(v:Val)(j:am Ex)(i:Nat)(g:am Val):S:=⟨[(0,.w (.c (.d (.sl (zj cols))))),(1,.w (zE row)),(5,cV (.ptr 5 0)),(6,cV (.ptr 6 0)),(7,cV (.own 46 3 g.length)),(8,yf (ym g)),(27,.w (.c (.d (.sl (exsD j))))),(28,zh (exsD j).length),(29,zh i)],
 [(5,.box [int op,str l,int v.k,int v.n,str v.s,.d (.sl (exsD j))]),(6,.box [int 0,int 0,str ⟨#[]⟩]),(46,.arr 3 (rowD g) false)]⟩
theorem jr(a b):rowD a++rowD b=rowD (a++b):=by simp[rowD]
theorem aqQ(l)(v):ym (l++[v])=(ym l||(v.k==0)):=by simp[ym]
theorem awT{v}(h:jZ v=0):wK v:=by
 unfold jZ at h;cases g:(yy v.k v !=0)
 .have:=aa8 g<;>grind[wK]
 simp_all
theorem aaR{op}{j}{v}{i}(g:(op==1)=true)(h:yK op j v i=0):jZ v=0:=by unfold yK at h;rw[g,aC]at h;exact(zY ej h).2
theorem Kh{op}{i}{v}{g}(o:op=16)(h:yK op i v g=0):y9 i≠0:=by subst o;have h:wD 16 i v g g true false=0:=h;have j:=(zY ej h).2;simp only[aA]at j;have l:=(zY ej j).2;have p:=(zY ej l).1<;>simp_all
theorem agW(cols):∀{i:am Ex},(tyL cols i).1=0->∀k∈i,(k.ty cols).2=0
 |[],_,k,hk=>by cases hk
 |a::r,h,k,hk=>by
  simp only[tyL]at h;cases g:((a.ty cols).2 !=0)
  .rw[g,aA]at h;rcases bR.1 hk with rfl|hk
   .simpa using g
   exact agW cols h k hk
  simp_all
theorem agY{cols}{op}{i}{v}{g}(h:(Ex.ty cols (.mk op i v g)).2=0):(tyL cols g).1=0/\(uP cols op i v (tyL cols g).2).2=0:=by simp only[Ex.ty]at h;cases j:((tyL cols g).1 !=0)<;>simp_all
theorem aCR(hC:aav)(op)(g)(v)(j)(l)(i:yK op g v j.length=0)(p:3<=op)(o:l.length=j.length)(hs:∀v∈l,wK v):
 (wK (xp op g l)/\BK op g l (xp op g l))/\ex xH [(Ex.mk op g v j).w,zE l] (rV (xp op g l)):=
 aDs hC op g v j l i p o (λh=>Kh h i) hs
theorem aoB(hC:aav)(cols)(row)(an:∀v∈row,wK v)(ai:row.length=cols.length):∀(e:Ex),e.err=0->(e.ty cols).2=0->wK (e.val cols row)/\ex afc [.c (.d (.sl (zj cols))),zE row,e.w] (rV (e.val cols row))
 |.mk op j v g,he,aw=>by
   have U:yK op j v g.length=0/\errL g=0:=by
    simp only[Ex.err]at he;cases hb:(yK op j v g.length !=0)
    .simp_all
    simp_all
   have ah:=V9 U.2;obtain⟨aq,ar⟩:=agY aw;have av:=agW cols aq;have ay:∀k∈g,wK (k.val cols row)/\ex afc [.c (.d (.sl (zj cols))),zE row,k.w] (rV (k.val cols row)):=λk hk=>aoB hC cols row an ai k (ah k hk) (av k hk)
   have ao:∀x∈valL cols row g,wK x:=λx hx=>by grind[Yq]
   have ih:=λk hk=>(ay k hk).2
   obtain⟨bk,bl,bm⟩:=Yl U.1;have bj:=ac7 op j;have bi:g.length<=2:=ej
   have ax:(valL cols row g).length=g.length:=by grind[Yq]
   have ae:(op==14||op==15)=true->(valL cols row g).length=2:=λh=>by
    simp only[bV,beq_iff_eq]at h
    grind[QM]
   have af:(op==1)=true->wK v:=λh=>awT (aaR h U.1)
   have ag:(op==2)=true->0<=ze cols j/\ze cols j<row.length:=λh=>by
    have h:op=2:=by simpa using h
    subst h;have R:(bif decide (ze cols j<0)then((0:Int),(16:Int))else(uu cols (ze cols j),0)).2=0:=ar;have h3:=Xg (λx=>zl x.name j) cols 0 (Int.le_refl _)
    grind[ze]
   have ab:=aCR hC op j v g (valL cols row g) U.1
   have ad:Ex.val cols row (.mk op j v g)=bif op==1 then v else bif op==2 then at0 row (ze cols j).toNat else
    bif op==14 then wW (at0 (valL cols row g) 0) (at0 (valL cols row g) 1)else
    bif op==15 then wg (wW (wg (at0 (valL cols row g) 0)) (wg (at0 (valL cols row g) 1)))else
    bif ym (valL cols row g)then zF else xp op j (valL cols row g):=by grind[Ex.val]
   have aj:∀{l:am Val}{i:Nat},i<l.length->(∀x∈l,wK x)->wK (at0 l i):=fun{l i} h1 R=>by grind[at0]
   have al:(op==1)=false->(op==2)=false->3<=op:=λh1 R=>ek
   rw[ad];refine⟨?_,?_⟩
   .cases e1:(op==1)
    .cases e2:(op==2)
     .cases e3:(op==14)<;>simp_all[Uv,ajt,av3,aDN]
     simp_all
    grind
   clear aw aq ar av ay he ah ad af;obtain⟨V,hV⟩:∃V,V=valL cols row g:=⟨_,rfl⟩;rw[<-hV]at ao ax ae ab⊢;have a8:∀i (h:i<g.length) (R:i<V.length),V[i]=g[i].val cols row:=λi h R=>by grind[Yq]
   have o:V.length=2->(rowD V)[(0:Int).toNat]?=some (at0 V 0).ds:=λh=>by
    have:=yq (r:=V) (i:=0) ej
    grind[at0]
   have p:V.length=2->(rowD V)[(1:Int).toNat]?=some (at0 V 1).ds:=λh=>by
    have:=yq (r:=V) (i:=1) ej
    grind[at0]
   have ba:(op==2)=true->(rowD row)[(ze cols j).toNat]?=some (at0 row (ze cols j).toNat).ds:=λh=>by grind[at0,rowD]
   have I:=Yo abE [.lit (.int .i64 op),.lit (.string j),.lit (.int .i64 v.k),.lit (.int .i64 v.n),.lit (.string v.s),.sl (exsD g)] (λx=>zl x.name j) (λx=>auO x op j _) cols;have I:Sat Pg Y0 _ (λr=>r=rI (ze cols j)):=I;clear hV aj;obtain⟨vk,vn,vs⟩:=v;generalize at0 row (ze cols j).toNat=fv at*;generalize ze cols j=ci at*;generalize at0 V 0=a0,at0 V 1=a1 at*;cases e1:(op==1)with
   |true=>
    refine Xb.s T8 ?_;rw[e1];exact rfl
   |false=>
    cases e2:(op==2)with
    |true=>
     have hf:=ag e2;have hg:=ba e2;obtain⟨f1,f2,f3⟩:=fv;refine Xb.s T8 ?_;rw[e1];(conv=>whnf);rw[e2];refine Sat.w I ?_;refine zw hg ?_ (hA:=hf.1);exact rfl
    |false=>
     have ab:=ab (al e1 e2) ax ao;refine Xb.s T8 ?_;rw[e1];(conv=>whnf);rw[e2];(conv=>whnf);refine zX (P:=Pg) (f:=T8.f) (body:=(Xb.l 0)) g.length (λi=>vlS cols row op j ⟨vk,vn,vs⟩ g i (V.take i)) (λ_=>True) ⟨trivial,⟨_,zx 7 46 3 ej ej rfl,?_⟩⟩ ?_
     .exact rfl
     intro i hi _;obtain⟨T,hT⟩:∃T,T=V.take i:=⟨_,rfl⟩;have bh:T.length=i:=ek
     have au:(rowD T).take T.length=rowD T:=by grind[zp]
     have wi:i<g.length->aD.wrap ((i:Int)+1)=((i+1:Nat):Int):=λh=>zu h ej
     have aa:∀h:i<g.length,V.take (i+1)=T++[g[i].val cols row]:=λh=>by grind[zD]
     have ac:g.length<=i->V=T:=λh=>ek
     show mwpR Pg T8.f (Xb.l 0) _ (vlS cols row op j ⟨vk,vn,vs⟩ g i (V.take i));unfold vlS;rw[<-hT];clear hT;refine zg (λh1=>?_) (λh1=>?_)
     .have J:i<g.length:=by have:=aS h1;grind[xX]
      have hg:(exsD g)[((i:Int)).toNat]?=some (g[i]).ds:=Zv J;have hm:g[i]∈g:=bG J;have aa:=aa J;generalize g[i]=k at*;have bd:=ih k hm;obtain⟨bg,bf,v1,be⟩:=k;generalize(Ex.val cols row (.mk bg bf v1 be))=x at*;obtain⟨x1,x2,x3⟩:=x;refine zw hg ?_;refine Sat.w bd ?_;refine yQ ?_;refine zI J trivial ?_;rw[wi J,au,aa,aqQ,<-jr,bE];rfl
     have a9:g.length<=i:=by grind[xX]
     have a7:=ac a9;subst a7;clear aa ac a8;cases e3:(op==14)with
     |true=>
      have R:=ae ek;have o:=o R;have p:=p R;have hb:=as4 a0 a1;generalize wW a0 a1=u at*;obtain⟨u1,u2,u3⟩:=u;obtain⟨az,a2,a3⟩:=a0;obtain⟨a4,a5,a6⟩:=a1;(conv=>whnf);rw[e3];refine aw2 ?_;refine⟨_,o,?_⟩;(conv=>whnf);refine aw2 ?_;refine⟨_,p,?_⟩;(conv=>whnf);refine Sat.w hb ?_;rfl
     |false=>
      cases e4:(op==15)with
      |true=>
       have R:=ae eu;have o:=o R;have p:=p R;have bb:=agN a0;have bc:=agN a1;generalize wg a0=n0,wg a1=n1 at*;have hb:=as4 n0 n1;generalize wW n0 n1=u at*;have hn:=agN u;generalize wg u=z at*;obtain⟨u1,u2,u3⟩:=u;obtain⟨z1,z2,z3⟩:=z;obtain⟨bn,bo,bp⟩:=n0;obtain⟨bq,bs,bt⟩:=n1;obtain⟨az,a2,a3⟩:=a0;obtain⟨a4,a5,a6⟩:=a1;(conv=>whnf);rw[e3];(conv=>whnf);rw[e4];refine aw2 ?_;refine⟨_,o,?_⟩;(conv=>whnf);refine aw2 ?_;refine⟨_,p,?_⟩;(conv=>whnf);refine Sat.w bb ?_;refine Sat.w bc ?_;refine Sat.w hb ?_;refine Sat.w hn ?_;rfl
      |false=>
       cases e5:ym V with
       |true=>
        (conv=>whnf);rw[e3];(conv=>whnf);rw[e4];exact rfl
       |false=>
        have ak:ex xH [(Ex.mk op j ⟨vk,vn,vs⟩ g).w,.c (.d (.sl ((rowD V).take V.length)))] (rV (xp op j V)):=by rw[au];exact ab.2
        generalize xp op j V=u at*;obtain⟨u1,u2,u3⟩:=u;(conv=>whnf);rw[e3];(conv=>whnf);rw[e4];refine Sat.w ak ?_;rfl
termination_by e=>co e
decreasing_by
 simp_wf
 have:=bN hk;omega
theorem V4{e:Ex}(h:e.chk=0):e.err=0:=by unfold Ex.chk at h;exact(zY ej (zY ej h).2).2
def Ex.tyE(cols:am Col)(e:Ex):=bif e.chk !=0 then(0,e.chk)else e.ty cols
theorem alr(cols)(e:Ex):ex apO [.c (.d (.sl (zj cols))),e.w] (rII (e.tyE cols)):=by
 have j:=adm e;have g:=aaq cols e;unfold Ex.tyE;cases i:(e.chk !=0)with
 |true=>
  generalize e.chk=c at*;obtain⟨op,o,⟨p,I,vs⟩,l⟩:=e;refine adN.s T8 ?_;refine Sat.w j ?_;rw[i];exact rfl
 |false=>
  have g:=g (V4 ek);generalize e.chk=c,e.ty cols=t at*;obtain⟨op,o,⟨p,I,vs⟩,l⟩:=e;refine adN.s T8 ?_;refine Sat.w j ?_;rw[i];refine Sat.w g ?_;rfl
def jK:am Col->am Val->Bool
 |c::cs,v::vs=>bif yy c.t v !=0 then false else jK cs vs
 |_,_=>true
def Qe(cols)(row):=bif ((cols.length:Int)) !=row.length then false else jK cols row
theorem aAG(cols)(row):ex aui [.c (.d (.sl (zj cols))),zE row] (rB (Qe cols row)):=by
 refine yZ 1 er rfl λo=>?_
 rw[zp]at o;unfold Qe;refine ahp.s T8 ?_;rw[zy,zp];refine zt (λh=>?_) (λh=>?_)
 .rw[h];exact rfl
 rw[h];have hl:=amA h;simp only[aA];refine xm T8 (ahp.l 0) row.length (λi=>⟨[(0,.w (.c (.d (.sl (zj cols))))),(12,.w (zE row)),(13,zh (rowD row).length),(14,zh i)],[]⟩) (λi=>jK cols row=jK (cols.drop i) (row.drop i)) ?_
 intro i hi g;refine zg (λU=>?_) (λU=>?_)
 .have j:i<row.length:=by simp_all[zp]
  have I:i<cols.length:=ej
  rw[zm j,zm I]at g;have g:jK cols row=bif yy cols[i].t row[i] !=0 then false else jK (cols.drop (i+1)) (row.drop (i+1)):=g
  have hg:=yq j;have P:=yN I;generalize row[i]=x,cols[i]=c at*;obtain⟨x1,x2,x3⟩:=x;obtain⟨T,p⟩:=c;refine zw hg ?_;refine zw P ?_;refine zg (b:=yy p ⟨x1,x2,x3⟩ !=0) (λJ=>?_) (λJ=>?_)
  .rw[show(Col.mk T p).t=p from rfl,J,aC]at g;(conv=>whnf);rw[g];rfl
  rw[show(Col.mk T p).t=p from rfl,J,aA]at g;refine zI j g ?_;rw[zu j o];rfl
 have R:row.length<=i:=by grind[zp]
 rw[aB R,aB ej]at g;(conv=>whnf);rw[g];rfl
theorem arA:∀{cols:am Col}{row:am Val},jK cols row=true->row.length=cols.length->∀v∈row,wK v
 |_,[],_,_,v,g=>by cases g
 |[],_::_,_,h,_,_=>by cases h
 |c::cs,x::r,h,j,v,g=>by
  simp only[jK]at h;cases i:(yy c.t x !=0)
  .rw[i,aA]at h;rcases bR.1 g with rfl|g
   .have:=aa8 i<;>grind[wK]
   exact arA h (by simpa using j) v g
  grind
noncomputable def exprV(cols:am Col)(row:am Val)(e:Ex):Val:=bif (e.tyE cols).2 !=0||!Qe cols row then zF else e.val cols row
theorem aoz(hC:aav)(cols)(row)(e):ex aug [.c (.d (.sl (zj cols))),zE row,e.w] (rV (exprV cols row e)):=by
 have I:=alr cols e;have p:=aAG cols row;unfold exprV;cases g:((e.tyE cols).2 !=0)with
 |true=>
  generalize e.tyE cols=t at*;obtain⟨T,j⟩:=t;have g:(j !=0)=true:=g;obtain⟨op,R,⟨U,vn,vs⟩,P⟩:=e;refine aay.s T8 ?_;refine Sat.w I ?_;refine zt (λc=>?_) (λc=>?_)
  .exact rfl
  have c:(j !=0)=false:=c;rw[g]at c;cases c
 |false=>
  cases l:Qe cols row with
  |false=>
   rw[l]at p;generalize e.tyE cols=t at*;obtain⟨T,j⟩:=t;have g:(j !=0)=false:=g;obtain⟨op,R,⟨U,vn,vs⟩,P⟩:=e;refine aay.s T8 ?_;refine Sat.w I ?_;refine zt (λc=>?_) (λc=>?_)
   .have c:(j !=0)=true:=c;rw[g]at c;cases c
   refine Sat.w p ?_;rfl
  |true=>
   have i:row.length=cols.length/\jK cols row=true:=by
    have l:=l;unfold Qe at l;cases J:(((cols.length:Int)) !=row.length)
    .rw[J,aA]at l
     grind
    grind
   have o:e.chk=0/\(e.ty cols).2=0:=by have g:=g;unfold Ex.tyE at g;cases J:(e.chk !=0)<;>simp_all
   have hv:=(aoB hC cols row (arA i.2 i.1) i.1 e (V4 o.1) o.2).2;rw[l]at p;generalize e.tyE cols=t,e.val cols row=u at*;obtain⟨T,j⟩:=t;obtain⟨u1,u2,u3⟩:=u;have g:(j !=0)=false:=g;obtain⟨op,R,⟨U,vn,vs⟩,P⟩:=e;refine aay.s T8 ?_;refine Sat.w I ?_;refine zt (λc=>?_) (λc=>?_)
   .have c:(j !=0)=true:=c;rw[g]at c;cases c
   refine Sat.w p ?_;refine Sat.w hv ?_;rfl
noncomputable def condB(cols:am Col)(row:am Val)(e:Ex):Bool:=yH (exprV cols row e) (yi true)
theorem aDm(hC:aav)(cols)(row)(e):ex ahC [.c (.d (.sl (zj cols))),zE row,e.w] (rB (condB cols row e)):=by have g:=aoz hC cols row e;unfold condB;generalize exprV cols row e=u at*;obtain⟨u1,u2,u3⟩:=u;obtain⟨op,j,⟨l,o,vs⟩,i⟩:=e;refine at2.s T8 ?_;refine Sat.w g ?_;rfl
theorem qR(a b):zd (a++b)=zd a++zd b:=by simp[zd]
def wE(op l:Int)(p:ByteArray)(v:Val)(o:am Ex)(i cs g j)(m)(r):=
 [int op,int l,str p,int v.k,int v.n,str v.s,.d (.sl (exsD o)),.d (.sl i),.d (.sl cs),.d (.sl g),.d (.sl j),int m,str r]
def whS(cols:am Col)(rows:am (am Val))(st:am C)(i:Nat)(g:am (am Val)):S:=⟨[(4,cV (.ptr 4 0)),(5,cV (.ptr 5 0)),(8,cV (.own 38 1 g.length)),(23,.w (.c (.d (.sl (zd rows))))),(24,zh (zd rows).length),(25,zh i)],
 [(4,.box [.d (.sl (zj cols)),.d (.sl (zd rows))]),(5,.box st),(38,.arr 1 (zd g) false)]⟩
noncomputable def whereR(cols:am Col)(rows:am (am Val))(e:Ex):am (am Val):=rows.filter λr=>condB cols r e
theorem ud{a:Type}(p:a->Bool){l:am a}{i}(h:i<l.length):(l.take (i+1)).filter p=(l.take i).filter p++(bif p l[i]then [l[i]]else []):=by grind[zD]
theorem ani(hC:aav)(d)(cols)(rows)(hr:rows.length<=20000)(J)(nm)(v)(U)(R cs I aa)(m)(tb):
 ex Z1 [.c (.d d),.agg [.d (.sl (zj cols)),.d (.sl (zd rows))],.agg (wE 1 J nm v U R cs I aa m tb)] ⟨.tup [.c (.d (.sl (zd (whereR cols rows (.mk J nm v U))))),.c (bool true)],[]⟩:=by
 refine zJ ?_;have j:=λrow=>aDm hC cols row (.mk J nm v U)
 obtain⟨vk,vn,vs⟩:=v;unfold whereR;generalize af:(λr=>condB cols r (.mk J nm ⟨vk,vn,vs⟩ U))=p at*;have j:∀row,ex ahC [.c (.d (.sl (zj cols))),zE row,(Ex.mk J nm ⟨vk,vn,vs⟩ U).w] (rB (p row)):=λrow=>ek
 refine qE.s T8 ?_;refine zX (P:=Pg) (f:=T8.f) (body:=(qE.l 0)) rows.length (λi=>whS cols rows (wE 1 J nm ⟨vk,vn,vs⟩ U R cs I aa m tb) i ((rows.take i).filter p)) (λ_=>True) ⟨trivial,⟨_,zx 8 38 1 ej ej rfl,?_⟩⟩ ?_
 .exact rfl
 intro i hi _;have wi:i<rows.length->aD.wrap ((i:Int)+1)=((i+1:Nat):Int):=λh=>zu h ej
 obtain⟨T,hT⟩:∃T,T=(rows.take i).filter p:=⟨_,rfl⟩;have ae:T.length<=i:=ek
 have ac:(zd T).take T.length=zd T:=by grind[zq]
 have o:∀h:i<rows.length,(rows.take (i+1)).filter p=T++(bif p rows[i]then [rows[i]]else []):=λh=>by grind[ud]
 have ab:rows.length<=i->T=rows.filter p:=λh=>ek
 show mwpR Pg T8.f (qE.l 0) _ (whS cols rows (wE 1 J nm ⟨vk,vn,vs⟩ U R cs I aa m tb) i ((rows.take i).filter p));unfold whS wE;rw[<-hT];clear hT;refine zg (λh1=>?_) (λh1=>?_)
 .have g:i<rows.length:=by simp_all[zq]
  have hg:=zZ g;have o:=o g;generalize rows[i]=x at*;have hc:=j x;generalize p x=b at*;refine zw hg ?_;refine Sat.w hc ?_;refine zt (b:=b) (λh2=>?_) (λh2=>?_)
  .subst h2;refine yQ ?_;refine zI g trivial ?_;rw[wi g,ac,o,aC,qR,bE];rfl
  subst h2;refine zI g trivial ?_;rw[wi g,o,aA,List.append_nil];rfl
 have ad:rows.length<=i:=by grind[zq]
 rw[<-ab ad];refine UP ?_;show Res.mk (.tup [.c (.d (.sl ((zd T).take T.length))),.c (bool true)]) []=_;rw[ac]
end
end Go.Proofs.YtnlbmefhdiabcaaGreat
namespace Go.AM
noncomputable def loopU(W:(E->S->Prop)->S->Prop)(g:am Nat)(Q:E->S->Prop)(n:Nat):S->Prop:=
 Nat.rec (motive:=λ_=>S->Prop) (λ_=>False) (λ_ i s=>Ki s g λj=>W (gW i Q) j) n
theorem jp{P}{f:aT->am W->aK W}{body}{g}{Q:E->S->Prop}{s}(n)(h:loopU (mwpR P f body) g Q n s):z6 (mwpR P f body) g Q s:=by
 have step:∀(n:Nat) (s:S),loopU (mwpR P f body) g Q n s->∃k,n=k+1/\mwpR P f body (gW (loopU (mwpR P f body) g Q k) Q) (s.norm g):=by
  intro n s h;cases n with
  |zero=>exact absurd h id
  |succ k=>
   grind[loopU,We]
 refine yD (m:=S×Nat) (λp=>p.1) (λp=>p.2) (λp=>mwpR P f body (gW (loopU (mwpR P f body) g Q p.2) Q) p.1) ?_ ?_
 .obtain⟨k,_,hk⟩:=step n s h;refine⟨(s.norm g,k),hk,zi ?_⟩;rw[We]
 rintro⟨R,k⟩ r;refine afv body (λe o l=>?_) _ r;cases e with
 |normal=>
  obtain⟨j,J,I⟩:=step k o l;refine⟨(o.norm g,j),⟨I,ek⟩,zi ?_⟩;rw[We]
 |exit i=>exact l
 |ret=>exact l
end Go.AM
namespace Go.Proofs.YtnlbmefhdiabcaaGreat
open Go Go.AM
section
attribute [local irreducible] Sat zH z6
theorem adz(cols)(rows)(e):(whereR cols rows e).length<=rows.length:=List.length_filter_le _ _
def qQ(t:Tbl)(e:Int):Res:=⟨.tup [t.w,.c (int e)],[]⟩
def ayI(cols:am Col)(e:Ex):=bif (e.ty cols).2 !=0 then(e.ty cols).2 else bif qc (e.ty cols).1 1 then 0 else 14
def rNT(e:Int):Res:=⟨.tup [.agg [.nil,.nil],.c (int e)],[]⟩
theorem yW{b}{k}(h:(uI b k).2=0):b=true/\(uI b k).1=k:=by
 cases b
 .cases h
 exact⟨rfl,rfl⟩
theorem agV{cols}:∀{g:am Ex},(tyL cols g).1=0->(tyL cols g).2=g.map λk=>(k.ty cols).1
 |[],_=>rfl
 |a::r,h=>by simp only[tyL]at h⊢;cases i:((a.ty cols).2 !=0)<;>simp_all[agV]
theorem ayk{s}(h:zl s ⟨#[]⟩=true):s=⟨#[]⟩:=(beqS_iff _ _).1 h
def Bl(v):=v=zF\/∃b,v=yi b
theorem avo:∀{cols:am Col}{row:am Val}{i:Nat}(g:i<cols.length) (j:i<row.length),jK cols row=true->yy cols[i].t row[i]=0
 |c::cs,x::r,i,g,j,h=>by
  simp only[jK]at h;cases l:(yy c.t x !=0)
  .rw[l,aA]at h;cases i with
   |zero=>simpa using l
   |succ i=>
    simp only[List.getElem_cons_succ];exact avo (cols:=cs) (row:=r) (by simpa using g) (by simpa using j) h
  grind
theorem azI{cols}{row}(h:Qe cols row=true):row.length=cols.length/\jK cols row=true:=by
 unfold Qe at h;cases g:(((cols.length:Int)) !=row.length)
 .rw[g,aA]at h
  grind
 grind
theorem au9(u w):Bl (wW u w):=by
 unfold wW;cases(yH u (yi false)||yH w (yi false))
 .cases(u.k==0||w.k==0)
  .exact .inr ⟨true,rfl⟩
  exact .inl rfl
 exact .inr ⟨false,rfl⟩
theorem ay6(u)(h:Bl u):Bl (wg u):=by
 rcases h with rfl|⟨b,rfl⟩
 .exact .inl rfl
 cases b
 .exact .inr ⟨true,rfl⟩
 exact .inr ⟨false,rfl⟩
end
theorem aAK{P}{k}{args:am W}{x:Value}(hk:qT P k=true)(o:x.oneCell'=true)
 (h:∀(w:World) (A:Nat->Prop) (g:am Value) (m:Int),w.cell? ⟨0,0,none⟩=some (.int .i64 m)->qN (λ_=>⟨none,0⟩) w A args g->Calls P k g.toArray w λe w'=>e=.returned x/\w'=w):
 Sat P k args (λr=>r=⟨.w (.c (.d (.lit x))),[]⟩):=by
 refine⟨hk,λw A g hA l=>?_⟩;obtain⟨_,m,j⟩:=hA.2 0 rfl;refine(h w A g m j l).mono ?_;rintro e w' ⟨rfl,rfl⟩;refine⟨x,_,rfl,rfl,⟨bL _,λ_=>⟨none,0⟩,?_,?_,?_,?_,?_,?_⟩,Grows.refl _ _⟩
 .grind[VR,WR,CR,RD]
 .intro p y i;cases i
 .grind
 .grind
 .intro p y i;cases i
 grind
theorem aGv:aav:=λs t hs=>aAK er rfl λw A g m i h=>by rw[atS h];exact Any.strings_Contains Tryz.laysM144.1 s t m w ej i
section
attribute [local irreducible] Sat zH z6
def aC1(cols:am Col)(rows:D)(j:am ByteArray)(i:Nat)(g:am Int):S:=⟨[(2,cV (.ptr 2 0)),(5,cV (.own 19 1 g.length)),(8,.w (.c (.d (.sl (zo j))))),(9,zh (zo j).length),(10,zh i)],
 [(2,.box [.d (.sl (zj cols)),.d rows]),(19,.arr 1 (zB g) false)]⟩
def zf(cols:am Col)(g:am ByteArray):=g.map (ze cols)
theorem adq(cols)(rows)(g)(hn:g.length<=1000000):ex amo [.agg [.d (.sl (zj cols)),.d rows],.c (.d (.sl (zo g)))] (rC (.d (.sl (zB (zf cols g))))):=by
 refine zJ ?_;refine VV.s T8 ?_;refine zX (P:=Pg) (f:=T8.f) (body:=(VV.l 0)) g.length (λi=>aC1 cols rows g i (zf cols (g.take i))) (λ_=>True) ⟨trivial,⟨_,zx 5 19 1 ej ej rfl,?_⟩⟩ ?_
 .exact rfl
 intro i hi _;have aa:(zf cols (g.take i)).length=i:=by grind[zf]
 have o:∀h:i<g.length,zf cols (g.take (i+1))=zf cols (g.take i)++[ze cols g[i]]:=λh=>by grind[zf,zD]
 have I:g.length<=i->zf cols g=zf cols (g.take i):=λh=>ek
 show mwpR Pg T8.f (VV.l 0) _ (aC1 cols rows g i (zf cols (g.take i)));generalize zf cols (g.take i)=T at*;have J:(zB T).take T.length=zB T:=by grind[xg]
 unfold aC1;refine zg (λU=>?_) (λU=>?_)
 .have j:i<g.length:=by simp_all[zA]
  have hg:=xh j;have o:=o j;have p:=vN cols (.d rows) g[i] ⟨rows,rfl⟩;generalize g[i]=x at*;generalize ze cols x=c at*;refine zw hg ?_;refine Sat.w p ?_;refine yQ ?_;refine zI j trivial ?_;rw[zu j ej,J,o,<-Wr,bE];rfl
 have R:g.length<=i:=by grind[zA]
 rw[I R];refine UP ?_;show Res.mk (.w (.c (.d (.sl ((zB T).take T.length))))) []=_;rw[J];rfl
def axL(row:am Val)(at_:am Int)(i:Nat)(g:am Val):S:=⟨[(0,.w (zE row)),(5,cV (.own 20 3 g.length)),(8,.w (.c (.d (.sl (zB at_))))),(9,zh (zB at_).length),(10,zh i)],
 [(20,.arr 3 (rowD g) false)]⟩
def pickL(row:am Val)(at_:am Int):=at_.map λk=>at0 row k.toNat
def yB(n:Nat)(at_:am Int):=∀k∈at_,0<=k/\k<n
theorem adp(row)(at_)(hn:at_.length<=1000000)(R:yB row.length at_):ex arW [zE row,.c (.d (.sl (zB at_)))] (rC (.d (.sl (rowD (pickL row at_))))):=by
 refine zJ ?_;refine KN.s T8 ?_;refine zX (P:=Pg) (f:=T8.f) (body:=(KN.l 0)) at_.length (λi=>axL row at_ i (pickL row (at_.take i))) (λ_=>True) ⟨trivial,⟨_,zx 5 20 3 ej ej rfl,?_⟩⟩ ?_
 .exact rfl
 intro i hi _;have aa:(pickL row (at_.take i)).length=i:=by grind[pickL]
 have j:∀h:i<at_.length,pickL row (at_.take (i+1))=pickL row (at_.take i)++[at0 row (at_[i]).toNat]:=λh=>by grind[pickL,zD]
 have o:at_.length<=i->pickL row at_=pickL row (at_.take i):=λh=>ek
 show mwpR Pg T8.f (KN.l 0) _ (axL row at_ i (pickL row (at_.take i)));generalize pickL row (at_.take i)=T at*;have p:(rowD T).take T.length=rowD T:=by grind[zp]
 unfold axL;refine zg (λU=>?_) (λU=>?_)
 .have g:i<at_.length:=by simp_all[xg]
  have hg:=j7 g;have j:=j g;have hk:=R _ (bG g);generalize at_[i]=k at*;have J:(rowD row)[k.toNat]?=some (at0 row k.toNat).ds:=by grind[at0,rowD]
  generalize at0 row k.toNat=v at*;obtain⟨v1,v2,v3⟩:=v;refine zw hg ?_;refine zw J ?_ (hA:=hk.1);refine yQ ?_;refine zI g trivial ?_;rw[zu g ej,p,j,<-jr,bE];rfl
 have I:at_.length<=i:=by grind[xg]
 rw[o I];refine UP ?_;show Res.mk (.w (.c (.d (.sl ((rowD T).take T.length))))) []=_;rw[p];rfl
theorem Un(l):∀x∈rowD l,x.length=3:=by intro x g;simp only[rowD,cD]at g;obtain⟨a,_,rfl⟩:=g;rfl
structure Gp where
 key:am Val
 rows:D
def Gp.ds(g:Gp):=[.sl (rowD g.key),g.rows]
def gpD(l:am Gp):=l.map Gp.ds
theorem avu(l):(gpD l).length=l.length:=by simp[gpD]
theorem avt{r}{i:Nat}(h:i<r.length):(gpD r)[((i:Int)).toNat]?=some (r[i]).ds:=by grind[gpD]
def keyC(a b):=ZY zS a b
theorem afT(g:Gp)(k):ex Q7 [.agg [.d (.sl (rowD g.key)),.d g.rows],zE k] (rI (keyC g.key k)):=by have h:=Vs qe zS uE g.key k;unfold keyC;generalize ZY zS g.key k=c at*;obtain⟨a,b⟩:=g;refine aic.s T8 ?_;refine Sat.w h ?_;rfl
theorem aGg(i j:Nat)(h:i+j<=4611686018427387904):aD.wrap (Wy false bM (bM.wrap (aD.wrap ((i:Int)+(j:Int)))) 1)=(((i+j)/2:Nat):Int):=by grind[zT,IntKind.wrap,IntKind.bits,Wy]
def Yt(p:Nat->Bool):Nat->Nat->Nat->Nat
 |0,i,_=>i
 |f+1,i,j=>bif decide (i<j)then(bif p ((i+j)/2)then Yt p f ((i+j)/2+1) j else Yt p f i ((i+j)/2))else i
theorem KK(p:Nat->Bool):∀(f g i j),j-i<=f->j-i<=g->Yt p f i j=Yt p g i j
 |0,0,i,j,_,_=>rfl
 |0,g+1,i,j,h,_=>by have:decide (i<j)=false:=aW ej;simp only[Yt,this,aA]
 |f+1,0,i,j,_,h=>by have:decide (i<j)=false:=aW ej;simp only[Yt,this,aA]
 |f+1,g+1,i,j,l,o=>by
  simp only[Yt];by_cases h:i<j
  .rw[KK p f g ((i+j)/2+1) j ej ej,KK p f g i ((i+j)/2) ej ej]
  rw[aW h];rfl
theorem alW(p:Nat->Bool):∀(f i j n),i<=j->j<=n->i<=Yt p f i j/\Yt p f i j<=n
 |0,i,j,n,g,l=>by grind[Yt]
 |f+1,i,j,n,g,l=>by
  simp only[Yt];by_cases h:i<j
  .rw[bO h,aC];cases p ((i+j)/2)
   .have:=alW p f i ((i+j)/2) n ej ej;exact this
   have:=alW p f ((i+j)/2+1) j n ej ej;simp only[aC];omega
  rw[aW h,aA];omega
def wU(gs:am Gp)(k:am Val)(h:Nat):Bool:=match gs[h]? with|some g=>decide (keyC g.key k<0)|none=>false
def XT(gs)(k):=Yt (wU gs k) gs.length 0 gs.length
def Yi(gs:am Gp)(k:am Val)(i:Nat):Bool:=match gs[i]? with|some g=>keyC g.key k==0|none=>false
theorem aC2(gs)(k):XT gs k<=gs.length:=(alW _ _ _ _ _ (bF _) (bL _)).2
def bsS(gs:am Gp)(k:am Val)(i j:Nat):S:=⟨[(0,.w (.c (.d (.sl (gpD gs))))),(1,.w (zE k)),(2,.w (.c (.d (.fn Q7 [])))),(8,zh gs.length),(9,zh i),(10,zh j)],[]⟩
theorem aiQ(gs)(k)(hl:gs.length<=1000000):ex Q8 [.c (.d (.sl (gpD gs))),zE k,.c (.d (.fn Q7 []))] ⟨.tup [.c (int (XT gs k)),.c (bool (Yi gs k (XT gs k)))],[]⟩:=by
 refine w6.s T8 ?_;refine yD (P:=Pg) (f:=T8.f) (body:=(w6.l 0)) (λx:Nat×Nat=>bsS gs k x.1 x.2) (λx=>x.2-x.1) (λx=>x.1<=x.2/\x.2<=gs.length/\XT gs k=Yt (wU gs k) gs.length x.1 x.2) ⟨(0,gs.length),⟨bF _,bL _,rfl⟩,zi ?_⟩ ?_
 ·(conv=>whnf);rw[avu];rfl
 rintro⟨i,j⟩ hx;obtain⟨af,ab,hR⟩:i<=j/\j<=gs.length/\XT gs k=Yt (wU gs k) gs.length i j:=hx;show mwpR Pg T8.f (w6.l 0) _ (bsS gs k i j);unfold bsS;have wh:=aGg i j ej;refine xL (λac=>?_) (λh1=>?_)
 .have hm:(i+j)/2<gs.length:=ej
  have hg:=avt hm;have hp:wU gs k ((i+j)/2)=decide (keyC (gs[(i+j)/2]).key k<0):=by grind[wU]
  have hc:=afT gs[(i+j)/2] k;have p:XT gs k=bif wU gs k ((i+j)/2)then Yt (wU gs k) gs.length ((i+j)/2+1) j else Yt (wU gs k) gs.length i ((i+j)/2):=by
   rw[hR];have e1:Yt (wU gs k) gs.length i j=Yt (wU gs k) (gs.length-1+1) i j:=ek
   rw[e1];simp only[Yt];rw[bO ac,aC,KK (wU gs k) (gs.length-1) gs.length ((i+j)/2+1) j ej ej,KK (wU gs k) (gs.length-1) gs.length i ((i+j)/2) ej ej]
  rw[hp]at p;have ad:aD.wrap ((((i+j)/2:Nat):Int)+1)=(((i+j)/2+1:Nat):Int):=zu hm ej;generalize gs[(i+j)/2]=g at*;obtain⟨R,T⟩:=g;generalize keyC (Gp.mk R T).key k=c at*;have ag:(i+j)/2<j/\i<=(i+j)/2:=ej
  generalize(i+j)/2=m at*;(conv=>whnf);refine⟨ej,?_⟩;(conv=>whnf);rw[wh];refine zw hg ?_;refine Sat.w hc ?_;refine zt (b:=decide (c<0)) (λU=>?_) (λU=>?_)
  .rw[U,aC]at p;(conv=>whnf);refine⟨(m+1,j),⟨⟨ek,ab,p⟩,ek⟩,zi ?_⟩;(conv=>whnf);rw[ad];rfl
  rw[U,aA]at p;(conv=>whnf);refine⟨(i,m),⟨⟨ek,ek,p⟩,ek⟩,zi ?_⟩;exact rfl
 have ae:¬i<j:=ek
 have I:XT gs k=i:=by rw[hR];have e:Yt (wU gs k) gs.length i j=Yt (wU gs k) 0 i j:=KK _ _ _ _ _ ej ej;rw[e];rfl
 rw[I];clear hR I;by_cases aa:i<gs.length
 .have hg:=avt aa;have J:Yi gs k i=(keyC (gs[i]).key k==0):=by grind[Yi]
  have hc:=afT gs[i] k;rw[J];clear J;have e1:decide ((i:Int)<(gs.length:Int))=true:=bO ej;generalize gs[i]=g at*;obtain⟨R,T⟩:=g;generalize keyC (Gp.mk R T).key k=c at*;refine zg (λo=>?_) (λo=>?_)
  .refine zw hg ?_;refine Sat.w hc ?_;rfl
  have o:decide ((i:Int)<(gs.length:Int))=false:=o;rw[e1]at o;cases o
 have J:Yi gs k i=false:=by grind[Yi]
 have e1:decide ((i:Int)<(gs.length:Int))=false:=aW ej;rw[J];clear J;refine zg (λo=>?_) (λo=>?_)
 .have o:decide ((i:Int)<(gs.length:Int))=true:=o;rw[e1]at o;cases o
 exact rfl
end
section
open Go Go.Proofs Go.RowKit
def WJ(w:World)(v v':Value):=∀b,v'.ownBlock=some b->v.ownBlock=some b\/w.heap.size<=b
section
variable {P:Program}(w:World)
theorem aet(yS)(t ty e)(i)(z)(size bytes)(ht:P.underlying t=some (.slice e))(hi:P.info? e=some i)(hz:i.zero=some z)
 (T:i.size=size) (ac:i.bytes=bytes)
 (v) (n) (xs) (r:w.ownsRow yS e size v n xs)
 (a) (m c) (l:am Value) (hl:l.length=m*size) (o:∀j u,l[j]?=some u->w.cell? (a.add j)=some u) (h1:∀u∈l,u.oneCell'=true)
 (af:n+m<=maxLen) (p:(n+m)*bytes<=140737488355328) {v'}{w'}(hr:(Builtin.append_ #[t,t] ty #[v,.slice (some a) m c]).run P w=.ok v' w'):w.drawn<=w'.drawn/\WJ w v v':=by
 subst T;subst ac;have ab:n+m<=9223372036854775807:=by grind[maxLen]
 rcases r.2 with⟨rfl,rfl⟩|⟨g,cap,U,rfl,ag,hg,ai,ah,ad,ae⟩
 .by_cases hm:m=0
  .subst hm;have hn:l=[]:=bK ek;subst hn;simp[Builtin.append_,run_underlying ht,sizeOf,typeInfo,hi,Builtin.lenOf,Builtin.firstCells,loadCells,loadCellsFrom]at hr;exact⟨hr.2▸bL _,hr.1▸ λb I=>.inl I⟩
  have h:=run_append_nil (P:=P) w t ty e i z ht hi hz a m c l hl o ej ej (by have I:=p;simp only[Nat.zero_add]at I;omega);rw[h]at hr;cases hr;exact⟨Nat.le_succ _,λb I=>.inr (by grind[Value.ownBlock])⟩
 by_cases R:n+m<=cap
 .have aa:n*i.size+l.length<=U.size:=by rw[hl,ad,<-Nat.add_mul];simp_all[Nat.mul_le_mul_right]
  have h:=run_append_room (P:=P) w t ty e i ht hi g n cap U hg a m c l hl o h1 R aa;rw[h]at hr;cases hr;exact⟨bL _,λb I=>.inl I⟩
 have J:∀j u,xs[j]?=some u->w.cell? ((⟨g,0,none⟩:Addr).add j)=some u:=r.cells (g:=g) rfl;have h:=run_append_grow (P:=P) w t ty e i z ht hi hz ⟨g,0,none⟩ n cap xs r.1 J a m c l hl o ej ej (growslice_fits ej p);rw[h]at hr;cases hr;exact⟨Nat.le_succ _,λb I=>.inr (by grind[Value.ownBlock])⟩
end
theorem Zp{P}(w){ops}{rest}{o}{a}{Q:Exit->Act->World->Prop}(aa:o.guard=none)(s x)(t)
 (ho:o.op=.call {callee:=.builtin .append,args:= #[s,x],argTypes:= #[t,t]})
 (yS) (e) (i) (z) (size bytes) (ht:P.underlying t=some (.slice e)) (hi:P.info? e=some i) (hz:i.zero=some z)
 (r:i.size=size) (U:i.bytes=bytes) (ac:z.cells.size=size) (ab:0<size)
 (v) (n) (xs) (hs:a.eval s=v) (I:w.ownsRow yS e size v n xs)
 (ad) (m c) (g) (hx:a.eval x=.slice (some ad) m c) (hl:g.length=m*size) (p:∀j u,g[j]?=some u->w.cell? (ad.add j)=some u) (h1:∀u∈g,u.oneCell'=true)
 (T:n+m<=maxLen) (l:(n+m)*bytes<=140737488355328) (R:yS<=w.heap.size)
 (h:∀v' w',w'.ownsRow yS e size v' (n+m) (xs++g)->w.grownBy w' v.ownBlock->(w.drawn<=w'.drawn/\WJ w v v')->(v'=.slice none 0 0↔v=.slice none 0 0/\m=0)->wpList P ops Q rest (a.put o.dst v') w'):wpList P ops Q (o::rest) a w:=by
 refine wpList_plain aa λK hK=>?_
 obtain⟨v',w',J,r1,r2,r3⟩:=run_append_own (P:=P) w yS t o.type e i z size bytes ht hi hz r U ac ab v n xs I ad m c g hl p h1 T l R;have r4:=aet w yS t o.type e i z size bytes ht hi hz r U v n xs I ad m c g hl p h1 T l J;unfold Oper.wp execOp;simp only[ho,resolve,invoke,builtin,Sem.run_bind,Sem.run_pure,Result.andThen_ok,List.map_toArray,cN,List.map_nil,hs,hx,J];exact hK _ _ (h v' w' r1 r2 r4 r3)
theorem ass{w:World}{b}{k r}(h0:w.cell? ⟨b,0,none⟩=some k)(g:w.cell? ⟨b,1,none⟩=some r):∀j u,[k,r][j]?=some u->w.cell? ((⟨b,0,none⟩:Addr).add j)=some u:=by grind[Addr.add]
theorem agG{k r:Value}(g:k.oneCell'=true)(i:r.oneCell'=true):∀u∈ [k,r],u.oneCell'=true:=ek
theorem axm:(Tryz.prog.info? 232).map (λi=>(i.zero,i.size,i.bytes))=some (some (.agg #[.slice none 0 0,.slice none 0 0]),2,48):=er
theorem aEm:(Tryz.prog.info? 66).map (λi=>(i.zero,i.size,i.bytes))=some (some (.slice none 0 0),1,24):=er
set_option maxRecDepth 100000 in
set_option maxHeartbeats 2000000 in
theorem axn(w:World)(yS:Nat)(v:Value)(n:Nat)(xs:am Value)(i:w.ownsRow yS 232 2 v n xs)(hn:n<=1000000)(hb:yS<=w.heap.size)
 (P vc:Nat) (k r:Value) (h0:w.cell? ⟨P,0,none⟩=some k) (h1:w.cell? ⟨P,1,none⟩=some r) (h2:k.oneCell'=true) (h3:r.oneCell'=true):
 Calls Tryz.prog 259 #[v,.int .i64 n,.slice (some ⟨P,0,none⟩) 1 vc] w λe w'=>∃v',e=.returned v'/\w'.ownsRow yS 232 2 v' (n+1) (xs++[k,r])/\w.grownBy w' v.ownBlock/\w.drawn<=w'.drawn/\WJ w v v':=by
 obtain⟨i0,hi,p,I,J⟩:=info_parts axm;rcases i.2 with⟨U,R⟩|⟨g,cap,aa,U,ab,hg,ae,ac,ad,T⟩
 .subst R;subst U
  go_enter Tryz.func259,Tryz.ntmps259
  go_wp2_with (at_builtin;refine Zp _ rfl _ _ 228 rfl yS 232 i0 (.agg #[.slice none 0 0,.slice none 0 0]) 2 48 Tryz.underlying228 hi p I J rfl et _ _ _ rfl i ⟨P,0,none⟩ 1 vc [k,r] rfl rfl (ass h0 h1) (agG h2 h3) (by simp only[maxLen];omega) ej hb ?_;intro v' w' j o l _)
  go_ret
  exact⟨_,rfl,by simpa using j,o,l⟩
 subst U
 go_enter Tryz.func259,Tryz.ntmps259
 go_wp2_with (at_builtin;refine Zp _ rfl _ _ 228 rfl yS 232 i0 (.agg #[.slice none 0 0,.slice none 0 0]) 2 48 Tryz.underlying228 hi p I J rfl et _ _ _ rfl i ⟨P,0,none⟩ 1 vc [k,r] rfl rfl (ass h0 h1) (agG h2 h3) (by simp only[maxLen];omega) ej hb ?_;intro v' w' j o l _)
 all_goals go_ret
 all_goals exact⟨_,rfl,by assumption,by assumption,by assumption⟩
end
section
open Go Go.AM Go.Proofs Go.RowKit
abbrev tG:TypeId:=232
abbrev tR:TypeId:=66
structure GW where
 key:am Val
 rows:am (am Val)
 kv:Value
 rv:Value
 rvs:am Value
def cellsG(gs:am GW):=gs.flatMap λg=> [g.kv,g.rv]
theorem Vd:∀gs,(cellsG gs).length=gs.length*2
 |[]=>rfl
 |g::r=>by have:=Vd r;simp only[cellsG,List.flatMap_cons,bE,List.length_cons,List.length_nil]at this⊢;omega
theorem acB(a b):cellsG (a++b)=cellsG a++cellsG b:=by simp[cellsG]
theorem at7(gs)(p):(cellsG gs).take (2*p)=cellsG (gs.take p)/\(cellsG gs).drop (2*p)=cellsG (gs.drop p):=by
 have e:=acB (gs.take p) (gs.drop p);rw[bS]at e;by_cases h:p<=gs.length
 .grind[Vd]
 grind[cellsG,Vd,bY]
theorem J8{gs}{p}(h:p<gs.length):(cellsG gs)[2*p]?=some gs[p].kv/\(cellsG gs)[2*p+1]?=some gs[p].rv:=by
 have e:=acB (gs.take p) (gs.drop p);rw[bS]at e;have i:(cellsG (gs.take p)).length=2*p:=by grind[Vd]
 have g:cellsG (gs.drop p)=gs[p].kv::gs[p].rv::cellsG (gs.drop (p+1)):=by rw[bU h];rfl
 grind
theorem awD{gs}{p}(h:p<gs.length)(g)(hk:g.kv=gs[p].kv):(cellsG gs).set (2*p+1) g.rv=cellsG (gs.set p g):=by
 have e:=acB (gs.take p) (gs.drop p);rw[bS]at e;have l:(cellsG (gs.take p)).length=2*p:=by grind[Vd]
 have i:cellsG (gs.drop p)=gs[p].kv::gs[p].rv::cellsG (gs.drop (p+1)):=by rw[bU h];rfl
 have j:gs.set p g=gs.take p++g::gs.drop (p+1):=by simp_all[List.set_eq_take_append_cons_drop]
 simp_all[cellsG]
def RVs(W:World)(E:Nat->Prop)(rows:am (am Val))(rvs:am Value):=rvs.length=rows.length/\∀(j:Nat) r,rows[j]?=some r->∃u,rvs[j]?=some u/\RD W E (.sl (rowD r)) u
theorem RVs.keep{W W'}{E E':Nat->Prop}(h:zP W W' E E'){rows}{rvs}(hr:RVs W E rows rvs):RVs W' E' rows rvs:=
 ⟨hr.1,λj r l=>let⟨u,g,i⟩:=hr.2 j r l;⟨u,g,cA h _ _ i⟩⟩
theorem RVs.snoc{W}{E:Nat->Prop}{rows}{rvs}(hr:RVs W E rows rvs){x}{u}(o:RD W E (.sl (rowD x)) u):RVs W E (rows++[x]) (rvs++[u]):=by
 refine⟨by simp[hr.1],λj r g=>?_⟩;rw[am.getElem?_append]at g;split at g
 .rename_i l;obtain⟨v,p,I⟩:=hr.2 j r g<;>grind
 rename_i l;have i:j=rows.length:=ek
 subst i;simp at g;subst g;exact⟨u,by rw[<-hr.1];simp,o⟩
structure GInv(A:Nat->Prop)(B:Nat)(W:World)(v:Value)(gs:am GW)(E:Nat->Prop):Prop where
 dlt:∀b,E b->b<W.heap.size
 dA:∀b,A b->E b
 dB:∀b,E b->A b\/B<=b
 own:W.ownsRow B tG 2 v gs.length (cellsG gs)
 keys:∀g∈gs,RD W E (.sl (rowD g.key)) g.kv
 rows:∀g∈gs,W.ownsRow B tR 1 g.rv g.rows.length g.rvs/\RVs W E g.rows g.rvs
 vD:∀b,v.ownBlock=some b->¬E b
 rD:∀g∈gs,∀b,g.rv.ownBlock=some b->¬E b
 apart:∀g∈gs,∀b,v.ownBlock=some b->g.rv.ownBlock≠some b
 each:gs.Pairwise λg h=>∀b,g.rv.ownBlock=some b->h.rv.ownBlock≠some b
theorem asz{W W':World}{B e s n:Nat}{v}{xs}(h:W.ownsRow B e s v n xs)(hk:∀b,v.ownBlock=some b->W'.heap[b]?=W.heap[b]?):W'.ownsRow B e s v n xs:=by
 refine⟨h.1,?_⟩;rcases h.2 with o|⟨g,cap,i,rfl,l,j,rest⟩
 .grind
 exact .inr ⟨g,cap,i,rfl,l,by rw[hk g rfl];exact j,rest⟩
variable {A:Nat->Prop}{B:Nat}{W W':World}{v v':Value}{gs:am GW}{E E':Nat->Prop}
theorem GInv.more(h:GInv A B W v gs E)(hB:B<=W.heap.size)(hs:W.heap.size<=W'.heap.size)(hk:∀b,b<W.heap.size->W'.heap[b]?=W.heap[b]?)(r:∀b,E b->E' b)(o:∀b,E' b->b<W'.heap.size/\(E b\/W.heap.size<=b)):GInv A B W' v gs E':=by
 have I:zP W W' E E':=λb i=>⟨r b i,hk b (h.dlt b i)⟩
 refine⟨λb i=>(o b i).1,λb i=>r b (h.dA b i),λb i=>?_,?_,λg l=>cA I _ _ (h.keys g l),λg l=>⟨?_,(h.rows g l).2.keep I⟩,λb i p=>?_,λg l b i p=>?_,h.apart,h.each⟩
 .rcases(o b i).2 with j|j
  .exact h.dB b j
  grind
 .exact asz h.own λb i=>hk b (h.own.lt b i).2
 .exact asz (h.rows g l).1 λb i=>hk b ((h.rows g l).1.lt b i).2
 .rcases(o b p).2 with j|j
  .exact h.vD b i j
  have:=(h.own.lt b i).2;omega
 rcases(o b p).2 with j|j
 .exact h.rD g l b i j
 have:=((h.rows g l).1.lt b i).2;omega
theorem GInv.nil(hA:∀b,A b->b<W.heap.size):GInv A B W (.slice none 0 0) [] A:=
 ⟨hA,λ_ h=>h,λ_ h=>.inl h,World.ownsRow_nil _ _ _ _,λg i=>(by cases i),λg i=>(by cases i),λb j=>(by cases j),λg i=>(by cases i),λg i=>(by cases i),List.Pairwise.nil⟩
theorem GInv.insert(h:GInv A B W v gs E){p}(hp:p<=gs.length){key}{U}(T:RD W E (.sl (rowD key)) U)
 (aa:W'.ownsRow B tG 2 v' (gs.length+1) ((cellsG gs).take (2*p)++[U,.slice none 0 0]++(cellsG gs).drop (2*p))) (I:W.grownBy W' v.ownBlock) (hf:WJ W v v'):
 GInv A B W' v' (gs.take p++[⟨key,[],U,.slice none 0 0,[]⟩]++gs.drop p) E:=by
 have hK:zP W W' E E:=λb i=>⟨i,I.block b (h.dlt b i) λe=>h.vD b e.symm i⟩
 have l:∀{Q:GW->Prop},(∀g∈gs,Q g)->Q ⟨key,[],U,.slice none 0 0,[]⟩->∀g∈(gs.take p++[⟨key,[],U,.slice none 0 0,[]⟩]++gs.drop p),Q g:=λh1 h2 g o=>ek
 refine⟨λb i=>bP (h.dlt b i) I.size,h.dA,h.dB,?_,l (λg o=>cA hK _ _ (h.keys g o)) (cA hK _ _ T),l (λg o=>⟨(h.rows g o).1.kept I ?_,(h.rows g o).2.keep hK⟩) ⟨World.ownsRow_nil _ _ _ _,rfl,λj r hj=>ek⟩,
  λb i J=>?_,l h.rD (λb i=>by cases i),l (λg o b i R=>?_) (λb _ i=>by cases i),?_⟩
 .grind[at7,cellsG]
 .cases hv:g.rv.ownBlock with
  |none=>grind
  |some b=>
   right
   intro e;exact h.apart g o b e.symm hv
 .rcases hf b i with P|P
  .exact h.vD b P J
  have:=h.dlt b J;omega
 .rcases hf b i with P|P
  .exact h.apart g o b P R
  have:=((h.rows g o).1.lt b R).2;omega
 have J:=h.each;have e:gs.take p++gs.drop p=gs:=bS ..;rw[<-e,cK]at J;rw[List.append_assoc,cK];refine⟨J.1,?_,λa ha c hc=>?_⟩
 .rw[cH,bQ];exact⟨λa _ b i=>(by cases i),J.2.1⟩
 rw[cH]at hc;rcases bR.1 hc with rfl|hc
 .intro b _ i;cases i
 grind
theorem afC{b:Type}{R:b->b->Prop}:∀{l:am b}{p:Nat}{y:b},l.Pairwise R->(∀(j) x,l[j]?=some x->j≠p->R x y/\R y x)->(l.set p y).Pairwise R
 |[],_,_,_,_=>ep
 |x::r,0,y,h,i=>by rw[List.set_cons_zero,bQ];rw[bQ]at h;refine⟨λa g=>?_,h.2⟩;obtain⟨j,o⟩:=cI.1 g;exact(i (j+1) a ek ej).2
 |x::r,p+1,y,h,i=>by
  rw[cB,bQ];rw[bQ]at h;refine⟨λa g=>?_,afC h.2 λj z o I=>i (j+1) z ek ej⟩;rcases List.mem_or_eq_of_mem_set g with g|rfl
  .grind
  exact(i 0 x rfl ej).1
theorem auy{a:Type}{R:a->a->Prop}(o:∀{x y},R x y->R y x){l:am a}(h:l.Pairwise R){i j:Nat}{x y}(p:l[i]?=some x)(r:l[j]?=some y)(g:i≠j):R x y:=by grind[List.pairwise_iff_getElem]
theorem GInv.addRow{P cap}(h:GInv A B W (.slice (some ⟨P,0,none⟩) gs.length cap) gs E){p}(hp:p<gs.length){x}{xv i}(hx:RD W E (.sl (rowD x)) xv){W1}
 (ab:W1.ownsRow B tR 1 i (gs[p].rows.length+1) (gs[p].rvs++[xv])) (T:W.grownBy W1 gs[p].rv.ownBlock) (hf:WJ W gs[p].rv i):
 GInv A B (W1.setCell ⟨P,2*p+1,none⟩ i) (.slice (some ⟨P,0,none⟩) gs.length cap) (gs.set p ⟨gs[p].key,gs[p].rows++[x],gs[p].kv,i,gs[p].rvs++[xv]⟩) E:=by
 have U:gs[p]∈gs:=bG hp;have ad:gs[p].rv.ownBlock≠some P:=h.apart _ U P rfl;have af:=(h.own.lt P rfl).2;have aa:W1.ownsRow B tG 2 (.slice (some ⟨P,0,none⟩) gs.length cap) gs.length (cellsG gs):=h.own.kept T (.inr λe=>ad e.symm);obtain⟨s1,s2⟩:=aa.stored (2*p+1) i;have hK:zP W (W1.setCell ⟨P,2*p+1,none⟩ i) E E:=λb I=>⟨I,by rw[s2.block b (bP (h.dlt b I) T.size) (λe=>h.vD b (Option.some.inj e▸rfl) I)];exact T.block b (h.dlt b I) λe=>h.rD _ U b e.symm I⟩
 have ae:i.ownBlock≠some P:=λe=>by rcases hf P e with h'|h'<;>grind
 have r:∀{Q:GW->Prop},(∀(j:Nat) g,gs[j]?=some g->j≠p->Q g)->Q ⟨gs[p].key,gs[p].rows++[x],gs[p].kv,i,gs[p].rvs++[xv]⟩->∀g∈(gs.set p ⟨gs[p].key,gs[p].rows++[x],gs[p].kv,i,gs[p].rvs++[xv]⟩),Q g:=λh1 h2 g hg=>by
  obtain⟨j,l⟩:=cI.1 hg;rw[am.getElem?_set]at l;split at l
  .grind
  rename_i e;exact h1 j g l (Ne.symm e)
 have mem:∀{j:Nat}{g:GW},gs[j]?=some g->g∈gs:=λl=>bT l
 have ac:∀{j:Nat}{g:GW},gs[j]?=some g->j≠p->∀b,g.rv.ownBlock=some b->gs[p].rv.ownBlock≠some b:=λl J=>
  auy (R:=λg h=>∀b,g.rv.ownBlock=some b->h.rv.ownBlock≠some b) (λh b h1 h2=>h b h2 h1) h.each l (am.getElem?_eq_getElem hp) J
 have o:∀{j:Nat}{g:GW},gs[j]?=some g->j≠p->∀b,g.rv.ownBlock=some b->i.ownBlock≠some b:=fun{j g} l J b I e=>by
  rcases hf b e with h'|h'
  .grind
  have:=((h.rows g (mem l)).1.lt b I).2;omega
 refine⟨λb I=>bP (bP (h.dlt b I) T.size) s2.size,h.dA,h.dB,?_,r (λj g l _=>cA hK _ _ (h.keys g (mem l))) (by have:=cA hK _ _ (h.keys _ U);exact this),
  r (λj g l J=>⟨?_,(h.rows g (mem l)).2.keep hK⟩) ⟨?_,((h.rows _ U).2.snoc hx).keep hK⟩,h.vD,r (λj g l _=>h.rD g (mem l)) (λb I he=>?_),r (λj g l _=>h.apart g (mem l)) (λb I e=>?_),?_⟩
 .have e:=awD hp ⟨gs[p].key,gs[p].rows++[x],gs[p].kv,i,gs[p].rvs++[xv]⟩ rfl;rw[List.length_set,<-e];exact s1
 .have h1:W1.ownsRow B tR 1 g.rv g.rows.length g.rvs:=(h.rows g (mem l)).1.kept T (by cases hv:g.rv.ownBlock<;>grind)
  refine h1.kept s2 ?_;cases hv:g.rv.ownBlock with
  |none=>grind
  |some b=>exact .inr λe=>h.apart g (mem l) P rfl (hv.trans e)
 .have e:(gs[p].rows++[x]).length=gs[p].rows.length+1:=ep
  rw[e];refine ab.kept s2 ?_<;>grind
 .rcases hf b I with h'|h'
  .exact h.rD _ U b h' he
  have:=h.dlt b he;omega
 .cases I;exact ae e
 exact afC h.each λj g l J=>⟨o l J,λb h1 h2=>o l J b h2 h1⟩
theorem afI{w}{ok:Nat->Prop}{b sz}:∀(l) (o:Nat),(∀(j) e,l[j]?=some e->e.length=sz/\RDc w ok b (o+j*sz) e)->RDs w ok b sz o l
 |[],_,_=>by grind[RDs]
 |e::r,o,h=>by have h0:=h 0 e rfl;refine⟨h0.1,by simpa using h0.2,afI r (o+sz) λj x g=>?_⟩;have:=h (j+1) x (by simpa using g);exact⟨this.1,by rw[show o+sz+j*sz=o+(j+1)*sz by rw[Nat.add_mul];omega];exact this.2⟩
theorem aAz{rows}{rvs}{rv}(I:W.ownsRow B tR 1 rv rows.length rvs)(hr:RVs W E rows rvs){ok:Nat->Prop}(T:∀b,E b->ok b)(hb:∀b,rv.ownBlock=some b->ok b):RD W ok (.sl (zd rows)) rv:=by
 have U:zP W W E ok:=λb h=>⟨T b h,rfl⟩
 rcases I.2 with⟨rfl,hn⟩|⟨g,cap,J,rfl,aa,hg,o,l,ab,p⟩
 .have:rows=[]:=bK hn;subst this;exact⟨none,0,0,rfl,rfl,bL _,bF _,.inl rfl⟩
 refine⟨_,_,_,rfl,by rw[zq],o,l,.inr ⟨g,0,1,rfl,hb g rfl,afI _ _ λj e i=>?_⟩⟩;simp only[zd,am.getElem?_map,bZ]at i;obtain⟨r,i,rfl⟩:=i;refine UP ?_;obtain⟨u,P,R⟩:=hr.2 j r i;refine⟨⟨u,?_,cA U _ _ R⟩,trivial⟩;have ac:j<rows.length:=(am.getElem?_eq_some_iff.1 i).1;rw[show 0+j*1=j by omega,I.cellAt j ej];exact P
theorem GInv.data(h:GInv A B W v gs E):RD W (λb=>(A b\/B<=b)/\b<W.heap.size) (.sl (gs.map λg=> [D.sl (rowD g.key),D.sl (zd g.rows)])) v:=by
 have hE:∀b,E b->(A b\/B<=b)/\b<W.heap.size:=λb i=>⟨h.dB b i,h.dlt b i⟩
 have hK:zP W W E (λb=>(A b\/B<=b)/\b<W.heap.size):=λb i=>⟨hE b i,rfl⟩
 have p:=h.own;rcases p.2 with⟨rfl,hn⟩|⟨g,cap,aa,rfl,r,hg,R,J,ab,T⟩
 .have:gs=[]:=bK hn;subst this;exact⟨none,0,0,rfl,rfl,bL _,bF _,.inl rfl⟩
 refine⟨_,_,_,rfl,ek,R,J,.inr ⟨g,0,2,rfl,⟨.inr r,(p.lt g rfl).2⟩,afI _ _ λj e l=>?_⟩⟩;simp only[am.getElem?_map,bZ]at l;obtain⟨x,l,rfl⟩:=l;refine UP ?_;obtain⟨P,U⟩:=am.getElem?_eq_some_iff.1 l;have o:=bT l;have I:=J8 P;rw[U]at I;refine⟨⟨x.kv,?_,cA hK _ _ (h.keys x o)⟩,⟨x.rv,?_,aAz (h.rows x o).1 (h.rows x o).2 hE λb i=>⟨.inr ((h.rows x o).1.lt b i).1,((h.rows x o).1.lt b i).2⟩⟩,trivial⟩
 .rw[show 0+j*2=2*j by omega,p.cellAt (2*j) ej];exact I.1
 rw[show 0+j*2+1=2*j+1 by omega,p.cellAt (2*j+1) ej];exact I.2
end
section
open Go Go.AM Go.Proofs Go.RowKit
theorem aDo{P}{k}{args}{d}(h:Sat P k args (λr=>r=rC (.d d)))(W)(A:Nat->Prop)(g)(hA:(∀b,A b->b<W.heap.size)/\Glb A W)(o:qN (λ_=>⟨none,0⟩) W A args g):
 Calls P k g.toArray W λe w'=>∃v,e=.returned v/\RD w' (λb=>(A b\/W.heap.size<=b)/\b<w'.heap.size) d v/\Grows (λ_=>False) W w':=by
 refine(h.2 W A g hA o).mono ?_;rintro e w' ⟨v,r,rfl,rfl,i,p⟩;refine⟨v,rfl,?_,p⟩;obtain⟨_,m,j,_⟩:=i;have j:RD w' (Fr.ok ⟨W,A,λ_=>False,λ_=>none⟩ m [] w') d v:=j;have hk:zP w' w' (Fr.ok ⟨W,A,λ_=>False,λ_=>none⟩ m [] w') (λb=>(A b\/W.heap.size<=b)/\b<w'.heap.size):=λb l=>⟨⟨by rcases l.1 with h|h|h<;>grind,l.2.1⟩,rfl⟩
 grind[cA]
theorem aAD{P}{k}{args}{x y}(h:Sat P k args (λr=>r=⟨.tup [.c (.d (.lit x)),.c (.d (.lit y))],[]⟩))(W)(A:Nat->Prop)(g)(hA:(∀b,A b->b<W.heap.size)/\Glb A W)(l:qN (λ_=>⟨none,0⟩) W A args g):
 Calls P k g.toArray W λe w'=>e=.returned (.tuple #[x,y])/\Grows (λ_=>False) W w':=by
 refine(h.2 W A g hA l).mono ?_;rintro e w' ⟨v,r,rfl,rfl,j,o⟩;refine⟨?_,o⟩;obtain⟨_,m,i,_⟩:=j;obtain⟨vs,rfl,i⟩:=i
 match vs,i with
 |[a,b],i=>
   have p:a=x:=by have:=i.1;grind[WR,CR,RD]
   have I:b=y:=by have:=i.2.1;grind[WR,CR,RD]
   grind
structure Gr where
 key:am Val
 rows:am (am Val)
def GW.gr(g:GW):Gr:=⟨g.key,g.rows⟩
def Gr.gp(g:Gr):Gp:=⟨g.key,.sl (zd g.rows)⟩
def GW.gp(g:GW):Gp:=⟨g.key,.lit g.rv⟩
def xl(gs:am Gr)(k):=XT (gs.map Gr.gp) k
def uN(gs)(k):=Yi (gs.map Gr.gp) k (xl gs k)
def YS(gs:am Gr)(p:Nat)(row:am Val):am Gr:=match gs[p]? with|some g=>gs.set p ⟨g.key,g.rows++[row]⟩|none=>gs
def vu(gs)(k):=bif uN gs k then gs else gs.take (xl gs k)++[⟨k,[]⟩]++gs.drop (xl gs k)
def ji(at_)(gs)(row):=YS (vu gs (pickL row at_)) (xl gs (pickL row at_)) row
def vO(at_:am Int)(rows:am (am Val)):=rows.foldl (ji at_) []
theorem auv{l l'}(h:l.map Gp.key=l'.map Gp.key)(k):wU l k=wU l' k:=by
 funext i;have e:(l[i]?).map Gp.key=(l'[i]?).map Gp.key:=by rw[<-am.getElem?_map,<-am.getElem?_map,h]
 grind[wU]
theorem axk{l l'}(h:l.map Gp.key=l'.map Gp.key)(k)(i):Yi l k i=Yi l' k i:=by
 have e:(l[i]?).map Gp.key=(l'[i]?).map Gp.key:=by rw[<-am.getElem?_map,<-am.getElem?_map,h]
 grind[Yi]
theorem axM{l l'}(h:l.map Gp.key=l'.map Gp.key)(k):XT l k=XT l' k:=by
 have g:l.length=l'.length:=by have:=aF List.length h;grind
 grind[XT,auv]
theorem avQ(gs:am GW)(k):XT (gs.map GW.gp) k=xl (gs.map GW.gr) k/\Yi (gs.map GW.gp) k (xl (gs.map GW.gr) k)=uN (gs.map GW.gr) k:=by
 have e:(gs.map GW.gp).map Gp.key=((gs.map GW.gr).map Gr.gp).map Gp.key:=by simp_all[GW.gp,Gr.gp,GW.gr]
 exact⟨axM e k,axk e k _⟩
theorem KA(gs)(k):xl gs k<=gs.length:=by have:=aC2 (gs.map Gr.gp) k;rwa[List.length_map]at this
theorem avy{gs}{k}(h:uN gs k=true):xl gs k<gs.length:=by grind[uN,Yi]
theorem arQ(gs)(k):gs.length<=(vu gs k).length/\(vu gs k).length<=gs.length+1/\xl gs k<(vu gs k).length:=by
 have g:=KA gs k;unfold vu;cases h:uN gs k
 .simp only[aA,bE,List.length_take,List.length_drop,List.length_singleton];omega
 simp_all[avy]
theorem ayW(gs)(p)(row):(YS gs p row).length=gs.length:=by grind[YS]
theorem acT(at_){rows:am (am Val)}{i}(h:i<rows.length):vO at_ (rows.take (i+1))=ji at_ (vO at_ (rows.take i)) rows[i]:=by grind[vO,zD]
theorem Kw(at_)(rows:am (am Val)):∀i,(vO at_ (rows.take i)).length<=i
 |0=>by simp[vO]
 |i+1=>by
  by_cases h:i<rows.length
  .rw[acT at_ h];unfold ji;rw[ayW];have:=(arQ (vO at_ (rows.take i)) (pickL rows[i] at_)).2.1;have:=Kw at_ rows i;omega
  have:=Kw at_ rows i;rw[bY ej]at this⊢;omega
def aqe(n p:Nat):=∀(w:World) (yS:Nat) (v:Value) (xs:am Value),w.ownsRow yS tG 2 v n xs->yS<=w.heap.size->(∀u∈xs,u.oneCell'=true)->
 ∀(g:Nat) (k r:Value),w.heap[g]?=some (.cells #[k,r] tG (0,0))->v.ownBlock≠some g->k.oneCell'=true->r.oneCell'=true->
  Calls Tryz.prog 259 #[v,.int .i64 p,.slice (some ⟨g,0,none⟩) 1 1] w λe w'=>∃v',e=.returned v'/\w'.ownsRow yS tG 2 v' (n+1) (xs.take (2*p)++[k,r]++xs.drop (2*p))/\w.grownBy w' v.ownBlock/\w.drawn<=w'.drawn/\WJ w v v'
theorem aFb{n}(l:n<=1000000):aqe n n:=by
 intro w yS v xs g j _ o k r i _ hk hr;have p:xs.length=2*n:=by rw[g.1];omega
 rw[bY ej,aB ej,List.append_nil];exact axn w yS v n xs g l j o 1 k r (by simp[World.cell?,i]) (by simp[World.cell?,i]) hk hr
variable {A:Nat->Prop}{B:Nat}{W:World}{v:Value}{gs:am GW}{E:Nat->Prop}
theorem GInv.search(h:GInv A B W v gs E)(hA:Glb A W)(hl:gs.length<=1000000){key:am Val}{kv}(o:RD W E (.sl (rowD key)) kv):
 Calls Tryz.prog 257 #[v,kv,.func (.func 258) #[] #[]] W λe w'=>e=.returned (.tuple #[.int .i64 (xl (gs.map GW.gr) key),.bool (uN (gs.map GW.gr) key)])/\Grows (λ_=>False) W w':=by
 have hs:=aiQ (gs.map GW.gp) key ek;rw[(avQ gs key).1,(avQ gs key).2]at hs
 let p:Nat->Prop:=λb=>E b\/v.ownBlock=some b
 have hK:zP W W E p:=λb i=>⟨.inl i,rfl⟩
 refine aAD hs W p [v,kv,.func (.func 258) #[] #[]] ⟨λb i=>?_,λk hk=>⟨.inl (h.dA _ (hA k hk).1),(hA k hk).2⟩⟩ ⟨?_,cA hK _ _ o,?_,trivial⟩
 .rcases i with i|i
  .exact h.dlt b i
  exact(h.own.lt b i).2
 .simp only[WR,CR,RD];have R:=h.own;rcases R.2 with⟨rfl,hn⟩|⟨g,cap,ab,rfl,ac,hg,P,I,ad,T⟩
  .have:gs=[]:=bK hn;subst this;exact⟨none,0,0,rfl,rfl,bL _,bF _,.inl rfl⟩
  refine⟨_,_,_,rfl,by grind[avu],P,I,.inr ⟨g,0,2,rfl,.inr rfl,afI _ _ λj e l=>?_⟩⟩;simp only[gpD,List.map_map,am.getElem?_map,bZ]at l;obtain⟨x,l,rfl⟩:=l;refine UP ?_;obtain⟨J,U⟩:=am.getElem?_eq_some_iff.1 l;have hx:=bT l;have r:=J8 J;rw[U]at r;show RDc W p g (0+j*2) [.sl (rowD x.key),.lit x.rv];simp only[RDc];have aa:x.rv.oneCell'=true:=by rcases(h.rows x hx).1.2 with⟨e,_⟩|⟨_,_,_,e,_⟩<;>rw[e]<;>rfl
  refine⟨⟨x.kv,?_,cA hK _ _ (h.keys x hx)⟩,⟨x.rv,?_,?_⟩,trivial⟩
  .rw[show 0+j*2=2*j by omega,R.cellAt (2*j) ej];exact r.1
  .rw[show 0+j*2+1=2*j+1 by omega,R.cellAt (2*j+1) ej];exact r.2
  grind[RD]
 simp only[WR,CR,RD,RDf];exact⟨[],rfl,rfl⟩
theorem aFp{w}{ok:Nat->Prop}{l}{v}(h:RD w ok (.sl l) v):v.oneCell'=true:=by simp only[RD]at h;obtain⟨a,n,c,rfl,_⟩:=h;rfl
theorem GInv.ones(h:GInv A B W v gs E):∀u∈cellsG gs,u.oneCell'=true:=by
 intro u g;simp only[cellsG,List.mem_flatMap]at g;obtain⟨x,i,g⟩:=g;simp only[bR,List.not_mem_nil,or_false]at g;rcases g with rfl|rfl
 .exact aFp (h.keys x i)
 rcases(h.rows x i).1.2 with⟨e,_⟩|⟨_,_,_,e,_⟩<;>rw[e]<;>rfl
end
end Go.Proofs.YtnlbmefhdiabcaaGreat
