import Derived.Test.YtkdijaiaplkliaaGreatDoorProg
import Derived.Lib.Strings
import Derived.Lib.Slices
import Derived.Lib.Walk
import Derived.Lib.Bytealg
import Derived.Lib.Mul64
import Derived.Lib.IndexMore
import Derived.Shelf.Strings.Search3
import Derived.Shelf.LaysM
import Derived.Ground.NamesProg
import Derived.WalkKit
import Derived.Laws.AppendOwn
import Derived.Laws.OwnMore
import Derived.Test.YtkdijaiaplkliaaGreatDoorZp7
set_option linter.unusedSimpArgs false
set_option linter.unusedVariables false
set_option maxRecDepth 100000
set_option maxHeartbeats 4000000
theorem Go.dU{p:Prop}(h:p:=by kernel_rfl):p:=h
open _root_ renaming List->am,cond_false->aA,cond_true->aB,congrArg->aF,Option->aH,decide_eq_false->aK,bne_self_eq_false->aN,of_decide_eq_false->aO,beq_self_eq_true->aT,of_decide_eq_true->aW,reduceCtorEq->bN,decide_eq_true->bQ,decide_eq_false_iff_not->bV,bne_eq_false_iff_eq->cw,beq_iff_eq->cE
open List renaming drop_eq_nil_of_le->aC,length_append->aM,getElem_mem->aR,eq_nil_of_length_eq_zero->aS,length_map->aU,take_of_length_le->bA,length_take->bO,mem_cons_self->bP,mem_of_getElem?->bR,pairwise_cons->bW,mem_cons->bX,sizeOf_lt_of_mem->bY,take_append_drop->bZ,length_singleton->b9,drop_eq_getElem_cons->cd,take_succ_eq_append_getElem->ck,mem_singleton->cz,set_cons_succ->cA,mem_or_eq_of_mem_set->cC,map_cons->cG,length_drop->cJ,singleton_append->cM,mem_iff_getElem?->cN,mem_of_mem_take->cP,mem_of_mem_drop->cR,pairwise_append->cS
open Go.IntKind renaming i64->aD,u64->bM,wrap_i64->cr
open Go renaming IntKind->aE,World->aI,heap_alloc_old->cg,Calls->cB
open Nat renaming eq_of_beq_eq_true->aG,lt_of_lt_of_le->aV,zero_le->aX,le_trans->bB,le_refl->bC,beq->bD,lt_of_le_of_lt->cj,le_of_ble_eq_true->cq
open Bool renaming false_eq_true->aJ,true_eq_false->aP,or_false->aQ,and_false->aZ,false_or->bE,true_and->bF,not_true->bG,false_and->bI,not_false->bJ,or_eq_true->bK,and_true->bL,or_eq_false_iff->bS,true_or->bT,or_true->bU
open Go.Op renaming bytesLess->aL
open Option renaming bind_eq_some_iff->aY,map_eq_some_iff->cm
open Go.AM.RD renaming keep->bH
open Go.World renaming ownsRow_nil->cD,grownBy_alloc->cU
open SizeOf renaming sizeOf->cH
open BitVec renaming ofInt->cK
open Go.Lib renaming half_mul_le->cL
open Go.ByteArray renaming toList_eq->cT
namespace Go.AM
mutual
def bnd:D->Prop
 |.lit _=>True
 |.sl l=>l.length<=9223372036854775807/\bnds l
 |.fn _ _=>True
 |.ifc _ l=>bndc l
 |.mp _ ks l=>ks.Nodup/\ks.length=l.length/\bnds l
def bnds:am (am D)->Prop
 |[]=>True
 |e::r=>bndc e/\bnds r
def bndc:am D->Prop
 |[]=>True
 |d::r=>bnd d/\bndc r
end
mutual
theorem amH{w:aI}{ok:Nat->Prop}:∀(d:D) (v:Value),RD w ok d v->bnd d
 |.lit _,_,_=>by simp only[bnd]
 |.sl l,v,h=>by
   simp only[RD]at h;obtain⟨a,n,c,J,j,P,i,g⟩:=h;simp only[bnd];refine⟨by rw[<-j];simp only[maxLen]at i;omega,?_⟩;rcases g with g|⟨b,o,sz,_,_,p⟩
   .subst g;simp only[bnds]
   exact RDs_bnd l b sz o p
 |.fn _ _,_,_=>by simp only[bnd]
 |.ifc t l,v,h=>by simp only[RD]at h;obtain⟨vs,_,j⟩:=h;simp only[bnd];exact RDv_bnd l vs j
 |.mp ag ks l,v,h=>by simp only[RD]at h;obtain⟨b,r,clock,_,_,_,i,g⟩:=h;obtain⟨p,I⟩:=RDe_bnd ag l r.toList g;simp only[bnd];exact⟨i.2.1,by rw[<-i.1,aU,p],I⟩
theorem RDe_bnd{w:aI}{ok:Nat->Prop}(ag:Bool):∀(l:am (am D)) (g:am MapEntry),RDe w ok ag g l->g.length=l.length/\bnds l
 |[],g,h=>by simp only[RDe]at h;subst h;simp only[bnds];exact⟨rfl,trivial⟩
 |e::r,g,h=>by simp only[RDe]at h;obtain⟨m,i,vs,rfl,_,j,o⟩:=h;obtain⟨p,I⟩:=RDe_bnd ag r i o;simp only[bnds];exact⟨by simp[p],RDv_bnd e vs j,I⟩
theorem RDv_bnd{w:aI}{ok:Nat->Prop}:∀(l:am D) (vs:am Value),RDv w ok vs l->bndc l
 |[],_,_=>by simp only[bndc]
 |d::r,vs,h=>by simp only[RDv]at h;simp only[bndc];obtain⟨v,g,_,i,j⟩:=h;exact⟨amH d v i,RDv_bnd r g j⟩
theorem RDs_bnd{w:aI}{ok:Nat->Prop}:∀(l:am (am D)) (b sz o:Nat),RDs w ok b sz o l->bnds l
 |[],_,_,_,_=>by simp only[bnds]
 |e::r,b,sz,o,h=>by simp only[RDs]at h;simp only[bnds];exact⟨RDc_bnd e b o h.2.1,RDs_bnd r b sz (o+sz) h.2.2⟩
theorem RDc_bnd{w:aI}{ok:Nat->Prop}:∀(l:am D) (b o:Nat),RDc w ok b o l->bndc l
 |[],_,_,_=>by simp only[bndc]
 |d::r,b,o,h=>by simp only[RDc]at h;simp only[bndc];obtain⟨⟨v,_,g⟩,i⟩:=h;exact⟨amH d v g,RDc_bnd r b (o+1) i⟩
end
theorem awC{l:am (am D)}:bnds l↔ ∀e∈l,bndc e:=by
 induction l with
 |nil=>simp[bnds]
 |cons x r g=>simp[bnds,g]
def Jy:C->Prop
 |.d x=>bnd x
 |.fp l=>bndc l
 |_=>True
def agb:W->Prop
 |.c x=>Jy x
 |.agg cs=>∀x∈cs,Jy x
theorem atG{ι:Nat->Gh}{w:aI}{ok:Nat->Prop}{c:C}{v:Value}(h:CR ι w ok c v):Jy c:=by
 cases c with
 |d x=>exact amH x v h
 |fp l=>obtain⟨b,o,_,_,h⟩:=h;exact RDc_bnd l b o h
 |_=>trivial
theorem aqD{ι:Nat->Gh}{w:aI}{ok:Nat->Prop}:∀{cs:am C}{vs:am Value},CRs ι w ok cs vs->∀c∈cs,Jy c
 |[],_,_,c,g=>by cases g
 |x::r,[],h,_,_=>h.elim
 |x::r,v::vs,h,c,g=>by
  rcases bX.1 g with rfl|g
  .exact atG h.1
  exact aqD h.2 c g
theorem aA2{ι:Nat->Gh}{w:aI}{ok:Nat->Prop}{x:W}{v:Value}(h:WR ι w ok x v):agb x:=by
 cases x with
 |c x=>exact atG h
 |agg cs=>obtain⟨vs,_,h⟩:=h;exact aqD h
theorem aqI{ι:Nat->Gh}{w:aI}{ok:Nat->Prop}:∀{xs:am W}{vs:am Value},qq ι w ok xs vs->∀x∈xs,agb x
 |[],_,_,c,g=>by cases g
 |x::r,[],h,_,_=>h.elim
 |x::r,v::vs,h,c,g=>by
  rcases bX.1 g with rfl|g
  .exact aA2 h.1
  exact aqI h.2 c g
theorem Vt{P:Program}{k:Nat}{args:am W}{Q:Res->Prop}(hk:xZ P k=true)(h:(∀x∈args,agb x)->Sat P k args Q):Sat P k args Q:=
 ⟨hk,λw A vals hA g=>(h (aqI g)).2 w A vals hA g⟩
theorem vI{P:Program}{k:Nat}{args:am W}{Q:Res->Prop}(i:Nat){l:am (am D)}(hk:xZ P k=true)(hi:args[i]?=some (.c (.d (.sl l))))(h:l.length<=9223372036854775807->Sat P k args Q):Sat P k args Q:=
 Vt hk λg=>h (by have:=g _ (bR hi);simp only[agb,Jy,bnd]at this;exact this.1)
theorem zB{i:Nat}{n:Nat}(h:i<n)(g:n<=9223372036854775807):aD.wrap ((i:Int)+1)=((i+1:Nat):Int):=by rw[cr];omega
theorem yf{n:Int}(g: -9223372036854775808<=n)(i:n<=9223372036854775807):aD.wrap n=n:=by rw[cr];omega
noncomputable def andR(l:am Prop)(K:Prop):Prop:=List.rec (motive:=λ_=>Prop) K (λp _ g=>p/\g) l
theorem aqL:∀(l:am Prop) (K:Prop),andR l K=jO l K
 |[],_=>rfl
 |p::r,K=>by show(p/\andR r K)=(p/\jO r K);rw[aqL r K]
noncomputable def forceN(l:am Nat)(K:am Nat->Prop):Prop:=List.rec (motive:=λ_=>(am Nat->Prop)->Prop) (λK=>K []) (λx _ g K=>g (λr=>K (x::r))) l K
theorem akC:∀(l:am Nat) (K:am Nat->Prop),forceN l K=K l
 |[],_=>rfl
 |x::r,K=>akC r λr=>K (x::r)
noncomputable def aCallR(P:Program)(dst:aH Nat)(f:FuncId)(args:am W)(s:S)(K:S->Prop):Prop:=
 forceN (uH s.pl [] (YJ args)) λU=>
  zA P f (args.map (W.pk s.pl U)) (u9 s.pl U 0 U) λr=>cond (Jq U (X0 dst U) r) (K (ae1 s U (X0 dst U) dst r)) False
noncomputable def aopR(P:Program)(dst:aH Tmp)(op:AOp)(s:S)(K:S->Prop):Prop:=
 match op with
 |.callh f args=>aCallR P dst f (args.map s.ow) s K
 |op=>zK P dst op s K
theorem azH(P:Program):aopR P=zK P:=by
 funext dst op s K;cases op<;>try rfl
 simp_all[aopR,zK,aCallR,ahk,akC]
noncomputable def opsG(ap:aH Tmp->AOp->S->(S->Prop)->Prop)(f:FuncId->am W->aH W)(n:Nat):am AI->S->(S->Prop)->Prop:=
 Nat.rec (motive:=λ_=>am AI->S->(S->Prop)->Prop) (λ_ _ _=>False) (λ_ j ops s K=>match ops with
  |[]=>K s
  |.mk dst g p op drop::r=>
    match g with
    |none=>match dst with
     |none=>ap none op s λl=>xN (l.drop drop) λi=>j r i K
     |some d=>KO f op s (ap (some d) op s λl=>split p (some d) l λi=>xN (i.drop drop) λi=>j r i K) λI v=>
      bif p then
       xN (s.put (some d) v) λl=>scK f 100 none (some d) drop r l (andR I (split true (some d) l λi=>xN (i.drop drop) λi=>j r i K)) λJ i P=>
        andR I (andR J (j P i K))
      else andR I (xN ((s.put (some d) v).drop drop) λi=>j r i K)
    |some (d,o)=>match s.tmp d with
     |.w (.c (.d (.lit (.bool b))))=>
       bif (bif b then o else !o)then ap dst op s λl=>split p dst l λi=>xN (i.drop drop) λi=>j r i K
       else xN ((s.put dst qO).drop drop) λs=>j r s K
     |.tup []=>xN ((s.put dst qO).drop drop) λs=>j r s K
     |_=>False) n
theorem arn(P:Program)(f:FuncId->am W->aH W):∀n,opsG (zK P) f n=qz P f n
 |0=>by funext ops s K;unfold qz;rfl
 |n+1=>by
  funext ops s K;have j:=arn P f n;cases ops with
  |nil=>unfold qz;rfl
  |cons i r=>
   obtain⟨dst,g,l,op,drop⟩:=i;unfold qz;rw[<-j];simp only[<-aqL];rfl
noncomputable def opsR(P:Program)(f:FuncId->am W->aH W)(n:Nat):am AI->S->(S->Prop)->Prop:=opsG (aopR P) f n
theorem aro(P:Program)(f:FuncId->am W->aH W)(n:Nat):opsR P f n=qz P f n:=by grind[opsR,azH,arn]
noncomputable def mwtrR(P:Program)(f:FuncId->am W->aH W)(t:ATr):S->(S->Prop)->Prop:=
 ATr.rec (motive:=λ_=>S->(S->Prop)->Prop) (λs K=>K s) (λops _ i s K=>opsR P f 1000 ops s λj=>i j K) (λ_ _ ia g s K=>ia s K/\g s K) t
theorem abw(P:Program)(f:FuncId->am W->aH W):∀t,mwtrR P f t=gj P f t
 |.fin=>rfl
 |.run ops t=>by funext s K;unfold gj;rw[<-abw P f t,<-aro];rfl
 |.br a b=>by funext s K;unfold gj;rw[<-abw P f a,<-abw P f b];rfl
noncomputable def mwpR(P:Program)(f:FuncId->am W->aH W)(c:ACode):(E->S->Prop)->S->Prop:=
 ACode.rec (motive:=λ_=>(E->S->Prop)->S->Prop)
  (λQ s=>Q .normal s)
  (λops Q s=>opsR P f 1000 ops s (Q .normal))
  (λ_ _ ia g Q s=>ia (Wz g Q) s)
  (λc _ _ ia g Q s=>match yL (s.o c)with
   |some t=>cond t (ia Q s) (g Q s)
   |none=>False)
  (λid _ ia Q s=>ia (ZF id Q) s)
  (λj _ g Q s=>zX g j Q s)
  (λ_ ia Q s=>ia Q s)
  (λi Q s=>Q (.exit i) s)
  (λQ s=>Q .ret s)
  (λt Q s=>mwtrR P f t s (Q .normal)) c
theorem ZT(P:Program)(f:FuncId->am W->aH W):∀c,mwpR P f c=ZL P f c
 |.skip=>by funext Q s;unfold ZL;rfl
 |.reg ops=>by funext Q s;unfold ZL;rw[<-aro];rfl
 |.seq a b=>by funext Q s;unfold ZL;rw[<-ZT P f a,<-ZT P f b];rfl
 |.cond c a b=>by funext Q s;unfold ZL;rw[<-ZT P f a,<-ZT P f b];rfl
 |.block i a=>by funext Q s;unfold ZL;rw[<-ZT P f a];rfl
 |.loop k b=>by funext Q s;unfold ZL;rw[<-ZT P f b];rfl
 |.scope a=>by funext Q s;unfold ZL;rw[<-ZT P f a];rfl
 |.exit i=>by funext Q s;unfold ZL;rfl
 |.ret=>by funext Q s;unfold ZL;rfl
 |.tree t=>by funext Q s;unfold ZL;rw[<-abw];rfl
noncomputable def wpF(P:Program)(f:FuncId->am W->aH W)(F:AFun)(args:am W)(Q:Res->Prop):Prop:=
 xN ⟨ZJ 0 args,[]⟩ λs=>mwpR P f F.code (ZZ F.res [] Q) s
noncomputable def wpFH(P:Program)(f:FuncId->am W->aH W)(F:AFun)(args:am W)(hs:am Pl)(Q:Res->Prop):Prop:=
 xN ⟨ZJ 0 (args.map (W.ren ((jy 100000 hs).map some))),Zw 100000 (hs.map (Pl.ren ((jy 100000 hs).map some)))⟩ λs=>
  mwpR P f F.code (ZZ F.res (jy 100000 hs) Q) s
theorem yA{P:Program}{k:Nat}{ords:am (Nat×am Nat)}{A:AFun}{args:am W}{Q:Res->Prop}(T:Tab P)(g:cFun P ords k=some A.erase)(i:xZ P k=true)(h:wpF P T.f A args Q):Sat P k args Q:=by refine apJ T g i ?_<;>simp_all[wpF,axS,ZT]
theorem qe{P:Program}{k:Nat}{ords:am (Nat×am Nat)}{A:AFun}{args:am W}{hs:am Pl}{Q:Res->Prop}(T:Tab P)(g:cFun P ords k=some A.erase)(i:xZ P k=true)(j:hs.length<=1000)(h:wpFH P T.f A args hs Q):zA P k args hs Q:=by refine alu T g i j ?_<;>simp_all[wpFH,asK,ZT]
theorem Ue{P:Program}{f:FuncId->am W->aH W}(c:ACode){Q Q':E->S->Prop}(g:∀e s,Q e s->Q' e s)(s:S):mwpR P f c Q s->mwpR P f c Q' s:=by rw[ZT];grind[YE]
theorem yq{P:Program}{f:FuncId->am W->aH W}{body:ACode}{g:am Nat}{Q:E->S->Prop}{s:S}{ι:Type}(σ:ι->S)(μ:ι->Nat)(R:ι->Prop)(h0:∃i,R i/\y8 s g (· =σ i))
 (l:∀i,R i->mwpR P f body (K9 (λo=>∃j,(R j/\μ j<μ i)/\y8 o g (· =σ j)) Q) (σ i)):zX (mwpR P f body) g Q s:=
 axI (Ue body) σ μ R h0 l
theorem yy{P:Program}{f:FuncId->am W->aH W}{body:ACode}{g:am Nat}{Q:E->S->Prop}{s:S}(n:Nat)(σ:Nat->S)(R:Nat->Prop)(h0:R 0/\y8 s g (· =σ 0))
 (J:∀i,i<=n->R i->mwpR P f body (K9 (λj=>i<n/\R (i+1)/\y8 j g (· =σ (i+1))) Q) (σ i)):zX (mwpR P f body) g Q s:=by
 refine yq σ (λi=>n-i) (λi=>i<=n/\R i) ⟨0,⟨aX _,h0.1⟩,h0.2⟩ ?_;rintro i ⟨l,o⟩;refine Ue body (λe j h=>?_) _ (J i l o);cases e with
 |normal=>
  obtain⟨p,r,I⟩:=h;exact⟨i+1,⟨⟨p,r⟩,d8⟩,I⟩
 |exit k=>exact h
 |ret=>exact h
def ajf:am Nat->am Nat->am Nat
 |[],b=>b
 |x::r,b=>x::ajf r b
def jT(b:am Nat):am Nat->am Nat
 |[]=> []
 |x::r=>bif isin x b then jT b r else x::jT b r
def gB(a b:am Nat):am Nat:=ajf a (jT a b)
def fL{α:Type}:am Nat->(am Nat->α)->α
 |[],K=>K []
 |x::r,K=>fL r λs=>K (x::s)
def YT:O->am Nat->am Nat
 |.t n,l=>n::l
 |.k _,l=>l
def atA:am O->am Nat->am Nat
 |[],l=>l
 |x::r,l=>YT x (atA r l)
def aBX:aH O->am Nat->am Nat
 |some x,l=>YT x l
 |none,l=>l
def aBY:am (Nat×Nat×O)->am Nat->am Nat
 |[],l=>l
 |x::r,l=>YT x.2.2 (aBY r l)
def atz:am Operand->am Nat
 |[]=> []
 |.tmp t::r=>t::atz r
 |_::r=>atz r
def usA:AOp->am Nat
 |.cap x|.clr _ _ x|.slen x|.bnot x|.ineg x|.conv _ x|.mov x|.bx x|.ld _ _ x|.nc x|.b2s x|.s2b x|.fa _ x|.fld _ _ _ x|.ext x _|.len x|.isn _ x=>YT x []
 |.pick a b c|.mmt _ a b c=>YT a (YT b (YT c []))
 |.alloc _=> []
 |.build _ g=>aBY g []
 |.lits _ g=>atA g []
 |.st _ a x=>YT a (YT x [])
 |.clo _ l|.clof _ l|.callh _ l|.call _ l=>atA l []
 |.eqa _ _ a b|.beq _ a b|.shf _ a b|.cpy _ a b|.ia _ a b|.six a b|.app _ _ a b|.appz _ _ _ a b|.apps a b|.bin _ a b|.mm _ a b|.mk _ _ _ a b=>YT a (YT b [])
 |.stop=> []
 |.sli _ x a b|.slw _ x a b|.sls x a b=>YT x (aBX a (aBX b []))
 |.pure o _=>atz o.operands.toList
 |.calv x l|.inv _ x l=>YT x (atA l [])
 |.mki _ x|.ast _ _ x=>YT x []
 |.mkm _=> []
 |.lku _ _ _ _ x i=>YT x (YT i [])
 |.mup _ _ m k v=>YT m (YT k (YT v []))
 |.rng x=>YT x []
 |.nxt x=>YT x []
 |.ent x=>YT x []
def asQ:aH Nat->am Nat
 |some d=> [d]
 |none=> []
def aCG:aH (Nat×Bool)->am Nat
 |some x=> [x.1]
 |none=> []
def ar6{α:Type}(out:am Nat):am AI->(am AI->am Nat->α)->α
 |[],K=>K [] out
 |.mk d g i op _::r,K=>ar6 out r λxs l=>fL (gB (jT (asQ d) l) (ajf (usA op) (aCG g))) λj=>K (.mk d g i op l::xs) j
def asr{α:Type}(i:am Nat):am AI->(am AI->am Nat->α)->α
 |[],K=>K [] i
 |.mk d g j op l::r,K=>fL (gB i (asQ d)) λo=>fL (jT l o) λp=>fL (jT p o) λI=>asr I r λxs e=>K (.mk d g j op p::xs) e
def eqO(d:Nat):aH Nat->Bool
 |some e=>bD e d
 |none=>false
def azv(d:Nat):am AI->am AI->am AI
 |[],j=>j
 |.mk e g i o l::r,j=>bif eqO d e then j else azv d r (.mk e g i o l::j)
def ash{α:Type}:am AI->am Nat->am Nat->(am Nat->am Nat->α)->α
 |[],U,c,K=>K U c
 |.mk e g _ _ i::r,U,c,K=>match g with
   |some q=>bif isin q.1 U then ash r (ajf (asQ e) U) (ajf (asQ e) (ajf i c)) K else ash r U c K
   |none=>ash r U c K
def awO:am Nat->am Nat
 |[]=> []
 |x::r=>bif isin x r then awO r else x::awO r
def aCo:am Nat->Bool
 |_::_::_=>true
 |_=>false
def asn{α:Type}:am AI->am AI->(am AI->am AI->α)->α
 |i,[],K=>K [] i
 |i,.mk dst g j op drop::r,K=>
  match op with
  |.pick (.t d) _ _=>ash (azv d i []) [d] [] λU col=>fL (bif aCo U then gB drop (gB (awO col) [d])else drop) λl=>asn (.mk dst g j op l::i) r λxs a=>K (.mk dst g j op l::xs) a
  |_=>asn (.mk dst g j op drop::i) r λxs a=>K (.mk dst g j op drop::xs) a
def bwT{α:Type}(out:am Nat):ATr->(ATr->am Nat->α)->α
 |.fin,K=>K .fin out
 |.run ops t,K=>bwT out t λt2 l=>ar6 l ops λxs g=>K (.run xs t2) g
 |.br a b,K=>bwT out a λx i=>bwT out b λy j=>fL (gB i j) λl=>K (.br x y) l
def fwT{α:Type}:ATr->am Nat->am AI->(ATr->am Nat->α)->α
 |.fin,d,_,K=>K .fin d
 |.run ops t,d,g,K=>asr d ops λxs j=>asn g xs λys i=>fwT t j i λt2 l=>K (.run ys t2) l
 |.br a b,d,g,K=>fwT a d g λx j=>fwT b d g λy l=>fL (gB j l) λe=>K (.br x y) e
def aA7(i:Nat):am (Nat×am Nat)->am Nat
 |[]=> []
 |(j,l)::r=>bif bD j i then l else aA7 i r
def bwC{α:Type}:ACode->am (am Nat)->am (Nat×am Nat)->am Nat->am Nat->(ACode->am Nat->am (am Nat)->α)->α
 |.skip,ks,_,_,out,K=>K .skip out ks
 |.reg ops,ks,_,_,out,K=>ar6 out ops λxs l=>K (.reg xs) l ks
 |.seq a b,ks,k,r,out,K=>bwC b ks k r out λy l ks=>bwC a ks k r l λx g ks=>K (.seq x y) g ks
 |.cond c a b,ks,k,r,out,K=>bwC b ks k r out λy o ks=>bwC a ks k r out λx j ks=>fL (YT c (gB j o)) λl=>K (.cond c x y) l ks
 |.block i a,ks,k,r,out,K=>bwC a ks ((i,out)::k) r out λx l ks=>K (.block i x) l ks
 |.loop _ a,ks,k,r,_,K=>match ks with
   |q::ks=>bwC a ks k r q λx _ ks=>K (.loop q x) q ks
   |[]=>K .skip [] []
 |.scope a,ks,k,r,out,K=>bwC a ks k r out λx l ks=>K (.scope x) l ks
 |.exit i,ks,k,_,_,K=>fL (aA7 i k) λl=>K (.exit i) l ks
 |.ret,ks,_,r,_,K=>K .ret r ks
 |.tree t,ks,_,_,out,K=>bwT out t λx l=>K (.tree x) l ks
def fwC{α:Type}:ACode->am Nat->(ACode->am Nat->α)->α
 |.skip,d,K=>K .skip d
 |.reg ops,d,K=>asr d ops λxs g=>asn [] xs λys _=>K (.reg ys) g
 |.seq a b,d,K=>fwC a d λx g=>fwC b g λy j=>K (.seq x y) j
 |.cond c a b,d,K=>fwC a d λx g=>fwC b d λy j=>fL (gB g j) λe=>K (.cond c x y) e
 |.block i a,d,K=>fwC a d λx g=>fL (gB g d) λe=>K (.block i x) e
 |.loop q a,d,K=>fwC a q λx g=>fL (gB g q) λe=>K (.loop q x) e
 |.scope a,d,K=>fwC a d λx g=>K (.scope x) g
 |.exit i,d,K=>K (.exit i) d
 |.ret,d,K=>K .ret d
 |.tree t,d,K=>fwT t d [] λx g=>K (.tree x) g
def ayg:am ARes->am Nat
 |[]=> []
 |.tmp t::r=>t::ayg r
 |.cell a _ _::r=>a::ayg r
def azm(P:Program):am Field->aH (am Nat)
 |[]=>some []
 |f::r=>match aeI P f.type,azm P r with
  |some k,some l=>some (k::l)
  |_,_=>none
def aBh(P:Program)(t:TypeId):aH (am Nat):=match P.underlying t with
 |some (.struct g)=>azm P g.toList
 |_=>none
def aCE(P:Program)(op:Op)(ty:TypeId):aH AOp:=match op with
 |.binOp b t x y _=>match aar P b t y with
   |some neg=>some (.isn neg (cO x))
   |none=>match aBh P t with
    |some n=>match b with
     |.eql=>some (.eqa false n (cO x) (cO y))
     |.neq=>some (.eqa true n (cO x) (cO y))
     |_=>none
    |none=>match U2 P b t x y with
     |some z=>some z
     |none=>bif abJ b&&aeL P t then some (.bin b (cO x) (cO y))else some (.pure op ty)
 |op=>cOp P op ty
def amr(P:Program)(hs:am Nat)(all:am Oper)(gs:am Nat):am Nat->aH (am AI)
 |[]=>some []
 |i::r=>match all[i]? with
  |some o=>match(bif isin i hs then awE P o.op o.type else aCE P o.op o.type),Yk all o.guard,amr P hs all gs r with
   |some x,some g,some l=>some (.mk o.dst g (isin i gs) x []::l)
   |_,_,_=>none
  |none=>none
def ahs(P:Program)(hs:am Nat)(all:am Oper)(gs:am Nat):Tr->aH ATr
 |.fin=>some .fin
 |.run l t=>match amr P hs all gs l,ahs P hs all gs t with
   |some x,some y=>some (.run x y)
   |_,_=>none
 |.br a b=>match ahs P hs all gs a,ahs P hs all gs b with
   |some x,some y=>some (.br x y)
   |_,_=>none
def aB4(P:Program)(N:Nat)(ords:am (Nat×am Nat))(id:Nat)(ops:am Oper):Bool->aH ACode
 |false=>(amr P (vZ ords id) ops (jj ops) (zY 0 ops.length)).map .reg
 |true=>match aget ords (2000000+id)with
  |some l=>match ans 300 l with
   |some (t,_)=>(ahs P (vZ ords id) ops (jj ops) t).map .tree
   |none=>none
  |none=>match aget ords id with
   |some g=>(amr P (vZ ords id) ops (jj ops) g).map .reg
   |none=>none
def VW(P:Program)(N:Nat)(ords:am (Nat×am Nat)):Code->aH ACode
 |.skip=>some .skip
 |.region id ops d=>aB4 P N ords id ops.toList d
 |.seq a b=>match VW P N ords a,VW P N ords b with
   |some x,some y=>some (.seq x y)
   |_,_=>none
 |.cond c a b=>match VW P N ords a,VW P N ords b with
   |some x,some y=>some (.cond (cO c) x y)
   |_,_=>none
 |.block i a=>(VW P N ords a).map (.block i)
 |.loop a=>(VW P N ords a).map (.loop [])
 |.scope a=>(VW P N ords a).map .scope
 |.label _=>some .skip
 |.exit i=>some (.exit i)
 |.ret=>some .ret
 |_=>none
def aCD(P:Program)(ords:am (Nat×am Nat))(ks:am (am Nat))(k:Nat):aH AFun:=match P.funcs[k]? with
 |some fn=>match fn.body with
  |some c=>match VW P fn.ntmps ords c,acX P fn.results.toList with
   |some x,some r=>bwC x ks [] (ayg r) [] λy _ _=>fwC y (zY 0 (fn.params.size+fn.nfree)) λz _=>some ⟨z,r⟩
   |_,_=>none
  |none=>none
 |none=>none
structure CC(P:Program)(k:Nat) where
 o:am (Nat×am Nat)
 A:AFun
 ok:cFun P o k=some A.erase
theorem u8r(n:Nat)(h:n<256):UInt8.ofBitVec (BitVec.ofFin ⟨n,h⟩)=UInt8.ofNat n:=by apply UInt8.toNat_inj.1;show n=(OfNat.ofNat n:UInt8).toNat;rw[UInt8.toNat_ofNat];exact(Nat.mod_eq_of_lt h).symm
theorem amk{α:Type}(l:am α):Array.mk l=l.toArray:=rfl
def ev{α:Type}(x:α){y:α}(h:x=y:=by conv=>lhs;reduce;simp only[u8r,amk,UInt8.reduceOfNat,Int.reduceOfNat,Int.reduceNegSucc]):{y:α //x=y}:=⟨y,h⟩
def Q5:ACode->am ACode->am ACode
 |.seq a b,l=>Q5 b (Q5 a l)
 |.cond _ a b,l=>Q5 b (Q5 a l)
 |.block _ a,l=>Q5 a l
 |.loop _ a,l=>a::Q5 a l
 |.scope a,l=>Q5 a l
 |_,l=>l
def aBA:Nat->am ACode->ACode
 |_,[]=>.skip
 |0,x::_=>x
 |n+1,_::r=>aBA n r
def aBt:am ACode->Nat
 |[]=>0
 |_::r=>aBt r+1
def CC.l{P:Program}{k:Nat}(c:CC P k)(n:Nat):ACode:=aBA (aBt (Q5 c.A.code [])-1-n) (Q5 c.A.code [])
theorem Sat.w{P:Program}{k:Nat}{args:am W}{R:Res}{Q:Res->Prop}{p g:Prop}(h:Sat P k args (λr=>r=R))(l:p)(j:Sat P k args Q=g:=by(conv=>rhs;whnf)<;>exact rfl)(i:Q R=p:=by(conv=>lhs;whnf)<;>exact rfl):g:=by subst i j;exact h.mono λ_ e=>d9
theorem zj{b:Bool}{p q g:Prop}(i:b=true->p)(j:b=false->q)(e:cond b p q=g:=by(conv=>rhs;whnf)<;>exact rfl):g:=d9
theorem Sat.cal{P:Program}{k:Nat}{args:am W}{R:Res}{Q:Res->Prop}(h:Sat P k args (λr=>r=R))(g:Q R):Sat P k args Q:=h.mono λ_ e=>d9
theorem CC.s{P:Program}{k:Nat}(c:CC P k)(T:Tab P){args:am W}{Q:Res->Prop}{p:Prop}(h:p)(e:wpF P T.f c.A args Q=p:=by(conv=>lhs;whnf)<;>exact rfl)(g:xZ P k=true:=by kernel_rfl):Sat P k args Q:=yA T c.ok g (e▸h)
theorem yb{B g:Prop}{n:Int}{l:am (am D)}{sz:Nat}{y:am D}{K:am D->Prop}{p:Prop}(j:B)(o:p)(e:(0<=n/\∃y,l[n.toNat]?=some y/\y.length=sz/\K y)=g:=by(conv=>rhs;whnf)<;>exact rfl)(hB:B=(l[n.toNat]?=some y):=by exact rfl)(hA:0<=n:=by omega)(hC:y.length=sz:=by exact rfl)(i:K y=p:=by(conv=>lhs;whnf)<;>exact rfl):g:=by subst e i;exact⟨hA,y,hB▸j,hC,o⟩
theorem vt{g:Prop}{n:Int}{l:am (am D)}{sz:Nat}{y:am D}{K:am D->Prop}{p:Prop}(j:p)(e:(0<=n/\∃y,l[n.toNat]?=some y/\y.length=sz/\K y)=g:=by(conv=>rhs;whnf)<;>exact rfl)(hB:l[n.toNat]?=some y:=by exact rfl)(hA:0<=n:=by omega)(hC:y.length=sz:=by exact rfl)(i:K y=p:=by(conv=>lhs;whnf)<;>exact rfl):g:=by subst e i;exact⟨hA,y,hB,hC,j⟩
theorem qr{A B C K g p:Prop}(j:p)(e:(A/\B/\C/\K)=g:=by(conv=>rhs;whnf)<;>exact rfl)(hA:A:=by simp)(hB:B:=by unfold yz;simp;omega)(hC:C:=by simp;omega)(i:K=p:=by(conv=>lhs;whnf)<;>exact rfl):g:=by subst e i;exact⟨hA,hB,hC,j⟩
theorem qa{A B K g p:Prop}(j:p)(e:(A/\B/\K)=g:=by(conv=>rhs;whnf)<;>exact rfl)(hA:A:=by omega)(hB:B:=by omega)(i:K=p:=by(conv=>lhs;whnf)<;>exact rfl):g:=by subst e i;exact⟨hA,hB,j⟩
theorem gJ{A K g p:Prop}(j:p)(e:(A/\K)=g:=by(conv=>rhs;whnf)<;>exact rfl)(hA:A:=by first|exact rfl|omega)(i:K=p:=by(conv=>lhs;whnf)<;>exact rfl):g:=by subst e i;exact⟨hA,j⟩
theorem ow{α:Type}{A K:α->Prop}{y:α}{g p:Prop}(j:p)(e:(∃y,A y/\K y)=g:=by(conv=>rhs;whnf)<;>exact rfl)(hA:A y:=by exact rfl)(i:K y=p:=by(conv=>lhs;whnf)<;>exact rfl):g:=by subst e i;exact⟨y,hA,j⟩
theorem yW{A B g p:Prop}{s:S}{i:am Nat}{I:S->Prop}(hA:A)(hB:B)(l:p)(e:(A/\B/\y8 s i I)=g:=by(conv=>rhs;whnf)<;>exact rfl)(j:Jd s i I=p:=by(conv=>lhs;whnf)<;>exact rfl):g:=by subst e j;exact⟨hA,hB,ze l⟩
theorem Uc{P:Program}(T:Tab P)(body:ACode)(n:Nat)(σ:Nat->S)(R:Nat->Prop){j:am Nat}{Q:E->S->Prop}{s:S}{g:Prop}
 (l:∀i,i<=n->R i->mwpR P T.f body (K9 (λp=>i<n/\R (i+1)/\y8 p j (· =σ (i+1))) Q) (σ i)) (e:zX (mwpR P T.f body) j Q s=g:=by(conv=>rhs;whnf)<;>exact rfl) (h0:R 0:=by first|exact trivial|exact rfl) (o:Jd s j (· =σ 0):=by(conv=>whnf)<;>exact rfl):g:=by subst e;exact yy n σ R ⟨h0,ze o⟩ l
theorem uT{i n:Nat}{p q g:Prop}(j:i<n->p)(l:n<=i->q)(e:cond (decide ((i:Int)<(n:Int))) p q=g:=by(conv=>rhs;whnf)<;>exact rfl):g:=by
 subst e;cases h:decide ((i:Int)<(n:Int))
 .exact l (by have:=aO h;omega)
 exact j (by have:=aW h;omega)
theorem rgE{i n:Nat}{p q g:Prop}(j:i<n->p)(l:i=n->q)(e:cond (decide ((i:Int)<(n:Int))) p q=g:=by(conv=>rhs;whnf)<;>exact rfl)(hi:i<=n:=by omega):g:=
 uT j (λh=>l (Nat.le_antisymm hi h)) e
end Go.AM
namespace Go.Proofs.YtkdijaiaplkliaaGreatDoor
open Go Go.AM
noncomputable abbrev Pg:Program:=Tryz.prog
abbrev dY(k:Nat)(a:List W)(x:Res):Prop:=Sat Pg k a λr=>r=x
def u0:Nat:=4
def ux:Nat:=5
def wB:Nat:=7
def alN:Nat:=9
def jz:Nat:=10
def Zk:Nat:=11
def vW:Nat:=12
def an4:Nat:=13
def jm:Nat:=14
def JZ:Nat:=15
def ZR:Nat:=16
def jA:Nat:=17
def Zl:Nat:=18
def alP:Nat:=19
def ajp:Nat:=20
def afE:Nat:=21
def ap8:Nat:=22
def agw:Nat:=23
def Yx:Nat:=24
def anZ:Nat:=25
def ajq:Nat:=26
def uQ:Nat:=27
def Zu:Nat:=28
def xP:Nat:=29
def vE:Nat:=30
def wK:Nat:=31
def gc:Nat:=32
def alR:Nat:=33
def zQ:Nat:=34
def wg:Nat:=35
def ahZ:Nat:=36
def kY:Nat:=37
def VH:Nat:=38
def k7:Nat:=39
def adu:Nat:=40
def adt:Nat:=41
def k9:Nat:=42
def J3:Nat:=43
def aao:Nat:=44
def x8:Nat:=45
def acn:Nat:=46
def Jc:Nat:=47
def Y5:Nat:=48
def QI:Nat:=49
def wJ:Nat:=50
def QH:Nat:=51
def Wl:Nat:=52
def acm:Nat:=53
def ajs:Nat:=54
def QJ:Nat:=55
def wS:Nat:=56
def acr:Nat:=57
def aaa:Nat:=58
def alQ:Nat:=59
def acu:Nat:=60
def alS:Nat:=61
def US:Nat:=62
def J4:Nat:=63
def ah3:Nat:=64
def Ub:Nat:=65
def uf:Nat:=66
def aap:Nat:=67
def V9:Nat:=68
def WO:Nat:=69
def vX:Nat:=70
def an3:Nat:=71
def XI:Nat:=72
def Z8:Nat:=73
def aag:Nat:=74
def ads:Nat:=75
def an1:Nat:=76
def aco:Nat:=77
def alL:Nat:=78
def ap6:Nat:=79
def alO:Nat:=80
def kZ:Nat:=81
def aai:Nat:=82
def asF:Nat:=83
def Wm:Nat:=84
def ahX:Nat:=85
def aaj:Nat:=86
def ap5:Nat:=87
def Ua:Nat:=88
def afo:Nat:=89
def Ya:Nat:=90
def ah2:Nat:=91
def agy:Nat:=92
def ah1:Nat:=93
def abp:Nat:=94
def aac:Nat:=95
def Xo:Nat:=96
def Xm:Nat:=97
def Zq:Nat:=98
def jg:Nat:=99
def UO:Nat:=100
def WH:Nat:=101
def Xn:Nat:=102
def K5:Nat:=103
def WN:Nat:=104
def acq:Nat:=105
def acp:Nat:=106
def aju:Nat:=107
def ajt:Nat:=108
def agx:Nat:=109
def alU:Nat:=110
def adx:Nat:=111
def act:Nat:=112
def alT:Nat:=113
def UQ:Nat:=114
def J2:Nat:=115
def agz:Nat:=116
def Zm:Nat:=117
def UR:Nat:=118
def Zv:Nat:=119
def aah:Nat:=120
def wX:Nat:=121
def Qn:Nat:=122
def gf:Nat:=123
def Yy:Nat:=124
def xR:Nat:=125
def jY:Nat:=126
def Yz:Nat:=127
def abq:Nat:=128
def afD:Nat:=129
def ap2:Nat:=130
def K6:Nat:=131
def Y7:Nat:=132
def acs:Nat:=133
def Wk:Nat:=134
def uR:Nat:=135
def UP:Nat:=136
def aan:Nat:=137
def aam:Nat:=138
def J0:Nat:=139
def anX:Nat:=140
def anY:Nat:=141
def ap7:Nat:=146
def acH:Nat:=147
def KG:Nat:=148
def k8:Nat:=149
def UB:Nat:=150
def K4:Nat:=151
def WM:Nat:=152
def ah0:Nat:=153
def J1:Nat:=154
def UC:Nat:=155
def afm:Nat:=156
def afn:Nat:=157
def QU:Nat:=158
def aaq:Nat:=159
def aal:Nat:=160
def Z9:Nat:=161
def jZ:Nat:=162
def Xl:Nat:=163
def Wj:Nat:=164
def Vj:Nat:=165
def Uz:Nat:=166
def adr:Nat:=167
def ap4:Nat:=168
def Y6:Nat:=169
def ajr:Nat:=170
def abn:Nat:=171
def an0:Nat:=172
def aab:Nat:=173
def ap3:Nat:=174
def asE:Nat:=175
def xd:Nat:=176
def alM:Nat:=182
def XJ:Nat:=183
def afl:Nat:=184
def abr:Nat:=185
def XK:Nat:=186
def Vk:Nat:=187
def Qj:Nat:=188
def aak:Nat:=189
def Vh:Nat:=190
def vY:Nat:=191
def QW:Nat:=192
def QG:Nat:=193
def V8:Nat:=194
def Y8:Nat:=195
def Wn:Nat:=196
def Ql:Nat:=197
def Qk:Nat:=198
def acl:Nat:=200
def ahW:Nat:=201
def jS:Nat:=202
def jR:Nat:=203
def auF:Nat:=204
def auG:Nat:=205
def ajo:Nat:=206
def XH:Nat:=207
def adv:Nat:=220
def UA:Nat:=222
def WI:Nat:=224
def Vi:Nat:=225
def an2:Nat:=228
def ap9:Nat:=229
def adw:Nat:=230
def acI:Nat:=231
def WJ:Nat:=252
def Qm:Nat:=253
def QV:Nat:=254
def aaf:Nat:=256
def Qi:Nat:=258
def ahY:Nat:=273
def afk:Nat:=274
def afj:Nat:=275
def agv:Nat:=303
def aae:Nat:=304
def aad:Nat:=305
def abo:Nat:=306
def afi:Nat:=307
abbrev up(n:Nat):am Nat:=zY 0 n
noncomputable def cp(o:am (Nat×am Nat))(ks:am (am Nat))(k:Nat){A:AFun}(_:aCD Pg o ks k=some A:=by conv=>lhs;reduce;simp only[u8r,amk,UInt8.reduceOfNat,Int.reduceOfNat,Int.reduceNegSucc])(h:cFun Pg o k=some A.erase:=by kernel_rfl):CC Pg k:=⟨o,A,h⟩
noncomputable section
def ZY:=cp [] [] 4
def j6:=cp [] [] 5
def ZG:=cp [] [[0,3,4],[0,3,4,5]] 7
def aly:=cp [(10,up 63)] [] 9
def uz:=cp [] [[0,4,7,20,21,22]] 10
def Zd:=cp [] [[0,3,9]] 11
def Yn:=cp [] [] 12
def JE:=cp [(6,up 11),(11,up 12)] [[2,3,6],[2,3,5]] 13
def ace:=cp [] [[1,3,4]] 14
def ac0:=cp [] [] 15
def kT:=cp [] [[0,4,8,32,33,34]] 16
def VX:=cp [(2000013,[1,4,0,1,3,4,2,1,4,2,5,6,7,0,1,4,5,2,6,7,0])] [[3,4,8,10,34,35,36]] 17
def JC:=cp [(1000007,[1])] [[1,2,4]] 18
def alA:=cp [] [] 19
def ajb:=cp [] [] 20
def kQ:=cp [] [[0,3]] 21
def apR:=cp [] [] 22
def agd:=cp [] [] 23
def ac3:=cp [] [[1,4,8,9,10]] 24
def Q8:=cp [] [[1,4,5]] 25
def ajc:=cp [] [] 26
def ac1:=cp [] [] 27
def Qb:=cp [(1000013,[1])] [[1,3]] 28
def wz:=cp [] [] 29
def JI:=cp [(9,up 12)] [[0,12,13,14]] 30
def Zh:=cp [] [[0,10,38,39,40]] 31
def apT:=cp [(1000001,[2])] [] 32
def XX:=cp [(9,up 9),(22,up 9)] [[1,59,60,61],[1,59,60,61,71,72,73],[1,22,23,24]] 33
def xq:=cp [] [[1,57,58,59]] 34
def q7:=cp [] [] 35
def ahx:=cp [] [] 36
def afu:=cp [] [] 37
def VE:=cp [(2000009,[1,5,0,1,2,5,8,2,1,2,3,4,2,1,7,6,7,9,10,11,12,13,0,1,2,9,10,2,1,5,6,7,11,12,13,0,1,5,11,6,7,12,13,0,2,1,2,6,7,2,1,7,3,4,9,10,11,12,13,0,1,7,9,3,4,10,11,12,13,0,1,4,9,3,4,10,2,1,5,6,7,11,12,13,0,1,5,11,6,7,12,13,0]),(2000006,[1,9,0,1,2,3,4,5,6,7,10,2,1,5,8,9,11,12,13,0,1,5,11,8,9,12,13,0])] [[1,6,7,15,16,17]] 38
def apS:=cp [] [] 39
def anm:=cp [(9,[0,1,2,4,5,3,6,7])] [] 40
def anl:=cp [] [] 41
def XD:=cp [(3,up 16)] [[0,2,3]] 42
def JH:=cp [] [[1,6,13,14,15]] 43
def gR:=cp [] [[13,14,15]] 44
def uK:=cp [] [[2,4,7,8,34,35,36]] 45
def acf:=cp [] [[1,2,5,6]] 46
def Z6:=cp [(3,up 16)] [[0,2,3]] 47
def WZ:=cp [] [[4,5,14,15,16]] 48
def y6:=cp [(1,[0,1,2,3,5,6,7,8,4,9,10,11]),(2000003,[1,3,1,2,3,2,1,1,0,2,1,5,4,5,6,7,8,0,1,5,5,4,6,7,8,0,2,1,1,4,2,1,5,0,5,6,7,8,0,1,1,5,2,1,4,0,6,7,8,0,1,4,6,0,7,8,0,1,1,5,2,1,5,0,4,6,7,8,0,1,1,4,2,1,4,0,6,7,8,0,1,4,6,0,7,8,0]),(2000022,[1,24,0,1,2,3,4,5,6,7,8,9,10,11,12,13,14,15,16,18,19,20,21,22,24,25,2,1,6,17,23,26,27,28,29,0,1,6,26,17,23,27,28,29,0])] [[4,7,10,12,13,14,15,16,17,57,58,59],[4,7,10,12,13,14,15,16,17,19,22,24,57,58,59,96,97,98]] 49
def yi:=cp [(4,[0,1,3,4,2,5,6,7]),(2000005,[1,2,0,3,2,1,1,1,2,1,5,2,4,5,6,7,0,1,5,4,2,5,6,7,0,1,6,4,1,2,5,6,7,0]),(2000006,[1,1,1,2,1,1,0,2,1,5,2,3,4,5,6,0,1,5,3,2,4,5,6,0,2,1,1,2,2,1,5,0,3,4,5,6,0,1,1,3,2,1,4,0,4,5,6,0,1,4,4,0,5,6,0,1,1,3,2,1,5,0,2,4,5,6,0,1,1,2,2,1,4,0,4,5,6,0,1,4,4,0,5,6,0]),(17,up 12),(22,up 16)] [[4,6,10,11,12,13,14,15,60,61,62],[4,6,10,11,12,13,14,15,17,18,60,61,62,75,76,77]] 50
def yU:=cp [(1,[0,2,1,3,4,5,6]),(2000002,[1,7,0,1,2,3,6,7,8,2,1,1,4,2,1,1,5,2,1,6,9,10,11,12,13,14,0,1,6,10,9,11,12,13,14,0,2,1,1,9,2,1,6,5,10,11,12,13,14,0,1,1,10,2,1,5,5,11,12,13,14,0,1,5,11,5,12,13,14,0,1,1,10,2,1,6,5,9,11,12,13,14,0,1,1,9,2,1,5,5,11,12,13,14,0,1,5,11,5,12,13,14,0,2,1,1,5,2,1,1,4,2,1,6,9,10,11,12,13,14,0,1,6,10,9,11,12,13,14,0,1,7,10,4,9,11,12,13,14,0,1,1,10,2,1,1,4,2,1,6,5,9,11,12,13,14,0,1,1,9,2,1,5,5,11,12,13,14,0,1,5,11,5,12,13,14,0,1,7,5,4,9,11,12,13,14,0]),(3,up 8),(1000007,[1,2]),(1000008,[1,2]),(1000018,[7]),(20,up 12),(21,up 10)] [[6,8,9,10,11,12,13,16,68,69,70],[3,5,6,8,9,10,11,12,13,50]] 51
def qF:=cp [(1,[0,1,2,3,5,6,7,8,4,9,10,11]),(2,up 8),(14,up 16)] [[6,8,10,11,12,13,40,41,42],[6,8,10,11,12,13,15,40,41,42,56,57,58]] 52
def acd:=cp [] [[0,12,13]] 53
def gP:=cp [] [[17,18,19]] 54
def Qy:=cp [] [] 55
def Z5:=cp [] [[0,1,7,8]] 56
def alF:=cp [] [] 57
def ai9:=cp [] [] 58
def acg:=cp [] [[4,37,38,39]] 59
def aci:=cp [(24,up 21)] [[0,3,6,13,14,15]] 60
def alI:=cp [] [] 61
def Xt:=cp [] [[0,6,11,12,13]] 62
def Zs:=cp [] [[0,6,24,25,26]] 63
def ahA:=cp [(1000001,[1])] [] 64
def xF:=cp [] [[0,6,29,30,31]] 65
def zL:=cp [(1000010,[1]),(15,[0,1,3,4,5,2,6,7,8]),(18,up 13),(42,up 7)] [[20,130,131,132],[5,10,20,106,107,108],[1,5,8,10,83,84,85],[1,5,8,10,16,83,84,85,89,90,91],[1,5,8,10,46,47,48]] 66
def W6:=cp [(1000013,[0]),(1000015,[1,2])] [[2,3,4,7,19,20,21]] 67
def xE:=cp [(4,[0,1,3,4,2,5,6,7]),(5,[0,2,1,3,4,5]),(2000006,[1,1,1,2,1,1,0,2,1,5,2,3,4,5,6,0,1,5,3,2,4,5,6,0,2,1,1,2,2,1,5,0,3,4,5,6,0,1,1,3,2,1,4,0,4,5,6,0,1,4,4,0,5,6,0,1,1,3,2,1,5,0,2,4,5,6,0,1,1,2,2,1,4,0,4,5,6,0,1,4,4,0,5,6,0]),(2000015,[1,7,0,1,2,3,4,5,6,2,1,1,7,2,1,4,8,9,10,11,0,1,4,9,8,10,11,0,2,1,1,8,2,1,4,7,9,10,11,0,1,1,9,2,1,3,7,10,11,0,1,3,10,7,11,0,1,1,9,2,1,4,7,8,10,11,0,1,1,8,2,1,3,7,10,11,0,1,3,10,7,11,0]),(1000015,[999999]),(17,up 16),(2000023,[1,3,0,2,4,2,1,7,1,3,5,6,7,8,9,0,1,1,3,2,1,6,1,5,6,7,8,9,0,1,6,5,1,6,7,8,9,0])] [[4,6,10,11,12,13,14,15,55,56,57],[4,6,10,11,12,13,14,15,17,18,55,56,57,62,63,64]] 68
def yj:=cp [(2000004,[1,3,0,1,3,2,1,5,2,4,5,6,7,0,1,5,4,2,5,6,7,0]),(11,[0,1,2,4,3,5,6,7,8]),(1000013,[1]),(18,up 24),(19,up 16),(2000026,[1,11,0,2,3,5,6,7,8,9,10,11,12,2,1,1,1,2,1,7,4,13,14,15,16,17,18,0,1,7,13,4,14,15,16,17,18,0,2,1,1,4,2,1,7,1,13,14,15,16,17,18,0,1,1,13,2,1,6,1,14,15,16,17,18,0,1,6,14,1,15,16,17,18,0,1,1,13,2,1,7,1,4,14,15,16,17,18,0,1,1,4,2,1,6,1,14,15,16,17,18,0,1,6,14,1,15,16,17,18,0])] [[4,19,124,125,126],[4,6,11,69,70,71],[4,6,8,9,10,11,40,41,42]] 69
def xS:=cp [] [[4,5,8,43,44,45],[4,5,8,12,13,43,44,45,50,51,52],[4,5,8,23,24,25]] 70
def ac2:=cp [(6,up 9)] [[0,1,5]] 71
def ZO:=cp [] [[2,3,4,21,22,23]] 72
def Q9:=cp [(3,[0,1,2,3,5,6,7,8,4,9,10,11])] [] 73
def wH:=cp [(2000003,[1,5,0,1,2,3,4,2,1,2,5,6,2,1,1,7,2,1,4,8,9,10,11,0,1,4,9,8,10,11,0,2,1,1,8,2,1,4,7,9,10,11,0,1,1,9,2,1,3,7,10,11,0,1,3,10,7,11,0,1,1,9,2,1,4,7,8,10,11,0,1,1,8,2,1,3,7,10,11,0,1,3,10,7,11,0,2,1,1,8,2,1,2,5,6,2,1,4,7,9,10,11,0,1,1,9,2,1,3,7,10,11,0,1,3,10,7,11,0,1,1,9,2,1,2,5,6,2,1,3,7,10,11,0,1,3,10,7,11,0,1,5,10,5,6,7,11,0,1,1,9,2,1,2,5,6,2,1,4,7,8,10,11,0,1,1,8,2,1,3,7,10,11,0,1,3,10,7,11,0,1,1,8,2,1,2,5,6,2,1,3,7,10,11,0,1,3,10,7,11,0,1,5,10,5,6,7,11,0]),(1000003,[999999]),(1000007,[1])] [] 74
def ank:=cp [] [] 75
def awF:=cp [] [] 76
def alB:=cp [] [] 77
def Us:=cp [] [[2,5,8,9,10]] 78
end
noncomputable section
def apP:=cp [(2000001,[1,9,0,1,2,3,4,5,6,7,8,2,1,2,9,10,2,1,1,11,2,1,4,12,13,14,15,0,1,4,13,12,14,15,0,2,1,1,12,2,1,4,11,13,14,15,0,1,1,13,2,1,3,11,14,15,0,1,3,14,11,15,0,1,1,13,2,1,4,11,12,14,15,0,1,1,12,2,1,3,11,14,15,0,1,3,14,11,15,0,2,1,1,12,2,1,2,9,10,2,1,4,11,13,14,15,0,1,1,13,2,1,3,11,14,15,0,1,3,14,11,15,0,1,1,13,2,1,2,9,10,2,1,3,11,14,15,0,1,3,14,11,15,0,1,5,14,9,10,11,15,0,1,1,13,2,1,2,9,10,2,1,4,11,12,14,15,0,1,1,12,2,1,3,11,14,15,0,1,3,14,11,15,0,1,1,12,2,1,2,9,10,2,1,3,11,14,15,0,1,3,14,11,15,0,1,5,14,9,10,11,15,0]),(1000001,[999999]),(2000002,[1,16,0,1,2,3,4,5,6,7,8,9,10,11,12,13,14,16,2,1,1,15,2,1,5,17,18,19,20,21,0,1,5,20,17,18,19,21,0,2,1,1,17,2,1,5,15,18,19,20,21,0,1,5,20,15,18,19,21,0,1,6,20,15,17,18,19,21,0])] [] 79
def alz:=cp [] [] 80
def kS:=cp [] [[1,5,9,10,11]] 81
def gO:=cp [] [] 82
def abd:=cp [(1000007,[1,2]),(1000009,[4])] [[1,2,3,10,11]] 83
def ahw:=cp [] [] 85
def ud:=cp [(1000009,[1])] [[6,25,26,27],[0,3,9,10,11]] 86
def kR:=cp [] [[0,5,8,9,10]] 87
def ju:=cp [(2000011,[1,3,0,1,5,2,1,2,2,3,2,1,3,4,6,7,0,1,3,6,4,7,0,1,5,6,2,3,4,7,0]),(12,up 11)] [[0,1,2,13,14,15]] 88
def Xs:=cp [] [[2,5,8,9,10]] 89
def Wd:=cp [] [[1,5,9,10,11]] 90
def ahz:=cp [(2000001,[1,9,0,1,2,3,4,5,6,7,8,2,1,2,9,10,2,1,1,11,2,1,4,12,13,14,15,0,1,4,13,12,14,15,0,2,1,1,12,2,1,4,11,13,14,15,0,1,1,13,2,1,3,11,14,15,0,1,3,14,11,15,0,1,1,13,2,1,4,11,12,14,15,0,1,1,12,2,1,3,11,14,15,0,1,3,14,11,15,0,2,1,1,12,2,1,2,9,10,2,1,4,11,13,14,15,0,1,1,13,2,1,3,11,14,15,0,1,3,14,11,15,0,1,1,13,2,1,2,9,10,2,1,3,11,14,15,0,1,3,14,11,15,0,1,5,14,9,10,11,15,0,1,1,13,2,1,2,9,10,2,1,4,11,12,14,15,0,1,1,12,2,1,3,11,14,15,0,1,3,14,11,15,0,1,1,12,2,1,2,9,10,2,1,3,11,14,15,0,1,3,14,11,15,0,1,5,14,9,10,11,15,0]),(1000001,[999999]),(2000002,[1,16,0,1,2,3,4,5,6,7,8,9,10,11,12,13,14,16,2,1,1,15,2,1,5,17,18,19,20,21,0,1,5,20,17,18,19,21,0,2,1,1,17,2,1,5,15,18,19,20,21,0,1,5,20,15,18,19,21,0,1,6,20,15,17,18,19,21,0])] [] 91
def JJ:=cp [] [] 92
def Wc:=cp [] [[0,5,8,9,10]] 93
def abe:=cp [] [] 94
def WY:=cp [] [[1,5,12,13,14]] 95
def Xk:=cp [(1000011,[2])] [[0,1,5,6]] 96
def KC:=cp [(1,up 11)] [] 97
def VZ:=cp [(1000000,[4])] [] 98
def KD:=cp [(1,up 20)] [] 99
def afa:=cp [] [] 100
def vl:=cp [] [[0,1,2,8,9,10]] 101
def KE:=cp [(1,up 12)] [] 102
def ahv:=cp [] [] 103
def WL:=cp [] [[0,23,24]] 104
def alD:=cp [(1000001,[0])] [] 105
def alC:=cp [] [] 106
def gQ:=cp [(1000008,[2])] [[3,8,9,10]] 107
def YY:=cp [(1000006,[2]),(1000017,[2])] [[3,36,37,38]] 108
def agf:=cp [(1000005,[1])] [] 109
def alJ:=cp [] [] 110
def ann:=cp [(1000001,[1])] [] 111
def alH:=cp [(4,[0,6,7,8,9,10,11,12,1,2,3,4,5,13,14,15,16,17])] [] 112
def Ut:=cp [] [[0,6,10,11,12]] 113
def afe:=cp [] [] 114
def JG:=cp [] [] 115
def agi:=cp [] [] 116
def Ze:=cp [] [] 117
def aff:=cp [] [] 118
def Qc:=cp [] [[0,4,7,8,9]] 119
def gN:=cp [] [] 120
def jt:=cp [(1000000,[4])] [] 121
def agh:=cp [(2000001,[1,2,1,4,2,1,1,0,2,1,1,2,2,1,1,3,2,1,4,5,6,7,8,0,1,4,6,5,7,8,0,1,5,6,3,5,7,8,0,2,1,1,3,2,1,1,2,2,1,4,5,6,7,8,0,1,4,6,5,7,8,0,1,5,6,2,5,7,8,0,1,6,6,3,2,5,7,8,0,2,1,1,3,2,1,1,0,2,1,1,2,2,1,4,5,6,7,8,0,1,4,6,5,7,8,0,1,5,6,2,5,7,8,0,1,6,6,0,2,5,7,8,0,1,7,6,0,3,2,5,7,8,0]),(1000001,[6])] [] 122
def jQ:=cp [(4,up 12)] [[0,1,2,13,14]] 123
def ac4:=cp [] [] 124
def alG:=cp [] [] 125
def WG:=cp [(1000000,[4])] [] 126
def ac5:=cp [(1,[0,1,2,3,5,6,7,8,9,10,4,11,12,13,14])] [] 127
def Wa:=cp [(6,up 9)] [[0,1,12,13]] 128
def apN:=cp [] [] 129
def kP:=cp [] [] 130
def qi:=cp [(2,[0,1,2,3,7,4,5,6])] [[2,3,5,20,21,22],[2,3,5,7,8,20,21,22,30,31,32],[2,3,5,7,8,10,11,12,20,21,22,30,31,32,52,53,54]] 131
def yQ:=cp [(1,[0,1,3,4,2,5,6,7])] [[4,8,9,10,13,44,45,46],[4,8,9,10,13,15,16,44,45,46,57,58,59],[2,3,4,8,9,10,26,27,28]] 132
def ach:=cp [] [] 133
def Ym:=cp [(1000005,[2]),(16,up 8),(18,[0,1,2,4,5,6,3,7,8,9,10])] [[0,1,5,6,7,8,27,28,29]] 134
def JD:=cp [] [] 135
def UK:=cp [] [[1,15,16]] 136
def ajd:=cp [] [] 137
def acY:=cp [] [[3,6,7,8]] 140
def JA:=cp [(2000004,[1,13,0,2,3,4,6,12,13,14,15,17,19,20,21,2,1,1,1,2,1,2,5,7,2,1,3,8,9,10,2,1,1,11,2,1,6,16,18,22,23,24,25,0,1,6,18,16,22,23,24,25,0,2,1,2,16,18,2,1,5,11,22,23,24,25,0,1,5,22,11,23,24,25,0,1,1,18,2,1,6,11,16,22,23,24,25,0,1,1,16,2,1,5,11,22,23,24,25,0,1,5,22,11,23,24,25,0,2,1,2,16,18,2,1,3,8,9,10,2,1,5,11,22,23,24,25,0,1,5,22,11,23,24,25,0,1,8,22,8,9,10,11,23,24,25,0,1,1,18,2,1,3,8,9,10,2,1,6,11,16,22,23,24,25,0,1,1,16,2,1,5,11,22,23,24,25,0,1,5,22,11,23,24,25,0,1,1,16,2,1,3,8,9,10,2,1,5,11,22,23,24,25,0,1,5,22,11,23,24,25,0,1,8,22,8,9,10,11,23,24,25,0,2,1,2,16,18,2,1,2,5,7,2,1,3,8,9,10,2,1,5,11,22,23,24,25,0,1,5,22,11,23,24,25,0,1,8,22,8,9,10,11,23,24,25,0,1,10,22,5,7,8,9,10,11,23,24,25,0,1,1,18,2,1,2,5,7,2,1,3,8,9,10,2,1,6,11,16,22,23,24,25,0,1,1,16,2,1,5,11,22,23,24,25,0,1,5,22,11,23,24,25,0,1,1,16,2,1,3,8,9,10,2,1,5,11,22,23,24,25,0,1,5,22,11,23,24,25,0,1,8,22,8,9,10,11,23,24,25,0,1,1,16,2,1,2,5,7,2,1,3,8,9,10,2,1,5,11,22,23,24,25,0,1,5,22,11,23,24,25,0,1,8,22,8,9,10,11,23,24,25,0,1,10,22,5,7,8,9,10,11,23,24,25,0,2,1,2,5,7,2,1,1,1,2,1,3,8,9,10,2,1,1,11,2,1,6,16,18,22,23,24,25,0,1,6,18,16,22,23,24,25,0,2,1,2,16,18,2,1,5,11,22,23,24,25,0,1,5,22,11,23,24,25,0,1,1,18,2,1,6,11,16,22,23,24,25,0,1,1,16,2,1,5,11,22,23,24,25,0,1,5,22,11,23,24,25,0,2,1,2,16,18,2,1,3,8,9,10,2,1,5,11,22,23,24,25,0,1,5,22,11,23,24,25,0,1,8,22,8,9,10,11,23,24,25,0,1,1,18,2,1,3,8,9,10,2,1,6,11,16,22,23,24,25,0,1,1,16,2,1,5,11,22,23,24,25,0,1,5,22,11,23,24,25,0,1,1,16,2,1,3,8,9,10,2,1,5,11,22,23,24,25,0,1,5,22,11,23,24,25,0,1,8,22,8,9,10,11,23,24,25,0,2,1,3,8,9,10,2,1,1,1,2,1,1,11,2,1,6,16,18,22,23,24,25,0,1,6,18,16,22,23,24,25,0,2,1,2,16,18,2,1,5,11,22,23,24,25,0,1,5,22,11,23,24,25,0,1,1,18,2,1,6,11,16,22,23,24,25,0,1,1,16,2,1,5,11,22,23,24,25,0,1,5,22,11,23,24,25,0,2,1,1,11,2,1,1,1,2,1,6,16,18,22,23,24,25,0,1,6,18,16,22,23,24,25,0,2,1,2,16,18,2,1,5,1,22,23,24,25,0,1,5,22,1,23,24,25,0,1,1,18,2,1,6,1,16,22,23,24,25,0,1,1,16,2,1,5,1,22,23,24,25,0,1,5,22,1,23,24,25,0,2,1,2,16,18,2,1,1,1,2,1,5,11,22,23,24,25,0,1,5,22,11,23,24,25,0,2,1,1,11,2,1,5,1,22,23,24,25,0,1,5,22,1,23,24,25,0,1,6,22,1,11,23,24,25,0,1,1,18,2,1,1,1,2,1,6,11,16,22,23,24,25,0,1,1,16,2,1,5,11,22,23,24,25,0,1,5,22,11,23,24,25,0,2,1,1,11,2,1,6,1,16,22,23,24,25,0,1,1,16,2,1,5,1,22,23,24,25,0,1,5,22,1,23,24,25,0,1,1,16,2,1,1,1,2,1,5,11,22,23,24,25,0,1,5,22,11,23,24,25,0,2,1,1,11,2,1,5,1,22,23,24,25,0,1,5,22,1,23,24,25,0,1,6,22,1,11,23,24,25,0,2,1,2,16,18,2,1,1,1,2,1,3,8,9,10,2,1,5,11,22,23,24,25,0,1,5,22,11,23,24,25,0,1,8,22,8,9,10,11,23,24,25,0,2,1,3,8,9,10,2,1,1,1,2,1,5,11,22,23,24,25,0,1,5,22,11,23,24,25,0,2,1,1,11,2,1,5,1,22,23,24,25,0,1,5,22,1,23,24,25,0,1,6,22,1,11,23,24,25,0,1,9,22,1,8,9,10,11,23,24,25,0,1,1,18,2,1,1,1,2,1,3,8,9,10,2,1,6,11,16,22,23,24,25,0,1,1,16,2,1,5,11,22,23,24,25,0,1,5,22,11,23,24,25,0,1,1,16,2,1,3,8,9,10,2,1,5,11,22,23,24,25,0,1,5,22,11,23,24,25,0,1,8,22,8,9,10,11,23,24,25,0,2,1,3,8,9,10,2,1,1,1,2,1,6,11,16,22,23,24,25,0,1,1,16,2,1,5,11,22,23,24,25,0,1,5,22,11,23,24,25,0,2,1,1,11,2,1,6,1,16,22,23,24,25,0,1,1,16,2,1,5,1,22,23,24,25,0,1,5,22,1,23,24,25,0,1,1,16,2,1,1,1,2,1,5,11,22,23,24,25,0,1,5,22,11,23,24,25,0,2,1,1,11,2,1,5,1,22,23,24,25,0,1,5,22,1,23,24,25,0,1,6,22,1,11,23,24,25,0,1,1,16,2,1,1,1,2,1,3,8,9,10,2,1,5,11,22,23,24,25,0,1,5,22,11,23,24,25,0,1,8,22,8,9,10,11,23,24,25,0,2,1,3,8,9,10,2,1,1,1,2,1,5,11,22,23,24,25,0,1,5,22,11,23,24,25,0,2,1,1,11,2,1,5,1,22,23,24,25,0,1,5,22,1,23,24,25,0,1,6,22,1,11,23,24,25,0,1,9,22,1,8,9,10,11,23,24,25,0,2,1,2,16,18,2,1,1,1,2,1,2,5,7,2,1,3,8,9,10,2,1,5,11,22,23,24,25,0,1,5,22,11,23,24,25,0,1,8,22,8,9,10,11,23,24,25,0,1,10,22,5,7,8,9,10,11,23,24,25,0,2,1,2,5,7,2,1,1,1,2,1,3,8,9,10,2,1,5,11,22,23,24,25,0,1,5,22,11,23,24,25,0,1,8,22,8,9,10,11,23,24,25,0,2,1,3,8,9,10,2,1,1,1,2,1,5,11,22,23,24,25,0,1,5,22,11,23,24,25,0,2,1,1,11,2,1,5,1,22,23,24,25,0,1,5,22,1,23,24,25,0,1,6,22,1,11,23,24,25,0,1,9,22,1,8,9,10,11,23,24,25,0,1,11,22,1,5,7,8,9,10,11,23,24,25,0,1,1,18,2,1,1,1,2,1,2,5,7,2,1,3,8,9,10,2,1,6,11,16,22,23,24,25,0,1,1,16,2,1,5,11,22,23,24,25,0,1,5,22,11,23,24,25,0,1,1,16,2,1,3,8,9,10,2,1,5,11,22,23,24,25,0,1,5,22,11,23,24,25,0,1,8,22,8,9,10,11,23,24,25,0,1,1,16,2,1,2,5,7,2,1,3,8,9,10,2,1,5,11,22,23,24,25,0,1,5,22,11,23,24,25,0,1,8,22,8,9,10,11,23,24,25,0,1,10,22,5,7,8,9,10,11,23,24,25,0,2,1,2,5,7,2,1,1,1,2,1,3,8,9,10,2,1,6,11,16,22,23,24,25,0,1,1,16,2,1,5,11,22,23,24,25,0,1,5,22,11,23,24,25,0,1,1,16,2,1,3,8,9,10,2,1,5,11,22,23,24,25,0,1,5,22,11,23,24,25,0,1,8,22,8,9,10,11,23,24,25,0,2,1,3,8,9,10,2,1,1,1,2,1,6,11,16,22,23,24,25,0,1,1,16,2,1,5,11,22,23,24,25,0,1,5,22,11,23,24,25,0,2,1,1,11,2,1,6,1,16,22,23,24,25,0,1,1,16,2,1,5,1,22,23,24,25,0,1,5,22,1,23,24,25,0,1,1,16,2,1,1,1,2,1,5,11,22,23,24,25,0,1,5,22,11,23,24,25,0,2,1,1,11,2,1,5,1,22,23,24,25,0,1,5,22,1,23,24,25,0,1,6,22,1,11,23,24,25,0,1,1,16,2,1,1,1,2,1,3,8,9,10,2,1,5,11,22,23,24,25,0,1,5,22,11,23,24,25,0,1,8,22,8,9,10,11,23,24,25,0,2,1,3,8,9,10,2,1,1,1,2,1,5,11,22,23,24,25,0,1,5,22,11,23,24,25,0,2,1,1,11,2,1,5,1,22,23,24,25,0,1,5,22,1,23,24,25,0,1,6,22,1,11,23,24,25,0,1,9,22,1,8,9,10,11,23,24,25,0,1,1,16,2,1,1,1,2,1,2,5,7,2,1,3,8,9,10,2,1,5,11,22,23,24,25,0,1,5,22,11,23,24,25,0,1,8,22,8,9,10,11,23,24,25,0,1,10,22,5,7,8,9,10,11,23,24,25,0,2,1,2,5,7,2,1,1,1,2,1,3,8,9,10,2,1,5,11,22,23,24,25,0,1,5,22,11,23,24,25,0,1,8,22,8,9,10,11,23,24,25,0,2,1,3,8,9,10,2,1,1,1,2,1,5,11,22,23,24,25,0,1,5,22,11,23,24,25,0,2,1,1,11,2,1,5,1,22,23,24,25,0,1,5,22,1,23,24,25,0,1,6,22,1,11,23,24,25,0,1,9,22,1,8,9,10,11,23,24,25,0,1,11,22,1,5,7,8,9,10,11,23,24,25,0]),(1000004,[16,22])] [] 141
def apQ:=cp [(1000003,[3]),(1000004,[4])] [] 146
def acE:=cp [] [] 147
def KF:=cp [] [] 148
def XA:=cp [] [[0,1,7,8]] 149
def wA:=cp [(1000003,[4]),(1000006,[4]),(1000010,[7]),(1000015,[5])] [[0,1,2,6],[0,1,2,6,7,8],[0,1,2,6,7,8]] 150
def aht:=cp [] [] 151
def acG:=cp [] [] 152
def ahy:=cp [] [] 153
def JF:=cp [] [] 154
def alE:=cp [] [] 155
def UL:=cp [] [] 156
def UM:=cp [(1000004,[2])] [[0,8,9,10]] 157
def QT:=cp [] [] 158
def aje:=cp [] [] 159
def QA:=cp [] [[0,1,7,8]] 160
def wR:=cp [] [[0,1,7,8]] 161
def yT:=cp [(1000003,[4]),(1000006,[4]),(1000010,[7]),(1000015,[5])] [[0,1,2,6],[0,1,2,6,7,8],[0,1,2,6,7,8]] 162
def KB:=cp [] [] 163
def aba:=cp [] [] 164
def qH:=cp [(1000003,[4]),(1000006,[4]),(1000010,[7]),(1000015,[5])] [[0,1,2,6],[0,1,2,6,7,8],[0,1,2,6,7,8]] 165
def ZH:=cp [] [[0,1,2,11,12,13]] 166
def ani:=cp [] [] 167
def afv:=cp [(6,up 8)] [[0,12,13,14]] 168
def W0:=cp [] [[1,5,19,20,21]] 169
def W4:=cp [] [[2,5,8,9,10]] 170
def abb:=cp [] [[0,1,4,5,8,9,10]] 171
def JB:=cp [] [[0,5,8,9,10]] 172
def aja:=cp [] [] 173
def apO:=cp [(1,up 9)] [] 174
def ar8:=cp [] [] 175
def xY:=cp [(7,up 13),(9,up 14),(11,up 13),(14,up 13),(17,up 8)] [] 176
def alx:=cp [] [] 182
def jP:=cp [(1,up 19),(1000003,[3]),(6,up 8),(7,up 19),(1000009,[4])] [] 183
def Wb:=cp [(4,up 6)] [[0,3,7,8]] 185
def q8:=cp [(4,up 17),(6,up 18)] [[0,1,2,3,8],[0,1,2,3,8,9]] 186
def xm:=cp [(5,up 11),(11,up 18),(17,up 12),(23,up 18),(35,up 14),(1000040,[5]),(1000042,[5]),(1000044,[5])] [[0,1,2,3,4,18,19,20,21,22],[0,14,17],[0,2,4,14,15],[0,10,13],[0,1,4,10,11]] 187
def Qz:=cp [] [[0,1,7,8]] 189
def Zf:=cp [] [[0,1,7,8]] 190
def yY:=cp [(4,up 17),(6,up 18)] [[0,1,2,3,8],[0,1,2,3,8,9]] 191
end
noncomputable section
def yX:=cp [(5,up 11),(11,up 18),(17,up 12),(23,up 18),(35,up 14),(1000040,[5]),(1000042,[5]),(1000044,[5])] [[0,1,2,3,4,18,19,20,21,22],[0,14,17],[0,2,4,14,15],[0,10,13],[0,1,4,10,11]] 192
def gK:=cp [] [] 193
def acZ:=cp [] [] 194
def qG:=cp [(4,up 17),(6,up 18)] [[0,1,2,3,8],[0,1,2,3,8,9]] 195
def y7:=cp [(5,up 11),(11,up 18),(17,up 12),(23,up 18),(35,up 14),(1000040,[5]),(1000042,[5]),(1000044,[5])] [[0,1,2,3,4,18,19,20,21,22],[0,14,17],[0,2,4,14,15],[0,10,13],[0,1,4,10,11]] 196
def wE:=cp [] [[0,1,2,8,9,10]] 197
def age:=cp [] [] 198
def alw:=cp [] [] 200
def ahu:=cp [] [[2,3,4,8,9,10]] 201
def XC:=cp [(7,up 8)] [[0,1,4,5,6]] 202
def XB:=cp [(7,up 8)] [[0,1,4,5,6]] 203
def akq:=cp [] [] 204
def aub:=cp [] [] 205
def WX:=cp [] [] 206
def Xy:=cp [(3,up 12),(7,up 11),(9,up 11),(10,[0,1,2,3,4,5,8,9,6,7,10])] [] 207
def VY:=cp [(6,up 9)] [[0,1,12,13]] 220
def ZI:=cp [(1000004,[7]),(1000006,[11]),(1000008,[7])] [[0,2,4,10,11]] 222
def jW:=cp [(1000004,[7]),(1000006,[11]),(1000008,[7])] [[0,2,4,10,11]] 224
def Zg:=cp [(1000004,[7]),(1000006,[11]),(1000008,[7])] [[0,2,4,10,11]] 225
def anj:=cp [] [] 228
def Xz:=cp [] [] 229
def acF:=cp [] [] 231
def jX:=cp [(3,up 24)] [[0,1,2,3,10]] 252
def uM:=cp [(3,up 24)] [[0,1,2,3,10]] 253
def jc:=cp [(3,up 24)] [[0,1,2,3,10]] 254
def W5:=cp [] [] 256
def uL:=cp [] [] 258
def KS:=cp [] [] 273
def afd:=cp [] [] 274
def afc:=cp [(6,up 8)] [[2,8,9,10,14,15,16,17,18],[2,8,9,10,11,13,14,15,16]] 275
def agc:=cp [] [] 303
def gM:=cp [] [] 304
def gL:=cp [] [] 305
def abc:=cp [] [] 306
def afb:=cp [] [] 307
end
end Go.Proofs.YtkdijaiaplkliaaGreatDoor
namespace Go.AM
theorem beqS_iff(x y:ByteArray):zo x y=true↔x=y:=by
 unfold zo;rw[cT,cT];constructor
 .intro h;have h:=eq_of_beq h;cases x;simp_all
 simp_all
theorem beqS_self(x:ByteArray):zo x x=true:=(beqS_iff x x).2 rfl
theorem beqS_false(x y:ByteArray):zo x y=false↔x≠y:=by grind[beqS_iff]
theorem WW(x y:UInt8)(xs ys:am UInt8):aL (x::xs) (y::ys)=true↔x<y\/(x=y/\aL xs ys=true):=by simp[aL]
theorem Jz:∀(l:am UInt8),aL l l=false
 |[]=>rfl
 |x::r=>by have:=Jz r;simp[aL,this]
theorem KR:∀(a b c:am UInt8),aL a b=true->aL b c=true->aL a c=true
 |_,_,[],_,h=>by grind[aL]
 |_,[],_::_,h,_=>by grind[aL]
 |[],_::_,_::_,_,_=>rfl
 |x::xs,y::ys,z::j,i,g=>by
  rw[WW]at i g⊢;rcases i with i|⟨rfl,i⟩
  .rcases g with g|⟨rfl,g⟩
   .exact .inl (UInt8.lt_trans i g)
   exact .inl i
  rcases g with g|⟨rfl,g⟩
  .exact .inl g
  exact .inr ⟨rfl,KR xs ys j i g⟩
theorem acb:∀(a b:am UInt8),aL a b=false->aL b a=false->a=b
 |[],[],_,_=>rfl
 |[],y::ys,h,_=>by grind[aL]
 |x::xs,[],_,h=>by grind[aL]
 |x::xs,y::ys,i,j=>by
  have g1:¬(x<y\/(x=y/\aL xs ys=true)):=λh=>by grind[WW]
  have g2:¬(y<x\/(y=x/\aL ys xs=true)):=λh=>by grind[WW]
  have g:x=y:=by
   rcases UInt8.lt_or_lt_of_ne (a:=x) (b:=y)|> λf=>Decidable.em (x=y)with h|h
   .exact h
   grind
  subst g;rw[acb xs ys ?_ ?_]
  .cases h:aL xs ys
   .rfl
   exact absurd (.inr ⟨rfl,h⟩) g1
  cases h:aL ys xs
  .rfl
  exact absurd (.inr ⟨rfl,h⟩) g2
theorem asI(x:ByteArray):QK x x=false:=Jz _
theorem akK{x y z:ByteArray}(g:QK x y=true)(i:QK y z=true):QK x z=true:=KR _ _ _ g i
theorem az3{x y:ByteArray}(g:QK x y=false)(i:QK y x=false):x=y:=by have h:=acb _ _ g i;exact(beqS_iff x y).1 (by simp_all[zo])
theorem auP{x y:ByteArray}(h:QK x y=true):QK y x=false:=by grind[akK,asI]
end Go.AM
namespace Go.Proofs
set_option maxHeartbeats 1000000 in
set_option maxRecDepth 100000 in
theorem Tryz.stringslite_IndexByte(s:ByteArray)(c:Int)(w:aI):
 cB Tryz.prog 188 #[.string s,.int .u8 c] w λe w'=>e=.returned (.int .i64 (Lib.indexByte s.data.toList c.toNat.toUInt8))/\w'=w:=by
 go_enter Tryz.func188,Tryz.ntmps188
 go_wp2
 rw[run_callFunc_extern Tryz.func223 dU dU dU (e:=Extern.BytealgIndexByte.indexByte) dU,Lib.run_indexByteString];simp only[Result.andThen];rw[Oper.upon_value]
 go_wp2
 go_ret
 exact⟨rfl,rfl⟩
end Go.Proofs
namespace Go.Proofs.YtkdijaiaplkliaaGreatDoor
open Go Go.AM
def int(n:Int):C:=.d (.lit (.int .i64 n))
def str(b:ByteArray):C:=.d (.lit (.string b))
def bool(n:Bool):C:=.d (.lit (.bool n))
def rI(n:Int):Res:=⟨.w (.c (int n)),[]⟩
def rB(n:Bool):Res:=⟨.w (.c (bool n)),[]⟩
theorem ayz{P:Program}{k:Nat}{args:am W}{x:Value}(hk:xZ P k=true)(j:x.oneCell'=true)
 (h:∀(w:aI) (A:Nat->Prop) (vals:am Value),qq (λ_=>⟨none,0,.nilFunc,[]⟩) w A args vals->cB P k vals.toArray w λe w'=>e=.returned x/\w'=w):
 Sat P k args (λr=>r=⟨.w (.c (.d (.lit x))),[]⟩):=by
 refine⟨hk,λw A vals hA i=>(h w A vals i).mono ?_⟩;rintro e w' ⟨rfl,rfl⟩;refine⟨x,_,rfl,rfl,⟨bC _,λ_=>⟨none,0,.nilFunc,[]⟩,?_,?_,?_,?_,?_,?_⟩,Grows.refl _ _⟩
 .simp only[VR,WR,CR,RD];exact⟨trivial,j⟩
 .intro p y g;cases g
 .intro p q y z b g;cases g
 .intro p y b g;cases g
 .intro p y g;cases g
 intro p y g;cases g
theorem apE{ι:Nat->Gh}{w:aI}{A:Nat->Prop}{vals:am Value}{x y:Value}(h:qq ι w A [.c (.d (.lit x)),.c (.d (.lit y))] vals):vals=[x,y]:=by
 match vals,h with
 |[v,u],h=>simp only[qq,WR,CR,RD]at h;rw[h.1.1,h.2.1.1]
def ahr(s:ByteArray)(c:Int):Int:=Lib.indexByte s.data.toList c.toNat.toUInt8
theorem ag6(s:ByteArray)(c:Int):dY Qj [.c (str s),.c (.d (.lit (.int .u8 c)))] (rI (ahr s c)):=by
 refine ayz dU rfl λw A vals h=>?_
 rw[apE h];exact Tryz.stringslite_IndexByte s c w
attribute [local irreducible] Sat
set_option maxRecDepth 100000
def T0:Tab Pg:=⟨λ_ _=>none,λ_ _ _ h=>by cases h⟩
theorem al1(s:ByteArray)(c:Int):dY WM [.c (str s),.c (.d (.lit (.int .u8 c)))] (rI (ahr s c)):=by refine yA T0 acG.ok dU ?_;refine Sat.cal (ag6 s c) ?_;rfl
structure Val where
 k:Int
 n:Int
 s:ByteArray
def Val.ds(v:Val):am D:=[.lit (.int .i64 v.k),.lit (.int .i64 v.n),.lit (.string v.s)]
def Val.w(v:Val):W:=.agg [int v.k,int v.n,str v.s]
def inB(n:Int):Bool:=decide (n>= -1000000000000000)&&decide (n<=1000000000000000)
theorem ata(n:Int):dY an1 [.c (int n)] (rB (inB n)):=by refine awF.s T0 ?_;rfl
theorem aof(n:Int):(n !=n)=false:=dT
theorem beqS_self(b:ByteArray):zo b b=true:=by unfold zo;simp
theorem al9(n:Int):dY K4 [.c (int n)] (rB false):=by refine aht.s T0 ?_;exact aF rB (aof n)
theorem acK(n:Int):dY QG [.c (int n)] (rB false):=by refine gK.s T0 ?_;exact aF rB (aof n)
theorem ag3(b:ByteArray):dY V8 [.c (str b)] (rB false):=by refine acZ.s T0 ?_;exact aF rB (show(!zo b b)=false by rw[beqS_self];rfl)
def T1f(k:FuncId)(l:am W):aH W:=
 match l with
 |[.c (.d (.lit (.int .i64 n)))]=>bif bD k an1 then some (.c (bool (inB n)))else bif bD k K4||bD k QG then some (.c (bool false))else none
 |[.c (.d (.lit (.string _)))]=>bif bD k V8 then some (.c (bool false))else none
 |[.c (.d (.lit (.string s))),.c (.d (.lit (.int .u8 c)))]=>bif bD k WM then some (.c (int (ahr s c)))else none
 |_=>none
theorem qR{c:Bool}{w z:W}{y:aH W}(h:(bif c then some w else y)=some z):(c=true/\z=w)\/(c=false/\y=some z):=by
 cases c
 .exact .inr ⟨rfl,h⟩
 cases h;exact .inl ⟨rfl,rfl⟩
theorem aAY(k:FuncId)(l:am W)(w:W)(h:T1f k l=some w):Sat Pg k l (λr=>r=⟨.w w,[]⟩):=by
 unfold T1f at h;split at h
 .rcases qR h with⟨g,rfl⟩|⟨_,h⟩
  .rw[aG g];exact ata _
  rcases qR h with⟨g,rfl⟩|⟨_,h⟩
  .rw[bK]at g;rcases g with g|g
   .rw[aG g];exact al9 _
   rw[aG g];exact acK _
  cases h
 .rcases qR h with⟨g,rfl⟩|⟨_,h⟩
  .rw[aG g];exact ag3 _
  cases h
 .rcases qR h with⟨g,rfl⟩|⟨_,h⟩
  .rw[aG g];exact al1 _ _
  cases h
 cases h
def T1:Tab Pg:=⟨T1f,aAY⟩
def yw(a b:Int):Int:=bif decide (a<b)then-1 else bif decide (a>b)then 1 else 0
def kV(a b:ByteArray):Int:=bif QK a b then-1 else bif zo a b then 0 else 1
theorem kw(a b:Int):dY UO [.c (int a),.c (int b)] (rI (yw a b)):=by
 unfold yw;refine yA T1 afa.ok dU ?_
 repeat' (conv=>whnf
          refine zx (λh=>?_) (λh=>?_))
 all_goals refine aF rI ?_
 all_goals simp only[*,aB,aA]
theorem aaC(a b:Int):dY Xl [.c (int a),.c (int b)] (rI (yw a b)):=by
 unfold yw;refine yA T1 KB.ok dU ?_
 repeat' (conv=>whnf
          refine zx (λh=>?_) (λh=>?_))
 all_goals refine aF rI ?_
 all_goals simp only[*,aB,aA]
theorem ad2(a b:ByteArray):dY Wj [.c (str a),.c (str b)] (rI (kV a b)):=by
 unfold kV;refine yA T1 aba.ok dU ?_
 repeat' (conv=>whnf
          refine zx (λh=>?_) (λh=>?_))
 all_goals refine aF rI ?_
 .rw[h];rfl
 .cases g:QK a b<;>cases i:zo a b<;>simp_all
 cases g:QK a b<;>cases i:zo a b<;>simp_all
def aCx:ByteArray:=⟨#[95,46,58,47,60,62,36,42,126,45]⟩
def aeO(c:Int):Bool:=(decide (c>=97)&&decide (c<=122))||(decide (c>=65)&&decide (c<=90))||(decide (c>=48)&&decide (c<=57))||decide (ahr aCx c>=0)
theorem as8(c:Int):dY K5 [.c (.d (.lit (.int .u8 c)))] (rB (aeO c)):=by refine ahv.s T1 ?_;rfl
def yV(k:Int)(v:Val):Int:=
 bif v.k !=0&&(v.k !=k||!(k==1||k==2||k==3))then 14 else
 bif (v.k==1&&v.n !=0&&v.n !=1)then 2 else bif (v.k==2&&!inB v.n)then 2 else
 bif v.k==3&&decide ((v.s.size:Int)>200)then 7 else
 bif v.k !=3&&!zo v.s ⟨#[]⟩then 1 else bif (v.k==0||v.k==3)&&v.n !=0 then 1 else 0
theorem agY(k:Int)(v:Val):dY aaa [.c (int k),v.w] (rI (yV k v)):=by
 obtain⟨a,n,s⟩:=v;unfold yV;refine yA T1 ai9.ok dU ?_
 repeat' (conv=>whnf
          refine zx (λh=>?_) (λh=>?_))
 all_goals refine aF rI ?_
 all_goals first|(simp only[*,aB,aA];done)|simp_all only[aJ]
end Go.Proofs.YtkdijaiaplkliaaGreatDoor
namespace Go.Proofs.YtkdijaiaplkliaaGreatDoor
open Go Go.AM
section
attribute [local irreducible] Sat zX
def T2f(k:FuncId)(l:am W):aH W:=
 match l with
 |[.c (.d (.lit (.int .u8 c)))]=>bif bD k K5 then some (.c (bool (aeO c)))else none
 |[.c (.d (.lit (.int .i64 m))),.c (.d (.lit (.int .i64 n)))]=>bif bD k UO||bD k Xl then some (.c (int (yw m n)))else none
 |[.c (.d (.lit (.string m))),.c (.d (.lit (.string n)))]=>bif bD k Wj then some (.c (int (kV m n)))else none
 |[.c (.d (.lit (.int .i64 t))),.agg [.d (.lit (.int .i64 g)),.d (.lit (.int .i64 n)),.d (.lit (.string s))]]=>bif bD k aaa then some (.c (int (yV t ⟨g,n,s⟩)))else none
 |_=>T1f k l
theorem awg(k:FuncId)(l:am W)(w:W)(h:T2f k l=some w):Sat Pg k l (λr=>r=⟨.w w,[]⟩):=by
 unfold T2f at h;split at h
 .rcases qR h with⟨g,rfl⟩|⟨_,h⟩
  .rw[aG g];exact as8 _
  cases h
 .rcases qR h with⟨g,rfl⟩|⟨_,h⟩
  .rw[bK]at g;rcases g with g|g
   .rw[aG g];exact kw _ _
   rw[aG g];exact aaC _ _
  cases h
 .rcases qR h with⟨g,rfl⟩|⟨_,h⟩
  .rw[aG g];exact ad2 _ _
  cases h
 .rcases qR h with⟨g,rfl⟩|⟨_,h⟩
  .rw[aG g];exact agY _ ⟨_,_,_⟩
  cases h
 grind[aAY]
def T2:Tab Pg:=⟨T2f,awg⟩
def xV(a b:Val):Int:=bif a.k !=b.k then yw a.k b.k else bif a.k==3 then kV a.s b.s else bif a.k==1||a.k==2 then yw a.n b.n else 0
theorem jG(a b:Val):dY xR [a.w,b.w] (rI (xV a b)):=by
 obtain⟨g,a2,a3⟩:=a;obtain⟨i,j,l⟩:=b;unfold xV;refine yA T2 alG.ok dU ?_
 repeat' (conv=>whnf
          refine zx (λh=>?_) (λh=>?_))
 all_goals refine aF rI ?_
 all_goals first|(simp only[*,aB,aA];done)|simp_all only[aJ]
def adI:am UInt8->Int
 |[]=>0
 |c::r=>bif !aeO c.toNat then 3 else adI r
def w6(s:ByteArray):Int:=bif zo s ⟨#[]⟩||decide ((s.size:Int)>40)then 3 else adI s.data.toList
theorem zt{α:Type}{l:am α}{i:Nat}(h:i<l.length):l.drop i=l[i]::l.drop (i+1):=cd h
theorem QP(s:ByteArray):s.data.toList.length=s.size:=dT
theorem kB(s:ByteArray):dY acm [.c (str s)] (rI (w6 s)):=by
 unfold w6;refine acd.s T2 ?_;refine zj (λh=>?_) (λh=>?_)
 .rw[h];rfl
 rw[h];simp only[bS,bV]at h;refine Uc T2 (acd.l 0) s.size (λi=>⟨[(0,.w (.c (str s))),(12,zm s.size),(13,zm i)],[]⟩) (λi=>adI s.data.toList=adI (s.data.toList.drop i)) ?_
 intro i hi g;refine uT (λj=>?_) (λJ=>?_)
 .have o:i<s.data.toList.length:=by grind[QP]
  rw[zt o]at g;(conv=>whnf);refine⟨⟨d8,d8⟩,?_⟩;have I:s.data.toList.getD ((i:Int)).toNat 0=s.data.toList[i]:=d9
  rw[I];generalize s.data.toList[i]=b at g;refine zj (λp=>?_) (λp=>?_)
  ·(conv=>whnf);simp only[adI,p,aB]at g;exact aF rI g.symm
  (conv=>whnf);simp only[adI,p,aA]at g;refine yW j g ?_;rw[zB j d8];rfl
 rw[aC (by grind[QP])]at g;(conv=>whnf);exact aF rI g.symm
def rowD(r:am Val):am (am D):=r.map Val.ds
def yu(r:am Val):W:=.c (.d (.sl (rowD r)))
theorem zu(r:am Val):(rowD r).length=r.length:=by simp[rowD]
theorem xw{r:am Val}{i:Nat}(h:i<r.length):(rowD r)[((i:Int)).toNat]?=some (r[i]).ds:=by grind[rowD]
def Zj{α:Type}(c:α->α->Int):am α->am α->Int
 |[],[]=>0
 |[],_::_=> -1
 |_::_,[]=>1
 |x::xs,y::ys=>bif c x y !=0 then c x y else Zj c xs ys
theorem awJ{α:Type}(c:α->α->Int){a b:am α}{i:Nat}(h:a.length<=i):Zj c (a.drop i) (b.drop i)=bif decide (((b.length:Int))>i)then-1 else 0:=by
 rw[aC h];by_cases g:i<b.length
 .rw[zt g];have:decide (((b.length:Int))>i)=true:=bQ d8;rw[this];rfl
 rw[aC d8];have:decide (((b.length:Int))>i)=false:=aK d8;rw[this];rfl
theorem ku(g:FuncId)(c:Val->Val->Int)(hc:∀x y,dY g [x.w,y.w] (rI (c x y)))(a b:am Val):
 dY Uz [yu a,yu b,.c (.d (.fn g []))] (rI (Zj c a b)):=by
 refine vI 0 dU rfl λp=>?_
 rw[zu]at p;refine ZH.s T2 ?_
 refine yy (P:=Pg) (f:=T2.f) (body:=(ZH.l 0)) a.length (λi=>⟨[(0,.w (yu a)),(1,.w (yu b)),(2,.w (.c (.d (.fn g [])))),(11,.w (yu a)),(12,zm (rowD a).length),(13,zm i)],[]⟩)
  (λi=>i<=b.length/\Zj c a b=Zj c (a.drop i) (b.drop i)) ⟨⟨aX _,rfl⟩,ze ?_⟩ ?_
 .exact rfl
 intro i hi j;obtain⟨ab,j⟩:=j;refine zj (λh1=>?_) (λh1=>?_)
 .have o:i<a.length:=by simp_all[zu]
  (conv=>whnf);refine yb (xw o) ?_;refine zj (λR=>?_) (λR=>?_)
  .have I:b.length<=i:=by simp_all[zu]
   rw[zt o,aC I]at j;(conv=>whnf);exact aF rI j.symm
  have J:i<b.length:=by grind[zu]
  refine yb (xw J) ?_;refine Sat.cal (hc a[i] b[i]) ?_;rw[zt o,zt J]at j;refine zj (λU=>?_) (λU=>?_)
  .simp only[Zj,U,aB]at j;(conv=>whnf);exact aF rI j.symm
  simp only[Zj,U,aA]at j;(conv=>whnf);refine⟨o,⟨J,j⟩,ze ?_⟩;(conv=>whnf);rw[zB o p];rfl
 have I:a.length<=i:=by grind[zu]
 have aa:i=a.length:=d8
 rw[awJ c I]at j;subst aa;refine zj (λR=>?_) (λR=>?_)
 .have:decide (((b.length:Int))>a.length)=true:=bQ (by simp_all[zu]);rw[this]at j;(conv=>whnf);exact aF rI j.symm
 have:decide (((b.length:Int))>a.length)=false:=aK (by grind[zu]);rw[this]at j;(conv=>whnf);exact aF rI j.symm
def aCI(a b:am Val):Int:=Zj xV a b
structure Col where
 name:ByteArray
 t:Int
def Col.ds(c:Col):am D:=[.lit (.string c.name),.lit (.int .i64 c.t)]
def Col.w(c:Col):W:=.agg [str c.name,int c.t]
def zl(r:am Col):am (am D):=r.map Col.ds
theorem z8(r:am Col):(zl r).length=r.length:=by simp[zl]
theorem xJ{r:am Col}{i:Nat}(h:i<r.length):(zl r)[((i:Int)).toNat]?=some (r[i]).ds:=by grind[zl]
def yp{α:Type}(p:α->Bool):Int->am α->Int
 |_,[]=> -1
 |i,x::r=>bif p x then i else yp p (i+1) r
theorem qJ(g:FuncId)(cap:am D)(p:Col->Bool)(hp:∀x:Col,dY g [x.w,.c (.fp cap)] (rB (p x)))(l:am Col):
 dY wS [.c (.d (.sl (zl l))),.c (.d (.fn g [cap]))] (rI (yp p 0 l)):=by
 refine vI 0 dU rfl λo=>?_
 rw[z8]at o;refine Z5.s T2 ?_
 refine yy (P:=Pg) (f:=T2.f) (body:=(Z5.l 0)) l.length (λi=>⟨[(0,.w (.c (.d (.sl (zl l))))),(1,.w (.c (.d (.fn g [cap])))),(7,zm (zl l).length),(8,zm i)],[]⟩)
  (λi=>yp p 0 l=yp p i (l.drop i)) ⟨rfl,ze ?_⟩ ?_
 .exact rfl
 intro i hi I;refine zj (λU=>?_) (λU=>?_)
 .have j:i<l.length:=by simp_all[z8]
  (conv=>whnf);refine yb (xJ j) ?_;refine Sat.cal (hp l[i]) ?_;rw[zt j]at I;refine zj (λJ=>?_) (λJ=>?_)
  .simp only[yp,J,aB]at I;(conv=>whnf);exact aF rI I.symm
  simp only[yp,J,aA]at I;refine yW j I ?_;rw[zB j o];rfl
 have R:l.length<=i:=by grind[z8]
 rw[aC R]at I;(conv=>whnf);exact aF rI I.symm
theorem aiy(x:Col)(name:ByteArray):dY acr [x.w,.c (.fp [.lit (.string name)])] (rB (zo x.name name)):=by obtain⟨a,b⟩:=x;refine yA T2 alF.ok dU ?_;exact rfl
def zf(l:am Col)(name:ByteArray):Int:=yp (λx=>zo x.name name) 0 l
theorem xC(l:am Col)(rows:C)(name:ByteArray)(hr:∃d,rows=.d d):dY gc [.agg [.d (.sl (zl l)),rows],.c (str name)] (rI (zf l name)):=by obtain⟨d,rfl⟩:=hr;refine apT.s T2 ?_;refine Sat.cal (qJ acr [.lit (.string name)] (λx=>zo x.name name) (λx=>aiy x name) l) ?_;rfl
def T3f(k:FuncId)(l:am W):aH W:=
 match l with
 |[.c (.d (.lit (.string s)))]=>bif bD k acm then some (.c (int (w6 s)))else T2f k l
 |[.agg [.d (.lit (.int .i64 g)),.d (.lit (.int .i64 j)),.d (.lit (.string p))],.agg [.d (.lit (.int .i64 i)),.d (.lit (.int .i64 o)),.d (.lit (.string r))]]=>
   bif bD k xR then some (.c (int (xV ⟨g,j,p⟩ ⟨i,o,r⟩)))else none
 |_=>T2f k l
theorem arU(k:FuncId)(l:am W)(w:W)(h:T3f k l=some w):Sat Pg k l (λr=>r=⟨.w w,[]⟩):=by
 unfold T3f at h;split at h
 .rcases qR h with⟨g,rfl⟩|⟨_,h⟩
  .rw[aG g];exact kB _
  grind[awg]
 .rcases qR h with⟨g,rfl⟩|⟨_,h⟩
  .rw[aG g];exact jG ⟨_,_,_⟩ ⟨_,_,_⟩
  cases h
 grind[awg]
def T3:Tab Pg:=⟨T3f,arU⟩
def uI:am Col->am Val->Int
 |c::cs,v::vs=>bif yV c.t v !=0 then yV c.t v else uI cs vs
 |_,_=>0
theorem aqA(cols:am Col):uI cols []=0:=by cases cols<;>rfl
structure Tbl where
 cols:am Col
 rows:am (am Val)
def zg(l:am (am Val)):am (am D):=l.map λr=> [D.sl (rowD r)]
def Tbl.w(t:Tbl):W:=.agg [.d (.sl (zl t.cols)),.d (.sl (zg t.rows))]
def Tbl.ds(t:Tbl):am D:=[.sl (zl t.cols),.sl (zg t.rows)]
theorem zy(r:am (am Val)):(zg r).length=r.length:=by simp[zg]
theorem yS{r:am (am Val)}{i:Nat}(h:i<r.length):(zg r)[((i:Int)).toNat]?=some [D.sl (rowD r[i])]:=by grind[zg]
def Y0(all:am Col):Nat->am Col->Int
 |_,[]=>0
 |i,c::r=>bif w6 c.name !=0 then w6 c.name else bif decide (zf (all.take i) c.name>=0)then 4 else bif c.t !=1&&c.t !=2&&c.t !=3 then 14 else Y0 all (i+1) r
def X2(cols:am Col):am (am Val)->Int
 |[]=>0
 |r::g=>bif ((r.length:Int)) !=cols.length then 10 else bif uI cols r !=0 then uI cols r else X2 cols g
def zH(t:Tbl):Int:=
 bif decide ((t.cols.length:Int)>32)||decide ((t.rows.length:Int)>20000)then 7 else bif Y0 t.cols 0 t.cols !=0 then Y0 t.cols 0 t.cols else X2 t.cols t.rows
theorem aug(l:am Col)(i:Nat):(zl l).take i=zl (l.take i):=by grind[zl,List.map_take]
theorem aqT(l:am Col):∀y∈zl l,y.length=2:=by intro y g;simp only[zl,List.mem_map]at g;obtain⟨x,_,rfl⟩:=g;rfl
set_option maxHeartbeats 1000000 in
theorem qk(t:Tbl):dY alR [t.w] (rI (zH t)):=by
 obtain⟨cols,rows⟩:=t;unfold zH;refine Vt dU λhb=>?_
 have hb:=hb _ (cz.2 rfl);refine XX.s T3 ?_;rw[zy,z8];refine zx (λh=>?_) (λh=>?_)
 .rw[h];rfl
 rw[h];simp only[bS,bV]at h;simp only[aA];(conv=>whnf)
 refine yy (P:=Pg) (f:=T3.f) (body:=(XX.l 0)) cols.length (λi=>⟨[(1,cV (.ptr 1 0)),(22,.w (.c (.d (.sl (zl cols))))),(23,zm (zl cols).length),(24,zm i)],[(1,.box [.d (.sl (zl cols)),.d (.sl (zg rows))])]⟩)
  (λi=>Y0 cols 0 cols=Y0 cols i (cols.drop i)) ⟨rfl,ze ?_⟩ ?_
 .exact rfl
 intro i hi g;refine zj (λh1=>?_) (λh1=>?_)
 .have o:i<cols.length:=by simp_all[z8]
  rw[zt o]at g;refine yb (xJ o) ?_;refine zj (b:=w6 cols[i].name !=0) (λJ=>?_) (λJ=>?_)
  .simp only[Y0,J,aB]at g;(conv=>whnf);rw[g,J];rfl
  simp only[Y0,J,aA]at g;refine qa ?_ (hA:=by grind[yh]) (hB:=by grind[yh]);have ht:(zl cols).take (yh (some ((i:Int))) ((zl cols).length:Int)).toNat=zl (cols.take i):=by grind[yh,aug]
  rw[ht];refine Sat.w (xC (cols.take i) (.d (.sl [])) cols[i].name ⟨_,rfl⟩) ?_;refine zx (b:=decide (zf (cols.take i) cols[i].name>=0)) (λh4=>?_) (λh4=>?_)
  .simp only[h4,aB]at g;(conv=>whnf);rw[g];rfl
  simp only[h4,aA]at g;refine zj (b:=cols[i].t !=1&&cols[i].t !=2&&cols[i].t !=3) (λR=>?_) (λR=>?_)
  .simp only[R,aB]at g;(conv=>whnf);rw[g];rfl
  simp only[R,aA]at g;refine yW o g ?_;rw[zB o d8];rfl
 have p:cols.length<=i:=by grind[z8]
 rw[aC p]at g;have ac:(Y0 cols 0 cols !=0)=false:=by rw[g];rfl
 rw[ac];simp only[aA];(conv=>whnf)
 refine yy (P:=Pg) (f:=T3.f) (body:=(XX.l 2)) rows.length (λi=>⟨[(1,cV (.ptr 1 0)),(59,.w (.c (.d (.sl (zg rows))))),(60,zm (zg rows).length),(61,zm i)],[(1,.box [.d (.sl (zl cols)),.d (.sl (zg rows))])]⟩)
  (λi=>X2 cols rows=X2 cols (rows.drop i)) ⟨rfl,ze ?_⟩ ?_
 .exact rfl
 clear g p h1 hi i;intro i hi g;refine zj (λh1=>?_) (λh1=>?_)
 .have o:i<rows.length:=by simp_all[zy]
  rw[zt o]at g;have ab:(rows[i]).length<=9223372036854775807:=by
   have:=hb (.d (.sl (zg rows))) d9;simp only[Jy,bnd]at this;have:=awC.1 this.2 [D.sl (rowD rows[i])] (by grind[zg])
   grind[bndc,bnd,zu]
  refine yb (yS o) ?_;generalize rows[i]=row at g ab;(conv=>whnf);rw[zu,z8];refine zx (λJ=>?_) (λJ=>?_)
  .simp only[X2,J,aB]at g;(conv=>whnf);exact aF rI g.symm
  simp only[X2,J,aA]at g;have hl:row.length=cols.length:=d9
  conv=>whnf
  refine yy (P:=Pg) (f:=T3.f) (body:=(XX.l 1)) row.length (λj=>⟨[(1,cV (.ptr 1 0)),(59,.w (.c (.d (.sl (zg rows))))),(60,zm (zg rows).length),(61,zm i),(71,.w (yu row)),(72,zm (rowD row).length),(73,zm j)],[(1,.box [.d (.sl (zl cols)),.d (.sl (zg rows))])]⟩)
   (λj=>uI cols row=uI (cols.drop j) (row.drop j)) ⟨rfl,ze ?_⟩ ?_
  .exact rfl
  intro j hj U;refine zj (λh4=>?_) (λh4=>?_)
  .have I:j<row.length:=by simp_all[zu]
   have aa:j<cols.length:=d8
   rw[zt I,zt aa]at U;refine yb (xw I) ?_;refine yb (xJ aa) ?_;refine zj (b:=yV cols[j].t row[j] !=0) (λR=>?_) (λR=>?_)
   .simp only[uI,R,aB]at U;rw[U,R]at g;(conv=>whnf);exact aF rI g.symm
   simp only[uI,R,aA]at U;refine yW I U ?_;rw[zB I ab];rfl
  have p:row.length<=j:=by grind[zu]
  rw[aC p,aqA]at U;rw[U]at g;refine yW o g ?_;rw[zB o d8];rfl
 have p:rows.length<=i:=by grind[zy]
 rw[aC p]at g;(conv=>whnf);exact aF rI g.symm
def xf(a b:Val):Bool:=(a.k==b.k)&&((a.n==b.n)&&(zo a.s b.s&&true))
def wQ{α:Type}(e:α->α->Bool):am α->am α->Bool
 |[],[]=>true
 |x::xs,y::ys=>bif !e x y then false else wQ e xs ys
 |_,_=>false
def xp(a b:am Val):Bool:=bif ((a.length:Int)) !=b.length then false else wQ xf a b
theorem KN{α:Type}(e:α->α->Bool){a b:am α}{i:Nat}(h:a.length<=i)(g:a.length=b.length):wQ e (a.drop i) (b.drop i)=true:=by rw[aC h,aC d8];rfl
theorem lens{α β:Type}{a:am α}{b:am β}(h:(((a.length:Int)) !=(b.length:Int))=false):a.length=b.length:=d9
theorem aj1(a b:am Val):dY an3 [yu a,yu b] (rB (xp a b)):=by
 refine vI 0 dU rfl λj=>?_
 rw[zu]at j;unfold xp;refine ac2.s T3 ?_;rw[zu,zu];refine zx (λh=>?_) (λh=>?_)
 .rw[h];rfl
 rw[h];have R:=lens h;simp only[aA];refine Uc T3 (ac2.l 0) a.length (λi=>⟨[(0,.w (yu a)),(1,.w (yu b)),(5,zm i)],[]⟩) (λi=>wQ xf a b=wQ xf (a.drop i) (b.drop i)) ?_
 intro i hi o;refine zj (λP=>?_) (λP=>?_)
 .have g:i<a.length:=by simp_all[zu]
  have p:i<b.length:=d8
  rw[zt g,zt p]at o;refine yb (xw g) ?_;refine yb (xw p) ?_;refine zj (b:=!xf a[i] b[i]) (λI=>?_) (λI=>?_)
  .simp only[wQ,I,aB]at o;(conv=>whnf);exact aF rB o.symm
  simp only[wQ,I,aA]at o;refine yW g o ?_;rw[zB g j];rfl
 have J:a.length<=i:=by grind[zu]
 rw[KN _ J R]at o;(conv=>whnf);exact aF rB o.symm
def eqC(a b:Col):Bool:=zo a.name b.name&&((a.t==b.t)&&true)
def ai1{α:Type}(p:α->Bool):am α->Bool
 |[]=>true
 |x::r=>bif p x then ai1 p r else false
def DQ(X:Res)(r:Res):Prop:=r.v.plain=true/\r.asData=X
theorem zC{P:Program}{k:Nat}{args:am W}{X:Res}(h:Sat P k args (DQ X)):Sat P k args (λr=>r=X):=h.data λ_ h=>h
def rC(x:C):Res:=⟨.w (.c x),[]⟩
theorem vG(l:am Col)(g:l.length<=1000000):dY QJ [.c (.d (.sl (zl l)))] (rC (.d (.sl (zl l)))):=by
 refine zC (yA T3 Qy.ok dU ?_)
 conv=>whnf
 refine⟨λh=>?_,?_⟩
 .refine gJ ?_;rw[h];rfl
 (conv=>whnf);refine⟨aqT l,by grind[yz,z8],by grind[z8],?_⟩;refine gJ ?_;refine Eq.trans (b:=rC (.d (.sl (([]++zl l).take (0+(zl l).length))))) rfl ?_;simp_all
end
end Go.Proofs.YtkdijaiaplkliaaGreatDoor
namespace Go.AM
def S.mvOwn(s:S)(d p q sz n:Nat)(g:am (am D)):S:=(s.redo [p,q] [(q,.arr sz g false)]).put (some d) (cV (.own q sz n))
theorem jK{s:S}(d p q sz n:Nat)(i:am (am D))(hq:q<100000)(h:aget s.sl d=some (cV (.own p sz n)))(P:aget s.pl p=some (.arr sz i false)):Za s (s.mvOwn d p q sz n i):=by
 intro F N ι a w hr;have hh:F.h q=none:=by
  cases e:F.h q with
  |none=>rfl
  |some g=>have:=hr.hdom q g e;omega
 have hι:∀r,isin r [p,q]=false->wV ι q (ι p) r=ι r:=λr R=>qZ ι _ (agu R).2
 have j:=hr.places p _ P;have I:∀r x b,aget [(q,Pl.arr sz i false)] r=some x->foot (wV ι q (ι p)) r x b->b<w.heap.size/\(w.heap.size<=b\/∃q' y,isin q' [p,q]=true/\aget s.pl q'=some y/\y.live=true/\foot ι q' y b):=by intro r x b l J;obtain⟨rfl,rfl⟩:=zD l;simp only[foot,zO]at J;exact⟨(hr.mine b ⟨p,_,P,rfl,J⟩).2,.inr ⟨p,_,by simp[isin],P,rfl,J⟩⟩
 have hrel:Rel F N (wV ι q (ι p)) (s.redo [p,q] [(q,.arr sz i false)]) a w:=by
  refine hr.redo [p,q] [(q,.arr sz i false)] _ w hι (λ_ _ _=>rfl) (z7.refl w) rfl rfl (Out.refl w) (bC _) ?_ ?_ ?_ (λr x l=>by obtain⟨rfl,_⟩:=zD l;exact hh)
  .intro r x l;obtain⟨rfl,rfl⟩:=zD l;have hk:=Jh hr [p,r] [(r,.arr sz i false)] (wV ι r (ι p)) w hι (λ_ _ _=>rfl) (bC _) I;obtain⟨h0,hn,h⟩:=j;refine⟨h0,by rw[zO];exact hn,?_⟩;rcases h with⟨g1,g2⟩|⟨b,g1,g2,g3,g4⟩
   .exact .inl ⟨by rw[zO];exact g1,g2⟩
   exact .inr ⟨b,by rw[zO];exact g1,RDs.keep' hk b sz i 0 (λ_ _ _=>rfl) g2,λhf=>(by cases hf),g4⟩
  .exact I
  intro r r' x y b l hy U;obtain⟨rfl,rfl⟩:=zD l;obtain⟨rfl,rfl⟩:=zD hy;exact absurd rfl U
 obtain⟨x,aa,o⟩:=hr.slots d _ h;refine⟨_,{hrel with slots:=λk v hv=>?_}⟩;have hv:aget (yN d (cV (.own q sz n)) (s.redo [p,q] [(q,.arr sz i false)]).sl) k=some v:=hv;rw[yG]at hv;by_cases e:d=k
 .rw[if_pos e]at hv;cases hv;subst e;refine⟨x,aa,?_⟩;have o:CR ι w (F.ok ι s.pl w) (.own p sz n) x:=o;simp only[cV,VR,WR];simp only[CR,zO];exact o
 rw[if_neg e]at hv;exact hrel.slots k v hv
end Go.AM
namespace Go.Proofs.YtkdijaiaplkliaaGreatDoor
open Go Go.AM
section
attribute [local irreducible] Sat zA zX
def adR(sz:Nat)(l:am (am D)):Res:=⟨.w (.c (.own 0 sz l.length)),[.arr sz l false]⟩
theorem ahJ{α:Type}(p:α->Bool):∀(l:am α) (i:Nat),(yp p i l= -1/\l.filter (λx=>!p x)=l)\/∃k,k<l.length/\yp p i l=((i+k:Nat):Int)/\(l.take k).filter (λx=>!p x)=l.take k/\(l.take (k+1)).filter (λx=>!p x)=l.take k
 |[],i=>.inl ⟨rfl,rfl⟩
 |x::r,i=>by
  cases o:p x
  .have I:=ahJ p r (i+1);have e:yp p (i:Int) (x::r)=yp p ((i+1:Nat):Int) r:=by simp_all[yp]
   rcases I with⟨g,j⟩|⟨k,g,j,J,P⟩
   .grind
   grind
  refine .inr ⟨0,dT,by simp_all[yp],dT,by simp[o]⟩
theorem apa{α:Type}:∀{l:am α}{i:Nat}(_:i<l.length) (x:α),(l.set i x).take (i+1)=l.take i++[x]
 |[],_,h,_=>by cases h
 |y::r,0,_,x=>dT
 |y::r,i+1,h,x=>by simp only[cA,List.take_succ_cons,List.cons_append];rw[apa (by simpa using h) x]
theorem ao8{α:Type}:∀{l:am α}{i j:Nat}(_:i<j) (x:α),(l.set i x).drop j=l.drop j
 |[],_,_,_,_=>dT
 |y::r,0,j+1,_,x=>dT
 |y::r,i+1,j+1,h,x=>by simp only[cA,List.drop_succ_cons];exact ao8 d8 x
theorem ato{α:Type}{e g:am α}(h:e.length=g.length):ye e 0 g=g:=by simp_all[ye]
theorem apW{α:Type}(q:α->Bool){l:am α}{j:Nat}(h:j<l.length):(l.take (j+1)).filter q=(l.take j).filter q++(bif q l[j]then [l[j]]else []):=by grind[ck]
def zp(l:am ByteArray):am (am D):=l.map λb=> [D.lit (.string b)]
def Jj(l:am ByteArray):W:=.c (.d (.sl (zp l)))
theorem zP(l:am ByteArray):(zp l).length=l.length:=by simp[zp]
theorem vh{r:am ByteArray}{i:Nat}(h:i<r.length):(zp r)[((i:Int)).toNat]?=some [D.lit (.string r[i])]:=by grind[zp]
theorem agR(l:am ByteArray)(s:ByteArray):dY aal [Jj l,.c (str s)] (rI (yp (λx=>zo s x) 0 l)):=by
 refine vI 0 dU rfl λj=>?_
 rw[zP]at j;refine QA.s T3 ?_
 refine yy (P:=Pg) (f:=T3.f) (body:=(QA.l 0)) l.length (λi=>⟨[(0,.w (Jj l)),(1,.w (.c (str s))),(7,zm (zp l).length),(8,zm i)],[]⟩)
  (λi=>yp (λx=>zo s x) 0 l=yp (λx=>zo s x) i (l.drop i)) ⟨rfl,ze ?_⟩ ?_
 .exact rfl
 intro i hi o;refine zj (λJ=>?_) (λJ=>?_)
 .have g:i<l.length:=by simp_all[zP]
  rw[zt g]at o;refine yb (vh g) ?_;refine zj (λp=>?_) (λp=>?_)
  .simp only[yp,p,aB]at o;(conv=>whnf);exact aF rI o.symm
  simp only[yp,p,aA]at o;refine yW g o ?_;rw[zB g j];rfl
 have I:l.length<=i:=by grind[zP]
 rw[aC I]at o;(conv=>whnf);exact aF rI o.symm
def hasB(l:am ByteArray)(s:ByteArray):Bool:=l.any λx=>zo s x
theorem Qf{α:Type}(p:α->Bool):∀(l:am α) (i:Nat),decide (yp p (i:Int) l>=0)=l.any p
 |[],i=>by grind[yp]
 |x::r,i=>by
  simp only[yp,List.any_cons];by_cases h:p x=true
  .simp_all
  simp only[Bool.not_eq_true]at h;simp only[h,aA,bE];exact Qf p r (i+1)
theorem yk(l:am ByteArray)(s:ByteArray):dY J2 [Jj l,.c (str s)] (rB (hasB l s)):=by refine JG.s T3 ?_;refine Sat.w (agR l s) ?_;exact aF rB (Qf _ l 0)
def amu(c:Int):Bool:=((decide (c<97)||decide (c>122))&&(decide (c<48)||decide (c>57)))&&(c !=95)
def idL:am UInt8->Bool
 |[]=>true
 |c::r=>bif amu c.toNat then false else idL r
def kws:am ByteArray:=[⟨#[97,110,100]⟩,⟨#[111,114]⟩,⟨#[110,111,116]⟩,⟨#[110,117,108,108]⟩,⟨#[116,114,117,101]⟩,⟨#[102,97,108,115,101]⟩]
def aeD(s:ByteArray):Int:=(s.data.toList.getD 0 0).toNat
def yB(s:ByteArray):Bool:=bif zo s ⟨#[]⟩||decide ((s.size:Int)>40)||decide (aeD s<97)||decide (aeD s>122)then false else bif !idL s.data.toList then false else !hasB kws s
theorem ayR{s:ByteArray}(h:zo s ⟨#[]⟩=false):0<s.size:=by
 rcases Nat.eq_zero_or_pos s.size with e|e
 .have:s=⟨#[]⟩:=by obtain⟨d⟩:=s;have:d= #[]:=Array.eq_empty_of_size_eq_zero e;rw[this]
  grind[beqS_self]
 exact e
theorem ajY(s:ByteArray):dY WN [.c (str s)] (rB (yB s)):=by
 unfold yB;refine WL.s T3 ?_;have key:(!(zo s ⟨#[]⟩||decide ((s.size:Int)>40)))=true->0<s.size:=λh=>by grind[ayR]
 refine⟨λh=>⟨⟨d8,d9⟩,trivial⟩,?_⟩
 conv=>whnf
 refine⟨λh=>⟨⟨d8,d9⟩,trivial⟩,?_⟩
 refine zj (b:=zo s ⟨#[]⟩||decide ((s.size:Int)>40)||decide (aeD s<97)||decide (aeD s>122)) (λh=>?_) (λh=>?_)
 ·(conv=>whnf);rw[h];rfl
 rw[h];simp only[bS,bV]at h;have P:(s.size:Int)<=40:=d8
 simp only[aA];refine Uc T3 (WL.l 0) s.size (λi=>⟨[(0,.w (.c (str s))),(23,zm s.size),(24,zm i)],[]⟩) (λi=>idL s.data.toList=idL (s.data.toList.drop i)) ?_
 intro i hi g;refine uT (λj=>?_) (λJ=>?_)
 .have o:i<s.data.toList.length:=by grind[QP]
  rw[zt o]at g;(conv=>whnf);refine⟨⟨d8,d8⟩,?_⟩;have I:s.data.toList.getD ((i:Int)).toNat 0=s.data.toList[i]:=d9
  rw[I];generalize s.data.toList[i]=b at g;refine zj (b:=amu b.toNat) (λp=>?_) (λp=>?_)
  .simp only[idL,p,aB]at g;(conv=>whnf);rw[g];rfl
  simp only[idL,p,aA]at g;refine yW j g ?_;rw[zB j d8];rfl
 rw[aC (by grind[QP])]at g;refine Sat.w (yk kws s) ?_;rw[g];rfl
def qw(s:ByteArray):Int:=
 bif zo s ⟨#[109,105,110]⟩||(zo s ⟨#[109,97,120]⟩||(zo s ⟨#[104,97,115]⟩||zo s ⟨#[115,116,97,114,116,115]⟩))then 2 else
 bif zo s ⟨#[97,98,115]⟩||zo s ⟨#[108,101,110]⟩then 1 else 0
theorem avj(s:ByteArray):dY aan [.c (str s)] (rI (qw s)):=by
 unfold qw;refine yA T3 ajd.ok dU ?_
 repeat' (conv=>whnf
          refine zx (λh=>?_) (λh=>?_))
 all_goals refine aF rI ?_
 all_goals first|(simp only[*,aB,aA];done)|(simp_all only[aJ,aB,aA];done)|(simp_all;done)
def aui(c:Int):Bool:=(decide (c<32)||decide (c>126))||(c==34)
def agl:am UInt8->Int
 |[]=>0
 |c::r=>bif aui c.toNat then 10 else agl r
def uN(v:Val):Int:=bif yV v.k v !=0 then yV v.k v else agl v.s.data.toList
theorem yt{b:Bool}{x y:Int}(g:x≠0)(h:(bif b then x else y)=0):b=false/\y=0:=d9
theorem gC{k:Int}{v:Val}(h:(yV k v !=0)=false):(v.s.size:Int)<=200:=by
 rw[cw]at h;unfold yV at h;obtain⟨_,h⟩:=yt d8 h;obtain⟨_,h⟩:=yt d8 h;obtain⟨_,h⟩:=yt d8 h;obtain⟨i,h⟩:=yt d8 h;obtain⟨g,_⟩:=yt d8 h;by_cases e:v.k=3
 .simp_all
 rw[show(v.k !=3)=true by simpa using e,bF,Bool.not_eq_false']at g;rw[(AM.beqS_iff _ _).1 g]
 decide
theorem aoO(v:Val):dY UP [v.w] (rI (uN v)):=by
 obtain⟨k,n,s⟩:=v;unfold uN;refine UK.s T3 ?_;refine zj (b:=yV k ⟨k,n,s⟩ !=0) (λh=>?_) (λh=>?_)
 ·(conv=>whnf);rw[h];rfl
 have P:(s.size:Int)<=200:=gC h;simp only[h,aA];refine Uc T3 (UK.l 0) s.size (λi=>⟨[(1,cV (.ptr 1 0)),(15,zm s.size),(16,zm i)],[(1,.box [int k,int n,str s])]⟩) (λi=>agl s.data.toList=agl (s.data.toList.drop i)) ?_
 intro i hi g;refine uT (λj=>?_) (λJ=>?_)
 .have o:i<s.data.toList.length:=by grind[QP]
  rw[zt o]at g;(conv=>whnf);refine⟨⟨d8,d8⟩,?_⟩;have I:s.data.toList.getD ((i:Int)).toNat 0=s.data.toList[i]:=d9
  rw[I];generalize s.data.toList[i]=b at g;refine zj (b:=aui b.toNat) (λp=>?_) (λp=>?_)
  .simp only[agl,p,aB]at g;(conv=>whnf);rw[g];rfl
  simp only[agl,p,aA]at g;refine yW j g ?_;rw[zB j d8];rfl
 rw[aC (by grind[QP])]at g;(conv=>whnf);rw[g];rfl
def ja(n jB:Int):Int:=bif decide (n<jB)then 8 else bif decide (n>16)then 7 else 0
theorem ayA(n jB:Int):dY acp [.c (int n),.c (int jB)] (rI (ja n jB)):=by
 unfold ja;refine yA T3 alC.ok dU ?_
 repeat' (conv=>whnf
          refine zx (λh=>?_) (λh=>?_))
 all_goals refine aF rI ?_
 all_goals first|(simp only[*,aB,aA];done)|(simp_all only[aJ,aB,aA];done)|(simp_all;done)
def T4f(k:FuncId)(l:am W):aH W:=
 match l with
 |[.c (.d (.lit (.string s)))]=>bif bD k WN then some (.c (bool (yB s)))else bif bD k aan then some (.c (int (qw s)))else T3f k l
 |[.c (.d (.lit (.int .i64 m))),.c (.d (.lit (.int .i64 n)))]=>bif bD k acp then some (.c (int (ja m n)))else T3f k l
 |[.agg [.d (.lit (.int .i64 g)),.d (.lit (.int .i64 n)),.d (.lit (.string s))]]=>bif bD k UP then some (.c (int (uN ⟨g,n,s⟩)))else none
 |_=>T3f k l
theorem aAZ(k:FuncId)(l:am W)(w:W)(h:T4f k l=some w):Sat Pg k l (λr=>r=⟨.w w,[]⟩):=by
 unfold T4f at h;split at h
 .rcases qR h with⟨g,rfl⟩|⟨_,h⟩
  .rw[aG g];exact ajY _
  rcases qR h with⟨g,rfl⟩|⟨_,h⟩
  .rw[aG g];exact avj _
  grind[arU]
 .rcases qR h with⟨g,rfl⟩|⟨_,h⟩
  .rw[aG g];exact ayA _ _
  grind[arU]
 .rcases qR h with⟨g,rfl⟩|⟨_,h⟩
  .rw[aG g];exact aoO ⟨_,_,_⟩
  cases h
 grind[arU]
def T4:Tab Pg:=⟨T4f,aAZ⟩
def qh(op:Int)(i:ByteArray)(v:Val)(l g:Int)(name j:Bool):Int:=
 bif (l !=g)||((!zo i ⟨#[]⟩&&!name)||(!xf v ⟨0,0,⟨#[]⟩⟩&&!j))then 1 else
 bif j then uN v else bif name&&!yB i then 3 else bif op==16&&qw i==0 then 5 else bif op==16&&qw i !=g then 1 else 0
def yD(op:Int)(i:ByteArray)(v:Val)(g:Int):Int:=
 bif op==1 then qh op i v g 0 false true else bif op==2 then qh op i v g 0 true false else
 bif op==3||op==4 then qh op i v g 1 false false else bif op==16 then qh op i v g g true false else
 bif decide (op<5)||decide (op>15)then 1 else qh op i v g 2 false false
inductive Ex where
 |mk (op:Int) (nm:ByteArray) (v:Val) (ks:am Ex)
mutual
def Ex.ds:Ex->am D
 |.mk op g v ks=> [.lit (.int .i64 op),.lit (.string g),.lit (.int .i64 v.k),.lit (.int .i64 v.n),.lit (.string v.s),.sl (exsD ks)]
def exsD:am Ex->am (am D)
 |[]=> []
 |e::r=>e.ds::exsD r
end
def Ex.cs:Ex->am C
 |.mk op g v ks=> [int op,str g,int v.k,int v.n,str v.s,.d (.sl (exsD ks))]
def Ex.w(e:Ex):W:=.agg e.cs
def Ex.err1:Ex->Int
 |.mk op g v ks=>yD op g v ks.length
theorem Va:∀l:am Ex,exsD l=l.map Ex.ds
 |[]=>rfl
 |e::r=>by simp only[exsD,cG,Va r]
theorem y0(l:am Ex):(exsD l).length=l.length:=by simp[Va]
theorem Qe{r:am Ex}{i:Nat}(h:i<r.length):(exsD r)[((i:Int)).toNat]?=some (r[i]).ds:=by grind[Va]
theorem ayx(e:Ex):dY aco [e.w] (rI e.err1):=by
 obtain⟨op,g,⟨i,j,vs⟩,ks⟩:=e;show dY aco [.agg [int op,str g,int i,int j,str vs,.d (.sl (exsD ks))]] (rI (yD op g ⟨i,j,vs⟩ ks.length));rw[<-y0];refine yA T4 alB.ok dU ?_;generalize(exsD ks)=l
 repeat' (conv=>whnf
          refine zx (λh=>?_) (λh=>?_))
 all_goals refine aF rI ?_
 all_goals unfold yD qh xf
 all_goals generalize((List.length l:Nat):Int)=m at*
 all_goals try simp only[aB,aA,bT,bE,bU,aQ,bL,aZ,bF,bI,bG,bJ,aN,aT,aJ,aP,bN]at*
 all_goals first|done|(simp only[*,aB,aA,bT,bE,bU,aQ,bL,aZ,bF,bI,bG,bJ,aN,aT,aJ,aP,bN];done)|(simp_all only[aB,aA,bT,bE,bU,aQ,bL,aZ,bF,bI,bG,bJ,aN,aT,aJ,aP,bN];done)|skip
mutual
def Ex.meas:Ex->Int->Int×Int
 |.mk _ _ _ ks,n=>((measL ks (n+1) 0).1,(measL ks (n+1) 0).2+1)
def measL:am Ex->Int->Int->Int×Int
 |[],n,d=>(n,d)
 |k::r,n,d=>bif decide (n>200)then(n,d)else measL r (k.meas n).1 (zI true d (k.meas n).2)
end
def Ex.ks:Ex->am Ex
 |.mk _ _ _ ks=>ks
theorem aeS(a b:Int):zI true a b=max a b:=by show(if b>a then b else a)=_;omega
theorem akL:∀(ks:am Ex) (n d:Int),n<=201->(∀k∈ks,∀n:Int,n<=200->n+1<=(k.meas n).1/\(k.meas n).1<=201/\1<=(k.meas n).2/\(k.meas n).2<=(k.meas n).1-n)->
 n<=(measL ks n d).1/\(measL ks n d).1<=201/\d<=(measL ks n d).2/\(measL ks n d).2<=max d ((measL ks n d).1-n)
 |[],n,d,i,_=>by grind[measL]
 |k::r,n,d,i,h=>by
  simp only[measL];by_cases e:n>200
  .rw[bQ e,aB];grind
  rw[aK e,aA];have g:=h k (bP ..) n d8;have l:=akL r (k.meas n).1 (zI true d (k.meas n).2) g.2.1 (λx j=>h x (List.mem_cons_of_mem _ j))
  grind[aeS]
theorem aob:∀(e:Ex) (n:Int),n<=200->n+1<=(e.meas n).1/\(e.meas n).1<=201/\1<=(e.meas n).2/\(e.meas n).2<=(e.meas n).1-n
 |.mk op i v ks,n,g=>by
   have h:=akL ks (n+1) 0 d8 (λk hk n g=>aob k n g)
   grind[Ex.meas]
theorem awU{ks:am Ex}{i:Nat}(h:i<ks.length)(n d:Int):measL (ks.drop i) n d=bif decide (n>200)then(n,d)else measL (ks.drop (i+1)) (ks[i].meas n).1 (zI true d (ks[i].meas n).2):=by rw[zt h];rfl
def aCl(ks:am Ex)(i:Nat)(n d:Int):S:=⟨[(1,zm n),(6,zm d),(13,.w (.c (.d (.sl (exsD ks))))),(14,zm (exsD ks).length),(15,zm i)],[]⟩
def aeZ(x:Int×Int):Res:=⟨.tup [.c (int x.1),.c (int x.2)],[]⟩
theorem aqY{op:Int}{g:ByteArray}{v:Val}{ks:am Ex}(h:agb (Ex.mk op g v ks).w):ks.length<=9223372036854775807:=by
 have:=h (.d (.sl (exsD ks))) (by simp[Ex.cs])
 grind[Jy,bnd,y0]
theorem afU(e:Ex)(n:Int)(h0:0<=n)(hn:n<=200):dY J3 [e.w,.c (int n)] (aeZ (e.meas n)):=by
 obtain⟨op,nm,v,ks⟩:=e;have ih:∀k∈ks,∀n:Int,0<=n->n<=200->dY J3 [k.w,.c (int n)] (aeZ (k.meas n)):=λk hk n h0 hn=>afU k n h0 hn
 refine Vt dU λhb=>?_
 have R:=aqY (hb _ (bP ..));have hq:∀m d:Int,measL ks (n+1) 0=(m,d)->aeZ (Ex.meas (.mk op nm v ks) n)=aeZ (m,d+1):=λm d h=>by grind[Ex.meas]
 refine JH.s T4 ?_
 refine yq (P:=Pg) (f:=T4.f) (body:=(JH.l 0)) (λx:Nat×Int×Int=>aCl ks x.1 x.2.1 x.2.2) (λx=>ks.length-x.1) (λx=>x.1<=ks.length/\0<=x.2.1/\x.2.1<=201/\0<=x.2.2/\x.2.2<=201/\measL ks (n+1) 0=measL (ks.drop x.1) x.2.1 x.2.2)
  ⟨(0,n+1,0),⟨aX _,d9,d9,d9,d9,rfl⟩,ze ?_⟩ ?_
 ·(conv=>whnf);rw[yf d8 d8];rfl
 rintro⟨i,g,p⟩ hx;obtain⟨hi,ad,ag,af,hd1,o⟩:i<=ks.length/\0<=g/\g<=201/\0<=p/\p<=201/\measL ks (n+1) 0=measL (ks.drop i) g p:=hx;have wd:aD.wrap (p+1)=p+1:=yf d8 d8;refine zj (λh1=>?_) (λh1=>?_)
 .have j:i<ks.length:=by have:=aW h1;grind[y0]
  rw[awU j]at o;have hg:(exsD ks)[((i:Int)).toNat]?=some (ks[i]).ds:=Qe j;have hm:ks[i]∈ks:=aR j;generalize ks[i]=k at*;have ae:=ih k hm g ad;have J:=aob k g;obtain⟨ab,aa,v1,U⟩:=k;refine yb hg ?_;refine zj (b:=decide (g>200)) (λI=>?_) (λI=>?_)
  .rw[I,aB]at o;rw[hq _ _ o];(conv=>whnf);exact aF (λx=>aeZ (g,x)) wd
  rw[I,aA]at o;have I:=aO I;have J:=J d8;refine Sat.w (ae d8) ?_;refine⟨(i+1,(Ex.meas (.mk ab aa v1 U) g).1,zI true p (Ex.meas (.mk ab aa v1 U) g).2),⟨⟨d9,d9,d9,?_,?_,o⟩,d9⟩,ze ?_⟩
  .grind[aeS]
  .grind[aeS]
  (conv=>whnf);rw[zB j R];rfl
 have ac:ks.length<=i:=by grind[y0]
 rw[aC ac]at o;rw[hq _ _ o];(conv=>whnf);exact aF (λx=>aeZ (g,x)) wd
termination_by cH e
decreasing_by
 simp_wf
 have:=bY hk;omega
mutual
def Ex.err:Ex->Int
 |.mk op g v ks=>bif yD op g v ks.length !=0 then yD op g v ks.length else errL ks
def errL:am Ex->Int
 |[]=>0
 |k::r=>bif k.err !=0 then k.err else errL r
end
theorem aur{ks:am Ex}{i:Nat}(h:i<ks.length):errL (ks.drop i)=bif ks[i].err !=0 then ks[i].err else errL (ks.drop (i+1)):=by rw[zt h];rfl
theorem ak7(e:Ex):dY aao [e.w] (rI e.err):=by
 have o:=ayx e;obtain⟨op,nm,v,ks⟩:=e;have ih:∀k∈ks,dY aao [k.w] (rI k.err):=λk hk=>ak7 k
 refine Vt dU λhb=>?_
 have p:=aqY (hb _ (bP ..));simp only[Ex.err];refine gR.s T4 ?_;refine Sat.w o ?_;refine zx (b:=yD op nm v ks.length !=0) (λh=>?_) (λh=>?_)
 ·(conv=>whnf);rw[h];rfl
 rw[h];simp only[aA];refine Uc T4 (gR.l 0) ks.length (λi=>⟨[(13,.w (.c (.d (.sl (exsD ks))))),(14,zm (exsD ks).length),(15,zm i)],[]⟩) (λi=>errL ks=errL (ks.drop i)) ?_
 intro i hi j;refine zj (λh1=>?_) (λh1=>?_)
 .have g:i<ks.length:=by simp_all[y0]
  rw[aur g]at j;have hg:(exsD ks)[((i:Int)).toNat]?=some (ks[i]).ds:=Qe g;have hm:ks[i]∈ks:=aR g;generalize ks[i]=k at*;have P:=ih k hm;obtain⟨aa,U,v1,R⟩:=k;refine yb hg ?_;refine Sat.w P ?_;generalize(Ex.err (.mk aa U v1 R))=x at*;refine zx (b:=x !=0) (λI=>?_) (λI=>?_)
  .rw[I,aB]at j;(conv=>whnf);rw[j];rfl
  rw[I,aA]at j;refine yW g j ?_;rw[zB g p];rfl
 have J:ks.length<=i:=by grind[y0]
 rw[aC J]at j;(conv=>whnf);rw[j];rfl
termination_by cH e
decreasing_by
 simp_wf
 have:=bY hk;omega
def Ex.chk(e:Ex):Int:=bif decide ((e.meas 0).1>200)then 7 else bif decide ((e.meas 0).2>16)then 20 else e.err
theorem Vs(e:Ex):dY alP [e.w] (rI e.chk):=by
 have j:=afU e 0 d8 d8;have l:=ak7 e;unfold Ex.chk;obtain⟨op,p,v,ks⟩:=e;refine alA.s T4 ?_;refine Sat.cal (j) ?_;generalize(Ex.meas (.mk op p v ks) 0)=m at*;obtain⟨m1,o⟩:=m;refine zj (b:=decide (m1>200)) (λg=>?_) (λg=>?_)
 ·(conv=>whnf);rw[g];rfl
 refine zj (b:=decide (o>16)) (λi=>?_) (λi=>?_)
 ·(conv=>whnf);rw[g,i];rfl
 refine Sat.w l ?_;rw[g,i];rfl
def an9:am ByteArray->am Pl
 |[]=> [.box [.nil]]
 |s::l=> [.box [.own 1 1 (s::l).length],.arr 1 (zp (s::l)) false]
def yv(l:am ByteArray)(s:ByteArray):Int:=bif !yB s then 3 else bif hasB l s then 4 else 0
def aA3(l:am ByteArray)(s:ByteArray):am Pl:=
 match l with
 |[]=> [.box [.own 1 1 1],.arr 1 (zp [s]) false]
 |x::r=> [.box [.own 2 1 ((x::r).length+1)],.gone,.arr 1 (zp ((x::r)++[s])) false]
def X9(l:am ByteArray)(s:ByteArray):Res:=⟨.w (.c (int (yv l s))),bif yv l s !=0 then an9 l else aA3 l s⟩
theorem amU{l:am ByteArray}{s:ByteArray}(h:(!yB s)=true):yv l s=3:=by grind[yv]
theorem awn{l:am ByteArray}{s:ByteArray}(h:(!yB s)=false)(g:hasB l s=true):yv l s=4:=by grind[yv]
theorem amT{l:am ByteArray}{s:ByteArray}(h:(!yB s)=false)(g:hasB l s=false):yv l s=0:=by grind[yv]
theorem ay1(l:am ByteArray):∀y∈zp l,y.length=1:=by intro y g;obtain⟨r,_,rfl⟩:=List.mem_map.1 g;rfl
theorem Jr(l:am ByteArray)(s:ByteArray)(o:l.length<=1000000):zA Pg afm [.c (.ptr 0 0),.c (str s)] (an9 l) (λr=>r=X9 l s):=by
 cases l with
 |nil=>
  unfold X9;refine qe T4 UL.ok dU (cq rfl) ?_;refine zj (b:=!yB s) (λh=>?_) (λh=>?_)
  ·(conv=>whnf);rw[amU h];rfl
  refine Sat.w (yk [] s) ?_;refine qr ?_ (hA:=dT) (hB:=by grind[yz]) (hC:=dT);rw[amT h rfl];rfl
 |cons x r=>
  unfold X9;have j:(zp (x::r)).take ((x::r).length)=zp (x::r):=by grind[zP]
  refine qe T4 UL.ok dU (cq rfl) ?_;refine zj (b:=!yB s) (λh=>?_) (λh=>?_)
  ·(conv=>whnf);rw[amU h];rfl
  (conv=>whnf);have i:=yk (x::r) s;unfold Jj at i;rw[<-j]at i;refine Sat.w i ?_;refine zx (b:=hasB (x::r) s) (λg=>?_) (λg=>?_)
  ·(conv=>whnf);rw[awn h g];rfl
  refine qr ?_ (hA:=dT) (hB:=by grind[yz]) (hC:=d9);rw[amT h g];show _=(⟨_,[.box [.own 2 1 ((x::r).length+1)],.gone,.arr 1 (zp ((x::r)++[s])) false]⟩:Res);rw[show zp ((x::r)++[s])=(zp (x::r)).take ((x::r).length)++zp [s]by grind[zp]];rfl
def vR:am ByteArray->am ByteArray->Int
 |_,[]=>0
 |g,s::r=>bif yv g s !=0 then yv g s else vR (g++[s]) r
def Q0:am ByteArray->am ByteArray->am ByteArray
 |g,[]=>g
 |g,s::r=>bif yv g s !=0 then g else Q0 (g++[s]) r
def Uq(g l:am ByteArray):Res:=⟨.w (.c (int (vR g l))),an9 (Q0 g l)⟩
theorem akl{g r:am ByteArray}{s:ByteArray}(h:(yv g s !=0)=true):Uq g (s::r)=⟨.w (.c (int (yv g s))),an9 g⟩:=by simp only[Uq,vR,Q0,h,aB]
theorem aqK{g r:am ByteArray}{s:ByteArray}(h:(yv g s !=0)=false):Uq g (s::r)=Uq (g++[s]) r:=by simp_all[Uq,vR,Q0]
def aCC(l:am ByteArray)(i:Nat):am ByteArray->S
 |[]=>⟨[(0,cV (.ptr 100000 0)),(8,.w (Jj l)),(9,zm (zp l).length),(10,zm i)],[(100000,.box [.nil])]⟩
 |x::r=>⟨[(0,cV (.ptr 100000 0)),(8,.w (Jj l)),(9,zm (zp l).length),(10,zm i)],[(100000,.box [.own 600256 1 (x::r).length]),(600256,.arr 1 (zp (x::r)) false)]⟩
theorem zJ{α:Type}{l:am α}{i:Nat}(h:i<l.length):l.take (i+1)=l.take i++[l[i]]:=ck h
theorem arE(l:am ByteArray)(hl:l.length<=1000):zA Pg afn [.c (.ptr 0 0),Jj l] [.box [.nil]] (λr=>r=Uq [] l):=by
 refine qe T4 UM.ok dU (cq rfl) ?_
 conv=>whnf
 refine yq (P:=Pg) (f:=T4.f) (body:=(UM.l 0)) (λx:Nat×am ByteArray=>aCC l x.1 x.2) (λx=>l.length-x.1) (λx=>x.1<=l.length/\x.2.length=x.1/\Uq [] l=Uq x.2 (l.drop x.1)) ⟨(0,[]),⟨aX _,rfl,rfl⟩,ze ?_⟩ ?_
 .exact rfl
 rintro⟨i,p⟩ hx;obtain⟨hi,ha,j⟩:i<=l.length/\p.length=i/\Uq [] l=Uq p (l.drop i):=hx;have wi:i<l.length->aD.wrap ((i:Int)+1)=((i+1:Nat):Int):=λh=>zB h d8
 cases p with
 |nil=>
  refine zj (λI=>?_) (λI=>?_)
  .have g:i<l.length:=by have I:decide ((i:Int)<((zp l).length:Int))=true:=I;simp_all[zP]
   have U:=vh g;rw[zt g]at j;generalize l[i]=s at*;refine yb U ?_;refine zA.mono (Jr [] s dT) ?_;rintro _ rfl;by_cases o:(yv [] s !=0)=true
   .have e:X9 [] s=⟨.w (.c (int (yv [] s))),[.box [.nil]]⟩:=by unfold X9;rw[o];rfl
    rw[akl o]at j;rw[e,j];refine zj (λk=>?_) (λk=>?_)
    .exact rfl
    grind
   have o:(yv [] s !=0)=false:=d9
   have J:yv [] s=0:=d9
   have e:X9 [] s=⟨.w (.c (int 0)),[.box [.own 1 1 1],.arr 1 (zp [s]) false]⟩:=by unfold X9;rw[o,J];rfl
   rw[aqK o]at j;rw[e];(conv=>whnf);refine⟨(i+1,[s]),⟨⟨g,d9,j⟩,d9⟩,ze ?_⟩;(conv=>whnf);rw[wi g];rfl
  have R:l.length<=i:=by grind[zP]
  rw[aC R]at j;rw[j];exact rfl
 |cons x r=>
  refine zj (λI=>?_) (λI=>?_)
  .have g:i<l.length:=by have I:decide ((i:Int)<((zp l).length:Int))=true:=I;simp_all[zP]
   have U:=vh g;rw[zt g]at j;generalize l[i]=s at*;refine yb U ?_;refine zA.mono (Jr (x::r) s d8) ?_;rintro _ rfl;by_cases o:(yv (x::r) s !=0)=true
   .have e:X9 (x::r) s=⟨.w (.c (int (yv (x::r) s))),[.box [.own 1 1 (x::r).length],.arr 1 (zp (x::r)) false]⟩:=by unfold X9;rw[o];rfl
    rw[akl o]at j;rw[e,j];refine zj (λk=>?_) (λk=>?_)
    .exact rfl
    grind
   have o:(yv (x::r) s !=0)=false:=d9
   have J:yv (x::r) s=0:=d9
   have e:X9 (x::r) s=⟨.w (.c (int 0)),[.box [.own 2 1 ((x::r).length+1)],.gone,.arr 1 (zp ((x::r)++[s])) false]⟩:=by unfold X9;rw[o,J];rfl
   rw[aqK o]at j;rw[e];(conv=>whnf);refine⟨(i+1,(x::r)++[s]),⟨⟨g,d9,j⟩,d9⟩,ze ?_⟩;(conv=>whnf);rw[wi g];show _=S.mk _ [(100000,.box [.own 600256 1 (x::(r++[s])).length]),_];rw[show(x::(r++[s])).length=(x::r).length+1 by simp];rfl
  have R:l.length<=i:=by grind[zP]
  rw[aC R]at j;rw[j];exact rfl
def zh(l:am Int):am (am D):=l.map λn=> [D.lit (.int .i64 n)]
theorem zE(l:am Int):(zh l).length=l.length:=by simp[zh]
theorem xg{r:am Int}{i:Nat}(h:i<r.length):(zh r)[((i:Int)).toNat]?=some [D.lit (.int .i64 r[i])]:=by grind[zh]
theorem agQ(l:am Int)(s:Int):dY aak [.c (.d (.sl (zh l))),.c (int s)] (rI (yp (λx=>s==x) 0 l)):=by
 refine vI 0 dU rfl λj=>?_
 rw[zE]at j;refine Qz.s T4 ?_
 refine yy (P:=Pg) (f:=T4.f) (body:=(Qz.l 0)) l.length (λi=>⟨[(0,.w (.c (.d (.sl (zh l))))),(1,.w (.c (int s))),(7,zm (zh l).length),(8,zm i)],[]⟩)
  (λi=>yp (λx=>s==x) 0 l=yp (λx=>s==x) i (l.drop i)) ⟨rfl,ze ?_⟩ ?_
 .exact rfl
 intro i hi o;refine zj (λJ=>?_) (λJ=>?_)
 .have g:i<l.length:=by simp_all[zE]
  rw[zt g]at o;refine yb (xg g) ?_;refine zj (λp=>?_) (λp=>?_)
  .simp only[yp,p,aB]at o;(conv=>whnf);exact aF rI o.symm
  simp only[yp,p,aA]at o;refine yW g o ?_;rw[zB g j];rfl
 have I:l.length<=i:=by grind[zE]
 rw[aC I]at o;(conv=>whnf);exact aF rI o.symm
def JU(l:am Int)(s:Int):Bool:=l.any λx=>s==x
theorem acJ(l:am Int)(s:Int):dY J1 [.c (.d (.sl (zh l))),.c (int s)] (rB (JU l s)):=by refine JF.s T4 ?_;refine Sat.w (agQ l s) ?_;exact aF rB (Qf _ l 0)
def JW:am (am D)->am Int
 |[.lit (.int _ m)]::r=>m::JW r
 |_=> []
theorem atf(L:am (am D))(op:Int)(rest:am D)(h:zh (JW L)=L):dY ah0 [.c (.d (.sl L)),.c (.fp (.lit (.int .i64 op)::rest))] (rB (JU (JW L) op)):=by
 rw[<-h];generalize JW L=l at*;have e:JW (zh l)=l:=by clear h;induction l<;>grind[JW,zh]
 rw[e];refine ahy.s T4 ?_;refine Sat.cal (acJ l op) ?_;rfl
def VP(op:Int)(i:ByteArray)(v:Val)(g:Int):Bool:=((op==0&&zo i ⟨#[]⟩)&&xf v ⟨0,0,⟨#[]⟩⟩)&&g==0
def Ex.zero:Ex->Bool
 |.mk op g v ks=>VP op g v ks.length
theorem ayL(op:Int)(g:ByteArray)(k n:Int)(s:ByteArray)(l:am (am D)):dY UC [.agg [int op,str g,int k,int n,str s,.d (.sl l)]] (rB (VP op g ⟨k,n,s⟩ l.length)):=by
 refine yA T4 alE.ok dU ?_
 repeat' (conv=>whnf
          refine zx (λh=>?_) (λh=>?_))
 all_goals refine aF rB ?_
 all_goals unfold VP xf
 all_goals try simp only[aB,aA,bT,bE,bU,aQ,bL,aZ,bF,bI,bG,bJ,aN,aT,aJ,aP,bN]at*
 all_goals first|done|(simp only[*,aB,aA,bT,bE,bU,aQ,bL,aZ,bF,bI,bG,bJ,aN,aT,aJ,aP,bN];done)|(simp_all only[aB,aA,bT,bE,bU,aQ,bL,aZ,bF,bI,bG,bJ,aN,aT,aJ,aP,bN];done)|skip
def an7:C->aH Int|.d (.lit (.int .i64 n))=>some n|_=>none
def asH:C->aH ByteArray|.d (.lit (.string n))=>some n|_=>none
def slD:C->aH (am (am D))|.d (.sl n)=>some n|_=>none
theorem ajy{c:C}{n:Int}(h:an7 c=some n):c=int n:=by
 unfold an7 at h;split at h
 .cases h;rfl
 cases h
theorem ark{c:C}{n:ByteArray}(h:asH c=some n):c=str n:=by
 unfold asH at h;split at h
 .cases h;rfl
 cases h
theorem aBK{c:C}{n:am (am D)}(h:slD c=some n):c=.d (.sl n):=by unfold slD at h;grind
def zc:am C->aH W
 |[a,b,c,d,e,f]=>(an7 a).bind λop=>(asH b).bind λg=>(an7 c).bind λk=>(an7 d).bind λn=>(asH e).bind λs=>(slD f).bind λl=>some (.c (bool (VP op g ⟨k,n,s⟩ l.length)))
 |_=>none
def T5f(k:FuncId)(l:am W):aH W:=
 bif bD k UC then(match l with|[.agg cs]=>zc cs|_=>none)else T4f k l
theorem aA0(k:FuncId)(l:am W)(w:W)(h:T5f k l=some w):Sat Pg k l (λr=>r=⟨.w w,[]⟩):=by
 unfold T5f at h;cases hk:bD k UC
 .simp_all[aAZ]
 rw[hk,aB]at h;rw[aG hk];split at h
 .rename_i cs;unfold zc at h;split at h
  .obtain⟨op,g,h⟩:=aY.1 h;obtain⟨J,i,h⟩:=aY.1 h;obtain⟨v,j,h⟩:=aY.1 h;obtain⟨n,o,h⟩:=aY.1 h;obtain⟨s,p,h⟩:=aY.1 h;obtain⟨l,I,h⟩:=aY.1 h;cases h;rw[ajy g,ark i,ajy j,ajy o,ark p,aBK I];exact ayL _ _ _ _ _ _
  cases h
 cases h
def T5:Tab Pg:=⟨T5f,aA0⟩
structure Itm where
 e:Ex
 nm:ByteArray
def Itm.ds(x:Itm):am D:=x.e.ds++[.lit (.string x.nm)]
structure Agg where
 fn:ByteArray
 col:ByteArray
 nm:ByteArray
def Agg.ds(x:Agg):am D:=[.lit (.string x.fn),.lit (.string x.col),.lit (.string x.nm)]
structure Srt where
 col:ByteArray
 desc:Bool
def Srt.ds(x:Srt):am D:=[.lit (.string x.col),.lit (.bool x.desc)]
structure Stp where
 op:Int
 cond:Ex
 items:am Itm
 cols:am ByteArray
 aggs:am Agg
 sorts:am Srt
 n:Int
 table:ByteArray
def Stp.ds(s:Stp):am D:=[.lit (.int .i64 s.op)]++(s.cond.ds++[.sl (s.items.map Itm.ds),.sl (zp s.cols),.sl (s.aggs.map Agg.ds),.sl (s.sorts.map Srt.ds),.lit (.int .i64 s.n),.lit (.string s.table)])
def Stp.w(s:Stp):W:=.agg (s.ds.map .d)
def X6(op:Int)(z:Bool)(g cols j i n:Int)(tb:ByteArray):Bool:=
 bif decide (op<1)||decide (op>9)then false else
 bif ((!JU [1] op&&!z)||((!JU [2] op&&decide (g>0))||((!JU [3] op&&decide (j>0))||((!JU [4] op&&decide (i>0))||(!JU [5] op&&n !=0)))))then false else
 bif !JU [6,7,8] op&&!zo tb ⟨#[]⟩then false else
 JU [3,6,7,8,9] op||cols==0
def Stp.uses(s:Stp):Bool:=X6 s.op s.cond.zero s.items.length s.cols.length s.aggs.length s.sorts.length s.n s.table
theorem ayK(op:Int)(l:Int)(o:ByteArray)(k n:Int)(s:ByteArray)(ks g cols j i:am (am D))(m:Int)(tb:ByteArray):
 dY acq [.agg [int op,int l,str o,int k,int n,str s,.d (.sl ks),.d (.sl g),.d (.sl cols),.d (.sl j),.d (.sl i),int m,str tb]] (rB (X6 op (VP l o ⟨k,n,s⟩ ks.length) g.length cols.length j.length i.length m tb)):=by
 refine yA T5 alD.ok dU ?_
 repeat' (conv=>whnf
          first|refine zx (λh=>?_) (λh=>?_)|(refine Sat.mono (atf _ _ _ rfl) ?_;rintro _ rfl))
 all_goals refine aF rB ?_
 all_goals unfold X6
 all_goals try simp only[List.take_length,JW]at*
 all_goals generalize((List.length cols:Nat):Int)=p at*
 all_goals try simp only[aB,aA,bT,bE,bU,aQ,bL,aZ,bF,bI,bG,bJ,aN,aT,aJ,aP,bN]at*
 all_goals first|done|(simp only[*,aB,aA,bT,bE,bU,aQ,bL,aZ,bF,bI,bG,bJ,aN,aT,aJ,aP,bN];done)|(simp_all only[aB,aA,bT,bE,bU,aQ,bL,aZ,bF,bI,bG,bJ,aN,aT,aJ,aP,bN];done)|skip
def yP(l:am Itm):am (am D):=l.map Itm.ds
theorem vg(l:am Itm):(yP l).length=l.length:=by simp[yP]
theorem V7{r:am Itm}{i:Nat}(h:i<r.length):(yP r)[((i:Int)).toNat]?=some (r[i]).ds:=by grind[yP]
theorem aa0{g:am ByteArray}{s:ByteArray}(h:(yv g s !=0)=true):X9 g s=⟨.w (.c (int (yv g s))),an9 g⟩:=by grind[X9]
theorem aey{g:am ByteArray}{s:ByteArray}(h:(yv g s !=0)=false):X9 g s=⟨.w (.c (int 0)),aA3 g s⟩:=by grind[X9]
def qg:am ByteArray->am Itm->Int
 |_,[]=>0
 |g,x::r=>bif x.e.chk !=0 then x.e.chk else bif yv g x.nm !=0 then yv g x.nm else qg (g++[x.nm]) r
def itS(l:am Itm)(i:Nat):am ByteArray->S
 |[]=>⟨[(3,cV (.ptr 3 0)),(8,.w (.c (.d (.sl (yP l))))),(9,zm (yP l).length),(10,zm i)],[(3,.box [.nil])]⟩
 |x::r=>⟨[(3,cV (.ptr 3 0)),(8,.w (.c (.d (.sl (yP l))))),(9,zm (yP l).length),(10,zm i)],[(3,.box [.own 600352 1 (x::r).length]),(600352,.arr 1 (zp (x::r)) false)]⟩
theorem avu(l:am Itm)(hl:l.length<=1000):dY aju [.c (.d (.sl (yP l)))] (rI (qg [] l)):=by
 refine gQ.s T5 ?_;refine yq (P:=Pg) (f:=T5.f) (body:=(gQ.l 0)) (λx:Nat×am ByteArray=>itS l x.1 x.2) (λx=>l.length-x.1) (λx=>x.1<=l.length/\x.2.length=x.1/\qg [] l=qg x.2 (l.drop x.1)) ⟨(0,[]),⟨aX _,rfl,rfl⟩,ze ?_⟩ ?_
 .exact rfl
 rintro⟨i,o⟩ hx;obtain⟨hi,ha,j⟩:i<=l.length/\o.length=i/\qg [] l=qg o (l.drop i):=hx;have wi:i<l.length->aD.wrap ((i:Int)+1)=((i+1:Nat):Int):=λh=>zB h d8
 have aa:decide ((i:Int)<((yP l).length:Int))=true->i<l.length:=λh=>by simp_all[vg]
 have U:decide ((i:Int)<((yP l).length:Int))=false->qg [] l=0:=λh=>by have:=aO h;rw[vg]at this;rw[j,aC d8];cases o<;>rfl
 have ab:∀g:i<l.length,qg [] l=bif l[i].e.chk !=0 then l[i].e.chk else bif yv o l[i].nm !=0 then yv o l[i].nm else qg (o++[l[i].nm]) (l.drop (i+1)):=λg=>by rw[j,zt g];rfl
 cases o with
 |nil=>
  refine zj (λh1=>?_) (λh1=>?_)
  .have g:=aa h1;have hg:=V7 g;have j:=ab g;generalize l[i]=x at*;obtain⟨⟨R,J,v1,I⟩,s⟩:=x;refine yb hg ?_;refine Sat.cal (Vs (.mk R J v1 I)) ?_;generalize(Ex.chk (.mk R J v1 I))=e1 at*;refine zj (b:=e1 !=0) (λh2=>?_) (λh2=>?_)
   .simp only[h2,aB]at j;(conv=>whnf);rw[j];rfl
   simp only[h2,aA]at j;(conv=>whnf);refine zA.mono (Jr [] s dT) ?_;rintro _ rfl;by_cases p:(yv [] s !=0)=true
   .rw[aa0 p];simp only[p,aB]at j;generalize yv [] s=e2 at*;refine zj (λk=>?_) (λk=>?_)
    ·(conv=>whnf);rw[j];rfl
    exact absurd (p.symm.trans k) dT
   have p:(yv [] s !=0)=false:=d9
   rw[aey p];simp only[p,aA]at j;(conv=>whnf);refine⟨(i+1,[s]),⟨⟨g,d9,j⟩,d9⟩,ze ?_⟩;(conv=>whnf);rw[wi g];rfl
  have hE:=U h1;rw[hE];exact rfl
 |cons y r=>
  refine zj (λh1=>?_) (λh1=>?_)
  .have g:=aa h1;have hg:=V7 g;have j:=ab g;generalize l[i]=x at*;obtain⟨⟨R,J,v1,I⟩,s⟩:=x;refine yb hg ?_;refine Sat.cal (Vs (.mk R J v1 I)) ?_;generalize(Ex.chk (.mk R J v1 I))=e1 at*;refine zj (b:=e1 !=0) (λh2=>?_) (λh2=>?_)
   .simp only[h2,aB]at j;(conv=>whnf);rw[j];rfl
   simp only[h2,aA]at j;(conv=>whnf);refine zA.mono (Jr (y::r) s d8) ?_;rintro _ rfl;by_cases p:(yv (y::r) s !=0)=true
   .rw[aa0 p];simp only[p,aB]at j;generalize yv (y::r) s=e2 at*;refine zj (λk=>?_) (λk=>?_)
    ·(conv=>whnf);rw[j];rfl
    exact absurd (p.symm.trans k) dT
   have p:(yv (y::r) s !=0)=false:=d9
   rw[aey p];simp only[p,aA]at j;(conv=>whnf);refine⟨(i+1,(y::r)++[s]),⟨⟨g,d9,j⟩,d9⟩,ze ?_⟩;(conv=>whnf);rw[wi g];show _=S.mk _ [(3,.box [.own 600352 1 (y::(r++[s])).length]),_];rw[show(y::(r++[s])).length=(y::r).length+1 by simp];rfl
  have hE:=U h1;rw[hE];exact rfl
def vA(l:am ByteArray)(jB:Int):Int:=bif ja l.length jB !=0 then ja l.length jB else vR [] l
theorem apc{n jB:Int}(h:(ja n jB !=0)=false):n<=16:=by
 rw[cw]at h;unfold ja at h;obtain⟨_,h⟩:=yt d8 h;obtain⟨h,_⟩:=yt d8 h
 grind
theorem gu(l:am ByteArray)(jB:Int):dY agx [Jj l,.c (int jB)] (rI (vA l jB)):=by
 unfold vA;rw[<-zP];refine agf.s T5 ?_;refine zj (b:=ja (zp l).length jB !=0) (λh=>?_) (λh=>?_)
 ·(conv=>whnf);rw[h];rfl
 have g:=apc h;rw[zP]at g;(conv=>whnf);refine zA.mono (arE l d8) ?_;rintro _ rfl;rw[h,aA];unfold Uq;generalize vR [] l=e;cases Q0 [] l with
 |nil=>
  exact rfl
 |cons x r=>
  exact rfl
def qv(l:am Agg):am (am D):=l.map Agg.ds
theorem jN(l:am Agg):(qv l).length=l.length:=by simp[qv]
theorem aa2{r:am Agg}{i:Nat}(h:i<r.length):(qv r)[((i:Int)).toNat]?=some (r[i]).ds:=by grind[qv]
def fns:am ByteArray:=[⟨#[115,117,109]⟩,⟨#[109,105,110]⟩,⟨#[109,97,120]⟩,⟨#[102,105,114,115,116]⟩]
def ac6:ByteArray:=⟨#[99,111,117,110,116]⟩
def acR(x:Agg):Bool:=bif !zo x.fn ac6&&!hasB fns x.fn then true else zo x.fn ac6== !zo x.col ⟨#[]⟩
def VV(x:Agg):Int:=bif acR x then 5 else bif !zo x.col ⟨#[]⟩&&!yB x.col then 3 else 0
def uc:am ByteArray->am Agg->Int
 |_,[]=>0
 |g,x::r=>bif VV x !=0 then VV x else bif yv g x.nm !=0 then yv g x.nm else uc (g++[x.nm]) r
def JR(cols:am ByteArray)(g:am Agg):Int:=
 bif aD.wrap ((cols.length:Int)+g.length)==0 then 8 else bif decide ((cols.length:Int)>16)||decide ((g.length:Int)>16)then 7 else
 bif vR [] cols !=0 then vR [] cols else uc cols g
def grS(l:am Agg)(i p:Nat):am ByteArray->S
 |[]=>⟨[(3,cV (.ptr 3 0)),(36,.w (.c (.d (.sl (qv l))))),(37,zm (qv l).length),(38,zm i)],[(3,.box [.nil])]⟩
 |x::r=>⟨[(3,cV (.ptr 3 0)),(36,.w (.c (.d (.sl (qv l))))),(37,zm (qv l).length),(38,zm i)],[(3,.box [.own p 1 (x::r).length]),(p,.arr 1 (zp (x::r)) false)]⟩
theorem ahn:∀(l g:am ByteArray),(vR g l !=0)=false->Q0 g l=g++l
 |[],g,_=>by simp[Q0]
 |s::r,g,h=>by
  simp only[vR]at h;simp only[Q0];cases i:(yv g s !=0)
  .simp_all[ahn]
  simp_all
theorem aq8(g:am Agg)(cols:am ByteArray)(ae:g.length<=16)(af:cols.length<=16)(s:S)(p0:Nat)(ad:p0=600496\/p0=601152)(hs:y8 s [3,36,37,38] (· =grS g 0 p0 cols)):
 zX (mwpR Pg T5.f (YY.l 0)) [3,36,37,38] (ZF 1 (Wz (mwpR Pg T5.f (.seq (.reg [⟨(some 2),none,false,.mov (.k (zm 0)),[3,36,37,38]⟩]) .ret)) (ZZ YY.A.res [] λr=>r=rI (uc cols g)))) s:=by
 refine yq (P:=Pg) (f:=T5.f) (body:=(YY.l 0)) (λx:Nat×Nat×am ByteArray=>grS g x.1 x.2.1 x.2.2) (λx=>g.length-x.1) (λx=>x.1<=g.length/\(x.2.1=600496\/x.2.1=601152)/\x.2.2.length=x.1+cols.length/\uc cols g=uc x.2.2 (g.drop x.1)) ⟨(0,p0,cols),⟨aX _,ad,dT,rfl⟩,hs⟩ ?_;rintro⟨i,p,ac⟩ hx;obtain⟨hi,hp,ha,aa⟩:i<=g.length/\(p=600496\/p=601152)/\ac.length=i+cols.length/\uc cols g=uc ac (g.drop i):=hx;have wi:i<g.length->aD.wrap ((i:Int)+1)=((i+1:Nat):Int):=λh=>zB h d8
 have I:decide ((i:Int)<((qv g).length:Int))=true->i<g.length:=λh=>by simp_all[jN]
 have o:decide ((i:Int)<((qv g).length:Int))=false->uc cols g=0:=λh=>by have:=aO h;rw[jN]at this;rw[aa,aC d8];cases ac<;>rfl
 have ab:∀J:i<g.length,uc cols g=bif VV g[i] !=0 then VV g[i]else bif yv ac g[i].nm !=0 then yv ac g[i].nm else uc (ac++[g[i].nm]) (g.drop (i+1)):=λJ=>by rw[aa,zt J];rfl
 cases ac with
 |nil=>
  refine zj (λh1=>?_) (λh1=>?_)
  .have J:=I h1;have hg:=aa2 J;have U:=ab J;generalize g[i]=x at*;obtain⟨fn,col,s⟩:=x;have R:=yk fns fn;have j:=Jr [] s d9;by_cases he:(yv [] s !=0)=true
   .rw[aa0 he]at j;simp only[he,aB]at U;generalize yv [] s=e2 at*;refine yb hg ?_;repeat' ((conv=>whnf);first|((with_reducible show Sat _ _ _ _);refine Sat.mono R ?_;rintro _ rfl)|((with_reducible show zA _ _ _ _ _);refine zA.mono j ?_;rintro _ rfl)|refine zx (λh=>?_) (λh=>?_))
    all_goals first|(exfalso;simp_all;done)|skip
    all_goals (conv=>whnf)
    all_goals rw[U]
    all_goals clear R j ab o I hs U aa wi hg
    all_goals unfold VV acR
    all_goals refine aF rI ?_
    all_goals ((try unfold ac6 at*);(try generalize zo fn ⟨#[99,111,117,110,116]⟩=a at*);(try generalize hasB fns fn=b at*);(try generalize zo col ⟨#[]⟩=c at*);(try generalize yB col=d at*);(try cases a)<;>(try cases b)<;>(try cases c)<;>(try cases d)<;>simp_all;done)
   have he:(yv [] s !=0)=false:=d9
   rw[aey he]at j;simp only[he,aA]at U;unfold VV acR at U;refine yb hg ?_;repeat' ((conv=>whnf);first|((with_reducible show Sat _ _ _ _);refine Sat.mono R ?_;rintro _ rfl)|((with_reducible show zA _ _ _ _ _);refine zA.mono j ?_;rintro _ rfl)|refine zx (λh=>?_) (λh=>?_))
   all_goals first|((conv=>whnf);(with_reducible show _=_);rw[U];refine aF rI ?_;clear R j ab o I hs U aa wi hg;((try unfold ac6 at*);(try generalize zo fn ⟨#[99,111,117,110,116]⟩=a at*);(try generalize hasB fns fn=b at*);(try generalize zo col ⟨#[]⟩=c at*);(try generalize yB col=d at*);(try cases a)<;>(try cases b)<;>(try cases c)<;>(try cases d)<;>simp_all;done))|skip
   all_goals
    (conv=>whnf);refine⟨(i+1,601152,[]++[s]),⟨⟨J,.inr rfl,by simp at ha⊢;omega,?_⟩,by show g.length-(i+1)<g.length-i;omega⟩,ze ?_⟩
    .rw[U];clear R j ab o I hs U aa wi hg;((try unfold ac6 at*);(try generalize zo fn ⟨#[99,111,117,110,116]⟩=a at*);(try generalize hasB fns fn=b at*);(try generalize zo col ⟨#[]⟩=c at*);(try generalize yB col=d at*);(try cases a)<;>(try cases b)<;>(try cases c)<;>(try cases d)<;>simp_all;done)
    (conv=>whnf);rw[wi J];rfl
  have hE:=o h1;rw[hE];exact rfl
 |cons y r=>
  rcases hp with rfl|rfl
  all_goals
   refine zj (λh1=>?_) (λh1=>?_)
   .have J:=I h1;have hg:=aa2 J;have U:=ab J;generalize g[i]=x at*;obtain⟨fn,col,s⟩:=x;have R:=yk fns fn;have j:=Jr (y::r) s (by first|(simp;done)|(simp at ha⊢;omega));by_cases he:(yv (y::r) s !=0)=true
    .rw[aa0 he]at j;simp only[he,aB]at U;generalize yv (y::r) s=e2 at*;refine yb hg ?_;repeat' ((conv=>whnf);first|((with_reducible show Sat _ _ _ _);refine Sat.mono R ?_;rintro _ rfl)|((with_reducible show zA _ _ _ _ _);refine zA.mono j ?_;rintro _ rfl)|refine zx (λh=>?_) (λh=>?_))
     all_goals first|(exfalso;simp_all;done)|skip
     all_goals (conv=>whnf)
     all_goals rw[U]
     all_goals clear R j ab o I hs U aa wi hg
     all_goals unfold VV acR
     all_goals refine aF rI ?_
     all_goals ((try unfold ac6 at*);(try generalize zo fn ⟨#[99,111,117,110,116]⟩=a at*);(try generalize hasB fns fn=b at*);(try generalize zo col ⟨#[]⟩=c at*);(try generalize yB col=d at*);(try cases a)<;>(try cases b)<;>(try cases c)<;>(try cases d)<;>simp_all;done)
    have he:(yv (y::r) s !=0)=false:=by simpa using he
    rw[aey he]at j;simp only[he,aA]at U;unfold VV acR at U;refine yb hg ?_;repeat' ((conv=>whnf);first|((with_reducible show Sat _ _ _ _);refine Sat.mono R ?_;rintro _ rfl)|((with_reducible show zA _ _ _ _ _);refine zA.mono j ?_;rintro _ rfl)|refine zx (λh=>?_) (λh=>?_))
    all_goals first|((conv=>whnf);(with_reducible show _=_);rw[U];refine aF rI ?_;clear R j ab o I hs U aa wi hg;((try unfold ac6 at*);(try generalize zo fn ⟨#[99,111,117,110,116]⟩=a at*);(try generalize hasB fns fn=b at*);(try generalize zo col ⟨#[]⟩=c at*);(try generalize yB col=d at*);(try cases a)<;>(try cases b)<;>(try cases c)<;>(try cases d)<;>simp_all;done))|skip
    all_goals
     (conv=>whnf);refine⟨(i+1,601152,(y::r)++[s]),⟨⟨J,.inr rfl,by simp at ha⊢;omega,?_⟩,by show g.length-(i+1)<g.length-i;omega⟩,ze ?_⟩
     .rw[U];clear R j ab o I hs U aa wi hg;((try unfold ac6 at*);(try generalize zo fn ⟨#[99,111,117,110,116]⟩=a at*);(try generalize hasB fns fn=b at*);(try generalize zo col ⟨#[]⟩=c at*);(try generalize yB col=d at*);(try cases a)<;>(try cases b)<;>(try cases c)<;>(try cases d)<;>simp_all;done)
     (conv=>whnf);rw[wi J];show _=S.mk _ [(3,.box [.own 601152 1 (y::(r++[s])).length]),_];rw[show(y::(r++[s])).length=(y::r).length+1 by simp];rfl
   have hE:=o h1;rw[hE];exact rfl
theorem avt(op U:Int)(nm:ByteArray)(k n:Int)(s:ByteArray)(ks j:am (am D))(cols:am ByteArray)(g:am Agg)(l:am (am D))(m:Int)(tb:ByteArray):
 dY ajt [.agg [int op,int U,str nm,int k,int n,str s,.d (.sl ks),.d (.sl j),.d (.sl (zp cols)),.d (.sl (qv g)),.d (.sl l),int m,str tb]] (rI (JR cols g)):=by
 unfold JR;rw[<-zP,<-jN];refine YY.s T5 ?_;refine zj (b:=aD.wrap (((zp cols).length:Int)+(qv g).length)==0) (λh=>?_) (λh=>?_)
 ·(conv=>whnf);rw[h];rfl
 rw[h,aA];refine zj (b:=decide (((zp cols).length:Int)>16)||decide (((qv g).length:Int)>16)) (λI=>?_) (λI=>?_)
 ·(conv=>whnf);rw[I];rfl
 rw[I,aA];simp only[bS,bV,zP,jN]at I;refine zA.mono (arE cols d8) ?_;rintro _ rfl;have o:=ahn cols [];unfold Uq;generalize vR [] cols=e at*;by_cases J:(e !=0)=true
 .rw[J,aB];cases Q0 [] cols with
  |nil=>
   refine zj (λP=>?_) (λP=>?_)
   .exact rfl
   grind
  |cons x r=>
   refine zj (λP=>?_) (λP=>?_)
   .exact rfl
   grind
 have J:(e !=0)=false:=d9
 have R:e=0:=d9
 rw[o J,List.nil_append,J,aA,R];have i:cols.length<=16:=d8
 cases p:cols with
 |nil=>
  rw[p]at i;refine aq8 g [] d8 i _ 600496 (.inl rfl) (ze ?_);exact rfl
 |cons x r=>
  rw[p]at i;refine aq8 g (x::r) d8 i _ 600496 (.inl rfl) (ze ?_);exact rfl
def xz(l:am Srt):am (am D):=l.map Srt.ds
theorem YP(l:am Srt):(xz l).length=l.length:=by simp[xz]
theorem Kt{r:am Srt}{i:Nat}(h:i<r.length):(xz r)[((i:Int)).toNat]?=some (r[i]).ds:=by grind[xz]
def Stp.err(s:Stp):Int:=
 bif !s.uses then 1 else bif s.op==1 then s.cond.chk else
 bif s.op==2 then(bif ja s.items.length 1 !=0 then ja s.items.length 1 else qg [] s.items)else
 bif s.op==3 then JR s.cols s.aggs else bif s.op==4 then vA (s.sorts.map Srt.col) 1 else
 bif s.op==5 then(bif decide (s.n<0)||decide (s.n>20000)then 2 else 0)else bif s.op==9 then vA s.cols 0 else
 bif !yB s.table then 3 else vA s.cols (bif s.op==6 then 1 else 0)
def aCJ(l:am Srt)(i:Nat):am ByteArray->S
 |[]=>⟨[(4,cV .nil),(37,.w (.c (.d (.sl (xz l))))),(38,zm (xz l).length),(39,zm i)],[]⟩
 |x::r=>⟨[(4,cV (.own 47 1 (x::r).length)),(37,.w (.c (.d (.sl (xz l))))),(38,zm (xz l).length),(39,zm i)],[(47,.arr 1 (zp (x::r)) false)]⟩
theorem uV(s:Stp)(hs:s.sorts.length<=1000000):dY alQ [s.w] (rI s.err):=by
 obtain⟨op,⟨eo,nm,⟨vk,vn,vs⟩,ks⟩,j,cols,o,g,n,tb⟩:=s;have hu:dY acq [Stp.w ⟨op,⟨eo,nm,⟨vk,vn,vs⟩,ks⟩,j,cols,o,g,n,tb⟩] (rB (Stp.uses ⟨op,⟨eo,nm,⟨vk,vn,vs⟩,ks⟩,j,cols,o,g,n,tb⟩)):=by have:=ayK op eo nm vk vn vs (exsD ks) (yP j) (zp cols) (qv o) (xz g) n tb;rw[y0,vg,zP,jN,YP]at this;exact this
 have hg:=avt op eo nm vk vn vs (exsD ks) (yP j) cols o (xz g) n tb;have he:=Vs ⟨eo,nm,⟨vk,vn,vs⟩,ks⟩;have hi:=avu j;have hc:=gu cols;have hs:g.length<=1000000:=hs;unfold Stp.err;simp only;generalize(Stp.uses ⟨op,⟨eo,nm,⟨vk,vn,vs⟩,ks⟩,j,cols,o,g,n,tb⟩)=u at*;generalize Ex.chk ⟨eo,nm,⟨vk,vn,vs⟩,ks⟩=ce at*;generalize JR cols o=ge at*;rw[<-vg];refine acg.s T5 ?_;refine Sat.w hu ?_;refine zx (b:=!u) (λh1=>?_) (λh1=>?_)
 ·(conv=>whnf);rw[h1];rfl
 rw[h1,aA];refine zj (b:=op==1) (λh2=>?_) (λh2=>?_)
 .refine Sat.w he ?_;rw[h2];rfl
 rw[h2,aA];refine zj (b:=op==2) (λh3=>?_) (λh3=>?_)
 .rw[h3,aB];refine zj (b:=ja (yP j).length 1 !=0) (λP=>?_) (λP=>?_)
  ·(conv=>whnf);rw[P];rfl
  have hl:=apc P;rw[vg]at hl;rw[P,aA];(conv=>whnf);refine Sat.cal (hi d8) ?_;rfl
 rw[h3,aA];refine zj (b:=op==3) (λP=>?_) (λP=>?_)
 .rw[P,aB];(conv=>whnf);refine Sat.cal (hg) ?_;rfl
 rw[P,aA];refine zj (b:=op==4) (λh5=>?_) (λh5=>?_)
 .rw[h5,aB];refine Uc T5 (acg.l 0) g.length (λi=>aCJ g i ((g.map Srt.col).take i)) (λ_=>True) ?_
  .intro i ad _;have wi:i<g.length->aD.wrap ((i:Int)+1)=((i+1:Nat):Int):=λh=>zB h d8
   have U:decide ((i:Int)<((xz g).length:Int))=true->i<g.length:=λh=>by simp_all[YP]
   have I:decide ((i:Int)<((xz g).length:Int))=false->(g.map Srt.col).take i=g.map Srt.col:=λh=>by grind[YP,aU]
   have J:∀h:i<g.length,(g.map Srt.col).take (i+1)=(g.map Srt.col).take i++[g[i].col]:=λh=>by grind[zJ]
   have ac:((g.map Srt.col).take i).length<=1000000:=d9
   cases R:(g.map Srt.col).take i with
   |nil=>
    rw[R]at J I;refine zj (λk1=>?_) (λk1=>?_)
    .have p:=U k1;have hg:=Kt p;refine yb hg ?_;refine qr ?_ (hA:=dT) (hB:=by grind[yz]) (hC:=dT);refine yW p trivial ?_;rw[J,wi p];rfl
    have hE:=I k1;rw[<-hE];refine Sat.cal (gu [] 1) ?_;rfl
   |cons y r=>
    rw[R]at J I ac;refine zj (λk1=>?_) (λk1=>?_)
    .have p:=U k1;have hg:=Kt p;have J:=J p;generalize g[i]=x at*;obtain⟨c,b⟩:=x;refine yb hg ?_;refine qr ?_ (hA:=dT) (hB:=by grind[yz]) (hC:=d9);refine yW p trivial ?_;rw[J,wi p];have ab:(zp (y::r)).take ((y::r).length)=zp (y::r):=by grind[zP]
     show _=S.mk [(4,cV (.own 47 1 (y::(r++[c])).length)),_,_,_] [(47,.arr 1 (zp ((y::r)++[c])) false)];rw[show(y::(r++[c])).length=(y::r).length+1 by simp,show zp ((y::r)++[c])=(zp (y::r)).take ((y::r).length)++zp [c]by grind[zp]];rfl
    have hE:=I k1;have ab:(zp (y::r)).take ((y::r).length)=zp (y::r):=by grind[zP]
    have aa:=gu (y::r) 1;unfold Jj at aa;rw[<-ab]at aa;rw[<-hE];refine Sat.cal (aa) ?_;rfl
 rw[h5,aA];refine zj (b:=op==5) (λh6=>?_) (λh6=>?_)
 .rw[h6,aB];refine zj (b:=decide (n<0)||decide (n>20000)) (λh7=>?_) (λh7=>?_)
  .rw[h7,aB];exact rfl
  rw[h7,aA];exact rfl
 rw[h6,aA];refine zj (b:=op==9) (λh7=>?_) (λh7=>?_)
 .rw[h7,aB];refine Sat.cal (hc 0) ?_;rfl
 rw[h7,aA];refine zj (b:=!yB tb) (λh8=>?_) (λh8=>?_)
 .rw[h8,aB];exact rfl
 rw[h8,aA];refine zj (b:=op==6) (λh9=>?_) (λh9=>?_)
 .rw[h9,aB];refine Sat.cal (hc 1) ?_;rfl
 rw[h9,aA];refine Sat.cal (hc 0) ?_;rfl
structure Qry where
 src:ByteArray
 steps:am Stp
def qB(l:am Stp):am (am D):=l.map Stp.ds
theorem qU(l:am Stp):(qB l).length=l.length:=by simp[qB]
theorem YR{r:am Stp}{i:Nat}(h:i<r.length):(qB r)[((i:Int)).toNat]?=some (r[i]).ds:=by grind[qB]
def Qry.w(q:Qry):W:=.agg [str q.src,.d (.sl (qB q.steps))]
def YQ:am Stp->Int
 |[]=>0
 |s::r=>bif s.err !=0 then s.err else YQ r
def Qry.err(q:Qry):Int:=bif !yB q.src then 3 else bif decide ((q.steps.length:Int)>16)then 7 else YQ q.steps
theorem ak3(q:Qry)(hs:∀s∈q.steps,s.sorts.length<=1000000):dY ajs [q.w] (rI q.err):=by
 obtain⟨aa,l⟩:=q;unfold Qry.err;rw[<-qU];refine gP.s T5 ?_;refine zj (b:=!yB aa) (λp=>?_) (λp=>?_)
 .rw[p,aB];exact rfl
 rw[p,aA];refine zj (b:=decide (((qB l).length:Int)>16)) (λo=>?_) (λo=>?_)
 .rw[o,aB];exact rfl
 rw[o,aA];have o:=aO o;rw[qU]at o;refine Uc T5 (gP.l 0) l.length (λi=>⟨[(17,.w (.c (.d (.sl (qB l))))),(18,zm (qB l).length),(19,zm i)],[]⟩) (λi=>YQ l=YQ (l.drop i)) ?_
 intro i hi j;refine zj (λk1=>?_) (λk1=>?_)
 .have g:i<l.length:=by simp_all[qU]
  rw[zt g]at j;have hg:=YR g;have hm:=hs _ (aR g);generalize l[i]=s at*;have J:=uV s hm;simp only[YQ]at j;generalize s.err=e at*;obtain⟨op,⟨eo,nm,⟨vk,vn,vs⟩,ks⟩,P,cols,ab,U,n,tb⟩:=s;refine yb hg ?_;refine Sat.w J ?_;refine zx (b:=e !=0) (λR=>?_) (λR=>?_)
  .rw[R,aB]at j;rw[j];rfl
  rw[R,aA]at j;refine yW g j ?_;rw[zB g d8];rfl
 have I:l.length<=i:=by grind[qU]
 rw[aC I]at j;rw[j];rfl
abbrev T6f:=T5f
theorem arV(k:FuncId)(l:am W)(w:W)(h:T6f k l=some w):Sat Pg k l (λr=>r=⟨.w w,[]⟩):=aA0 k l w h
def T6:Tab Pg:=⟨T6f,arV⟩
theorem afs(a b:am Val):dY ahZ [yu a,yu b] (rB (xp a b)):=by have h:=aj1 a b;generalize xp a b=x at*;refine ahx.s T6 ?_;refine Sat.cal (h) ?_;rfl
def aip(a b:Tbl):Bool:=bif (((a.cols.length:Int)) !=b.cols.length)||(((a.rows.length:Int)) !=b.rows.length)then false else bif !wQ eqC a.cols b.cols then false else wQ xp a.rows b.rows
theorem ahm{α:Type}(e:α->α->Bool){a b:am α}{i:Nat}(h:i<a.length)(g:i<b.length):wQ e (a.drop i) (b.drop i)=bif !e a[i] b[i]then false else wQ e (a.drop (i+1)) (b.drop (i+1)):=by rw[zt h,zt g];rfl
theorem Xe(a b:Tbl):dY an4 [a.w,b.w] (rB (aip a b)):=by
 obtain⟨I,p⟩:=a;obtain⟨R,br⟩:=b;unfold aip;simp only;rw[<-z8,<-z8,<-zy,<-zy];refine Vt dU λhb=>?_
 have hb:=hb _ (bP ..);have ad:(zl I).length<=9223372036854775807:=by have:=hb (.d (.sl (zl I))) dT;simp only[Jy,bnd]at this;exact this.1
 have ae:(zg p).length<=9223372036854775807:=by have:=hb (.d (.sl (zg p))) dT;simp only[Jy,bnd]at this;exact this.1
 clear hb;rw[z8]at ad;rw[zy]at ae;refine JE.s T6 ?_;refine zx (b:=(((zl I).length:Int)) !=((zl R).length:Int)||(((zg p).length:Int)) !=((zg br).length:Int)) (λh=>?_) (λh=>?_)
 .rw[h,aB];exact rfl
 rw[h,aA];simp only[bS,cw,z8,zy]at h;(conv=>whnf);refine yy (P:=Pg) (f:=T6.f) (body:=(JE.l 0)) I.length (λi=>⟨[(2,cV (.ptr 2 0)),(3,cV (.ptr 3 0)),(5,zm i)],[(2,.box [.d (.sl (zl I)),.d (.sl (zg p))]),(3,.box [.d (.sl (zl R)),.d (.sl (zg br))])]⟩) (λi=>wQ eqC I R=wQ eqC (I.drop i) (R.drop i)) ⟨rfl,ze ?_⟩ ?_
 .exact rfl
 intro i hi j;refine zj (λU=>?_) (λU=>?_)
 .have g:i<I.length:=by have:=aW U;rw[z8]at this;omega
  have J:i<R.length:=d8
  rw[ahm _ g J]at j;have hg:=xJ g;have aa:=xJ J;generalize I[i]=x at*;generalize R[i]=y at*;obtain⟨x1,x2⟩:=x;obtain⟨y1,y2⟩:=y;(conv=>whnf);refine⟨d8,_,hg,rfl,?_⟩;(conv=>whnf);refine⟨d8,_,aa,rfl,?_⟩;refine zj (b:=!eqC ⟨x1,x2⟩ ⟨y1,y2⟩) (λh2=>?_) (λh2=>?_)
  .rw[h2,aB]at j;(conv=>whnf);rw[j];rfl
  rw[h2,aA]at j;(conv=>whnf);refine⟨g,j,ze ?_⟩;(conv=>whnf);rw[zB g ad];rfl
 have ab:I.length<=i:=by have:=aO U;rw[z8]at this;omega
 rw[KN _ ab d8]at j;rw[j,bG,aA];(conv=>whnf);refine yy (P:=Pg) (f:=T6.f) (body:=(JE.l 1)) p.length (λi=>⟨[(2,cV (.ptr 2 0)),(3,cV (.ptr 3 0)),(6,zm i)],[(2,.box [.d (.sl (zl I)),.d (.sl (zg p))]),(3,.box [.d (.sl (zl R)),.d (.sl (zg br))])]⟩) (λi=>wQ xp p br=wQ xp (p.drop i) (br.drop i)) ⟨rfl,ze ?_⟩ ?_
 .exact rfl
 intro i hi j;refine zj (λU=>?_) (λU=>?_)
 .have g:i<p.length:=by have:=aW U;rw[zy]at this;omega
  have J:i<br.length:=d8
  rw[ahm _ g J]at j;have hg:=yS g;have aa:=yS J;have hs:=afs p[i] br[i];generalize xp p[i] br[i]=o at*;generalize p[i]=x at*;generalize br[i]=y at*;(conv=>whnf);refine⟨d8,_,hg,rfl,?_⟩;(conv=>whnf);refine⟨d8,_,aa,rfl,?_⟩;refine Sat.w hs ?_;refine zx (b:=!o) (λh2=>?_) (λh2=>?_)
  .rw[h2,aB]at j;(conv=>whnf);rw[j];rfl
  rw[h2,aA]at j;(conv=>whnf);refine⟨g,j,ze ?_⟩;(conv=>whnf);rw[zB g ae];rfl
 have ab:p.length<=i:=by have:=aO U;rw[zy]at this;omega
 rw[KN _ ab d8]at j;rw[j];exact rfl
theorem aoM(x:Col)(name:ByteArray):dY UQ [x.w,.c (.fp [.lit (.string name)])] (rB (zo x.name name)):=by obtain⟨a,b⟩:=x;refine yA T6 afe.ok dU ?_;exact rfl
theorem xQ(l:am Col)(name:ByteArray):dY ah3 [.c (.d (.sl (zl l))),.c (str name)] (rI (zf l name)):=by refine ahA.s T6 ?_;refine Sat.w (qJ UQ [.lit (.string name)] (λx=>zo x.name name) (λx=>aoM x name) l) ?_;rfl
def qp(k g:Int):Bool:=k==g||k==0
theorem Vu(k g:Int):dY alS [.c (int k),.c (int g)] (rB (qp k g)):=by
 unfold qp;refine yA T6 alI.ok dU ?_
 repeat' (conv=>whnf
          refine zx (λh=>?_) (λh=>?_))
 all_goals refine aF rB ?_
 simp_all
theorem avi(k g:Int):dY aaq [.c (int k),.c (.fp [.lit (.int .i64 g)])] (rB (!qp k g)):=by refine aje.s T6 ?_;refine Sat.w (Vu k g) ?_;rfl
theorem KH(g:FuncId)(cap:am D)(p:Int->Bool)(hp:∀x:Int,dY g [.c (int x),.c (.fp cap)] (rB (p x)))(l:am Int):
 dY Vh [.c (.d (.sl (zh l))),.c (.d (.fn g [cap]))] (rI (yp p 0 l)):=by
 refine vI 0 dU rfl λo=>?_
 rw[zE]at o;refine Zf.s T6 ?_
 refine yy (P:=Pg) (f:=T6.f) (body:=(Zf.l 0)) l.length (λi=>⟨[(0,.w (.c (.d (.sl (zh l))))),(1,.w (.c (.d (.fn g [cap])))),(7,zm (zh l).length),(8,zm i)],[]⟩)
  (λi=>yp p 0 l=yp p i (l.drop i)) ⟨rfl,ze ?_⟩ ?_
 .exact rfl
 intro i hi I;refine zj (λU=>?_) (λU=>?_)
 .have j:i<l.length:=by simp_all[zE]
  (conv=>whnf);refine yb (xg j) ?_;refine Sat.cal (hp l[i]) ?_;rw[zt j]at I;refine zj (λJ=>?_) (λJ=>?_)
  .simp only[yp,J,aB]at I;(conv=>whnf);exact aF rI I.symm
  simp only[yp,J,aA]at I;refine yW j I ?_;rw[zB j o];rfl
 have R:l.length<=i:=by grind[zE]
 rw[aC R]at I;(conv=>whnf);exact aF rI I.symm
theorem UF(g:FuncId)(cap:am D)(p:Int->Bool)(i:∀x:Int,dY g [.c (int x),.c (.fp cap)] (rB (p x)))(l:am Int):
 dY QU [.c (.d (.sl (zh l))),.c (.d (.fn g [cap]))] (rB (l.any p)):=by refine QT.s T6 ?_;refine Sat.w (KH g cap p i l) ?_;exact aF rB (Qf _ l 0)
def xi(l:am Int)(g:Int):Bool:=!l.any λk=>!qp k g
theorem agX(l:am Int)(g:Int):dY adx [.c (.d (.sl (zh l))),.c (int g)] (rB (xi l g)):=by refine ann.s T6 ?_;refine Sat.w (UF aaq [.lit (.int .i64 g)] (λk=>!qp k g) (λx=>avi x g) l) ?_;rfl
def rII(x:Int×Int):Res:=⟨.tup [.c (int x.1),.c (int x.2)],[]⟩
def vp(b:Bool)(k:Int):Int×Int:=bif b then(k,0)else(0,14)
theorem x9(b:Bool)(k:Int):dY alU [.c (bool b),.c (int k)] (rII (vp b k)):=by
 cases b<;>
 .refine yA T6 alJ.ok dU ?_;exact rfl
def uZ(g:ByteArray)(l:am Int):Int×Int:=
 bif zo g ⟨#[109,105,110]⟩||zo g ⟨#[109,97,120]⟩then vp (xi l 2||xi l 3) (zI true (l.getD 0 0) (l.getD 1 0))else
 bif zo g ⟨#[97,98,115]⟩then vp (xi l 2) 2 else bif zo g ⟨#[108,101,110]⟩then vp (xi l 3) 2 else vp (xi l 3) 1
theorem avm(j:ByteArray)(l:am Int)(g:(zo j ⟨#[109,105,110]⟩||zo j ⟨#[109,97,120]⟩)=true->2<=l.length):dY act [.c (str j),.c (.d (.sl (zh l)))] (rII (uZ j l)):=by
 unfold uZ;have U:=agX l 2;have I:=agX l 3;have o:2<=l.length->(zh l)[(0:Int).toNat]?=some [D.lit (.int .i64 (l.getD 0 0))]:=λh=>by
  have:=xg (r:=l) (i:=0) d8
  grind
 have g1:2<=l.length->(zh l)[(1:Int).toNat]?=some [D.lit (.int .i64 (l.getD 1 0))]:=λh=>by
  have:=xg (r:=l) (i:=1) d8
  grind
 generalize l.getD 0 0=J at*;generalize l.getD 1 0=P at*;generalize xi l 2=R at*;generalize xi l 3=p at*;refine alH.s T6 ?_;generalize zo j ⟨#[109,105,110]⟩=p1 at*;cases p1 with
 |true=>
  have g:=g rfl;have o:=o g;have g1:=g1 g;refine yb o ?_;refine yb g1 ?_;refine Sat.w U ?_;cases R with
  |true=>
   refine Sat.w (x9 true (zI true J P)) ?_;rfl
  |false=>
   refine Sat.w I ?_;refine Sat.w (x9 p (zI true J P)) ?_;rfl
 |false=>
  (conv=>whnf);generalize zo j ⟨#[109,97,120]⟩=p2 at*;cases p2 with
  |true=>
   have g:=g rfl;have o:=o g;have g1:=g1 g;refine yb o ?_;refine yb g1 ?_;refine Sat.w U ?_;cases R with
   |true=>
    refine Sat.w (x9 true (zI true J P)) ?_;rfl
   |false=>
    refine Sat.w I ?_;refine Sat.w (x9 p (zI true J P)) ?_;rfl
  |false=>
   (conv=>whnf);generalize zo j ⟨#[97,98,115]⟩=p3 at*;cases p3 with
   |true=>
    refine Sat.w U ?_;refine Sat.w (x9 R 2) ?_;rfl
   |false=>
    (conv=>whnf);generalize zo j ⟨#[108,101,110]⟩=p4 at*;cases p4 with
    |true=>
     refine Sat.w I ?_;refine Sat.w (x9 p 2) ?_;rfl
    |false=>
     refine Sat.w I ?_;refine Sat.w (x9 p 1) ?_;rfl
def Wu(op:Int)(g:ByteArray):Int:=bif op==1||op==2 then 0 else bif op==3||op==4 then 1 else bif op==16 then qw g else 2
theorem VI{op:Int}{j:ByteArray}{v:Val}{i g:Int}{name l:Bool}(h:qh op j v i g name l=0):i=g:=by have o:=(yt d8 h).1<;>simp_all
theorem aqc{op:Int}{j:ByteArray}{v:Val}{p g:Int}(I:(op==16)=true)(h:qh op j v p g true false=0):g=qw j:=by have i:=(yt d8 h).2;simp only[aA]at i;have l:=(yt d8 i).2;have o:=(yt d8 l).2;have r:=(yt d8 o).1;simp_all
theorem jE{op:Int}{p:ByteArray}{v:Val}{o:Int}(h:yD op p v o=0):o=Wu op p/\1<=op/\op<=16:=by
 unfold yD at h;unfold Wu;cases i:(op==1)
 .rw[i,aA]at h;cases j:(op==2)
  .rw[j,aA]at h;cases g:(op==3||op==4)
   .rw[g,aA]at h;cases l:(op==16)
    .rw[l,aA]at h;obtain⟨r,I⟩:=yt d8 h
     grind[VI]
    rw[l,aB]at h
    grind[aqc]
   rw[g,aB]at h;simp only[bK,cE]at g
   grind[VI]
  rw[j,aB]at h
  grind[VI]
 rw[i,aB]at h
 grind[VI]
theorem at3(g:ByteArray):0<=qw g/\qw g<=2:=by grind[qw]
theorem abx(op:Int)(g:ByteArray):Wu op g<=2:=by have:=at3 g<;>grind[Wu]
theorem aws{g:ByteArray}(h:(zo g ⟨#[109,105,110]⟩||zo g ⟨#[109,97,120]⟩)=true):qw g=2:=by grind[qw]
def xA(cols:am Col)(i:Int):Int:=((cols[i.toNat]?).map Col.t).getD 0
def qC(cols:am Col)(op:Int)(g:ByteArray)(v:Val)(l:am Int):Int×Int:=
 bif op==1 then(v.k,0)else
 bif op==2 then(bif decide (zf cols g<0)then(0,16)else(xA cols (zf cols g),0))else
 bif op==3||(op==14||op==15)then vp (xi l 1) 1 else
 bif op==10||op==11 then vp (qp (l.getD 0 0) (l.getD 1 0)||qp (l.getD 1 0) (l.getD 0 0)) 1 else
 bif op==12||op==13 then vp (xi l 2||xi l 3) 1 else
 bif op==16 then uZ g l else vp (xi l 2) 2
mutual
def Ex.ty(cols:am Col):Ex->Int×Int
 |.mk op g v ks=>bif (tyL cols ks).1 !=0 then(0,(tyL cols ks).1)else qC cols op g v (tyL cols ks).2
def tyL(cols:am Col):am Ex->Int×am Int
 |[]=>(0,[])
 |k::r=>bif (k.ty cols).2 !=0 then((k.ty cols).2,[])else((tyL cols r).1,(k.ty cols).1::(tyL cols r).2)
end
theorem ay8(cols:am Col){ks:am Ex}{i:Nat}(h:i<ks.length):tyL cols (ks.drop i)=bif (ks[i].ty cols).2 !=0 then((ks[i].ty cols).2,[])else((tyL cols (ks.drop (i+1))).1,(ks[i].ty cols).1::(tyL cols (ks.drop (i+1))).2):=by rw[zt h];rfl
theorem arN(cols:am Col):∀ks:am Ex,(tyL cols ks).1=0->(tyL cols ks).2.length=ks.length
 |[],_=>rfl
 |k::r,h=>by simp only[tyL]at h⊢;cases g:((k.ty cols).2 !=0)<;>simp_all[arN]
theorem un:∀{ks:am Ex},errL ks=0->∀k∈ks,k.err=0
 |[],_,k,hk=>by cases hk
 |a::r,h,k,hk=>by
  simp only[errL]at h;cases g:(a.err !=0)
  .rw[g,aA]at h;rcases bX.1 hk with rfl|hk
   .simpa using g
   exact un h k hk
  simp_all
theorem Yp:∀(p:Col->Bool) (l:am Col) (i:Int),0<=i->yp p i l<0\/(i<=yp p i l/\yp p i l<i+l.length)
 |p,[],i,h=>.inl (by simp[yp])
 |p,a::r,i,h=>by
  simp only[yp];cases p a
  .rw[aA];rcases Yp p r (i+1) d8 with g|g
   .grind
   grind
  rw[aB];grind
def tnS(cols:am Col)(op:Int)(j:ByteArray)(v:Val)(ks:am Ex)(i:Nat)(g:am Int):S:=⟨[(0,.w (.c (.d (.sl (zl cols))))),(3,cV (.ptr 3 0)),(6,cV (.own 31 1 g.length)),(13,.w (.c (.d (.sl (exsD ks))))),(14,zm (exsD ks).length),(15,zm i)],[(3,.box [int op,str j,int v.k,int v.n,str v.s,.d (.sl (exsD ks))]),(31,.arr 1 (zh g) false)]⟩
theorem vV(a b:am Int):zh a++zh b=zh (a++b):=by simp[zh]
theorem kE(cols:am Col):∀(e:Ex),e.err=0->dY acu [.c (.d (.sl (zl cols))),e.w] (rII (e.ty cols))
 |.mk op j v ks,he=>by
   have aa:yD op j v ks.length=0/\errL ks=0:=by
    simp only[Ex.err]at he;cases hb:(yD op j v ks.length !=0)
    .simp_all
    simp_all
   have ae:=un aa.2;have ih:∀k∈ks,dY acu [.c (.d (.sl (zl cols))),k.w] (rII (k.ty cols)):=λk hk=>kE cols k (ae k hk)
   obtain⟨af,a2,a3⟩:=jE aa.1;have az:=abx op j;have ay:ks.length<=2:=d8
   have ag:Ex.ty cols (.mk op j v ks)=bif (tyL cols ks).1 !=0 then(0,(tyL cols ks).1)else qC cols op j v (tyL cols ks).2:=by grind[Ex.ty]
   rw[ag];have ab:=arN cols ks;clear he aa ae ag;refine aci.s T6 ?_;refine yq (P:=Pg) (f:=T6.f) (body:=(aci.l 0)) (λx:Nat×am Int=>tnS cols op j v ks x.1 x.2) (λx=>ks.length-x.1) (λx=>x.1<=ks.length/\x.2.length=x.1/\(tyL cols ks).1=(tyL cols (ks.drop x.1)).1/\((tyL cols ks).1=0->(tyL cols ks).2=x.2++(tyL cols (ks.drop x.1)).2)) ⟨(0,[]),⟨aX _,rfl,rfl,λ_=>rfl⟩,⟨_,ya 6 31 1 d8 d8 rfl,?_⟩⟩ ?_
   .exact rfl
   rintro⟨i,g⟩ hx;obtain⟨hi,ha,I,U⟩:i<=ks.length/\g.length=i/\(tyL cols ks).1=(tyL cols (ks.drop i)).1/\((tyL cols ks).1=0->(tyL cols ks).2=g++(tyL cols (ks.drop i)).2):=hx;have ac:(zh g).take g.length=zh g:=by grind[zE]
   obtain⟨vk,vn,vs⟩:=v;have wi:i<ks.length->aD.wrap ((i:Int)+1)=((i+1:Nat):Int):=λh=>zB h d8
   refine zj (λh1=>?_) (λh1=>?_)
   .have p:i<ks.length:=by have:=aW h1;grind[y0]
    rw[ay8 cols p]at I U;have hg:(exsD ks)[((i:Int)).toNat]?=some (ks[i]).ds:=Qe p;have hm:ks[i]∈ks:=aR p;generalize ks[i]=k at*;have aj:=ih k hm;obtain⟨an,al,v1,ak⟩:=k;generalize(Ex.ty cols (.mk an al v1 ak))=x at*;obtain⟨R,x2⟩:=x;simp only at I U;refine yb hg ?_;refine Sat.w aj ?_;refine zx (b:=x2 !=0) (λJ=>?_) (λJ=>?_)
    .rw[J,aB]at I;have I:(tyL cols ks).1=x2:=I;rw[I,J,aB];exact rfl
    rw[J,aA]at I U;refine qr ?_;refine⟨(i+1,g++[R]),⟨⟨p,d9,I,λh=>d9⟩,d9⟩,ze ?_⟩;(conv=>whnf);rw[wi p,ac];show _=S.mk [_,_,(6,cV (.own 31 1 (g++[R]).length)),_,_,_] [_,(31,.arr 1 (zh (g++[R])) false)];rw[<-vV,aM];rfl
   have ai:i=ks.length:=by grind[y0]
   rw[ai,List.drop_length]at I U;have I:(tyL cols ks).1=0:=I;have U:=U I;have U:(tyL cols ks).2=g:=d9
   have ab:=ab I;rw[I,U];rw[U]at ab;simp only[aN,aA];have hA:∀w,dY adx [.c (.d (.sl ((zh g).take g.length))),.c (int w)] (rB (xi g w)):=λw=>by grind[agX]
   have hC:(op==16)=true->dY act [.c (str j),.c (.d (.sl ((zh g).take g.length)))] (rII (uZ j g)):=λh=>by
    rw[ac];refine avm j g λa0=>?_
    have ho:op=16:=by simpa using h
    rw[ho]at af;have a1:(ks.length:Int)=qw j:=af
    grind[aws]
   have J:(op==10||op==11)=true->g.length=2:=λh=>by
    simp only[bK,cE]at h
    grind[Wu]
   have g0:(op==10||op==11)=true->(zh g)[(0:Int).toNat]?=some [D.lit (.int .i64 (g.getD 0 0))]:=λh=>by
    have J:=J h;have:=xg (r:=g) (i:=0) d8
    grind
   have g1:(op==10||op==11)=true->(zh g)[(1:Int).toNat]?=some [D.lit (.int .i64 (g.getD 1 0))]:=λh=>by
    have J:=J h;have:=xg (r:=g) (i:=1) d8
    grind
   have ad:=xQ cols j;have p:decide (zf cols j<0)=false->(zl cols)[(zf cols j).toNat]?=some [D.lit (.string ((cols[(zf cols j).toNat]?).map Col.name|>.getD j)),D.lit (.int .i64 (xA cols (zf cols j)))]/\0<=zf cols j:=λh=>by
    have h:=aO h;have h3:=Yp (λx=>zo x.name j) cols 0 (Int.le_refl _);have h4:0<=zf cols j/\zf cols j<cols.length:=by unfold zf at h⊢;omega
    grind[xA,zl,Col.ds]
   obtain⟨T,o⟩:∃T,T=qC cols op j ⟨vk,vn,vs⟩ g:=⟨_,rfl⟩;rw[<-o];unfold qC at o;generalize zf cols j=ci at*;generalize xA cols ci=ct at*;generalize g.getD 0 0=x0 at*;generalize g.getD 1 0=R at*;(conv=>whnf);generalize(op==1)=p1 at*;cases p1 with
   |true=>
    (conv=>whnf);rw[o];rfl
   |false=>
    (conv=>whnf);generalize(op==2)=p2 at*;cases p2 with
    |true=>
     refine Sat.w ad ?_;refine zx (b:=decide (ci<0)) (λc=>?_) (λc=>?_)
     .rw[c]at o;(conv=>whnf);rw[o];rfl
     obtain⟨hg,ah⟩:=p c;rw[c]at o;refine yb hg ?_ (hA:=ah);rw[o];rfl
    |false=>
     (conv=>whnf);generalize(op==3)=p3 at*;cases p3 with
     |true=>
      refine Sat.w (hA 1) ?_;refine Sat.w (x9 (xi g 1) 1) ?_;rw[o];rfl
     |false=>
      (conv=>whnf);generalize(op==14)=av at*;cases av with
      |true=>
       refine Sat.w (hA 1) ?_;refine Sat.w (x9 (xi g 1) 1) ?_;rw[o];rfl
      |false=>
       (conv=>whnf);generalize(op==15)=aw at*;cases aw with
       |true=>
        refine Sat.w (hA 1) ?_;refine Sat.w (x9 (xi g 1) 1) ?_;rw[o];rfl
       |false=>
        (conv=>whnf);generalize(op==10)=ao at*;cases ao with
        |true=>
         have J:=J rfl;have g0:=g0 rfl;have g1:=g1 rfl;refine qa ?_ (hA:=d8) (hB:=d8);refine⟨_,g0,?_⟩;(conv=>whnf);refine qa ?_ (hA:=d8) (hB:=d8);refine⟨_,g1,?_⟩;refine Sat.w (Vu x0 R) ?_;generalize qp x0 R=f at*;cases f with
         |true=>
          refine Sat.w (x9 true 1) ?_;rw[o];rfl
         |false=>
          refine qa ?_ (hA:=d8) (hB:=d8);refine⟨_,g1,?_⟩;(conv=>whnf);refine qa ?_ (hA:=d8) (hB:=d8);refine⟨_,g0,?_⟩;refine Sat.w (Vu R x0) ?_;refine Sat.w (x9 (qp R x0) 1) ?_;rw[o];rfl
        |false=>
         (conv=>whnf);generalize(op==11)=aq at*;cases aq with
         |true=>
          have J:=J rfl;have g0:=g0 rfl;have g1:=g1 rfl;refine qa ?_ (hA:=d8) (hB:=d8);refine⟨_,g0,?_⟩;(conv=>whnf);refine qa ?_ (hA:=d8) (hB:=d8);refine⟨_,g1,?_⟩;refine Sat.w (Vu x0 R) ?_;generalize qp x0 R=f at*;cases f with
          |true=>
           refine Sat.w (x9 true 1) ?_;rw[o];rfl
          |false=>
           refine qa ?_ (hA:=d8) (hB:=d8);refine⟨_,g1,?_⟩;(conv=>whnf);refine qa ?_ (hA:=d8) (hB:=d8);refine⟨_,g0,?_⟩;refine Sat.w (Vu R x0) ?_;refine Sat.w (x9 (qp R x0) 1) ?_;rw[o];rfl
         |false=>
          (conv=>whnf);generalize(op==12)=ar at*;cases ar with
          |true=>
           refine Sat.w (hA 2) ?_;generalize xi g 2=b2 at*;cases b2 with
           |true=>
            refine Sat.w (x9 true 1) ?_;rw[o];rfl
           |false=>
            refine Sat.w (hA 3) ?_;refine Sat.w (x9 (xi g 3) 1) ?_;rw[o];rfl
          |false=>
           (conv=>whnf);generalize(op==13)=au at*;cases au with
           |true=>
            refine Sat.w (hA 2) ?_;generalize xi g 2=b2 at*;cases b2 with
            |true=>
             refine Sat.w (x9 true 1) ?_;rw[o];rfl
            |false=>
             refine Sat.w (hA 3) ?_;refine Sat.w (x9 (xi g 3) 1) ?_;rw[o];rfl
           |false=>
            (conv=>whnf);generalize(op==16)=ax at*;cases ax with
            |true=>
             refine Sat.w (hC rfl) ?_;rw[o];rfl
            |false=>
             refine Sat.w (hA 2) ?_;refine Sat.w (x9 (xi g 2) 2) ?_;rw[o];rfl
termination_by e=>cH e
decreasing_by
 simp_wf
 have:=bY hk;omega
def zM(b:Bool):Val:=⟨1,bif b then 1 else 0,⟨#[]⟩⟩
def zw:Val:=⟨0,0,⟨#[]⟩⟩
def ut(n:Int)(ok:Bool):Val:=bif ok then⟨2,n,⟨#[]⟩⟩else zw
def rV(v:Val):Res:=⟨.w v.w,[]⟩
def qK(v:Val):Prop:=v.s.size<=100000
theorem QQ(b:Bool):qK (zM b):=by unfold qK;show(0:Nat)<=_;omega
theorem ag7:qK zw:=by unfold qK;show(0:Nat)<=_;omega
theorem Js(n:Int)(b:Bool):qK (ut n b):=by cases b<;>(unfold qK;show(0:Nat)<=_;omega)
theorem avD(k n:Int):qK ⟨k,n,⟨#[]⟩⟩:=by unfold qK;show(0:Nat)<=_;omega
theorem Vw{b:Bool}{x y:Val}(g:qK x)(i:qK y):qK (bif b then x else y):=d9
theorem avB(b:Bool):dY adr [.c (bool b)] (rV (zM b)):=by
 cases b<;>
 .refine yA T6 ani.ok dU ?_;exact rfl
theorem atb(n:Int)(b:Bool):dY acl [.c (int n),.c (bool b)] (rV (ut n b)):=by
 cases b<;>
 .refine yA T6 alw.ok dU ?_;exact rfl
def T8f(k:FuncId)(l:am W):aH W:=
 match l with
 |[.c (.d (.lit (.bool b)))]=>bif bD k adr then some (.agg [int 1,int (bif b then 1 else 0),str ⟨#[]⟩])else T6f k l
 |[.c (.d (.lit (.int .i64 n))),.c (.d (.lit (.bool b)))]=>bif bD k acl then some (.agg [int (bif b then 2 else 0),int (bif b then n else 0),str ⟨#[]⟩])else T6f k l
 |_=>T6f k l
theorem aCB(k:FuncId)(l:am W)(w:W)(h:T8f k l=some w):Sat Pg k l (λr=>r=⟨.w w,[]⟩):=by
 unfold T8f at h;split at h
 .rcases qR h with⟨g,rfl⟩|⟨_,h⟩
  .rw[aG g];exact avB _
  grind[arV]
 .rename_i n b;rcases qR h with⟨g,rfl⟩|⟨_,h⟩
  .rw[aG g];have:=atb n b;cases b<;>exact this
  grind[arV]
 grind[arV]
def T8:Tab Pg:=⟨T8f,aCB⟩
def ww(a b:Val):Val:=bif xf a (zM false)||xf b (zM false)then zM false else bif a.k==0||b.k==0 then zw else zM true
theorem aoK(a b:Val):dY ap3 [a.w,b.w] (rV (ww a b)):=by
 obtain⟨i,a2,a3⟩:=a;obtain⟨j,l,o⟩:=b;unfold ww;refine apO.s T8 ?_;refine zj (b:=xf ⟨i,a2,a3⟩ (zM false)||xf ⟨j,l,o⟩ (zM false)) (λh=>?_) (λh=>?_)
 ·(conv=>whnf);rw[h];rfl
 refine zj (b:=i==0||j==0) (λg=>?_) (λg=>?_)
 ·(conv=>whnf);rw[h,g];rfl
 (conv=>whnf);rw[h,g];rfl
def v7(a:Val):Val:=bif a.k==0 then a else zM (a.n==0)
theorem ae4(a:Val):dY asE [a.w] (rV (v7 a)):=by
 obtain⟨g,a2,a3⟩:=a;unfold v7;refine ar8.s T8 ?_;refine zj (b:=g==0) (λh=>?_) (λh=>?_)
 ·(conv=>whnf);rw[h];rfl
 (conv=>whnf);rw[h];rfl
theorem arH{a:Val}(h:qK a):qK (v7 a):=Vw h (QQ _)
theorem ayU(a b:Val):qK (ww a b):=Vw (QQ _) (Vw ag7 (QQ _))
theorem q0{n:Int}(h:inB n=true): -1000000000000000<=n/\n<=1000000000000000:=by simp_all[inB]
def Xu(a b:Int)(rest:Bool):Val:=bif b==0 then zw else bif rest then⟨2,Int.tmod a b,⟨#[]⟩⟩else⟨2,aD.wrap (Int.tdiv a b),⟨#[]⟩⟩
theorem arG(a b:Int)(rest:Bool):qK (Xu a b rest):=Vw ag7 (Vw (avD _ _) (avD _ _))
theorem afS(a b:Int)(rest:Bool):dY ajo [.c (int a),.c (int b),.c (bool rest)] (rV (Xu a b rest)):=by
 unfold Xu;cases i:(b==0)with
 |true=>
  refine WX.s T8 ?_;refine zj (λh=>?_) (λh=>?_)
  .exact rfl
  grind
 |false=>
  have g:b≠0:=d9
  cases rest with
  |true=>
   refine WX.s T8 ?_;rw[i];refine⟨g,?_⟩;exact rfl
  |false=>
   refine WX.s T8 ?_;rw[i];refine⟨g,?_⟩;exact rfl
def rNB(n:Int)(b:Bool):Res:=⟨.tup [.c (int n),.c (bool b)],[]⟩
theorem Xf(n:Int)(b:Bool):dY an2 [.c (int n),.c (bool b)] (rNB (bif b&&inB n then n else 0) (b&&inB n)):=by
 refine anj.s T8 ?_;refine zj (b:=!b||!inB n) (λh=>?_) (λh=>?_)
 .have h:(b&&inB n)=false:=d9
  rw[h];rfl
 have h:(b&&inB n)=true:=d9
 rw[h];rfl
def wu(a b:Int):Bool:=inB a&&inB b&&inB (a+b)
theorem arD(a b:Int):dY auF [.c (int a),.c (int b)] (rNB (bif wu a b then a+b else 0) (wu a b)):=by
 unfold wu;cases I:(!inB a||!inB b)with
 |true=>
  have e:(inB a&&inB b)=false:=d9
  rw[e];refine akq.s T8 ?_;refine zj (λh=>?_) (λh=>?_)
  .exact rfl
  grind
 |false=>
  have i:inB a=true:=d9
  have j:inB b=true:=d9
  have o:=q0 i;have p:=q0 j;have l:aD.wrap (a+b)=a+b:=yf d8 d8;have g:=Xf (a+b) true;rw[i,j];refine akq.s T8 ?_;refine zj (λh=>?_) (λh=>?_)
  .grind
  (conv=>whnf);rw[l];refine Sat.w g ?_;rfl
def WE(n:Int):W:=.c (.d (.lit (.int .u64 n)))
theorem ab9{x:Int}(h:0<=x)(g:x<18446744073709551616):bM.wrap x=x:=by grind[IntKind.wrap_u64]
theorem X3(a:Int)(h:inB a=true):dY ahY [.c (int a)] ⟨.tup [WE (a.natAbs:Int),.c (bool (decide (a<0)))],[]⟩:=by
 have l:=q0 h;by_cases h0:a<0
 .have j:aD.wrap (0-a)=(a.natAbs:Int):=by grind[yf]
  have g:bM.wrap (a.natAbs:Int)=(a.natAbs:Int):=ab9 d8 d8;have i:decide (a<0)=true:=bQ h0;refine KS.s T8 ?_;rw[i];(conv=>whnf);rw[j,g];rfl
 have g:bM.wrap a=(a.natAbs:Int):=by grind[ab9]
 have i:decide (a<0)=false:=aK h0;refine KS.s T8 ?_;rw[i];(conv=>whnf);rw[g];rfl
theorem axL(a:Nat)(j:a<18446744073709551616):kN .and bM (a:Int) 4294967295=((a%4294967296:Nat):Int):=by
 have g:(cK 64 (a:Int)).toNat=a:=d9
 have i:(cK 64 4294967295).toNat=2^32-1:=rfl;show bM.wrap ((cK 64 (a:Int)&&&cK 64 4294967295).toNat:Int)=_;rw[BitVec.toNat_and,g,i,Nat.and_two_pow_sub_one_eq_mod]
 grind[ab9]
theorem ayQ(a:Nat):kG false bM (a:Int) 32=((a/4294967296:Nat):Int):=by
 show(a:Int).fdiv (2^min (32:Nat) 64)=_
 grind
theorem wN(a:Nat)(h:a<18446744073709551616):bM.wrap (a:Int)=(a:Int):=ab9 d8 d8
theorem wM(a:Nat):bM.wrap (a:Int)=((a%18446744073709551616:Nat):Int):=by grind[IntKind.wrap_u64]
theorem ak1(x y:Nat)(j:x<18446744073709551616)(l:y<18446744073709551616):dY afk [WE x,WE y] ⟨.tup [WE ((x*y/18446744073709551616:Nat):Int),WE ((x*y%18446744073709551616:Nat):Int)],[]⟩:=by
 obtain⟨R,p,U,g⟩:=Lib.mul64_hi x y j l;have I:=cL (a:=x/4294967296) (b:=y/4294967296) d8 d8;have J:=cL (a:=x/4294967296) (b:=y%4294967296) d8 d8;have P:=cL (a:=x%4294967296) (b:=y/4294967296) d8 d8;have h2:=axL x j;have h3:=axL y l;have h4:=ayQ x;have h5:=ayQ y;refine yA T8 afd.ok dU ?_;refine⟨dV,?_⟩
 conv=>whnf
 refine⟨dV,?_⟩
 conv=>whnf
 refine⟨dV,?_⟩;refine⟨dV,?_⟩;refine⟨dV,?_⟩
 conv=>whnf
 have m1:∀a b:Nat,(a:Int)*(b:Int)=((a*b:Nat):Int):=λa b=>(Int.natCast_mul a b).symm
 have o:∀a b:Nat,(a:Int)+(b:Int)=((a+b:Nat):Int):=λa b=>(Int.natCast_add a b).symm
 rw[h2,h3,h4,h5];simp only[m1,wN _ R,ayQ,wN _ (cj J d8),o,wN _ p,axL _ p,wN _ (cj P d8),wN _ U,wN _ (cj I d8),wM (x*y)];have i:x*y/18446744073709551616<18446744073709551616:=Nat.div_lt_of_lt_mul (aV (Nat.mul_lt_mul'' j l) d8);rw[<-g]at i;rw[wN _ (cj (Nat.le_add_right _ _) i),o,wN _ i,g];rfl
theorem avg(l:Nat)(j:l<18446744073709551616):dY afj [WE 0,WE l,WE 1] ⟨.tup [WE l,WE 0],[]⟩:=by
 have g:bM.wrap (Int.tdiv (l:Int) 1)=(l:Int):=by simp_all[wN]
 have i:Int.tmod (l:Int) 1=0:=Int.tmod_one _;refine yA T8 afc.ok dU ?_;refine⟨dV,?_⟩;refine⟨dV,?_⟩;rw[g,i];rfl
def jD(a b:Int):Bool:=inB a&&inB b&&inB (a*b)
theorem aoV(a b:Int)(i:inB a=true)(j:inB b=true)(g:a.natAbs*b.natAbs<18446744073709551616):
 dY aaf [.c (int a),.c (int b),.c (int 1)] ⟨.tup [WE ((a.natAbs*b.natAbs:Nat):Int),WE 0,.c (bool (!(decide (a<0)==decide (b<0)))),.c (bool (decide (((a.natAbs*b.natAbs:Nat):Int)<=1000000000000000)))],[]⟩:=by
 have P:=q0 i;have R:=q0 j;have r:=X3 a i;have I:=X3 b j;have l:=ak1 a.natAbs b.natAbs d8 d8;have J:=avg (a.natAbs*b.natAbs) g;have o:a.natAbs*b.natAbs/18446744073709551616=0:=Nat.div_eq_of_lt g;have p:a.natAbs*b.natAbs%18446744073709551616=a.natAbs*b.natAbs:=Nat.mod_eq_of_lt g;rw[o,p]at l;have hr:(!inB a||!inB b)=false:=d9
 refine W5.s T8 ?_;refine zj (λh0=>?_) (λh0=>?_)
 .have h0:(((!inB a||!inB b)||decide ((1:Int)<1))||!inB 1)=true:=h0;rw[hr]at h0;exact absurd h0 dV
 refine Sat.w r ?_;refine Sat.w I ?_;refine Sat.w l ?_;refine Sat.w J ?_;rfl
theorem amh(a b:Int)(h:(inB a&&inB b)=false\/18446744073709551616<=a.natAbs*b.natAbs):
 dY aaf [.c (int a),.c (int b),.c (int 1)] ⟨.tup [WE 0,WE 0,.c (bool false),.c (bool false)],[]⟩:=by
 cases hr:(!inB a||!inB b)with
 |true=>
  refine W5.s T8 ?_;refine zj (λh0=>?_) (λh0=>?_)
  .exact rfl
  have h0:(((!inB a||!inB b)||decide ((1:Int)<1))||!inB 1)=false:=h0;rw[hr]at h0;simp at h0
 |false=>
  have i:inB a=true:=d9
  have j:inB b=true:=d9
  have I:18446744073709551616<=a.natAbs*b.natAbs:=d9
  have r:=q0 i;have g:=q0 j;have l:=X3 a i;have o:=X3 b j;have p:=ak1 a.natAbs b.natAbs d8 d8;have J:1<=a.natAbs*b.natAbs/18446744073709551616:=d8
  generalize a.natAbs=x at*;generalize b.natAbs=y at*;generalize x*y/18446744073709551616=hi at*;refine W5.s T8 ?_;refine zj (λh0=>?_) (λh0=>?_)
  .have h0:(((!inB a||!inB b)||decide ((1:Int)<1))||!inB 1)=true:=h0;rw[hr]at h0;exact absurd h0 dV
  refine Sat.w l ?_;refine Sat.w o ?_;refine Sat.w p ?_;refine zx (λg=>?_) (λg=>?_)
  .exact rfl
  have g:decide ((hi:Int)>=1)=false:=g;have:=aO g;omega
theorem afI(a b:Int):((a.natAbs*b.natAbs:Nat):Int)=((a*b).natAbs:Int):=by rw[Int.natAbs_mul]
theorem as5(a b:Int):dY ap9 [.c (int a),.c (int b),.c (int 1)] (rNB (bif jD a b then a*b else 0) (jD a b)):=by
 unfold jD;by_cases h0:(inB a&&inB b)=false\/18446744073709551616<=a.natAbs*b.natAbs
 .have i:=amh a b h0;have e:(inB a&&inB b&&inB (a*b))=false:=by
   rcases h0 with h0|h0
   .grind
   have R:=afI a b;have:inB (a*b)=false:=by grind[inB]
   simp_all
  rw[e];refine Xz.s T8 ?_;refine Sat.w i ?_;refine Sat.w (Xf 0 false) ?_;rfl
 have g:(inB a&&inB b)=true:=d9
 have hm:a.natAbs*b.natAbs<18446744073709551616:=d9
 simp only[Bool.and_eq_true]at g;have i:=aoV a b g.1 g.2 hm;have R:=afI a b;have J:(!(decide (a<0)==decide (b<0)))=true->a*b<=0:=by grind[Int.mul_nonpos_of_nonneg_of_nonpos]
 have l:(!(decide (a<0)==decide (b<0)))=false->0<=a*b:=d9
 rw[g.1,g.2];generalize(!(decide (a<0)==decide (b<0)))=s at*;have I:inB (a*b)=decide (((a.natAbs*b.natAbs:Nat):Int)<=1000000000000000):=by
  rw[R];unfold inB;by_cases h:((a*b).natAbs:Int)<=1000000000000000
  .grind
  rw[aK h];by_cases h5:a*b>= -1000000000000000
  .rw[aK (p:=a*b<=1000000000000000) d8,aZ]
  simp_all[aK]
 rw[<-I]at i;generalize a.natAbs*b.natAbs=m at*;generalize a*b=p at*;cases j:inB p with
 |true=>
  rw[j]at i;have hp:=q0 j;have U:aD.wrap (m:Int)=(m:Int):=yf d8 d8;cases s with
  |true=>
   have h4:=J rfl;have P:aD.wrap (0-(m:Int))=p:=by grind[yf]
   have o:=Xf p true;rw[j]at o;refine Xz.s T8 ?_;refine Sat.w i ?_;rw[U,P];refine Sat.w o ?_;rfl
  |false=>
   have h4:=l rfl;have P:(m:Int)=p:=d8
   have o:=Xf p true;rw[j]at o;refine Xz.s T8 ?_;refine Sat.w i ?_;rw[U,P];refine Sat.w o ?_;rfl
 |false=>
  rw[j]at i;cases s with
  |true=>
   refine Xz.s T8 ?_;refine Sat.w i ?_;refine Sat.w (Xf (aD.wrap (0-aD.wrap (m:Int))) false) ?_;rfl
  |false=>
   refine Xz.s T8 ?_;refine Sat.w i ?_;refine Sat.w (Xf (aD.wrap (m:Int)) false) ?_;rfl
theorem ayw(a b:Int):dY auG [.c (int a),.c (int b)] (rNB (bif jD a b then a*b else 0) (jD a b)):=by have h:=as5 a b;refine aub.s T8 ?_;refine Sat.w h ?_;rfl
def Xb(s p:ByteArray):Bool:=bif decide ((s.size:Int)>=(p.size:Int))then zo (s.extract 0 p.size) p else false
theorem aoY(s p:ByteArray):dY Qi [.c (str s),.c (str p)] (rB (Xb s p)):=by
 unfold Xb;cases h:decide ((s.size:Int)>=(p.size:Int))with
 |false=>
  refine uL.s T8 ?_;rw[h];exact rfl
 |true=>
  refine uL.s T8 ?_;rw[h];(conv=>whnf);refine⟨by show(0:Int)<=0;omega,by show(0:Int)<=p.size;omega,aW h,?_⟩;exact rfl
theorem al0(s p:ByteArray):dY acI [.c (str s),.c (str p)] (rB (Xb s p)):=by have h:=aoY s p;generalize Xb s p=b at*;refine acF.s T8 ?_;refine Sat.w h ?_;rfl
def QD(s t:ByteArray):Bool:=Lib.contains s.data.toList t.data.toList
def kK:Prop:=∀s t:ByteArray,s.size<=100000->dY adw [.c (str s),.c (str t)] (rB (QD s t))
def CK(g i j o:Bool)(l:am Val)(u:Val):Prop:=
 (g=true\/i=true->u.k=2)/\(g=false->i=false->j=true\/o=true->∃b,u=zM b)/\(g=false->i=false->j=false->o=false->u∈l)
def at0(l:am Val)(i:Nat):Val:=l.getD i zw
def j7(g:ByteArray)(l:am Val):Val:=
 bif zo g ⟨#[97,98,115]⟩then ut (zI true (at0 l 0).n (aD.wrap (0-(at0 l 0).n))) true else
 bif zo g ⟨#[108,101,110]⟩then ut (at0 l 0).s.size true else
 bif zo g ⟨#[104,97,115]⟩then zM (QD (at0 l 0).s (at0 l 1).s)else
 bif zo g ⟨#[115,116,97,114,116,115]⟩then zM (Xb (at0 l 0).s (at0 l 1).s)else
 bif decide (xV (at0 l 1) (at0 l 0)<0)==zo g ⟨#[109,105,110]⟩then at0 l 1 else at0 l 0
theorem avo(hC:kK)(j:ByteArray)(l:am Val)(hn:qw j≠0)(hl:(l.length:Int)=qw j)(hs:∀v∈l,qK v):qK (j7 j l)/\dY XH [.c (str j),yu l] (rV (j7 j l))/\CK (zo j ⟨#[97,98,115]⟩) (zo j ⟨#[108,101,110]⟩) (zo j ⟨#[104,97,115]⟩) (zo j ⟨#[115,116,97,114,116,115]⟩) l (j7 j l):=by
 unfold qw at hn hl;unfold j7;generalize P:zo j ⟨#[97,98,115]⟩=p1 at*;generalize e2:zo j ⟨#[108,101,110]⟩=p2 at*;generalize e3:zo j ⟨#[104,97,115]⟩=p3 at*;generalize e4:zo j ⟨#[115,116,97,114,116,115]⟩=p4 at*;generalize e5:zo j ⟨#[109,105,110]⟩=U at*;generalize zo j ⟨#[109,97,120]⟩=p6 at*;have h1:1<=l.length:=d9
 have R:p1=false->p2=false->l.length=2:=d9
 clear hn hl
 match l,h1,R,hs with
 |x::r,_,R,hs=>
 have hx:=hs x (bP ..);obtain⟨p,o,g⟩:=x;cases p1 with
 |true=>
  refine⟨Js (zI true o (aD.wrap (0-o))) true,?_,⟨λ_=>rfl,λh=>(by cases h),λh=>(by cases h)⟩⟩;refine Xy.s T8 ?_;rw[P];refine vt ?_;refine vt ?_;exact rfl
 |false=>
  cases p2 with
  |true=>
   refine⟨Js g.size true,?_,⟨λ_=>rfl,λ_ h=>(by cases h),λ_ h=>(by cases h)⟩⟩;refine Xy.s T8 ?_;rw[P];(conv=>whnf);rw[e2];refine vt ?_;exact rfl
  |false=>
   have R:=R rfl rfl
   match r,R,hs with
   |[y],_,hs=>
   obtain⟨I,J,i⟩:=y;cases p3 with
   |true=>
    have hb:=hC g i hx;show qK (zM (QD g i))/\Sat Pg XH _ (λr=>r=rV (zM (QD g i)))/\CK _ _ _ _ _ (zM (QD g i));generalize QD g i=b at*;refine⟨QQ _,?_,⟨λh=> d9,λ_ _ _=>⟨_,rfl⟩,λ_ _ h=>(by cases h)⟩⟩;refine Xy.s T8 ?_;rw[P];(conv=>whnf);rw[e2];(conv=>whnf);rw[e3];refine vt ?_;refine vt ?_;refine Sat.w hb ?_;rfl
   |false=>
    cases p4 with
    |true=>
     have hb:=al0 g i;show qK (zM (Xb g i))/\Sat Pg XH _ (λr=>r=rV (zM (Xb g i)))/\CK _ _ _ _ _ (zM (Xb g i));generalize Xb g i=b at*;refine⟨QQ _,?_,⟨λh=> d9,λ_ _ _=>⟨_,rfl⟩,λ_ _ _ h=>(by cases h)⟩⟩;refine Xy.s T8 ?_;rw[P];(conv=>whnf);rw[e2];(conv=>whnf);rw[e3];(conv=>whnf);rw[e4];refine vt ?_;refine vt ?_;refine Sat.w hb ?_;rfl
    |false=>
     show qK (bif decide (xV ⟨I,J,i⟩ ⟨p,o,g⟩<0)==U then⟨I,J,i⟩else⟨p,o,g⟩)/\Sat Pg XH _ (λr=>r=rV (bif decide (xV ⟨I,J,i⟩ ⟨p,o,g⟩<0)==U then⟨I,J,i⟩else⟨p,o,g⟩))/\CK _ _ _ _ _ (bif decide (xV ⟨I,J,i⟩ ⟨p,o,g⟩<0)==U then⟨I,J,i⟩else⟨p,o,g⟩);refine⟨Vw (hs _ dT) (hs _ dT),?_,⟨λh=> d9,λ_ _ h=> d9,λ_ _ _ _=>d9⟩⟩;refine Xy.s T8 ?_;rw[P];(conv=>whnf);rw[e2];(conv=>whnf);rw[e3];(conv=>whnf);rw[e4];refine vt ?_;refine vt ?_;refine zj (λc=>?_) (λc=>?_)
     .have c:(decide (xV ⟨I,J,i⟩ ⟨p,o,g⟩<0)==U)=true:=d9
      rw[c];refine vt ?_;exact rfl
     have c:(decide (xV ⟨I,J,i⟩ ⟨p,o,g⟩<0)==U)=false:=d9
     rw[c];refine vt ?_;exact rfl
def BK(op:Int)(g:ByteArray)(l:am Val)(u:Val):Prop:=
 ((op==3)=true->(∀v∈l,v.k≠0)->∃b,u=zM b)/\
 ((op==3)=false->(op==4)=false->(op==5)=false->(op==6)=false->(op==7)=false->(op==8)=false->(op==9)=false->(op==16)=false->∃b,u=zM b)/\
 ((op==16)=true->CK (zo g ⟨#[97,98,115]⟩) (zo g ⟨#[108,101,110]⟩) (zo g ⟨#[104,97,115]⟩) (zo g ⟨#[115,116,97,114,116,115]⟩) l u)
def qX(op:Int)(g:ByteArray)(l:am Val):Val:=
 bif op==3 then v7 (at0 l 0)else bif op==4 then ut (aD.wrap (0-(at0 l 0).n)) true else
 bif op==5 then ut (bif wu (at0 l 0).n (at0 l 1).n then(at0 l 0).n+(at0 l 1).n else 0) (wu (at0 l 0).n (at0 l 1).n)else
 bif op==6 then ut (bif wu (at0 l 0).n (aD.wrap (0-(at0 l 1).n))then(at0 l 0).n+aD.wrap (0-(at0 l 1).n)else 0) (wu (at0 l 0).n (aD.wrap (0-(at0 l 1).n)))else
 bif op==7 then ut (bif jD (at0 l 0).n (at0 l 1).n then(at0 l 0).n*(at0 l 1).n else 0) (jD (at0 l 0).n (at0 l 1).n)else
 bif op==8||op==9 then Xu (at0 l 0).n (at0 l 1).n (op==9)else bif op==16 then j7 g l else
 zM ((((op==10&&(xV (at0 l 0) (at0 l 1)==0))||(op==11&&(xV (at0 l 0) (at0 l 1) !=0)))||(op==12&&decide (xV (at0 l 0) (at0 l 1)<0)))||(op==13&&decide (xV (at0 l 0) (at0 l 1)<=0)))
theorem ayy(hC:kK)(op:Int)(j:ByteArray)(v:Val)(ks:am Ex)(l:am Val)(ae:yD op j v ks.length=0)(ho:3<=op)(hl:l.length=ks.length)(af:op=16->qw j≠0)(hs:∀v∈l,qK v):
 (qK (qX op j l)/\BK op j l (qX op j l))/\dY xd [(Ex.mk op j v ks).w,yu l] (rV (qX op j l)):=by
 unfold BK qX;obtain⟨aj,_,ak⟩:=jE ae;have ad:op=16->Wu op j=qw j:=λh=>by rw[h];rfl
 have ai:op≠3->op≠4->op≠16->Wu op j=2:=λh3 h4 h5=>by grind[Wu]
 have ah:op=3\/op=4->Wu op j=1:=λh=>by rcases h with rfl|rfl<;>rfl
 have ab:(op==16)=true->(qK (j7 j l)/\CK (zo j ⟨#[97,98,115]⟩) (zo j ⟨#[108,101,110]⟩) (zo j ⟨#[104,97,115]⟩) (zo j ⟨#[115,116,97,114,116,115]⟩) l (j7 j l))/\dY XH [.c (str j),yu l] (rV (j7 j l)):=λh=>by grind[avo]
 have hE:(op==3)=false->(op==4)=false->(op==16)=false->l.length=2:=λh3 h4 h5=>d9
 have h1:1<=l.length:=d9
 have h5:(op==5)=true->l.length=2:=λh=>d9
 have h6:(op==6)=true->l.length=2:=λh=>d9
 have h7:(op==7)=true->l.length=2:=λh=>d9
 have h8:(op==8)=true->l.length=2:=λh=>d9
 have h9:(op==9)=true->l.length=2:=λh=>d9
 have I:∀k:Int,(op==k)=true->k≠16->∀{X:Prop},(op==16)=true->X:=λk h1 h2 _ h3=>d9
 clear ai ah ad aj ae hl af ho ak;generalize e3:(op==3)=p3 at*;generalize e4:(op==4)=p4 at*;generalize e5:(op==5)=p5 at*;generalize e6:(op==6)=p6 at*;generalize e7:(op==7)=p7 at*;generalize e8:(op==8)=p8 at*;generalize ac:(op==16)=al at*;obtain⟨vk,vn,vs⟩:=v
 match l,h1,ab,hE,h5,h6,h7,h8,h9,hs with
 |x::r,_,ab,hE,h5,h6,h7,h8,h9,hs=>
 have hx:=hs x (bP ..);clear hs;obtain⟨o,g,p⟩:=x;cases p3 with
 |true=>
  show(qK (v7 ⟨o,g,p⟩)/\(_->_->∃b,v7 ⟨o,g,p⟩=zM b)/\_/\_)/\Sat Pg xd _ (λr=>r=rV (v7 ⟨o,g,p⟩));refine⟨⟨arH hx,λ_ hk=>⟨(g==0),by unfold v7;rw[show(Val.mk o g p).k=o from rfl,show(o==0)=false by simpa using hk ⟨o,g,p⟩ dT];rfl⟩,λh=>(by cases h),I 3 e3 d8⟩,?_⟩;refine xY.s T8 ?_;rw[e3];refine vt ?_;refine Sat.w (ae4 ⟨o,g,p⟩) ?_;rfl
 |false=>
  cases p4 with
  |true=>
   show(qK (ut (aD.wrap (0-g)) true)/\_/\_/\_)/\Sat Pg xd _ (λr=>r=rV (ut (aD.wrap (0-g)) true));refine⟨⟨Js _ _,λh=>(by cases h),λ_ h=>(by cases h),I 4 e4 d8⟩,?_⟩;refine xY.s T8 ?_;rw[e3];(conv=>whnf);rw[e4];refine vt ?_;exact rfl
  |false=>
   cases p5 with
   |true=>
    have R:=h5 rfl
    match r,R with
    |[y],_=>
    obtain⟨J,i,P⟩:=y;have U:=arD g i;show(qK (ut (bif wu g i then g+i else 0) (wu g i))/\_/\_/\_)/\Sat Pg xd _ (λr=>r=rV (ut (bif wu g i then g+i else 0) (wu g i)));generalize(bif wu g i then g+i else 0)=n at*;generalize wu g i=c at*;refine⟨⟨Js _ _,λh=>(by cases h),λ_ _ h=>(by cases h),I 5 e5 d8⟩,?_⟩;refine xY.s T8 ?_;rw[e3];(conv=>whnf);rw[e4];(conv=>whnf);rw[e5];refine vt ?_;refine vt ?_;refine Sat.w U ?_;cases c<;>rfl
   |false=>
    cases p6 with
    |true=>
     have R:=h6 rfl
     match r,R with
     |[y],_=>
     obtain⟨J,i,P⟩:=y;have U:=arD g (aD.wrap (0-i));show(qK (ut (bif wu g (aD.wrap (0-i))then g+aD.wrap (0-i)else 0) (wu g (aD.wrap (0-i))))/\_/\_/\_)/\Sat Pg xd _ (λr=>r=rV (ut (bif wu g (aD.wrap (0-i))then g+aD.wrap (0-i)else 0) (wu g (aD.wrap (0-i)))));generalize(bif wu g (aD.wrap (0-i))then g+aD.wrap (0-i)else 0)=n at*;generalize wu g (aD.wrap (0-i))=c at*;refine⟨⟨Js _ _,λh=>(by cases h),λ_ _ _ h=>(by cases h),I 6 e6 d8⟩,?_⟩;refine xY.s T8 ?_;rw[e3];(conv=>whnf);rw[e4];(conv=>whnf);rw[e5];(conv=>whnf);rw[e6];refine vt ?_;refine vt ?_;refine Sat.w U ?_;cases c<;>rfl
    |false=>
     cases p7 with
     |true=>
      have R:=h7 rfl
      match r,R with
      |[y],_=>
      obtain⟨J,i,P⟩:=y;have U:=ayw g i;show(qK (ut (bif jD g i then g*i else 0) (jD g i))/\_/\_/\_)/\Sat Pg xd _ (λr=>r=rV (ut (bif jD g i then g*i else 0) (jD g i)));generalize(bif jD g i then g*i else 0)=n at*;generalize jD g i=c at*;refine⟨⟨Js _ _,λh=>(by cases h),λ_ _ _ _ h=>(by cases h),I 7 e7 d8⟩,?_⟩;refine xY.s T8 ?_;rw[e3];(conv=>whnf);rw[e4];(conv=>whnf);rw[e5];(conv=>whnf);rw[e6];(conv=>whnf);rw[e7];refine vt ?_;refine vt ?_;refine Sat.w U ?_;cases c<;>rfl
     |false=>
      cases p8 with
      |true=>
       have R:=h8 rfl
       match r,R with
       |[y],_=>
       obtain⟨J,i,P⟩:=y;have U:=afS g i (op==9);have aa:=arG g i (op==9);show(qK (Xu g i (op==9))/\_/\_/\_)/\Sat Pg xd _ (λr=>r=rV (Xu g i (op==9)));generalize Xu g i (op==9)=v1 at*;refine⟨⟨aa,λh=>(by cases h),λ_ _ _ _ _ h=>(by cases h),I 8 e8 d8⟩,?_⟩;obtain⟨u1,u2,u3⟩:=v1;refine xY.s T8 ?_;rw[e3];(conv=>whnf);rw[e4];(conv=>whnf);rw[e5];(conv=>whnf);rw[e6];(conv=>whnf);rw[e7];(conv=>whnf);rw[e8];refine vt ?_;refine vt ?_;refine Sat.w U ?_;rfl
      |false=>
       cases e9:(op==9)with
       |true=>
        have R:=h9 e9
        match r,R with
        |[y],_=>
        obtain⟨J,i,P⟩:=y;have U:=afS g i (op==9);have aa:=arG g i (op==9);show(qK (Xu g i true)/\_/\_/\_)/\Sat Pg xd _ (λr=>r=rV (Xu g i true));rw[show Xu g i true=Xu g i (op==9)by rw[e9]];generalize Xu g i (op==9)=v1 at*;refine⟨⟨aa,λh=>(by cases h),λ_ _ _ _ _ _ h=>(by cases h),I 9 e9 d8⟩,?_⟩;obtain⟨u1,u2,u3⟩:=v1;refine xY.s T8 ?_;rw[e3];(conv=>whnf);rw[e4];(conv=>whnf);rw[e5];(conv=>whnf);rw[e6];(conv=>whnf);rw[e7];(conv=>whnf);rw[e8];(conv=>whnf);rw[e9];refine vt ?_;refine vt ?_;refine Sat.w U ?_;rfl
       |false=>
        cases al with
        |true=>
         obtain⟨⟨aa,ag⟩,U⟩:=ab rfl;show(qK (j7 j (⟨o,g,p⟩::r))/\_/\_/\_)/\Sat Pg xd _ (λz=>z=rV (j7 j (⟨o,g,p⟩::r)));generalize j7 j (⟨o,g,p⟩::r)=v1 at*;refine⟨⟨aa,λh=>(by cases h),λ_ _ _ _ _ _ _ h=>(by cases h),λ_=>ag⟩,?_⟩;obtain⟨u1,u2,u3⟩:=v1;refine xY.s T8 ?_;rw[e3];(conv=>whnf);rw[e4];(conv=>whnf);rw[e5];(conv=>whnf);rw[e6];(conv=>whnf);rw[e7];(conv=>whnf);rw[e8];(conv=>whnf);rw[e9];(conv=>whnf);rw[ac];refine Sat.w U ?_;rfl
        |false=>
         have R:=hE rfl rfl rfl
         match r,R with
         |[y],_=>
         obtain⟨J,i,P⟩:=y;show(qK (zM ((((op==10&&(xV ⟨o,g,p⟩ ⟨J,i,P⟩==0))||(op==11&&(xV ⟨o,g,p⟩ ⟨J,i,P⟩ !=0)))||(op==12&&decide (xV ⟨o,g,p⟩ ⟨J,i,P⟩<0)))||(op==13&&decide (xV ⟨o,g,p⟩ ⟨J,i,P⟩<=0))))/\_/\_/\_)/\Sat Pg xd _ (λr=>r=rV (zM ((((op==10&&(xV ⟨o,g,p⟩ ⟨J,i,P⟩==0))||(op==11&&(xV ⟨o,g,p⟩ ⟨J,i,P⟩ !=0)))||(op==12&&decide (xV ⟨o,g,p⟩ ⟨J,i,P⟩<0)))||(op==13&&decide (xV ⟨o,g,p⟩ ⟨J,i,P⟩<=0)))));refine⟨⟨QQ _,λh=>(by cases h),λ_ _ _ _ _ _ _ _=>⟨_,rfl⟩,λh=>(by cases h)⟩,?_⟩;refine xY.s T8 ?_;rw[e3];(conv=>whnf);rw[e4];(conv=>whnf);rw[e5];(conv=>whnf);rw[e6];(conv=>whnf);rw[e7];(conv=>whnf);rw[e8];(conv=>whnf);rw[e9];(conv=>whnf);rw[ac];refine vt ?_;refine vt ?_;exact rfl
def xW(l:am Val):Bool:=l.any λv=>v.k==0
mutual
def Ex.val(cols:am Col)(row:am Val):Ex->Val
 |.mk op g v ks=>bif op==1 then v else bif op==2 then at0 row (zf cols g).toNat else
   bif op==14 then ww (at0 (valL cols row ks) 0) (at0 (valL cols row ks) 1)else
   bif op==15 then v7 (ww (v7 (at0 (valL cols row ks) 0)) (v7 (at0 (valL cols row ks) 1)))else
   bif xW (valL cols row ks)then zw else qX op g (valL cols row ks)
def valL(cols:am Col)(row:am Val):am Ex->am Val
 |[]=> []
 |k::r=>k.val cols row::valL cols row r
end
theorem YU(cols:am Col)(row:am Val):∀ks,valL cols row ks=ks.map (Ex.val cols row)
 |[]=>rfl
 |k::r=>by simp only[valL,cG,YU cols row r]
theorem aqx(x:Col)(op:Int)(g:ByteArray)(rest:am D):dY aab [x.w,.c (.fp (.lit (.int .i64 op):: .lit (.string g)::rest))] (rB (zo x.name g)):=by refine yA T8 aja.ok dU ?_;exact rfl
def vlS(cols:am Col)(row:am Val)(op:Int)(j:ByteArray)(v:Val)(ks:am Ex)(i:Nat)(g:am Val):S:=⟨[(0,.w (.c (.d (.sl (zl cols))))),(1,.w (yu row)),(5,cV (.ptr 5 0)),(6,cV (.ptr 6 0)),(7,cV (.own 46 3 g.length)),(8,zZ (xW g)),(27,.w (.c (.d (.sl (exsD ks))))),(28,zm (exsD ks).length),(29,zm i)],
 [(5,.box [int op,str j,int v.k,int v.n,str v.s,.d (.sl (exsD ks))]),(6,.box [int 0,int 0,str ⟨#[]⟩]),(46,.arr 3 (rowD g) false)]⟩
theorem uu(a b:am Val):rowD a++rowD b=rowD (a++b):=by simp[rowD]
theorem amZ(l:am Val)(v:Val):xW (l++[v])=(xW l||(v.k==0)):=by simp[xW]
theorem asi{v:Val}(h:uN v=0):qK v:=by
 unfold uN at h;cases g:(yV v.k v !=0)
 .have:=gC g<;>grind[qK]
 simp_all
theorem XM{op:Int}{j:ByteArray}{v:Val}{i:Int}(g:(op==1)=true)(h:yD op j v i=0):uN v=0:=by unfold yD at h;rw[g,aB]at h;exact(yt d8 h).2
theorem aia{op:Int}{i:ByteArray}{v:Val}{g:Int}(o:op=16)(h:yD op i v g=0):qw i≠0:=by subst o;have h:qh 16 i v g g true false=0:=h;have j:=(yt d8 h).2;simp only[aA]at j;have l:=(yt d8 j).2;have p:=(yt d8 l).1<;>simp_all
theorem aaP(cols:am Col):∀{ks:am Ex},(tyL cols ks).1=0->∀k∈ks,(k.ty cols).2=0
 |[],_,k,hk=>by cases hk
 |a::r,h,k,hk=>by
  simp only[tyL]at h;cases g:((a.ty cols).2 !=0)
  .rw[g,aA]at h;rcases bX.1 hk with rfl|hk
   .simpa using g
   exact aaP cols h k hk
  simp_all
theorem aaS{cols:am Col}{op:Int}{g:ByteArray}{v:Val}{ks:am Ex}(h:(Ex.ty cols (.mk op g v ks)).2=0):(tyL cols ks).1=0/\(qC cols op g v (tyL cols ks).2).2=0:=by simp only[Ex.ty]at h;cases i:((tyL cols ks).1 !=0)<;>simp_all
theorem ax0(hC:kK)(op:Int)(g:ByteArray)(v:Val)(ks:am Ex)(l:am Val)(i:yD op g v ks.length=0)(o:3<=op)(j:l.length=ks.length)(hs:∀v∈l,qK v):
 (qK (qX op g l)/\BK op g l (qX op g l))/\dY xd [(Ex.mk op g v ks).w,yu l] (rV (qX op g l)):=
 ayy hC op g v ks l i o j (λh=>aia h i) hs
theorem aej(hC:kK)(cols:am Col)(row:am Val)(al:∀v∈row,qK v)(ah:row.length=cols.length):∀(e:Ex),e.err=0->(e.ty cols).2=0->qK (e.val cols row)/\dY Wk [.c (.d (.sl (zl cols))),yu row,e.w] (rV (e.val cols row))
 |.mk op g v ks,he,av=>by
   have R:yD op g v ks.length=0/\errL ks=0:=by
    simp only[Ex.err]at he;cases hb:(yD op g v ks.length !=0)
    .simp_all
    simp_all
   have ag:=un R.2;obtain⟨ao,aq⟩:=aaS av;have au:=aaP cols ao;have ax:∀k∈ks,qK (k.val cols row)/\dY Wk [.c (.d (.sl (zl cols))),yu row,k.w] (rV (k.val cols row)):=λk hk=>aej hC cols row al ah k (ag k hk) (au k hk)
   have an:∀x∈valL cols row ks,qK x:=λx hx=>by grind[YU]
   have ih:=λk hk=>(ax k hk).2
   obtain⟨bj,bk,bl⟩:=jE R.1;have bi:=abx op g;have bh:ks.length<=2:=d8
   have aw:(valL cols row ks).length=ks.length:=by grind[YU]
   have ad:(op==14||op==15)=true->(valL cols row ks).length=2:=λh=>by
    simp only[bK,cE]at h
    grind[Wu]
   have ae:(op==1)=true->qK v:=λh=>asi (XM h R.1)
   have af:(op==2)=true->0<=zf cols g/\zf cols g<row.length:=λh=>by
    have h:op=2:=by simpa using h
    subst h;have J:(bif decide (zf cols g<0)then((0:Int),(16:Int))else(xA cols (zf cols g),0)).2=0:=aq;have h3:=Yp (λx=>zo x.name g) cols 0 (Int.le_refl _)
    grind[zf]
   have aa:=ax0 hC op g v ks (valL cols row ks) R.1
   have ac:Ex.val cols row (.mk op g v ks)=bif op==1 then v else bif op==2 then at0 row (zf cols g).toNat else
    bif op==14 then ww (at0 (valL cols row ks) 0) (at0 (valL cols row ks) 1)else
    bif op==15 then v7 (ww (v7 (at0 (valL cols row ks) 0)) (v7 (at0 (valL cols row ks) 1)))else
    bif xW (valL cols row ks)then zw else qX op g (valL cols row ks):=by grind[Ex.val]
   have ai:∀{l:am Val}{i:Nat},i<l.length->(∀x∈l,qK x)->qK (at0 l i):=fun{l i} h1 J=>by grind[at0]
   have ak:(op==1)=false->(op==2)=false->3<=op:=λh1 J=>d9
   rw[ac];refine⟨?_,?_⟩
   .cases e1:(op==1)
    .cases e2:(op==2)
     .cases e3:(op==14)<;>simp_all[Vw,ag7,arH,ayU]
     simp_all
    grind
   clear av ao aq au ax he ag ac ae;obtain⟨V,hV⟩:∃V,V=valL cols row ks:=⟨_,rfl⟩;rw[<-hV]at an aw ad aa⊢;have a7:∀i (h:i<ks.length) (J:i<V.length),V[i]=ks[i].val cols row:=λi h J=>by grind[YU]
   have j:V.length=2->(rowD V)[(0:Int).toNat]?=some (at0 V 0).ds:=λh=>by
    have:=xw (r:=V) (i:=0) d8
    grind[at0]
   have o:V.length=2->(rowD V)[(1:Int).toNat]?=some (at0 V 1).ds:=λh=>by
    have:=xw (r:=V) (i:=1) d8
    grind[at0]
   have a9:(op==2)=true->(rowD row)[(zf cols g).toNat]?=some (at0 row (zf cols g).toNat).ds:=λh=>by grind[at0,rowD]
   have p:=qJ aab [.lit (.int .i64 op),.lit (.string g),.lit (.int .i64 v.k),.lit (.int .i64 v.n),.lit (.string v.s),.sl (exsD ks)] (λx=>zo x.name g) (λx=>aqx x op g _) cols;have p:Sat Pg wS _ (λr=>r=rI (zf cols g)):=p;clear hV ai;obtain⟨vk,vn,vs⟩:=v;generalize at0 row (zf cols g).toNat=fv at*;generalize zf cols g=ci at*;generalize at0 V 0=a0 at*;generalize at0 V 1=a1 at*;cases e1:(op==1)with
   |true=>
    refine Ym.s T8 ?_;rw[e1];exact rfl
   |false=>
    cases e2:(op==2)with
    |true=>
     have hf:=af e2;have hg:=a9 e2;obtain⟨f1,f2,f3⟩:=fv;refine Ym.s T8 ?_;rw[e1];(conv=>whnf);rw[e2];refine Sat.w p ?_;refine yb hg ?_ (hA:=hf.1);exact rfl
    |false=>
     have aa:=aa (ak e1 e2) aw an;refine Ym.s T8 ?_;rw[e1];(conv=>whnf);rw[e2];(conv=>whnf);refine yy (P:=Pg) (f:=T8.f) (body:=(Ym.l 0)) ks.length (λi=>vlS cols row op g ⟨vk,vn,vs⟩ ks i (V.take i)) (λ_=>True) ⟨trivial,⟨_,ya 7 46 3 d8 d8 rfl,?_⟩⟩ ?_
     .exact rfl
     intro i hi _;obtain⟨T,hT⟩:∃T,T=V.take i:=⟨_,rfl⟩;have bg:T.length=i:=d9
     have ar:(rowD T).take T.length=rowD T:=by grind[zu]
     have wi:i<ks.length->aD.wrap ((i:Int)+1)=((i+1:Nat):Int):=λh=>zB h d8
     have U:∀h:i<ks.length,V.take (i+1)=T++[ks[i].val cols row]:=λh=>by grind[zJ]
     have ab:ks.length<=i->V=T:=λh=>d9
     show mwpR Pg T8.f (Ym.l 0) _ (vlS cols row op g ⟨vk,vn,vs⟩ ks i (V.take i));unfold vlS;rw[<-hT];clear hT;refine zj (λh1=>?_) (λh1=>?_)
     .have I:i<ks.length:=by have:=aW h1;grind[y0]
      have hg:(exsD ks)[((i:Int)).toNat]?=some (ks[i]).ds:=Qe I;have hm:ks[i]∈ks:=aR I;have U:=U I;generalize ks[i]=k at*;have bc:=ih k hm;obtain⟨bf,be,v1,bd⟩:=k;generalize(Ex.val cols row (.mk bf be v1 bd))=x at*;obtain⟨x1,x2,x3⟩:=x;refine yb hg ?_;refine Sat.w bc ?_;refine qr ?_;refine yW I trivial ?_;rw[wi I,ar,U,amZ,<-uu,aM];rfl
     have a8:ks.length<=i:=by grind[y0]
     have a6:=ab a8;subst a6;clear U ab a7;cases e3:(op==14)with
     |true=>
      have J:=ad d9;have j:=j J;have o:=o J;have hb:=aoK a0 a1;generalize ww a0 a1=u at*;obtain⟨u1,u2,u3⟩:=u;obtain⟨ay,az,a2⟩:=a0;obtain⟨a3,a4,a5⟩:=a1;(conv=>whnf);rw[e3];refine qa ?_ (hA:=d8) (hB:=d8);refine⟨_,j,?_⟩;(conv=>whnf);refine qa ?_ (hA:=d8) (hB:=d8);refine⟨_,o,?_⟩;(conv=>whnf);refine Sat.w hb ?_;rfl
     |false=>
      cases e4:(op==15)with
      |true=>
       have J:=ad dW;have j:=j J;have o:=o J;have ba:=ae4 a0;have bb:=ae4 a1;generalize v7 a0=n0 at*;generalize v7 a1=n1 at*;have hb:=aoK n0 n1;generalize ww n0 n1=u at*;have hn:=ae4 u;generalize v7 u=z at*;obtain⟨u1,u2,u3⟩:=u;obtain⟨z1,z2,z3⟩:=z;obtain⟨bm,bn,bo⟩:=n0;obtain⟨bp,bq,bs⟩:=n1;obtain⟨ay,az,a2⟩:=a0;obtain⟨a3,a4,a5⟩:=a1;(conv=>whnf);rw[e3];(conv=>whnf);rw[e4];refine qa ?_ (hA:=d8) (hB:=d8);refine⟨_,j,?_⟩;(conv=>whnf);refine qa ?_ (hA:=d8) (hB:=d8);refine⟨_,o,?_⟩;(conv=>whnf);refine Sat.w ba ?_;refine Sat.w bb ?_;refine Sat.w hb ?_;refine Sat.w hn ?_;rfl
      |false=>
       cases e5:xW V with
       |true=>
        (conv=>whnf);rw[e3];(conv=>whnf);rw[e4];exact rfl
       |false=>
        have aj:dY xd [(Ex.mk op g ⟨vk,vn,vs⟩ ks).w,.c (.d (.sl ((rowD V).take V.length)))] (rV (qX op g V)):=by rw[ar];exact aa.2
        generalize qX op g V=u at*;obtain⟨u1,u2,u3⟩:=u;(conv=>whnf);rw[e3];(conv=>whnf);rw[e4];refine Sat.w aj ?_;rfl
termination_by e=>cH e
decreasing_by
 simp_wf
 have:=bY hk;omega
theorem ji{e:Ex}(h:e.chk=0):e.err=0:=by unfold Ex.chk at h;exact(yt d8 (yt d8 h).2).2
def Ex.tyE(cols:am Col)(e:Ex):Int×Int:=bif e.chk !=0 then(0,e.chk)else e.ty cols
theorem kF(cols:am Col)(e:Ex):dY acs [.c (.d (.sl (zl cols))),e.w] (rII (e.tyE cols)):=by
 have j:=Vs e;have g:=kE cols e;unfold Ex.tyE;cases i:(e.chk !=0)with
 |true=>
  generalize e.chk=c at*;obtain⟨op,l,⟨o,p,vs⟩,ks⟩:=e;refine ach.s T8 ?_;refine Sat.w j ?_;rw[i];exact rfl
 |false=>
  have g:=g (ji d9);generalize e.chk=c at*;generalize e.ty cols=t at*;obtain⟨op,l,⟨o,p,vs⟩,ks⟩:=e;refine ach.s T8 ?_;refine Sat.w j ?_;rw[i];refine Sat.w g ?_;rfl
def Wh:am Col->am Val->Bool
 |c::cs,v::vs=>bif yV c.t v !=0 then false else Wh cs vs
 |_,_=>true
def vT(cols:am Col)(row:am Val):Bool:=bif ((cols.length:Int)) !=row.length then false else Wh cols row
theorem avp(cols:am Col)(row:am Val):dY ap4 [.c (.d (.sl (zl cols))),yu row] (rB (vT cols row)):=by
 refine vI 1 dU rfl λo=>?_
 rw[zu]at o;unfold vT;refine afv.s T8 ?_;rw[z8,zu];refine zx (λh=>?_) (λh=>?_)
 .rw[h];exact rfl
 rw[h];have hl:=lens h;simp only[aA];refine Uc T8 (afv.l 0) row.length (λi=>⟨[(0,.w (.c (.d (.sl (zl cols))))),(12,.w (yu row)),(13,zm (rowD row).length),(14,zm i)],[]⟩) (λi=>Wh cols row=Wh (cols.drop i) (row.drop i)) ?_
 intro i hi g;refine zj (λh1=>?_) (λh1=>?_)
 .have j:i<row.length:=by simp_all[zu]
  have I:i<cols.length:=d8
  rw[zt j,zt I]at g;have g:Wh cols row=bif yV cols[i].t row[i] !=0 then false else Wh (cols.drop (i+1)) (row.drop (i+1)):=g
  have hg:=xw j;have P:=xJ I;generalize row[i]=x at*;generalize cols[i]=c at*;obtain⟨x1,x2,x3⟩:=x;obtain⟨U,p⟩:=c;refine yb hg ?_;refine yb P ?_;refine zj (b:=yV p ⟨x1,x2,x3⟩ !=0) (λJ=>?_) (λJ=>?_)
  .rw[show(Col.mk U p).t=p from rfl,J,aB]at g;(conv=>whnf);rw[g];rfl
  rw[show(Col.mk U p).t=p from rfl,J,aA]at g;refine yW j g ?_;rw[zB j o];rfl
 have R:row.length<=i:=by grind[zu]
 rw[aC R,aC d8]at g;(conv=>whnf);rw[g];rfl
theorem anD:∀{cols:am Col}{row:am Val},Wh cols row=true->row.length=cols.length->∀v∈row,qK v
 |_,[],_,_,v,hv=>by cases hv
 |[],_::_,_,h,_,_=>by cases h
 |c::cs,x::r,h,i,v,hv=>by
  simp only[Wh]at h;cases g:(yV c.t x !=0)
  .rw[g,aA]at h;rcases bX.1 hv with rfl|hv
   .have:=gC g<;>grind[qK]
   exact anD h (by simpa using i) v hv
  grind
noncomputable def exprV(cols:am Col)(row:am Val)(e:Ex):Val:=bif (e.tyE cols).2 !=0||!vT cols row then zw else e.val cols row
theorem ak5(hC:kK)(cols:am Col)(row:am Val)(e:Ex):dY ap2 [.c (.d (.sl (zl cols))),yu row,e.w] (rV (exprV cols row e)):=by
 have p:=kF cols e;have o:=avp cols row;unfold exprV;cases g:((e.tyE cols).2 !=0)with
 |true=>
  generalize e.tyE cols=t at*;obtain⟨P,t2⟩:=t;have g:(t2 !=0)=true:=g;obtain⟨op,J,⟨R,U,vs⟩,ks⟩:=e;refine kP.s T8 ?_;refine Sat.w p ?_;refine zx (λc=>?_) (λc=>?_)
  .exact rfl
  have c:(t2 !=0)=false:=c;rw[g]at c;cases c
 |false=>
  cases j:vT cols row with
  |false=>
   rw[j]at o;generalize e.tyE cols=t at*;obtain⟨P,t2⟩:=t;have g:(t2 !=0)=false:=g;obtain⟨op,J,⟨R,U,vs⟩,ks⟩:=e;refine kP.s T8 ?_;refine Sat.w p ?_;refine zx (λc=>?_) (λc=>?_)
   .have c:(t2 !=0)=true:=c;rw[g]at c;cases c
   refine Sat.w o ?_;rfl
  |true=>
   have i:row.length=cols.length/\Wh cols row=true:=by
    have j:=j;unfold vT at j;cases I:(((cols.length:Int)) !=row.length)
    .rw[I,aA]at j
     grind
    grind
   have l:e.chk=0/\(e.ty cols).2=0:=by have g:=g;unfold Ex.tyE at g;cases I:(e.chk !=0)<;>simp_all
   have hv:=(aej hC cols row (anD i.2 i.1) i.1 e (ji l.1) l.2).2;rw[j]at o;generalize e.tyE cols=t at*;generalize e.val cols row=u at*;obtain⟨P,t2⟩:=t;obtain⟨u1,u2,u3⟩:=u;have g:(t2 !=0)=false:=g;obtain⟨op,J,⟨R,U,vs⟩,ks⟩:=e;refine kP.s T8 ?_;refine Sat.w p ?_;refine zx (λc=>?_) (λc=>?_)
   .have c:(t2 !=0)=true:=c;rw[g]at c;cases c
   refine Sat.w o ?_;refine Sat.w hv ?_;rfl
noncomputable def condB(cols:am Col)(row:am Val)(e:Ex):Bool:=xf (exprV cols row e) (zM true)
theorem ayq(hC:kK)(cols:am Col)(row:am Val)(e:Ex):dY afD [.c (.d (.sl (zl cols))),yu row,e.w] (rB (condB cols row e)):=by have g:=ak5 hC cols row e;unfold condB;generalize exprV cols row e=u at*;obtain⟨u1,u2,u3⟩:=u;obtain⟨op,i,⟨j,l,vs⟩,ks⟩:=e;refine apN.s T8 ?_;refine Sat.w g ?_;rfl
theorem xy(a b:am (am Val)):zg (a++b)=zg a++zg b:=by simp[zg]
def v8(op l:Int)(o:ByteArray)(v:Val)(ks:am Ex)(i cs g j:am (am D))(m:Int)(tb:ByteArray):am C:=
 [int op,int l,str o,int v.k,int v.n,str v.s,.d (.sl (exsD ks)),.d (.sl i),.d (.sl cs),.d (.sl g),.d (.sl j),int m,str tb]
def whS(cols:am Col)(rows:am (am Val))(st:am C)(i:Nat)(g:am (am Val)):S:=⟨[(4,cV (.ptr 4 0)),(5,cV (.ptr 5 0)),(8,cV (.own 38 1 g.length)),(23,.w (.c (.d (.sl (zg rows))))),(24,zm (zg rows).length),(25,zm i)],
 [(4,.box [.d (.sl (zl cols)),.d (.sl (zg rows))]),(5,.box st),(38,.arr 1 (zg g) false)]⟩
noncomputable def whereR(cols:am Col)(rows:am (am Val))(e:Ex):am (am Val):=rows.filter λr=>condB cols r e
theorem ZP{α:Type}(p:α->Bool){l:am α}{i:Nat}(h:i<l.length):(l.take (i+1)).filter p=(l.take i).filter p++(bif p l[i]then [l[i]]else []):=by grind[zJ]
theorem aaH(hC:kK)(d:D)(cols:am Col)(rows:am (am Val))(hr:rows.length<=20000)(J:Int)(U:ByteArray)(v:Val)(ks:am Ex)(R cs I aa:am (am D))(m:Int)(tb:ByteArray):
 dY vX [.c (.d d),.agg [.d (.sl (zl cols)),.d (.sl (zg rows))],.agg (v8 1 J U v ks R cs I aa m tb)] ⟨.tup [.c (.d (.sl (zg (whereR cols rows (.mk J U v ks))))),.c (bool true)],[]⟩:=by
 refine zC ?_;have j:=λrow=>ayq hC cols row (.mk J U v ks)
 obtain⟨vk,vn,vs⟩:=v;unfold whereR;generalize af:(λr=>condB cols r (.mk J U ⟨vk,vn,vs⟩ ks))=p at*;have j:∀row,dY afD [.c (.d (.sl (zl cols))),yu row,(Ex.mk J U ⟨vk,vn,vs⟩ ks).w] (rB (p row)):=λrow=>d9
 refine xS.s T8 ?_;refine yy (P:=Pg) (f:=T8.f) (body:=(xS.l 0)) rows.length (λi=>whS cols rows (v8 1 J U ⟨vk,vn,vs⟩ ks R cs I aa m tb) i ((rows.take i).filter p)) (λ_=>True) ⟨trivial,⟨_,ya 8 38 1 d8 d8 rfl,?_⟩⟩ ?_
 .exact rfl
 intro i hi _;have wi:i<rows.length->aD.wrap ((i:Int)+1)=((i+1:Nat):Int):=λh=>zB h d8
 obtain⟨T,hT⟩:∃T,T=(rows.take i).filter p:=⟨_,rfl⟩;have ae:T.length<=i:=d9
 have ac:(zg T).take T.length=zg T:=by grind[zy]
 have o:∀h:i<rows.length,(rows.take (i+1)).filter p=T++(bif p rows[i]then [rows[i]]else []):=λh=>by grind[ZP]
 have ab:rows.length<=i->T=rows.filter p:=λh=>d9
 show mwpR Pg T8.f (xS.l 0) _ (whS cols rows (v8 1 J U ⟨vk,vn,vs⟩ ks R cs I aa m tb) i ((rows.take i).filter p));unfold whS v8;rw[<-hT];clear hT;refine zj (λh1=>?_) (λh1=>?_)
 .have g:i<rows.length:=by simp_all[zy]
  have hg:=yS g;have o:=o g;generalize rows[i]=x at*;have hc:=j x;generalize p x=b at*;refine yb hg ?_;refine Sat.w hc ?_;refine zx (b:=b) (λh2=>?_) (λh2=>?_)
  .subst h2;refine qr ?_;refine yW g trivial ?_;rw[wi g,ac,o,aB,xy,aM];rfl
  subst h2;refine yW g trivial ?_;rw[wi g,o,aA,List.append_nil];rfl
 have ad:rows.length<=i:=by grind[zy]
 rw[<-ab ad];refine gJ ?_;show Res.mk (.tup [.c (.d (.sl ((zg T).take T.length))),.c (bool true)]) []=_;rw[ac]
end
end Go.Proofs.YtkdijaiaplkliaaGreatDoor
namespace Go.AM
noncomputable def loopU(W:(E->S->Prop)->S->Prop)(g:am Nat)(Q:E->S->Prop)(n:Nat):S->Prop:=
 Nat.rec (motive:=λ_=>S->Prop) (λ_=>False) (λ_ i s=>Jd s g λj=>W (K9 i Q) j) n
theorem wZ{P:Program}{f:FuncId->am W->aH W}{body:ACode}{g:am Nat}{Q:E->S->Prop}{s:S}(n:Nat)(h:loopU (mwpR P f body) g Q n s):zX (mwpR P f body) g Q s:=by
 have step:∀(n:Nat) (s:S),loopU (mwpR P f body) g Q n s->∃k,n=k+1/\mwpR P f body (K9 (loopU (mwpR P f body) g Q k) Q) (s.norm g):=by
  intro n s h;cases n with
  |zero=>exact absurd h id
  |succ k=>
   grind[loopU,Vo]
 refine yq (ι:=S×Nat) (λp=>p.1) (λp=>p.2) (λp=>mwpR P f body (K9 (loopU (mwpR P f body) g Q p.2) Q) p.1) ?_ ?_
 .obtain⟨k,_,hk⟩:=step n s h;refine⟨(s.norm g,k),hk,ze ?_⟩;rw[Vo]
 rintro⟨R,k⟩ r;refine Ue body (λe o l=>?_) _ r;cases e with
 |normal=>
  obtain⟨j,J,I⟩:=step k o l;refine⟨(o.norm g,j),⟨I,d9⟩,ze ?_⟩;rw[Vo]
 |exit i=>exact l
 |ret=>exact l
end Go.AM
namespace Go.Proofs.YtkdijaiaplkliaaGreatDoor
open Go Go.AM
section
attribute [local irreducible] Sat zA zX
theorem ab7(cols:am Col)(rows:am (am Val))(e:Ex):(whereR cols rows e).length<=rows.length:=List.length_filter_le _ _
def qY(t:Tbl)(e:Int):Res:=⟨.tup [t.w,.c (int e)],[]⟩
def ab6(cols:am Col)(e:Ex):Int:=bif (e.ty cols).2 !=0 then(e.ty cols).2 else bif qp (e.ty cols).1 1 then 0 else 14
def vO(e:Ex):Stp:=⟨1,e,[],[],[],[],0,⟨#[]⟩⟩
def rNT(e:Int):Res:=⟨.tup [.agg [.nil,.nil],.c (int e)],[]⟩
theorem yK{b:Bool}{k:Int}(h:(vp b k).2=0):b=true/\(vp b k).1=k:=by
 cases b
 .cases h
 exact⟨rfl,rfl⟩
theorem ae8{cols:am Col}:∀{ks:am Ex},(tyL cols ks).1=0->(tyL cols ks).2=ks.map λk=>(k.ty cols).1
 |[],_=>rfl
 |a::r,h=>by simp only[tyL]at h⊢;cases g:((a.ty cols).2 !=0)<;>simp_all[ae8]
theorem ati{s:ByteArray}(h:zo s ⟨#[]⟩=true):s=⟨#[]⟩:=(beqS_iff _ _).1 h
def Bl(v:Val):Prop:=v=zw\/∃b,v=zM b
theorem aq3:∀{cols:am Col}{row:am Val}{i:Nat}(g:i<cols.length) (j:i<row.length),Wh cols row=true->yV cols[i].t row[i]=0
 |c::cs,x::r,i,g,j,h=>by
  simp only[Wh]at h;cases l:(yV c.t x !=0)
  .rw[l,aA]at h;cases i with
   |zero=>simpa using l
   |succ i=>
    simp only[List.getElem_cons_succ];exact aq3 (cols:=cs) (row:=r) (by simpa using g) (by simpa using j) h
  grind
theorem aBe{cols:am Col}{row:am Val}(h:vT cols row=true):row.length=cols.length/\Wh cols row=true:=by
 unfold vT at h;cases g:(((cols.length:Int)) !=row.length)
 .rw[g,aA]at h
  grind
 grind
theorem aqO(u w:Val):Bl (ww u w):=by
 unfold ww;cases(xf u (zM false)||xf w (zM false))
 .cases(u.k==0||w.k==0)
  .exact .inr ⟨true,rfl⟩
  exact .inl rfl
 exact .inr ⟨false,rfl⟩
theorem at6(u:Val)(h:Bl u):Bl (v7 u):=by
 rcases h with rfl|⟨b,rfl⟩
 .exact .inl rfl
 cases b
 .exact .inr ⟨true,rfl⟩
 exact .inr ⟨false,rfl⟩
theorem and_true{u w:Val}(g:Bl u)(i:Bl w):xf (ww u w) (zM true)=(xf u (zM true)&&xf w (zM true)):=by
 rcases g with rfl|⟨b,rfl⟩<;>rcases i with rfl|⟨c,rfl⟩
 .grind[xf,ww,zM,zw]
 .grind[xf,ww,zM,zw]
 .grind[xf,ww,zM,zw]
 grind[xf,ww,zM]
theorem aAS{cols:am Col}{e:Ex}(h:ab6 cols e=0):(e.ty cols).2=0/\((e.ty cols).1=1\/(e.ty cols).1=0):=by
 unfold ab6 at h;cases g:((e.ty cols).2 !=0)
 .rw[g,aA]at h
  grind[qp]
 simp_all
theorem auk{cols:am Col}{row:am Val}{e:Ex}(g:e.chk=0)(i:(e.ty cols).2=0):condB cols row e=(vT cols row&&xf (e.val cols row) (zM true)):=by grind[condB,exprV,Ex.tyE,xf,zw,zM]
end
section
attribute [local irreducible] Sat zA zX zo
def abA(n:Int):Val:=⟨2,n,⟨#[]⟩⟩
def yI(k:Int)(v:Val):Prop:=v=zw\/(k=1/\∃b,v=zM b)\/(k=2/\∃n,inB n=true/\v=abA n)\/(k=3/\∃s:ByteArray,s.size<=200/\v=⟨3,0,s⟩)
theorem bs0:zo ⟨#[]⟩ ⟨#[]⟩=true:=AM.beqS_self _
theorem adf(k:Int):yI k zw:=.inl rfl
theorem Wi(b:Bool):yI 1 (zM b):=.inr (.inl ⟨rfl,b,rfl⟩)
theorem uP{n:Int}(h:inB n=true):yI 2 (abA n):=.inr (.inr (.inl ⟨rfl,n,h,rfl⟩))
theorem aer{k:Int}{v:Val}(h:yI k v):yV k v=0:=by
 rcases h with rfl|⟨rfl,b,rfl⟩|⟨rfl,n,g,rfl⟩|⟨rfl,s,hs,rfl⟩
 .show yV k ⟨0,0,⟨#[]⟩⟩=0
  grind[yV,bs0]
 .cases b
  .show yV 1 ⟨1,0,⟨#[]⟩⟩=0
   grind[yV,bs0]
  show yV 1 ⟨1,1,⟨#[]⟩⟩=0
  grind[yV,bs0]
 .show yV 2 ⟨2,n,⟨#[]⟩⟩=0
  grind[yV,bs0]
 grind[yV]
theorem gU{k:Int}{v:Val}(h:yV k v=0):yI k v:=by
 obtain⟨j,n,s⟩:=v;obtain⟨r,h⟩:=yt d8 h;obtain⟨l,h⟩:=yt d8 h;obtain⟨o,h⟩:=yt d8 h;obtain⟨J,h⟩:=yt d8 h;obtain⟨i,h⟩:=yt d8 h;obtain⟨I,_⟩:=yt d8 h;by_cases g:j=0
 .subst g;have hs:=ati (by simpa using i);have p:n=0:=d9
  subst hs p;exact .inl rfl
 have hk:j=k/\(k=1\/k=2\/k=3):=d9
 obtain⟨rfl,hk⟩:=hk;rcases hk with rfl|rfl|rfl
 .have hs:=ati (by simpa using i);subst hs
  right;left
  refine gJ ?_;by_cases g:n=0
  .subst g;exact⟨false,rfl⟩
  have:n=1:=by simpa[g]using l
  subst this;exact⟨true,rfl⟩
 .have hs:=ati (by simpa using i);subst hs
  right;right;left
  exact⟨rfl,n,by simpa using o,rfl⟩
 right;grind
theorem yI.kind{k:Int}{v:Val}(h:yI k v)(g:v.k≠0):v.k=k/\(k=1\/k=2\/k=3):=by
 rcases h with rfl|⟨rfl,b,rfl⟩|⟨rfl,n,_,rfl⟩|⟨rfl,s,_,rfl⟩
 .exact absurd rfl g
 .exact⟨rfl,.inl rfl⟩
 .exact⟨rfl,.inr (.inl rfl)⟩
 grind
theorem yI.num{k:Int}{v:Val}(h:yI k v)(g:v.k≠0)(hk:qp k 2=true):∃n,inB n=true/\v=abA n:=by
 rcases h with rfl|⟨rfl,b,rfl⟩|⟨rfl,n,hi,rfl⟩|⟨rfl,s,_,rfl⟩
 .exact absurd rfl g
 .cases hk
 .grind
 cases hk
theorem yI.text{k:Int}{v:Val}(h:yI k v)(g:v.k≠0)(hk:qp k 3=true):∃s:ByteArray,s.size<=200/\v=⟨3,0,s⟩:=by
 rcases h with rfl|⟨rfl,b,rfl⟩|⟨rfl,n,hi,rfl⟩|⟨rfl,s,hs,rfl⟩
 .exact absurd rfl g
 .cases hk
 .cases hk
 grind
theorem yI.bl{k:Int}{v:Val}(h:yI k v)(hk:qp k 1=true):Bl v:=by
 rcases h with rfl|⟨rfl,b,rfl⟩|⟨rfl,n,hi,rfl⟩|⟨rfl,s,hs,rfl⟩
 .exact .inl rfl
 .exact .inr ⟨b,rfl⟩
 .cases hk
 cases hk
theorem ajk{v:Val}(h:Bl v):yI 1 v:=by
 rcases h with rfl|⟨b,rfl⟩
 .exact .inl rfl
 grind[Wi]
theorem V6{n:Int}(g: -1000000000000000<=n)(i:n<=1000000000000000):inB n=true:=by simp_all[inB]
theorem KV{n:Int}{b:Bool}(h:b=true->inB n=true):yI 2 (ut n b):=by
 cases b
 .exact .inl rfl
 exact uP (h rfl)
theorem apD{n:Int}(h:inB n=true):aD.wrap (0-n)= -n:=by have:=q0 h<;>grind[cr]
theorem azW{n:Int}(h:inB n=true):inB (-n)=true:=by grind[q0,V6]
theorem ay5{a b:Int}(h:inB a=true):inB (Int.tdiv a b)=true:=by
 have:=q0 h;have g:=Int.natAbs_tdiv_le_natAbs a b
 grind[V6]
theorem ay6{a b:Int}(h:inB a=true):inB (Int.tmod a b)=true:=by
 have:=q0 h;have g:(Int.tmod a b).natAbs<=a.natAbs:=by simp_all[Nat.mod_le]
 grind[V6]
theorem anE{a b:Int}{rest:Bool}(h:inB a=true):yI 2 (Xu a b rest):=by
 unfold Xu;cases j:(b==0)
 .cases rest
  .simp only[aA];have g:=ay5 (b:=b) h;have i:=q0 g;rw[show aD.wrap (Int.tdiv a b)=Int.tdiv a b by grind[cr]];exact uP g
  exact uP (ay6 h)
 exact .inl rfl
theorem amV{a b:Int}(h:wu a b=true):inB (a+b)=true:=by simp_all[wu]
theorem axR{a b:Int}(h:jD a b=true):inB (a*b)=true:=by simp_all[jD]
theorem aa5{a b w:Int}(h:xi [a,b] w=true):qp a w=true/\qp b w=true:=by grind[xi]
theorem af7{a w:Int}(h:xi [a] w=true):qp a w=true:=by grind[xi]
theorem aBg{op t:Int}{o:ByteArray}{a:Val}(i:yI t a)(l:a.k≠0)(g:op=3\/op=4)(j:qp t (bif op==3 then 1 else 2)=true):yI (bif op==3 then 1 else 2) (qX op o [a]):=by
 rcases g with rfl|rfl
 .exact ajk (at6 a (i.bl j))
 obtain⟨n,hi,rfl⟩:=i.num l j;show yI 2 (ut (aD.wrap (0-n)) true);rw[apD hi];exact uP (azW hi)
theorem azS{op t u:Int}{I:ByteArray}{a b:Val}(l:yI t a)(o:yI u b)(i:a.k≠0)(j:b.k≠0)(g:5<=op/\op<=9)(p:qp t 2=true)(r:qp u 2=true):yI 2 (qX op I [a,b]):=by
 obtain⟨n,hi,rfl⟩:=l.num i p;obtain⟨m,J,rfl⟩:=o.num j r;have g:op=5\/op=6\/op=7\/op=8\/op=9:=d8
 rcases g with rfl|rfl|rfl|rfl|rfl
 .show yI 2 (ut (bif wu n m then n+m else 0) (wu n m))
  grind[KV,amV]
 .show yI 2 (ut (bif wu n (aD.wrap (0-m))then n+aD.wrap (0-m)else 0) (wu n (aD.wrap (0-m))))
  grind[KV,amV]
 .show yI 2 (ut (bif jD n m then n*m else 0) (jD n m))
  grind[KV,axR]
 .exact anE (rest:=false) hi
 exact anE (rest:=true) hi
theorem awW{g:ByteArray}{I:am Int}{l:am Val}(hl:(l.length:Int)=qw g)(hn:qw g≠0)(J:I.length=l.length)(p:∀i (h1:i<I.length) (h2:i<l.length),yI I[i] l[i])(j:∀x∈l,x.k≠0)(r:(uZ g I).2=0):yI (uZ g I).1 (j7 g l):=by
 unfold uZ at r⊢;unfold j7;unfold qw at hl hn;have d1:zo g ⟨#[97,98,115]⟩=true->zo g ⟨#[109,105,110]⟩=false/\zo g ⟨#[109,97,120]⟩=false/\zo g ⟨#[104,97,115]⟩=false/\zo g ⟨#[115,116,97,114,116,115]⟩=false:=λh=>by grind[AM.beqS_iff]
 have d2:zo g ⟨#[108,101,110]⟩=true->zo g ⟨#[109,105,110]⟩=false/\zo g ⟨#[109,97,120]⟩=false/\zo g ⟨#[104,97,115]⟩=false/\zo g ⟨#[115,116,97,114,116,115]⟩=false:=λh=>by grind[AM.beqS_iff]
 have d3:zo g ⟨#[104,97,115]⟩=true->zo g ⟨#[109,105,110]⟩=false/\zo g ⟨#[109,97,120]⟩=false:=λh=>by grind[AM.beqS_iff]
 have d4:zo g ⟨#[115,116,97,114,116,115]⟩=true->zo g ⟨#[109,105,110]⟩=false/\zo g ⟨#[109,97,120]⟩=false:=λh=>by grind[AM.beqS_iff]
 generalize zo g ⟨#[97,98,115]⟩=U at*;generalize zo g ⟨#[108,101,110]⟩=p2 at*;generalize zo g ⟨#[104,97,115]⟩=p3 at*;generalize zo g ⟨#[115,116,97,114,116,115]⟩=p4 at*;generalize zo g ⟨#[109,105,110]⟩=p5 at*;generalize zo g ⟨#[109,97,120]⟩=p6 at*;have h2:U=false->p2=false->l.length=2:=d9
 have P:U=true\/p2=true->l.length=1:=λh=>d9
 have h0:U=false->p2=false->p3=false->p4=false->(p5||p6)=true:=d9
 cases U with
 |true=>
  obtain⟨rfl,rfl,rfl,rfl⟩:=d1 rfl;simp only[aQ,aA,aB]at r⊢;obtain⟨o,R⟩:=yK r;rw[R]
  match l,I,P,J,p,j,o with
  |[a],[t],_,_,p,j,o=>
    obtain⟨n,hi,rfl⟩:=(p 0 dT dT :yI t a).num (j _ dT) (af7 o);show yI 2 (ut (zI true n (aD.wrap (0-n))) true);have hb:=q0 hi;rw[apD hi,aeS];exact uP (V6 d8 d8)
 |false=>
  cases p2 with
  |true=>
   obtain⟨rfl,rfl,rfl,rfl⟩:=d2 rfl;simp only[aQ,aA,aB]at r⊢;obtain⟨o,R⟩:=yK r;rw[R]
   match l,I,P,J,p,j,o with
   |[a],[t],_,_,p,j,o=>
     obtain⟨s,hi,rfl⟩:=(p 0 dT dT :yI t a).text (j _ dT) (af7 o);show yI 2 (ut (s.size:Int) true);exact uP (V6 d8 d8)
  |false=>
   cases p3 with
   |true=>
    obtain⟨rfl,rfl⟩:=d3 rfl;simp only[aQ,aA,aB]at r⊢
    grind[yK,Wi]
   |false=>
    cases p4 with
    |true=>
     obtain⟨rfl,rfl⟩:=d4 rfl;simp only[aQ,aA,aB]at r⊢
     grind[yK,Wi]
    |false=>
     cases aa:(p5||p6)with
     |false=>
      grind
     |true=>
      rw[aa]at r;simp only[aB]at r⊢;obtain⟨o,R⟩:=yK r;rw[R]
      match l,I,h2 rfl rfl,J,p,j,o with
      |[a,b],[t,u],_,_,p,j,o=>
        have fa:yI t a:=p 0 dT dT;have fb:yI u b:=p 1 dT dT;have na:=j a dT;have nb:=j b dT;have ka:=fa.kind na;have kb:=fb.kind nb;have hm:zI true t u=t/\zI true t u=u:=by
         rw[aeS];simp only[bK]at o;rcases o with o|o
         .have:=aa5 o;unfold qp at this;simp only[bK,cE]at this;omega
         have:=aa5 o;unfold qp at this;simp only[bK,cE]at this;omega
        show yI (zI true t u) (bif decide (xV b a<0)==p5 then b else a)
        grind
theorem agp{cols:am Col}{row:am Val}(g:vT cols row=true){i:Nat}(h:i<cols.length):yI cols[i].t (at0 row i):=by obtain⟨l,j⟩:=aBe g<;>grind[aq3,at0,gU]
theorem aaT{cols:am Col}{row:am Val}(hf:vT cols row=true):∀(e:Ex),e.err=0->(e.ty cols).2=0->yI (e.ty cols).1 (e.val cols row)
 |.mk op j v ks,he,J=>by
   have p:yD op j v ks.length=0/\errL ks=0:=by
    simp only[Ex.err]at he;cases hb:(yD op j v ks.length !=0)
    .simp_all
    simp_all
   have R:=un p.2;obtain⟨I,g⟩:=aaS J;have ac:=aaP cols I;have ih:∀k∈ks,yI (k.ty cols).1 (k.val cols row):=λk hk=>aaT hf k (R k hk) (ac k hk)
   have hT:(Ex.ty cols (.mk op j v ks))=qC cols op j v (ks.map λk=>(k.ty cols).1):=by grind[Ex.ty,ae8]
   rw[ae8 I]at g;rw[hT];obtain⟨aa,af,ag⟩:=jE p.1;have ab:xW (valL cols row ks)=false->∀x∈valL cols row ks,x.k≠0:=λh x hx e=>by grind[xW]
   have l:Ex.val cols row (.mk op j v ks)=bif op==1 then v else bif op==2 then at0 row (zf cols j).toNat else
    bif op==14 then ww (at0 (valL cols row ks) 0) (at0 (valL cols row ks) 1)else
    bif op==15 then v7 (ww (v7 (at0 (valL cols row ks) 0)) (v7 (at0 (valL cols row ks) 1)))else
    bif xW (valL cols row ks)then zw else qX op j (valL cols row ks):=by grind[Ex.val]
   rw[l];have hn:=p.1;clear l hT he J;rw[YU]at ab⊢;have hp:∀k,Wu op j=k->(ks.length:Int)=k:=λk h=>d9
   have ho:op=1\/op=2\/(op=3\/op=4)\/(5<=op/\op<=9)\/(10<=op/\op<=13)\/op=14\/op=15\/op=16:=d8
   have i:∀k:Int,op≠k->(op==k)=false:=λk h=>by simpa using h
   rcases ho with rfl|rfl|h|h|h|rfl|rfl|rfl
   .show yI v.k v;have hc:=XM (by rfl) hn;refine gU ?_;unfold uN at hc;cases hb:(yV v.k v !=0)
    .grind
    simp_all
   .have h2:(bif decide (zf cols j<0)then((0:Int),(16:Int))else(xA cols (zf cols j),0)).2=0:=g;have P:=Yp (λx=>zo x.name j) cols 0 (Int.le_refl _);have r:¬zf cols j<0:=λh=>d9
    show yI (bif decide (zf cols j<0)then((0:Int),(16:Int))else(xA cols (zf cols j),0)).1 (at0 row (zf cols j).toNat);have h5:(zf cols j).toNat<cols.length:=by grind[zf]
    rw[aK r];simp_all[xA,agp]
   .have U:ks.length=1:=by have:=hp 1 (by rcases h with rfl|rfl<;>rfl);omega
    match ks,U with
    |[a],_=>
      have e:qC cols op j v ([a].map λk=>(k.ty cols).1)=vp (xi [(a.ty cols).1] (bif op==3 then 1 else 2)) (bif op==3 then 1 else 2):=by rcases h with rfl|rfl<;>rfl
      rw[e]at g⊢;obtain⟨P,r⟩:=yK g;rw[r,i 1 d8,i 2 d8,i 14 d8,i 15 d8];simp only[aA];cases hA:xW ([a].map (Ex.val cols row))
      .grind[aBg,af7]
      exact .inl rfl
   .have U:ks.length=2:=by
     have o:op=5\/op=6\/op=7\/op=8\/op=9:=d8
     have:=hp 2 (by rcases o with rfl|rfl|rfl|rfl|rfl<;>rfl);omega
    match ks,U with
    |[a,b],_=>
      have e:qC cols op j v ([a,b].map λk=>(k.ty cols).1)=vp (xi [(a.ty cols).1,(b.ty cols).1] 2) 2:=by
       have o:op=5\/op=6\/op=7\/op=8\/op=9:=d8
       rcases o with rfl|rfl|rfl|rfl|rfl<;>rfl
      rw[e]at g⊢;obtain⟨P,r⟩:=yK g;obtain⟨h5,h6⟩:=aa5 P;rw[r,i 1 d8,i 2 d8,i 14 d8,i 15 d8];simp only[aA];cases hA:xW ([a,b].map (Ex.val cols row))
      .grind[azS]
      exact .inl rfl
   .have e:(qC cols op j v (ks.map λk=>(k.ty cols).1)).1=1:=by
     have o:op=10\/op=11\/op=12\/op=13:=d8
     rcases o with rfl|rfl|rfl|rfl
     .exact(yK g).2
     .exact(yK g).2
     .exact(yK g).2
     exact(yK g).2
    rw[e];rw[i 1 d8,i 2 d8,i 14 d8,i 15 d8];simp only[aA];cases hA:xW (ks.map (Ex.val cols row))
    .have o:op=10\/op=11\/op=12\/op=13:=d8
     rcases o with rfl|rfl|rfl|rfl<;>exact Wi _
    exact .inl rfl
   .have h2:=yK (show(vp (xi (ks.map λk=>(k.ty cols).1) 1) 1).2=0 from g);show yI (vp (xi (ks.map λk=>(k.ty cols).1) 1) 1).1 (ww _ _)
    grind[ajk,aqO]
   .have h2:=yK (show(vp (xi (ks.map λk=>(k.ty cols).1) 1) 1).2=0 from g);show yI (vp (xi (ks.map λk=>(k.ty cols).1) 1) 1).1 (v7 (ww _ _))
    grind[ajk,at6,aqO]
   have ae:=aia rfl hn;have ad:(ks.length:Int)=qw j:=aa;have g:(uZ j (ks.map λk=>(k.ty cols).1)).2=0:=g;show yI (uZ j (ks.map λk=>(k.ty cols).1)).1 (bif xW (ks.map (Ex.val cols row))then zw else j7 j (ks.map (Ex.val cols row)));cases hA:xW (ks.map (Ex.val cols row))with
   |true=>exact .inl rfl
   |false=>
    grind[awW]
theorem auv{cols:am Col}{row:am Val}{e:Ex}{k:Int}(l:vT cols row=true)(h:e.tyE cols=(k,0)):yI k (exprV cols row e):=by
 unfold Ex.tyE at h;obtain⟨g,i⟩:e.chk=0/\e.ty cols=(k,0):=by cases j:(e.chk !=0)<;>simp_all
 grind[aaT,ji,Ex.tyE,exprV]
end
end Go.Proofs.YtkdijaiaplkliaaGreatDoor
namespace Go.Proofs
section
open Go.Shelf
def Tryz.laysM144_ren:Go.Shelf.Ren:=⟨fun|144=>230|143=>257|219=>276|217=>188|225=>284|224=>285|267=>286|266=>223|314=>287|n=>n,fun|9=>9|4=>4|3=>3|5=>5|46=>228|146=>351|51=>288|n=>n,fun|1=>0|n=>n⟩
theorem Tryz.laysM144:Go.Proofs.LaysM.n144 Tryz.prog Tryz.laysM144_ren:={
 mixed:=dU
 f143:=Tryz.func257.trans (aF some dU)
 f144:=Tryz.func230.trans (aF some dU)
 f217:=Tryz.func188.trans (aF some dU)
 f219:=Tryz.func276.trans (aF some dU)
 f224:=Tryz.func285.trans (aF some dU)
 f225:=Tryz.func284.trans (aF some dU)
 f266:=Tryz.func223.trans (aF some dU)
 f267:=Tryz.func286.trans (aF some dU)
 f314:=Tryz.func287.trans (aF some dU)
 t3:=Tryz.underlying3
 a3:=Tryz.isAgg3
 z3:=Tryz.sizeOf3
 v3:=Tryz.zeroValue3
 t4:=Tryz.underlying4
 a4:=Tryz.isAgg4
 z4:=Tryz.sizeOf4
 v4:=Tryz.zeroValue4
 t5:=Tryz.underlying5
 a5:=Tryz.isAgg5
 z5:=Tryz.sizeOf5
 v5:=Tryz.zeroValue5
 t9:=Tryz.underlying9
 a9:=Tryz.isAgg9
 z9:=Tryz.sizeOf9
 v9:=Tryz.zeroValue9
 t46:=Tryz.underlying228
 a46:=Tryz.isAgg228
 z46:=Tryz.sizeOf228
 v46:=Tryz.zeroValue228
 t51:=Tryz.underlying288
 a51:=Tryz.isAgg288
 z51:=Tryz.sizeOf288
 v51:=Tryz.zeroValue288
 t146:=Tryz.underlying351
 a146:=Tryz.isAgg351
 z146:=Tryz.sizeOf351
 v146:=Tryz.zeroValue351
 g1:=dU
 i3:=dU
 i4:=dU
 i5:=dU
 i9:=dU
 i46:=dU
 i51:=dU
 i146:=dU
 m1:=dU
 s1_3:=λw h=>Go.Proofs.cell_of_shapedOpen_int (zero:= #[.int .i64 0]) (t:=3) h (aW dU) dU rfl dU dU Tryz.underlying3}
end
end Go.Proofs
namespace Go.Proofs.YtkdijaiaplkliaaGreatDoor
open Go Go.AM
theorem avv{P:Program}{k:Nat}{args:am W}{x:Value}(hk:xZ P k=true)(l:x.oneCell'=true)
 (h:∀(w:aI) (A:Nat->Prop) (vals:am Value) (m:Int),w.cell? ⟨0,0,none⟩=some (.int .i64 m)->qq (λ_=>⟨none,0,.nilFunc,[]⟩) w A args vals->cB P k vals.toArray w λe w'=>e=.returned x/\w'=w):
 Sat P k args (λr=>r=⟨.w (.c (.d (.lit x))),[]⟩):=by
 refine⟨hk,λw A vals hA j=>?_⟩;obtain⟨m,i⟩:=hA.2.psi.int (k:=0) rfl;refine(h w A vals m i j).mono ?_;rintro e w' ⟨rfl,rfl⟩;refine⟨x,_,rfl,rfl,⟨bC _,λ_=>⟨none,0,.nilFunc,[]⟩,?_,?_,?_,?_,?_,?_⟩,Grows.refl _ _⟩
 .simp only[VR,WR,CR,RD];exact⟨trivial,l⟩
 .intro p y g;cases g
 .intro p q y z b g;cases g
 .intro p y b g;cases g
 .intro p y g;cases g
 intro p y g;cases g
theorem anM:kK:=λs t hs=>avv dU rfl λw A vals m g h=>by rw[apE h];exact Any.strings_Contains Tryz.laysM144.1 s t m w d8 g
section
attribute [local irreducible] Sat zA zX
def ax7(cols:am Col)(rows:D)(j:am ByteArray)(i:Nat)(g:am Int):S:=⟨[(2,cV (.ptr 2 0)),(5,cV (.own 19 1 g.length)),(8,.w (.c (.d (.sl (zp j))))),(9,zm (zp j).length),(10,zm i)],
 [(2,.box [.d (.sl (zl cols)),.d rows]),(19,.arr 1 (zh g) false)]⟩
def zi(cols:am Col)(g:am ByteArray):am Int:=g.map (zf cols)
theorem Wy(cols:am Col)(rows:D)(g:am ByteArray)(hn:g.length<=1000000):dY ajr [.agg [.d (.sl (zl cols)),.d rows],.c (.d (.sl (zp g)))] (rC (.d (.sl (zh (zi cols g))))):=by
 refine zC ?_;refine W4.s T8 ?_;refine yy (P:=Pg) (f:=T8.f) (body:=(W4.l 0)) g.length (λi=>ax7 cols rows g i (zi cols (g.take i))) (λ_=>True) ⟨trivial,⟨_,ya 5 19 1 d8 d8 rfl,?_⟩⟩ ?_
 .exact rfl
 intro i hi _;have aa:(zi cols (g.take i)).length=i:=by grind[zi]
 have o:∀h:i<g.length,zi cols (g.take (i+1))=zi cols (g.take i)++[zf cols g[i]]:=λh=>by grind[zi,zJ]
 have I:g.length<=i->zi cols g=zi cols (g.take i):=λh=>d9
 show mwpR Pg T8.f (W4.l 0) _ (ax7 cols rows g i (zi cols (g.take i)));generalize zi cols (g.take i)=T at*;have J:(zh T).take T.length=zh T:=by grind[zE]
 unfold ax7;refine zj (λU=>?_) (λU=>?_)
 .have j:i<g.length:=by simp_all[zP]
  have hg:=vh j;have o:=o j;have p:=xC cols (.d rows) g[i] ⟨rows,rfl⟩;generalize g[i]=x at*;generalize zf cols x=c at*;refine yb hg ?_;refine Sat.w p ?_;refine qr ?_;refine yW j trivial ?_;rw[zB j d8,J,o,<-vV,aM];rfl
 have R:g.length<=i:=by grind[zP]
 rw[I R];refine gJ ?_;show Res.mk (.w (.c (.d (.sl ((zh T).take T.length))))) []=_;rw[J];rfl
def asU(row:am Val)(at_:am Int)(i:Nat)(g:am Val):S:=⟨[(0,.w (yu row)),(5,cV (.own 20 3 g.length)),(8,.w (.c (.d (.sl (zh at_))))),(9,zm (zh at_).length),(10,zm i)],
 [(20,.arr 3 (rowD g) false)]⟩
def zn(row:am Val)(at_:am Int):am Val:=at_.map λk=>at0 row k.toNat
def zS(n:Nat)(at_:am Int):Prop:=∀k∈at_,0<=k/\k<n
theorem Qr(row:am Val)(at_:am Int)(hn:at_.length<=1000000)(R:zS row.length at_):dY an0 [yu row,.c (.d (.sl (zh at_)))] (rC (.d (.sl (rowD (zn row at_))))):=by
 refine zC ?_;refine JB.s T8 ?_;refine yy (P:=Pg) (f:=T8.f) (body:=(JB.l 0)) at_.length (λi=>asU row at_ i (zn row (at_.take i))) (λ_=>True) ⟨trivial,⟨_,ya 5 20 3 d8 d8 rfl,?_⟩⟩ ?_
 .exact rfl
 intro i hi _;have aa:(zn row (at_.take i)).length=i:=by grind[zn]
 have j:∀h:i<at_.length,zn row (at_.take (i+1))=zn row (at_.take i)++[at0 row (at_[i]).toNat]:=λh=>by grind[zn,zJ]
 have o:at_.length<=i->zn row at_=zn row (at_.take i):=λh=>d9
 show mwpR Pg T8.f (JB.l 0) _ (asU row at_ i (zn row (at_.take i)));generalize zn row (at_.take i)=T at*;have p:(rowD T).take T.length=rowD T:=by grind[zu]
 unfold asU;refine zj (λU=>?_) (λU=>?_)
 .have g:i<at_.length:=by simp_all[zE]
  have hg:=xg g;have j:=j g;have hk:=R _ (aR g);generalize at_[i]=k at*;have J:(rowD row)[k.toNat]?=some (at0 row k.toNat).ds:=by grind[at0,rowD]
  generalize at0 row k.toNat=v at*;obtain⟨v1,v2,v3⟩:=v;refine yb hg ?_;refine yb J ?_ (hA:=hk.1);refine qr ?_;refine yW g trivial ?_;rw[zB g d8,p,j,<-uu,aM];rfl
 have I:at_.length<=i:=by grind[zE]
 rw[o I];refine gJ ?_;show Res.mk (.w (.c (.d (.sl ((rowD T).take T.length))))) []=_;rw[p];rfl
theorem QO(l:am Val):∀x∈rowD l,x.length=3:=by intro x g;simp only[rowD,List.mem_map]at g;obtain⟨a,_,rfl⟩:=g;rfl
structure Gp where
 key:am Val
 rows:D
def Gp.ds(g:Gp):am D:=[.sl (rowD g.key),g.rows]
def gpD(l:am Gp):am (am D):=l.map Gp.ds
theorem aq7(l:am Gp):(gpD l).length=l.length:=by simp[gpD]
theorem aq6{r:am Gp}{i:Nat}(h:i<r.length):(gpD r)[((i:Int)).toNat]?=some (r[i]).ds:=by grind[gpD]
def uS(a b:am Val):Int:=Zj xV a b
theorem aea(g:Gp)(k:am Val):dY Qk [.agg [.d (.sl (rowD g.key)),.d g.rows],yu k] (rI (uS g.key k)):=by have h:=ku xR xV jG g.key k;unfold uS;generalize Zj xV g.key k=c at*;obtain⟨a,b⟩:=g;refine age.s T8 ?_;refine Sat.w h ?_;rfl
theorem aua(i j:Nat)(h:i+j<=4611686018427387904):aD.wrap (kG false bM (bM.wrap (aD.wrap ((i:Int)+(j:Int)))) 1)=(((i+j)/2:Nat):Int):=by grind[yf,IntKind.wrap,IntKind.bits,kG]
def vS(p:Nat->Bool):Nat->Nat->Nat->Nat
 |0,i,_=>i
 |f+1,i,j=>bif decide (i<j)then(bif p ((i+j)/2)then vS p f ((i+j)/2+1) j else vS p f i ((i+j)/2))else i
theorem Yj(p:Nat->Bool):∀(f g i j:Nat),j-i<=f->j-i<=g->vS p f i j=vS p g i j
 |0,0,i,j,_,_=>rfl
 |0,g+1,i,j,h,_=>by have:decide (i<j)=false:=aK d8;simp only[vS,this,aA]
 |f+1,0,i,j,_,h=>by have:decide (i<j)=false:=aK d8;simp only[vS,this,aA]
 |f+1,g+1,i,j,l,o=>by
  simp only[vS];by_cases h:i<j
  .rw[Yj p f g ((i+j)/2+1) j d8 d8,Yj p f g i ((i+j)/2) d8 d8]
  rw[aK h];rfl
theorem aeC(p:Nat->Bool):∀(f i j n:Nat),i<=j->j<=n->i<=vS p f i j/\vS p f i j<=n
 |0,i,j,n,g,l=>by grind[vS]
 |f+1,i,j,n,g,l=>by
  simp only[vS];by_cases h:i<j
  .rw[bQ h,aB];cases p ((i+j)/2)
   .have:=aeC p f i ((i+j)/2) n d8 d8;exact this
   have:=aeC p f ((i+j)/2+1) j n d8 d8;simp only[aB];omega
  rw[aK h,aA];omega
def wo(gs:am Gp)(k:am Val)(h:Nat):Bool:=match gs[h]? with|some g=>decide (uS g.key k<0)|none=>false
def Xa(gs:am Gp)(k:am Val):Nat:=vS (wo gs k) gs.length 0 gs.length
def XZ(gs:am Gp)(k:am Val)(i:Nat):Bool:=match gs[i]? with|some g=>uS g.key k==0|none=>false
theorem ayb(gs:am Gp)(k:am Val):Xa gs k<=gs.length:=(aeC _ _ _ _ _ (aX _) (bC _)).2
def bsS(gs:am Gp)(k:am Val)(i j:Nat):S:=⟨[(0,.w (.c (.d (.sl (gpD gs))))),(1,.w (yu k)),(2,.w (.c (.d (.fn Qk [])))),(8,zm gs.length),(9,zm i),(10,zm j)],[]⟩
theorem agO(gs:am Gp)(k:am Val)(hl:gs.length<=1000000):dY Ql [.c (.d (.sl (gpD gs))),yu k,.c (.d (.fn Qk []))] ⟨.tup [.c (int (Xa gs k)),.c (bool (XZ gs k (Xa gs k)))],[]⟩:=by
 refine wE.s T8 ?_;refine yq (P:=Pg) (f:=T8.f) (body:=(wE.l 0)) (λx:Nat×Nat=>bsS gs k x.1 x.2) (λx=>x.2-x.1) (λx=>x.1<=x.2/\x.2<=gs.length/\Xa gs k=vS (wo gs k) gs.length x.1 x.2) ⟨(0,gs.length),⟨aX _,bC _,rfl⟩,ze ?_⟩ ?_
 ·(conv=>whnf);rw[aq7];rfl
 rintro⟨i,j⟩ hx;obtain⟨af,ab,hR⟩:i<=j/\j<=gs.length/\Xa gs k=vS (wo gs k) gs.length i j:=hx;show mwpR Pg T8.f (wE.l 0) _ (bsS gs k i j);unfold bsS;have wh:=aua i j d8;refine uT (λac=>?_) (λh1=>?_)
 .have hm:(i+j)/2<gs.length:=d8
  have hg:=aq6 hm;have hp:wo gs k ((i+j)/2)=decide (uS (gs[(i+j)/2]).key k<0):=by grind[wo]
  have hc:=aea gs[(i+j)/2] k;have p:Xa gs k=bif wo gs k ((i+j)/2)then vS (wo gs k) gs.length ((i+j)/2+1) j else vS (wo gs k) gs.length i ((i+j)/2):=by
   rw[hR];have J:vS (wo gs k) gs.length i j=vS (wo gs k) (gs.length-1+1) i j:=d9
   rw[J];simp only[vS];rw[bQ ac,aB,Yj (wo gs k) (gs.length-1) gs.length ((i+j)/2+1) j d8 d8,Yj (wo gs k) (gs.length-1) gs.length i ((i+j)/2) d8 d8]
  rw[hp]at p;have ad:aD.wrap ((((i+j)/2:Nat):Int)+1)=(((i+j)/2+1:Nat):Int):=zB hm d8;generalize gs[(i+j)/2]=g at*;obtain⟨U,gr⟩:=g;generalize uS (Gp.mk U gr).key k=c at*;have ag:(i+j)/2<j/\i<=(i+j)/2:=d8
  generalize(i+j)/2=m at*;(conv=>whnf);refine⟨d8,?_⟩;(conv=>whnf);rw[wh];refine yb hg ?_;refine Sat.w hc ?_;refine zx (b:=decide (c<0)) (λh2=>?_) (λh2=>?_)
  .rw[h2,aB]at p;(conv=>whnf);refine⟨(m+1,j),⟨⟨d9,ab,p⟩,d9⟩,ze ?_⟩;(conv=>whnf);rw[ad];rfl
  rw[h2,aA]at p;(conv=>whnf);refine⟨(i,m),⟨⟨d9,d9,p⟩,d9⟩,ze ?_⟩;exact rfl
 have ae:¬i<j:=d9
 have I:Xa gs k=i:=by rw[hR];have e:vS (wo gs k) gs.length i j=vS (wo gs k) 0 i j:=Yj _ _ _ _ _ d8 d8;rw[e];rfl
 rw[I];clear hR I;by_cases aa:i<gs.length
 .have hg:=aq6 aa;have R:XZ gs k i=(uS (gs[i]).key k==0):=by grind[XZ]
  have hc:=aea gs[i] k;rw[R];clear R;have J:decide ((i:Int)<(gs.length:Int))=true:=bQ d8;generalize gs[i]=g at*;obtain⟨U,gr⟩:=g;generalize uS (Gp.mk U gr).key k=c at*;refine zj (λo=>?_) (λo=>?_)
  .refine yb hg ?_;refine Sat.w hc ?_;rfl
  have o:decide ((i:Int)<(gs.length:Int))=false:=o;rw[J]at o;cases o
 have R:XZ gs k i=false:=by grind[XZ]
 have J:decide ((i:Int)<(gs.length:Int))=false:=aK d8;rw[R];clear R;refine zj (λo=>?_) (λo=>?_)
 .have o:decide ((i:Int)<(gs.length:Int))=true:=o;rw[J]at o;cases o
 exact rfl
end
section
open Go Go.Proofs Go.RowKit
def KK(w:aI)(v v':Value):Prop:=∀b,v'.ownBlock=some b->v.ownBlock=some b\/w.heap.size<=b
section
variable {P:Program}(w:aI)
theorem am1(base:Nat)(t ty e:TypeId)(i:TypeInfo)(z:Value)(size bytes:Nat)(ht:P.underlying t=some (.slice e))(hi:P.info? e=some i)(hz:i.zero=some z)
 (U:i.size=size) (ae:i.bytes=bytes)
 (v:Value) (n:Nat) (xs:am Value) (r:w.ownsRow base e size v n xs)
 (a:Addr) (m c:Nat) (l:am Value) (hl:l.length=m*size) (o:∀j u,l[j]?=some u->w.cell? (a.add j)=some u) (h1:∀u∈l,u.oneCell'=true)
 (ad:n+m<=maxLen) (p:(n+m)*bytes<=140737488355328) {v':Value}{w':aI}(hr:(Builtin.append_ #[t,t] ty #[v,.slice (some a) m c]).run P w=.ok v' w'):w.drawn<=w'.drawn/\KK w v v':=by
 subst U;subst ae;have ac:n+m<=9223372036854775807:=by simp only[maxLen]at ad;omega
 rcases r.2 with⟨rfl,rfl⟩|⟨g,cap,aa,rfl,ah,hg,aj,ai,af,ag⟩
 .by_cases hm:m=0
  .subst hm;have hn:l=[]:=aS (by simpa using hl);subst hn;simp[Builtin.append_,run_underlying ht,sizeOf,typeInfo,hi,Builtin.lenOf,Builtin.firstCells,loadCells,loadCellsFrom]at hr;exact⟨hr.2▸bC _,hr.1▸ λb J=>.inl J⟩
  have h:=run_append_nil (P:=P) w t ty e i z ht hi hz a m c l hl o d8 d8 (by have J:=p;simp only[Nat.zero_add]at J;omega);rw[h]at hr;cases hr;exact⟨Nat.le_succ _,λb J=>.inr (by simp[Value.ownBlock]at J;omega)⟩
 by_cases I:n+m<=cap
 .have ab:n*i.size+l.length<=aa.size:=by rw[hl,af,<-Nat.add_mul];exact Nat.mul_le_mul_right _ I
  have h:=run_append_room (P:=P) w t ty e i ht hi g n cap aa hg a m c l hl o h1 I ab;rw[h]at hr;cases hr;exact⟨bC _,λb J=>.inl J⟩
 have R:∀j u,xs[j]?=some u->w.cell? ((⟨g,0,none⟩:Addr).add j)=some u:=r.cells (g:=g) rfl;have h:=run_append_grow (P:=P) w t ty e i z ht hi hz ⟨g,0,none⟩ n cap xs r.1 R a m c l hl o d8 d8 (growslice_fits d8 p);rw[h]at hr;cases hr;exact⟨Nat.le_succ _,λb J=>.inr (by simp[Value.ownBlock]at J;omega)⟩
end
theorem jL{P:Program}(w:aI){ops:Array Oper}{rest:am Oper}{o:Oper}{a:Act}{Q:Exit->Act->aI->Prop}(ab:o.guard=none)(s x:Operand)(t:TypeId)
 (ho:o.op=.call {callee:=.builtin .append,args:= #[s,x],argTypes:= #[t,t]})
 (base:Nat) (e:TypeId) (i:TypeInfo) (z:Value) (size bytes:Nat) (ht:P.underlying t=some (.slice e)) (hi:P.info? e=some i) (hz:i.zero=some z)
 (r:i.size=size) (aa:i.bytes=bytes) (ae:z.cells.size=size) (ac:0<size)
 (v:Value) (n:Nat) (xs:am Value) (hs:a.eval s=v) (I:w.ownsRow base e size v n xs)
 (ad:Addr) (m c:Nat) (g:am Value) (hx:a.eval x=.slice (some ad) m c) (hl:g.length=m*size) (p:∀j u,g[j]?=some u->w.cell? (ad.add j)=some u) (h1:∀u∈g,u.oneCell'=true)
 (U:n+m<=maxLen) (l:(n+m)*bytes<=140737488355328) (R:base<=w.heap.size)
 (h:∀v' w',w'.ownsRow base e size v' (n+m) (xs++g)->w.grownBy w' v.ownBlock->(w.drawn<=w'.drawn/\KK w v v')->(v'=.slice none 0 0↔v=.slice none 0 0/\m=0)->wpList P ops Q rest (a.put o.dst v') w'):wpList P ops Q (o::rest) a w:=by
 refine wpList_plain ab λK hK=>?_
 obtain⟨v',w',J,r1,r2,r3⟩:=run_append_own (P:=P) w base t o.type e i z size bytes ht hi hz r aa ae ac v n xs I ad m c g hl p h1 U l R;have r4:=am1 w base t o.type e i z size bytes ht hi hz r aa v n xs I ad m c g hl p h1 U l J;unfold Oper.wp execOp;simp only[ho,resolve,invoke,builtin,Sem.run_bind,Sem.run_pure,Result.andThen_ok,List.map_toArray,cG,List.map_nil,hs,hx,J];exact hK _ _ (h v' w' r1 r2 r4 r3)
theorem aoh{w:aI}{b:Nat}{k r:Value}(h0:w.cell? ⟨b,0,none⟩=some k)(i:w.cell? ⟨b,1,none⟩=some r):∀j u,[k,r][j]?=some u->w.cell? ((⟨b,0,none⟩:Addr).add j)=some u:=by
 intro j u g
 match j,g with
 |0,g=>simp at g;subst g;simpa[Addr.add]using h0
 |1,g=>simp at g;subst g;simpa[Addr.add]using i
 |(j+2),g=>simp at g
theorem aeX{k r:Value}(i:k.oneCell'=true)(j:r.oneCell'=true):∀u∈ [k,r],u.oneCell'=true:=by
 intro u g;simp at g;rcases g with rfl|rfl
 .exact i
 exact j
theorem asy:(Tryz.prog.info? 252).map (λi=>(i.zero,i.size,i.bytes))=some (some (.agg #[.slice none 0 0,.slice none 0 0]),2,48):=dU
theorem aCj:(Tryz.prog.info? 77).map (λi=>(i.zero,i.size,i.bytes))=some (some (.slice none 0 0),1,24):=dU
set_option maxRecDepth 100000 in
set_option maxHeartbeats 2000000 in
theorem asA(w:aI)(base:Nat)(v:Value)(n:Nat)(xs:am Value)(i:w.ownsRow base 252 2 v n xs)(hn:n<=1000000)(hb:base<=w.heap.size)
 (P vc:Nat) (k r:Value) (h0:w.cell? ⟨P,0,none⟩=some k) (h1:w.cell? ⟨P,1,none⟩=some r) (h2:k.oneCell'=true) (h3:r.oneCell'=true):
 cB Tryz.prog 199 #[v,.int .i64 n,.slice (some ⟨P,0,none⟩) 1 vc] w λe w'=>∃v',e=.returned v'/\w'.ownsRow base 252 2 v' (n+1) (xs++[k,r])/\w.grownBy w' v.ownBlock/\w.drawn<=w'.drawn/\KK w v v':=by
 obtain⟨i0,hi,p,I,J⟩:=info_parts asy;rcases i.2 with⟨hv,R⟩|⟨g,cap,aa,hv,ab,hg,ae,ac,ad,U⟩
 .subst R;subst hv
  go_enter Tryz.func199,Tryz.ntmps199
  go_wp2_with (at_builtin;refine jL _ rfl _ _ 248 rfl base 252 i0 (.agg #[.slice none 0 0,.slice none 0 0]) 2 48 Tryz.underlying248 hi p I J rfl dV _ _ _ rfl i ⟨P,0,none⟩ 1 vc [k,r] rfl rfl (aoh h0 h1) (aeX h2 h3) (by simp only[maxLen];omega) d8 hb ?_;intro v' w' j o l _)
  go_ret
  exact⟨_,rfl,by simpa using j,o,l⟩
 subst hv
 go_enter Tryz.func199,Tryz.ntmps199
 go_wp2_with (at_builtin;refine jL _ rfl _ _ 248 rfl base 252 i0 (.agg #[.slice none 0 0,.slice none 0 0]) 2 48 Tryz.underlying248 hi p I J rfl dV _ _ _ rfl i ⟨P,0,none⟩ 1 vc [k,r] rfl rfl (aoh h0 h1) (aeX h2 h3) (by simp only[maxLen];omega) d8 hb ?_;intro v' w' j o l _)
 all_goals go_ret
 all_goals exact⟨_,rfl,by assumption,by assumption,by assumption⟩
end
section
open Go Go.AM Go.Proofs Go.RowKit
abbrev tG:TypeId:=252
abbrev tR:TypeId:=77
structure GW where
 key:am Val
 rows:am (am Val)
 kv:Value
 rv:Value
 rvs:am Value
def cellsG(gs:am GW):am Value:=gs.flatMap λg=> [g.kv,g.rv]
theorem We:∀gs:am GW,(cellsG gs).length=gs.length*2
 |[]=>rfl
 |g::r=>by have:=We r;simp only[cellsG,List.flatMap_cons,aM,List.length_cons,List.length_nil]at this⊢;omega
theorem YZ(a b:am GW):cellsG (a++b)=cellsG a++cellsG b:=by simp[cellsG]
theorem apU(gs:am GW)(p:Nat):(cellsG gs).take (2*p)=cellsG (gs.take p)/\(cellsG gs).drop (2*p)=cellsG (gs.drop p):=by
 have e:=YZ (gs.take p) (gs.drop p);rw[bZ]at e;by_cases h:p<=gs.length
 .have g:(cellsG (gs.take p)).length=2*p:=by rw[We,bO];omega
  rw[e];exact⟨by rw[<-g,List.take_left],by rw[<-g,List.drop_left]⟩
 have g:(cellsG gs).length<=2*p:=by rw[We];omega
 rw[bA g,aC g,bA d8,aC d8];exact⟨rfl,rfl⟩
theorem U5{gs:am GW}{p:Nat}(h:p<gs.length):(cellsG gs)[2*p]?=some gs[p].kv/\(cellsG gs)[2*p+1]?=some gs[p].rv:=by
 have e:=YZ (gs.take p) (gs.drop p);rw[bZ]at e;have i:(cellsG (gs.take p)).length=2*p:=by rw[We,bO];omega
 have g:cellsG (gs.drop p)=gs[p].kv::gs[p].rv::cellsG (gs.drop (p+1)):=by rw[cd h];rfl
 rw[e,am.getElem?_append_right d8,am.getElem?_append_right d8,i,g];simp
theorem ar9{gs:am GW}{p:Nat}(h:p<gs.length)(g:GW)(hk:g.kv=gs[p].kv):(cellsG gs).set (2*p+1) g.rv=cellsG (gs.set p g):=by
 have e:=YZ (gs.take p) (gs.drop p);rw[bZ]at e;have o:(cellsG (gs.take p)).length=2*p:=by rw[We,bO];omega
 have i:cellsG (gs.drop p)=gs[p].kv::gs[p].rv::cellsG (gs.drop (p+1)):=by rw[cd h];rfl
 have j:gs.set p g=gs.take p++g::gs.drop (p+1):=by rw[List.set_eq_take_append_cons_drop,if_pos h]
 have l:cellsG (g::gs.drop (p+1))=g.kv::g.rv::cellsG (gs.drop (p+1)):=rfl;rw[e,List.set_append_right _ _ d8,o,i,j,YZ,l,hk];congr 1
 rw[show 2*p+1-2*p=1 by omega];rfl
def RVs(W:aI)(E:Nat->Prop)(rows:am (am Val))(g:am Value):Prop:=g.length=rows.length/\∀(j:Nat) r,rows[j]?=some r->∃u,g[j]?=some u/\RD W E (.sl (rowD r)) u
theorem RVs.keep{W W':aI}{E E':Nat->Prop}(h:zR W W' E E'){rows:am (am Val)}{g:am Value}(hr:RVs W E rows g):RVs W' E' rows g:=
 ⟨hr.1,λj r o=>let⟨u,i,l⟩:=hr.2 j r o;⟨u,i,bH h _ _ l⟩⟩
theorem RVs.snoc{W:aI}{E:Nat->Prop}{rows:am (am Val)}{l:am Value}(hr:RVs W E rows l){x:am Val}{u:Value}(J:RD W E (.sl (rowD x)) u):RVs W E (rows++[x]) (l++[u]):=by
 refine⟨by simp[hr.1],λj r g=>?_⟩;rw[am.getElem?_append]at g;split at g
 .rename_i i;obtain⟨v,p,I⟩:=hr.2 j r g;exact⟨v,by rw[am.getElem?_append_left (by rw[hr.1];exact i)];exact p,I⟩
 rename_i i;have o:j=rows.length:=by have:=(am.getElem?_eq_some_iff.1 g).1;simp at this;omega
 subst o;simp at g;subst g;exact⟨u,by rw[<-hr.1];simp,J⟩
structure GInv(A:Nat->Prop)(B:Nat)(W:aI)(v:Value)(gs:am GW)(E:Nat->Prop):Prop where
 dlt:∀b,E b->b<W.heap.size
 dA:∀b,A b->E b
 dB:∀b,E b->A b\/B<=b
 own:W.ownsRow B tG 2 v gs.length (cellsG gs)
 keys:∀g∈gs,RD W E (.sl (rowD g.key)) g.kv
 rows:∀g∈gs,W.ownsRow B tR 1 g.rv g.rows.length g.rvs/\RVs W E g.rows g.rvs
 vD:∀b,v.ownBlock=some b->¬E b
 rD:∀g∈gs,∀b,g.rv.ownBlock=some b->¬E b
 apart:∀g∈gs,∀b,v.ownBlock=some b->g.rv.ownBlock≠some b
 each:gs.Pairwise λg h=>∀b,g.rv.ownBlock=some b->h.rv.ownBlock≠some b
theorem aoo{W W':aI}{B e s n:Nat}{v:Value}{xs:am Value}(h:W.ownsRow B e s v n xs)(hk:∀b,v.ownBlock=some b->W'.heap[b]?=W.heap[b]?):W'.ownsRow B e s v n xs:=by
 refine⟨h.1,?_⟩;rcases h.2 with o|⟨g,cap,i,rfl,l,j,rest⟩
 .exact .inl o
 exact .inr ⟨g,cap,i,rfl,l,by rw[hk g rfl];exact j,rest⟩
variable {A:Nat->Prop}{B:Nat}{W W':aI}{v v':Value}{gs:am GW}{E E':Nat->Prop}
theorem GInv.more(h:GInv A B W v gs E)(hB:B<=W.heap.size)(hs:W.heap.size<=W'.heap.size)(hk:∀b,b<W.heap.size->W'.heap[b]?=W.heap[b]?)(r:∀b,E b->E' b)(o:∀b,E' b->b<W'.heap.size/\(E b\/W.heap.size<=b)):GInv A B W' v gs E':=by
 have I:zR W W' E E':=λb i=>⟨r b i,hk b (h.dlt b i)⟩
 refine⟨λb i=>(o b i).1,λb i=>r b (h.dA b i),λb i=>?_,?_,λg l=>bH I _ _ (h.keys g l),λg l=>⟨?_,(h.rows g l).2.keep I⟩,λb i p=>?_,λg l b i p=>?_,h.apart,h.each⟩
 .rcases(o b i).2 with j|j
  .exact h.dB b j
  exact .inr (bB hB j)
 .exact aoo h.own λb i=>hk b (h.own.lt b i).2
 .exact aoo (h.rows g l).1 λb i=>hk b ((h.rows g l).1.lt b i).2
 .rcases(o b p).2 with j|j
  .exact h.vD b i j
  have:=(h.own.lt b i).2;omega
 rcases(o b p).2 with j|j
 .exact h.rD g l b i j
 have:=((h.rows g l).1.lt b i).2;omega
theorem GInv.nil(hA:∀b,A b->b<W.heap.size):GInv A B W (.slice none 0 0) [] A:=
 ⟨hA,λ_ h=>h,λ_ h=>.inl h,cD _ _ _ _,λg i=>(by cases i),λg i=>(by cases i),λb j=>(by cases j),λg i=>(by cases i),λg i=>(by cases i),List.Pairwise.nil⟩
theorem GInv.insert(h:GInv A B W v gs E){p:Nat}(hp:p<=gs.length){key:am Val}{J:Value}(ab:RD W E (.sl (rowD key)) J)
 (I:W'.ownsRow B tG 2 v' (gs.length+1) ((cellsG gs).take (2*p)++[J,.slice none 0 0]++(cellsG gs).drop (2*p))) (R:W.grownBy W' v.ownBlock) (hf:KK W v v'):
 GInv A B W' v' (gs.take p++[⟨key,[],J,.slice none 0 0,[]⟩]++gs.drop p) E:=by
 have hK:zR W W' E E:=λb i=>⟨i,R.block b (h.dlt b i) λe=>h.vD b e.symm i⟩
 have o:∀{Q:GW->Prop},(∀g∈gs,Q g)->Q ⟨key,[],J,.slice none 0 0,[]⟩->∀g∈(gs.take p++[⟨key,[],J,.slice none 0 0,[]⟩]++gs.drop p),Q g:=λh1 h2 g l=>by
  simp only[List.mem_append,cz]at l;rcases l with(l|rfl)|l
  .exact h1 g (cP l)
  .exact h2
  exact h1 g (cR l)
 refine⟨λb i=>aV (h.dlt b i) R.size,h.dA,h.dB,?_,o (λg l=>bH hK _ _ (h.keys g l)) (bH hK _ _ ab),o (λg l=>⟨(h.rows g l).1.kept R ?_,(h.rows g l).2.keep hK⟩) ⟨cD _ _ _ _,rfl,λj r hj=>by simp at hj⟩,
  λb i P=>?_,o h.rD (λb i=>by cases i),o (λg l b i aa=>?_) (λb _ i=>by cases i),?_⟩
 .have e1:=apU gs p;rw[e1.1,e1.2]at I;have e2:cellsG (gs.take p++[⟨key,[],J,.slice none 0 0,[]⟩]++gs.drop p)=cellsG (gs.take p)++[J,.slice none 0 0]++cellsG (gs.drop p):=by rw[YZ,YZ];rfl
  rw[e2];have e3:(gs.take p++[(⟨key,[],J,.slice none 0 0,[]⟩:GW)]++gs.drop p).length=gs.length+1:=by simp only[aM,bO,cJ,b9];omega
  rw[e3];exact I
 .cases hv:g.rv.ownBlock with
  |none=>exact .inl rfl
  |some b=>
   right
   intro e;exact h.apart g l b e.symm hv
 .rcases hf b i with U|U
  .exact h.vD b U P
  have:=h.dlt b P;omega
 .rcases hf b i with U|U
  .exact h.apart g l b U aa
  have:=((h.rows g l).1.lt b aa).2;omega
 have P:=h.each;have e:gs.take p++gs.drop p=gs:=bZ ..;rw[<-e,cS]at P;rw[List.append_assoc,cS];refine⟨P.1,?_,λa ha c hc=>?_⟩
 .rw[cM,bW];exact⟨λa _ b i=>(by cases i),P.2.1⟩
 rw[cM]at hc;rcases bX.1 hc with rfl|hc
 .intro b _ i;cases i
 exact P.2.2 a ha c hc
theorem adM{α:Type}{R:α->α->Prop}:∀{l:am α}{p:Nat}{y:α},l.Pairwise R->(∀(j:Nat) x,l[j]?=some x->j≠p->R x y/\R y x)->(l.set p y).Pairwise R
 |[],_,_,_,_=>dT
 |x::r,0,y,h,i=>by rw[List.set_cons_zero,bW];rw[bW]at h;refine⟨λa g=>?_,h.2⟩;obtain⟨j,o⟩:=cN.1 g;exact(i (j+1) a (by simpa using o) d8).2
 |x::r,p+1,y,h,i=>by
  rw[cA,bW];rw[bW]at h;refine⟨λa g=>?_,adM h.2 λj z o I=>i (j+1) z (by simpa using o) d8⟩;rcases cC g with g|rfl
  .exact h.1 a g
  exact(i 0 x rfl d8).1
theorem aqd{α:Type}{R:α->α->Prop}(I:∀{x y},R x y->R y x){l:am α}(h:l.Pairwise R){i j:Nat}{x y:α}(hi:l[i]?=some x)(J:l[j]?=some y)(o:i≠j):R x y:=by
 rw[List.pairwise_iff_getElem]at h;obtain⟨p,rfl⟩:=am.getElem?_eq_some_iff.1 hi;obtain⟨r,rfl⟩:=am.getElem?_eq_some_iff.1 J;rcases Nat.lt_or_gt_of_ne o with g|g
 .exact h i j p r g
 exact I (h j i r p g)
theorem GInv.addRow{U cap:Nat}(h:GInv A B W (.slice (some ⟨U,0,none⟩) gs.length cap) gs E){p:Nat}(hp:p<gs.length){x:am Val}{xv l:Value}(hx:RD W E (.sl (rowD x)) xv){W1:aI}
 (ad:W1.ownsRow B tR 1 l (gs[p].rows.length+1) (gs[p].rvs++[xv])) (aa:W.grownBy W1 gs[p].rv.ownBlock) (hf:KK W gs[p].rv l):
 GInv A B (W1.setCell ⟨U,2*p+1,none⟩ l) (.slice (some ⟨U,0,none⟩) gs.length cap) (gs.set p ⟨gs[p].key,gs[p].rows++[x],gs[p].kv,l,gs[p].rvs++[xv]⟩) E:=by
 have ab:gs[p]∈gs:=aR hp;have ae:gs[p].rv.ownBlock≠some U:=h.apart _ ab U rfl;have ag:=(h.own.lt U rfl).2;have ac:W1.ownsRow B tG 2 (.slice (some ⟨U,0,none⟩) gs.length cap) gs.length (cellsG gs):=h.own.kept aa (.inr λe=>ae e.symm);obtain⟨s1,s2⟩:=ac.stored (2*p+1) l;have hK:zR W (W1.setCell ⟨U,2*p+1,none⟩ l) E E:=λb I=>⟨I,by rw[s2.block b (aV (h.dlt b I) aa.size) (λe=>h.vD b (Option.some.inj e▸rfl) I)];exact aa.block b (h.dlt b I) λe=>h.rD _ ab b e.symm I⟩
 have af:l.ownBlock≠some U:=λe=>by
  rcases hf U e with h'|h'
  .exact ae h'
  omega
 have J:∀{Q:GW->Prop},(∀(j:Nat) g,gs[j]?=some g->j≠p->Q g)->Q ⟨gs[p].key,gs[p].rows++[x],gs[p].kv,l,gs[p].rvs++[xv]⟩->∀g∈(gs.set p ⟨gs[p].key,gs[p].rows++[x],gs[p].kv,l,gs[p].rvs++[xv]⟩),Q g:=λh1 h2 g hg=>by
  obtain⟨j,i⟩:=cN.1 hg;rw[am.getElem?_set]at i;split at i
  .rename_i e;cases i;exact h2
  rename_i e;exact h1 j g i (Ne.symm e)
 have mem:∀{j:Nat}{g:GW},gs[j]?=some g->g∈gs:=λi=>bR i
 have P:∀{j:Nat}{g:GW},gs[j]?=some g->j≠p->∀b,g.rv.ownBlock=some b->gs[p].rv.ownBlock≠some b:=λi o=>
  aqd (R:=λg h=>∀b,g.rv.ownBlock=some b->h.rv.ownBlock≠some b) (λh b h1 h2=>h b h2 h1) h.each i (am.getElem?_eq_getElem hp) o
 have r:∀{j:Nat}{g:GW},gs[j]?=some g->j≠p->∀b,g.rv.ownBlock=some b->l.ownBlock≠some b:=fun{j g} i o b I e=>by
  rcases hf b e with h'|h'
  .exact P i o b I h'
  have:=((h.rows g (mem i)).1.lt b I).2;omega
 refine⟨λb I=>aV (aV (h.dlt b I) aa.size) s2.size,h.dA,h.dB,?_,J (λj g i _=>bH hK _ _ (h.keys g (mem i))) (by have:=bH hK _ _ (h.keys _ ab);exact this),
  J (λj g i o=>⟨?_,(h.rows g (mem i)).2.keep hK⟩) ⟨?_,((h.rows _ ab).2.snoc hx).keep hK⟩,h.vD,J (λj g i _=>h.rD g (mem i)) (λb I he=>?_),J (λj g i _=>h.apart g (mem i)) (λb I e=>?_),?_⟩
 .have e:=ar9 hp ⟨gs[p].key,gs[p].rows++[x],gs[p].kv,l,gs[p].rvs++[xv]⟩ rfl;rw[List.length_set,<-e];exact s1
 .have h1:W1.ownsRow B tR 1 g.rv g.rows.length g.rvs:=(h.rows g (mem i)).1.kept aa (by
   cases hv:g.rv.ownBlock with
   |none=>exact .inl rfl
   |some b=>exact .inr λe=>P i o b hv e.symm)
  refine h1.kept s2 ?_;cases hv:g.rv.ownBlock with
  |none=>exact .inl rfl
  |some b=>exact .inr λe=>h.apart g (mem i) U rfl (hv.trans e)
 .have e:(gs[p].rows++[x]).length=gs[p].rows.length+1:=dT
  rw[e];refine ad.kept s2 ?_;cases hv:l.ownBlock with
  |none=>exact .inl rfl
  |some b=>exact .inr λe=>af (hv.trans e)
 .rcases hf b I with h'|h'
  .exact h.rD _ ab b h' he
  have:=h.dlt b he;omega
 .cases I;exact af e
 exact adM h.each λj g i o=>⟨r i o,λb h1 h2=>r i o b h2 h1⟩
theorem aif{w:aI}{ok:Nat->Prop}{b sz:Nat}:∀(l:am (am D)) (o:Nat),(∀(j:Nat) e,l[j]?=some e->e.length=sz/\RDc w ok b (o+j*sz) e)->RDs w ok b sz o l
 |[],_,_=>by simp only[RDs]
 |e::r,o,h=>by simp only[RDs];have h0:=h 0 e rfl;refine⟨h0.1,by simpa using h0.2,aif r (o+sz) λj x g=>?_⟩;have:=h (j+1) x (by simpa using g);exact⟨this.1,by rw[show o+sz+j*sz=o+(j+1)*sz by rw[Nat.add_mul];omega];exact this.2⟩
theorem avd{rows:am (am Val)}{l:am Value}{J:Value}(P:W.ownsRow B tR 1 J rows.length l)(hr:RVs W E rows l){ok:Nat->Prop}(hE:∀b,E b->ok b)(hb:∀b,J.ownBlock=some b->ok b):RD W ok (.sl (zg rows)) J:=by
 have hK:zR W W E ok:=λb h=>⟨hE b h,rfl⟩
 simp only[RD];rcases P.2 with⟨rfl,hn⟩|⟨g,cap,R,rfl,aa,hg,p,o,ab,I⟩
 .have:rows=[]:=aS hn;subst this;exact⟨none,0,0,rfl,rfl,bC _,aX _,.inl rfl⟩
 refine⟨_,_,_,rfl,by rw[zy],p,o,.inr ⟨g,0,1,rfl,hb g rfl,aif _ _ λj e i=>?_⟩⟩;simp only[zg,am.getElem?_map,cm]at i;obtain⟨r,i,rfl⟩:=i;refine⟨rfl,?_⟩;obtain⟨u,U,h2⟩:=hr.2 j r i;simp only[RDc];refine⟨⟨u,?_,bH hK _ _ h2⟩,trivial⟩;have ac:j<rows.length:=(am.getElem?_eq_some_iff.1 i).1;rw[show 0+j*1=j by omega,P.cellAt j d8];exact U
theorem GInv.data(h:GInv A B W v gs E):RD W (λb=>(A b\/B<=b)/\b<W.heap.size) (.sl (gs.map λg=> [D.sl (rowD g.key),D.sl (zg g.rows)])) v:=by
 have hE:∀b,E b->(A b\/B<=b)/\b<W.heap.size:=λb i=>⟨h.dB b i,h.dlt b i⟩
 have hK:zR W W E (λb=>(A b\/B<=b)/\b<W.heap.size):=λb i=>⟨hE b i,rfl⟩
 simp only[RD];have p:=h.own;rcases p.2 with⟨rfl,hn⟩|⟨g,cap,ab,rfl,r,hg,R,J,ac,U⟩
 .have:gs=[]:=aS hn;subst this;exact⟨none,0,0,rfl,rfl,bC _,aX _,.inl rfl⟩
 refine⟨_,_,_,rfl,by rw[aU],R,J,.inr ⟨g,0,2,rfl,⟨.inr r,(p.lt g rfl).2⟩,aif _ _ λj e l=>?_⟩⟩;simp only[am.getElem?_map,cm]at l;obtain⟨x,l,rfl⟩:=l;refine⟨rfl,?_⟩;obtain⟨P,aa⟩:=am.getElem?_eq_some_iff.1 l;have o:=bR l;have I:=U5 P;rw[aa]at I;simp only[RDc];refine⟨⟨x.kv,?_,bH hK _ _ (h.keys x o)⟩,⟨x.rv,?_,avd (h.rows x o).1 (h.rows x o).2 hE λb i=>⟨.inr ((h.rows x o).1.lt b i).1,((h.rows x o).1.lt b i).2⟩⟩,trivial⟩
 .rw[show 0+j*2=2*j by omega,p.cellAt (2*j) d8];exact I.1
 rw[show 0+j*2+1=2*j+1 by omega,p.cellAt (2*j+1) d8];exact I.2
end
section
open Go Go.AM Go.Proofs Go.RowKit
theorem ayr{P:Program}{k:Nat}{args:am W}{d:D}(h:Sat P k args (λr=>r=rC (.d d)))(W:aI)(A:Nat->Prop)(vals:am Value)(hA:(∀b,A b->b<W.heap.size)/\Glb A W)(l:qq (λ_=>⟨none,0,.nilFunc,[]⟩) W A args vals):
 cB P k vals.toArray W λe w'=>∃v,e=.returned v/\RD w' (λb=>(A b\/W.heap.size<=b)/\b<w'.heap.size) d v/\Grows (λ_=>False) W w':=by
 refine(h.2 W A vals hA l).mono ?_;rintro e w' ⟨v,r,rfl,rfl,g,o⟩;refine⟨v,rfl,?_,o⟩;obtain⟨_,ι,i,_⟩:=g;have i:RD w' (Fr.ok ⟨W,A,λ_=>False,λ_=>none⟩ ι [] w') d v:=i;have hk:zR w' w' (Fr.ok ⟨W,A,λ_=>False,λ_=>none⟩ ι [] w') (λb=>(A b\/W.heap.size<=b)/\b<w'.heap.size):=λb j=>⟨⟨by
  rcases j.1 with h|h|h
  .exact .inl h
  .exact h.elim
  exact .inr h,j.2.1⟩,rfl⟩
 exact bH hk d v i
theorem avl{P:Program}{k:Nat}{args:am W}{x y:Value}(h:Sat P k args (λr=>r=⟨.tup [.c (.d (.lit x)),.c (.d (.lit y))],[]⟩))(W:aI)(A:Nat->Prop)(vals:am Value)(hA:(∀b,A b->b<W.heap.size)/\Glb A W)(o:qq (λ_=>⟨none,0,.nilFunc,[]⟩) W A args vals):
 cB P k vals.toArray W λe w'=>e=.returned (.tuple #[x,y])/\Grows (λ_=>False) W w':=by
 refine(h.2 W A vals hA o).mono ?_;rintro e w' ⟨v,r,rfl,rfl,i,p⟩;refine⟨?_,p⟩;obtain⟨_,ι,g,_⟩:=i;obtain⟨vs,rfl,g⟩:=g
 match vs,g with
 |[a,b],g=>
   have j:a=x:=by have:=g.1;simp only[WR,CR,RD]at this;exact this.1
   have l:b=y:=by have:=g.2.1;simp only[WR,CR,RD]at this;exact this.1
   rw[j,l]
structure Gr where
 key:am Val
 rows:am (am Val)
def GW.gr(g:GW):Gr:=⟨g.key,g.rows⟩
def Gr.gp(g:Gr):Gp:=⟨g.key,.sl (zg g.rows)⟩
def GW.gp(g:GW):Gp:=⟨g.key,.lit g.rv⟩
def qI(gs:am Gr)(k:am Val):Nat:=Xa (gs.map Gr.gp) k
def Xv(gs:am Gr)(k:am Val):Bool:=XZ (gs.map Gr.gp) k (qI gs k)
def YX(gs:am Gr)(p:Nat)(row:am Val):am Gr:=match gs[p]? with|some g=>gs.set p ⟨g.key,g.rows++[row]⟩|none=>gs
def Yt(gs:am Gr)(k:am Val):am Gr:=bif Xv gs k then gs else gs.take (qI gs k)++[⟨k,[]⟩]++gs.drop (qI gs k)
def V5(at_:am Int)(gs:am Gr)(row:am Val):am Gr:=YX (Yt gs (zn row at_)) (qI gs (zn row at_)) row
def uo(at_:am Int)(rows:am (am Val)):am Gr:=rows.foldl (V5 at_) []
theorem aqa{l l':am Gp}(h:l.map Gp.key=l'.map Gp.key)(k:am Val):wo l k=wo l' k:=by
 funext i;have e:(l[i]?).map Gp.key=(l'[i]?).map Gp.key:=by rw[<-am.getElem?_map,<-am.getElem?_map,h]
 unfold wo;cases g:l[i]? <;>cases j:l'[i]? <;>rw[g,j]at e<;>simp at e⊢
 rw[e]
theorem asw{l l':am Gp}(h:l.map Gp.key=l'.map Gp.key)(k:am Val)(i:Nat):XZ l k i=XZ l' k i:=by
 have e:(l[i]?).map Gp.key=(l'[i]?).map Gp.key:=by rw[<-am.getElem?_map,<-am.getElem?_map,h]
 unfold XZ;cases g:l[i]? <;>cases j:l'[i]? <;>rw[g,j]at e<;>simp at e⊢
 rw[e]
theorem asV{l l':am Gp}(h:l.map Gp.key=l'.map Gp.key)(k:am Val):Xa l k=Xa l' k:=by
 have g:l.length=l'.length:=by have:=aF List.length h;simpa using this
 unfold Xa;rw[aqa h,g]
theorem arw(gs:am GW)(k:am Val):Xa (gs.map GW.gp) k=qI (gs.map GW.gr) k/\XZ (gs.map GW.gp) k (qI (gs.map GW.gr) k)=Xv (gs.map GW.gr) k:=by
 have e:(gs.map GW.gp).map Gp.key=((gs.map GW.gr).map Gr.gp).map Gp.key:=by simp[GW.gp,Gr.gp,GW.gr,Function.comp_def]
 exact⟨asV e k,asw e k _⟩
theorem aav(gs:am Gr)(k:am Val):qI gs k<=gs.length:=by have:=ayb (gs.map Gr.gp) k;rwa[aU]at this
theorem ara{gs:am Gr}{k:am Val}(h:Xv gs k=true):qI gs k<gs.length:=by
 unfold Xv XZ at h;cases i:(gs.map Gr.gp)[qI gs k]? with
 |none=>rw[i]at h;cases h
 |some g=>
  have:=(am.getElem?_eq_some_iff.1 i).1;rwa[aU]at this
theorem anR(gs:am Gr)(k:am Val):gs.length<=(Yt gs k).length/\(Yt gs k).length<=gs.length+1/\qI gs k<(Yt gs k).length:=by
 have g:=aav gs k;unfold Yt;cases h:Xv gs k
 .simp only[aA,aM,bO,cJ,b9];omega
 have:=ara h;simp only[aB];omega
theorem atV(gs:am Gr)(p:Nat)(row:am Val):(YX gs p row).length=gs.length:=by unfold YX;split<;>simp
theorem abl(at_:am Int){rows:am (am Val)}{i:Nat}(h:i<rows.length):uo at_ (rows.take (i+1))=V5 at_ (uo at_ (rows.take i)) rows[i]:=by unfold uo;rw[zJ h,List.foldl_append];rfl
theorem Vc(at_:am Int)(rows:am (am Val)):∀i,(uo at_ (rows.take i)).length<=i
 |0=>by simp[uo]
 |i+1=>by
  by_cases h:i<rows.length
  .rw[abl at_ h];unfold V5;rw[atV];have:=(anR (uo at_ (rows.take i)) (zn rows[i] at_)).2.1;have:=Vc at_ rows i;omega
  have:=Vc at_ rows i;rw[bA d8]at this⊢;omega
def amn(n p:Nat):Prop:=∀(w:aI) (base:Nat) (v:Value) (xs:am Value),w.ownsRow base tG 2 v n xs->base<=w.heap.size->(∀u∈xs,u.oneCell'=true)->
 ∀(g:Nat) (k r:Value),w.heap[g]?=some (.cells #[k,r] tG (0,0))->v.ownBlock≠some g->k.oneCell'=true->r.oneCell'=true->
  cB Tryz.prog 199 #[v,.int .i64 p,.slice (some ⟨g,0,none⟩) 1 1] w λe w'=>∃v',e=.returned v'/\w'.ownsRow base tG 2 v' (n+1) (xs.take (2*p)++[k,r]++xs.drop (2*p))/\w.grownBy w' v.ownBlock/\w.drawn<=w'.drawn/\KK w v v'
theorem azY{n:Nat}(j:n<=1000000):amn n n:=by
 intro w base v xs g i _ l k r hv _ hk hr;have o:xs.length=2*n:=by rw[g.1];omega
 rw[bA d8,aC d8,List.append_nil];exact asA w base v n xs g j i l 1 k r (by simp[aI.cell?,hv]) (by simp[aI.cell?,hv]) hk hr
variable {A:Nat->Prop}{B:Nat}{W:aI}{v:Value}{gs:am GW}{E:Nat->Prop}
theorem GInv.search(h:GInv A B W v gs E)(hA:Glb A W)(hl:gs.length<=1000000){key:am Val}{kv:Value}(o:RD W E (.sl (rowD key)) kv):
 cB Tryz.prog 197 #[v,kv,.func (.func 198) #[] #[]] W λe w'=>e=.returned (.tuple #[.int .i64 (qI (gs.map GW.gr) key),.bool (Xv (gs.map GW.gr) key)])/\Grows (λ_=>False) W w':=by
 have hs:=agO (gs.map GW.gp) key (by rw[aU];exact hl);rw[(arw gs key).1,(arw gs key).2]at hs
 let r:Nat->Prop:=λb=>E b\/v.ownBlock=some b
 have hK:zR W W E r:=λb i=>⟨.inl i,rfl⟩
 refine avl hs W r [v,kv,.func (.func 198) #[] #[]] ⟨λb i=>?_,hA.mono (λb i=>.inl (h.dA b i)) (λ_ _=>rfl)⟩ ⟨?_,bH hK _ _ o,?_,trivial⟩
 .rcases i with i|i
  .exact h.dlt b i
  exact(h.own.lt b i).2
 .simp only[WR,CR,RD];have U:=h.own;rcases U.2 with⟨rfl,hn⟩|⟨g,cap,ac,rfl,ad,hg,R,J,ae,aa⟩
  .have:gs=[]:=aS hn;subst this;exact⟨none,0,0,rfl,rfl,bC _,aX _,.inl rfl⟩
  refine⟨_,_,_,rfl,by rw[aq7,aU],R,J,.inr ⟨g,0,2,rfl,.inr rfl,aif _ _ λj e l=>?_⟩⟩;simp only[gpD,List.map_map,am.getElem?_map,cm]at l;obtain⟨x,l,rfl⟩:=l;refine⟨rfl,?_⟩;obtain⟨P,ab⟩:=am.getElem?_eq_some_iff.1 l;have hx:=bR l;have I:=U5 P;rw[ab]at I;show RDc W r g (0+j*2) [.sl (rowD x.key),.lit x.rv];simp only[RDc];have p:x.rv.oneCell'=true:=by rcases(h.rows x hx).1.2 with⟨e,_⟩|⟨_,_,_,e,_⟩<;>rw[e]<;>rfl
  refine⟨⟨x.kv,?_,bH hK _ _ (h.keys x hx)⟩,⟨x.rv,?_,?_⟩,trivial⟩
  .rw[show 0+j*2=2*j by omega,U.cellAt (2*j) d8];exact I.1
  .rw[show 0+j*2+1=2*j+1 by omega,U.cellAt (2*j+1) d8];exact I.2
  simp only[RD];exact⟨trivial,p⟩
 simp only[WR,CR,RD,RDf];exact⟨[],rfl,rfl⟩
theorem aAh{w:aI}{ok:Nat->Prop}{l:am (am D)}{v:Value}(h:RD w ok (.sl l) v):v.oneCell'=true:=by simp only[RD]at h;obtain⟨a,n,c,rfl,_⟩:=h;rfl
theorem GInv.ones(h:GInv A B W v gs E):∀u∈cellsG gs,u.oneCell'=true:=by
 intro u g;simp only[cellsG,List.mem_flatMap]at g;obtain⟨x,i,g⟩:=g;simp only[bX,List.not_mem_nil,or_false]at g;rcases g with rfl|rfl
 .exact aAh (h.keys x i)
 rcases(h.rows x i).1.2 with⟨e,_⟩|⟨_,_,_,e,_⟩<;>rw[e]<;>rfl
end
section
open Go Go.AM Go.Proofs Go.RowKit
theorem abH{W:aI}{B e s n:Nat}{v:Value}{xs:am Value}(h:W.ownsRow B e s v n xs)(l:n≠0):∃j cap,v=.slice (some ⟨j,0,none⟩) n cap:=by
 rcases h.2 with⟨_,h0⟩|⟨g,cap,i,rfl,_⟩
 .exact absurd h0 l
 exact⟨g,cap,rfl⟩
theorem GInv.grow{A:Nat->Prop}{B:Nat}{W W':aI}{v:Value}{gs:am GW}{E:Nat->Prop}(h:GInv A B W v gs E)(hB:B<=W.heap.size)(i:Grows (λ_=>False) W W'):GInv A B W' v gs (λb=>(E b\/W.heap.size<=b)/\b<W'.heap.size):=
 h.more hB i.size (λb g=>i.block b g λh=>h) (λb g=>⟨.inl g,aV (h.dlt b g) i.size⟩) (λb g=>⟨g.2,g.1⟩)
theorem GInv.kg{A:Nat->Prop}{B:Nat}{W W':aI}{v:Value}{gs:am GW}{E:Nat->Prop}(h:GInv A B W v gs E)(i:Grows (λ_=>False) W W'):zR W W' E (λb=>(E b\/W.heap.size<=b)/\b<W'.heap.size):=
 λb g=>⟨⟨.inl g,aV (h.dlt b g) i.size⟩,i.block b (h.dlt b g) λh=>h⟩
theorem ZN{B:Nat}{w W W':aI}(h:Below B w W)(hB:B<=W.heap.size)(g:Grows (λ_=>False) W W'):Below B w W':=
 ⟨g.os.trans h.os,g.tape.trans h.tape,g.output.trans h.output,bB h.size g.size,λk hk=>(g.block k (aV hk hB) λh=>h).trans (h.block k hk)⟩
theorem K0{A:Nat->Prop}{w W:aI}(hA:(∀b,A b->b<w.heap.size)/\Glb A w)(h:Below w.heap.size w W):Glb A W:=hA.2.mono (λ_ h=>h) (λk g=>h.block k (hA.1 k g))
theorem aq0{A:Nat->Prop}{B:Nat}{w W:aI}{l cap:Nat}{gs:am GW}{E:Nat->Prop}(h:GInv A B W (.slice (some ⟨l,0,none⟩) gs.length cap) gs E)(hB:B<=W.heap.size){p:Nat}(hp:p<gs.length){x:am Val}{o j:Value}(hx:RD W E (.sl (rowD x)) o){I:aI}{g:GW}(hg:gs[p]=g)
 (R:I.ownsRow B tR 1 j (g.rows.length+1) (g.rvs++[o])) (r:(W.alloc (.cells #[o] tR)).grownBy I g.rv.ownBlock) (hd:(W.alloc (.cells #[o] tR)).drawn<=I.drawn/\KK (W.alloc (.cells #[o] tR)) g.rv j) (P:Below B w W):
 I.cell? ⟨l,p*2+1,none⟩=some g.rv/\I.frozen? ⟨l,p*2+1,none⟩=false/\GInv A B (I.setCell ⟨l,p*2+1,none⟩ j) (.slice (some ⟨l,0,none⟩) gs.length cap) (gs.set p ⟨g.key,g.rows++[x],g.kv,j,g.rvs++[o]⟩) E/\
  Below B w (I.setCell ⟨l,p*2+1,none⟩ j)/\True:=by
 subst hg;have ha:GInv A B (W.alloc (.cells #[o] tR)) (.slice (some ⟨l,0,none⟩) gs.length cap) gs E:=
  h.more hB dT (λb J=>cg W _ (h:=J)) (λ_ h=>h) (λb J=>⟨by have:=h.dlt b J;simp;omega,.inl J⟩)
 have af:RD (W.alloc (.cells #[o] tR)) E (.sl (rowD x)) o:=bH (λb J=>⟨J,cg W _ (h:=h.dlt b J)⟩) _ _ hx;have U:gs[p]∈gs:=aR hp;have ae:gs[p].rv.ownBlock≠some l:=h.apart _ U l rfl;have i:=ha.own.kept r (.inr λe=>ae e.symm);have hc:=U5 hp;rw[show p*2+1=2*p+1 by omega];have ad:=ha.addRow hp af R r hd.2;obtain⟨s1,s2⟩:=i.stored (2*p+1) j;have aa:Below B w (W.alloc (.cells #[o] tR)):=P.grown (cU W _ none) hB (λk e=>by cases e);have ab:Below B w I:=aa.grown r dX (λk e=>((h.rows _ U).1.lt k e).1);have ac:=ab.grown s2 (bB dX r.size) (λk e=>by cases e;exact(h.own.lt l rfl).1);exact⟨by rw[i.cellAt (2*p+1) d8];exact hc.2,i.frozenAt _,ad,ac,trivial⟩
theorem GInv.rvCell{A:Nat->Prop}{B:Nat}{W:aI}{i cap:Nat}{gs:am GW}{E:Nat->Prop}(h:GInv A B W (.slice (some ⟨i,0,none⟩) gs.length cap) gs E){p:Nat}(l:p<gs.length){g:GW}(j:gs[p]=g):W.cell? ⟨i,p*2+1,none⟩=some g.rv:=by subst j;rw[show p*2+1=2*p+1 by omega,h.own.cellAt (2*p+1) d8];exact(U5 l).2
theorem amS{gs:am GW}{p:Nat}(o:p<gs.length){g:GW}(l:gs[p]=g)(x:am Val)(i:Value)(j:am Value):(gs.set p ⟨g.key,g.rows++[x],g.kv,i,j⟩).map GW.gr=YX (gs.map GW.gr) p x:=by subst l;unfold YX;rw[am.getElem?_map,am.getElem?_eq_getElem o,List.map_set];rfl
theorem arZ{gs:am Gr}{p:Nat}{x:am Val}{n:Nat}(h:∀g∈gs,g.rows.length<=n):∀g∈YX gs p x,g.rows.length<=n+1:=by
 unfold YX;split
 .rename_i y j;intro g i;rcases cC i with i|rfl
  .have:=h g i;omega
  have:=h y (bR j);simp;omega
 intro g i;have:=h g i;omega
theorem auz{gs:am Gr}{k:am Val}{n:Nat}(h:∀g∈gs,g.rows.length<=n):∀g∈Yt gs k,g.rows.length<=n:=by
 unfold Yt;cases Xv gs k
 .intro g i;simp only[aA,List.mem_append,cz]at i;rcases i with(i|rfl)|i
  .exact h g (cP i)
  .exact aX _
  exact h g (cR i)
 exact h
theorem abk(at_:am Int)(rows:am (am Val)):∀i,∀g∈uo at_ (rows.take i),g.rows.length<=i
 |0=>by simp[uo]
 |i+1=>by
  by_cases h:i<rows.length
  .rw[abl at_ h];exact arZ (auz (abk at_ rows i))
  rw[bA d8];have:=abk at_ rows i;rw[bA d8]at this;intro g j;have:=this g j;omega
theorem aog{w:aI}{x:Value}{t:TypeId}:∀j u,[x][j]?=some u->(w.alloc (.cells #[x] t)).cell? ((⟨w.heap.size,0,none⟩:Addr).add j)=some u:=by
 intro j u g
 match j,g with
 |0,g=>simp at g;subst g;simp[Addr.add]
 |(j+1),g=>simp at g
theorem ajN{w:aI}{ok:Nat->Prop}{l:am (am D)}{v:Value}(h:RD w ok (.sl l) v):∃a n c,v=.slice a n c:=by simp only[RD]at h;obtain⟨a,n,c,rfl,_⟩:=h;exact⟨a,n,c,rfl⟩
theorem au9{w:aI}{ok:Nat->Prop}{l:am (am D)}{v:Value}(h:RD w ok (.sl l) v):∀u∈ [v],u.oneCell'=true:=by intro u g;simp at g;subst g;simp only[RD]at h;obtain⟨a,n,c,rfl,_⟩:=h;rfl
theorem are{α:Type}(l:am α){p:Nat}(o:p<=l.length)(g:α):(l.take p++[g]++l.drop p).length=l.length+1/\∃h:p<(l.take p++[g]++l.drop p).length,(l.take p++[g]++l.drop p)[p]=g:=by
 have j:(l.take p++[g]++l.drop p).length=l.length+1:=by simp only[aM,bO,cJ,b9];omega
 refine⟨j,d8,?_⟩;have i:(l.take p).length=p:=by rw[bO];omega
 rw[List.getElem_append_left (by rw[aM,i,b9];omega),List.getElem_append_right d8];simp
theorem GInv.ins{A:Nat->Prop}{B:Nat}{W W':aI}{v:Value}{gs:am GW}{E:Nat->Prop}(h:GInv A B W v gs E)(hB:B<=W.heap.size){p:Nat}(R:p<=gs.length){key:am Val}{j:Value}(I:RD W E (.sl (rowD key)) j){o:Obj}{P cap:Nat}{g:am GW}(r:gs.take p++[⟨key,[],j,.slice none 0 0,[]⟩]++gs.drop p=g)
 (J:W'.ownsRow B tG 2 (.slice (some ⟨P,0,none⟩) (gs.length+1) cap) (gs.length+1) ((cellsG gs).take (2*p)++[j,.slice none 0 0]++(cellsG gs).drop (2*p))) (l:(W.alloc o).grownBy W' v.ownBlock) (hf:KK (W.alloc o) v (.slice (some ⟨P,0,none⟩) (gs.length+1) cap)):
 g.length=gs.length+1/\GInv A B W' (.slice (some ⟨P,0,none⟩) g.length cap) g E/\(∀d u,RD W E d u->RD W' E d u)/\∃h:p<g.length,g[p]=⟨key,[],j,.slice none 0 0,[]⟩:=by
 subst r;have U:=(are gs R (⟨key,[],j,.slice none 0 0,[]⟩:GW)).1;have ha:GInv A B (W.alloc o) v gs E:=h.more hB dT (λb i=>cg W _ (h:=i)) (λ_ h=>h) (λb i=>⟨by have:=h.dlt b i;simp;omega,.inl i⟩);have hk:RD (W.alloc o) E (.sl (rowD key)) j:=bH (λb i=>⟨i,cg W _ (h:=h.dlt b i)⟩) _ _ I;refine⟨U,?_,λd u hd=>?_,(are gs R _).2⟩
 .rw[U];exact ha.insert R hk J l hf
 refine bH (λb i=>⟨i,?_⟩) _ _ hd;rw[l.block b (by have:=h.dlt b i;simp;omega) λe=>h.vD b e.symm i];exact cg W _ (h:=h.dlt b i)
theorem azX(gs:am GW)(p:Nat)(key:am Val)(g:Value):(gs.take p++[(⟨key,[],g,.slice none 0 0,[]⟩:GW)]++gs.drop p).map GW.gr=(gs.map GW.gr).take p++[⟨key,[]⟩]++(gs.map GW.gr).drop p:=by simp[GW.gr,List.map_take,List.map_drop]
set_option maxRecDepth 100000 in
set_option maxHeartbeats 4000000 in
theorem apZ(w:aI)(A:Nat->Prop)(hA:(∀b,A b->b<w.heap.size)/\Glb A w)(cv:Value)(rb ro rc:Nat)(ao:aH Addr)(an ac:Nat)(at_:am Int)(rows:am (am Val))(bl:an≠0)(b6:rows.length<=1000000)
 (a3:RD w A (.sl (zh at_)) (.slice ao an ac)) (bs:A rb) (ab:∀(i:Nat) (h:i<rows.length),∃u,w.cell? ⟨rb,ro+i,none⟩=some u/\RD w A (.sl (rowD rows[i])) u)
 (au:∀r∈rows,zS r.length at_) (a4:at_.length<=1000000)
 (I:∀(i:Nat) (h:i<rows.length),Xv (uo at_ (rows.take i)) (zn rows[i] at_)=false->amn (uo at_ (rows.take i)).length (qI (uo at_ (rows.take i)) (zn rows[i] at_))):
 cB Tryz.prog 169 #[.agg #[cv,.slice (some ⟨rb,ro,none⟩) rows.length rc],.slice ao an ac] w λe w'=>∃v gs E,e=.returned v/\GInv A w.heap.size w' v gs E/\gs.map GW.gr=uo at_ rows/\Below w.heap.size w w'/\True:=by
 have bi:=hA.1 rb bs;obtain⟨ir,bd,bf,bg,bh⟩:=info_parts aCj
 go_enter Tryz.func169,Tryz.ntmps169
 go_wp2
 rw[show((an:Int)==0)=false by simpa using bl]
 go_loopw [5,21] (λv i wr=>∃(k:Nat) (gs:am GW) (E:Nat->Prop),k<=rows.length/\i=.int .i64 k/\GInv A w.heap.size wr v gs E/\gs.map GW.gr=uo at_ (rows.take k)/\Below w.heap.size w wr/\True) (λ_ i _=>rows.length-(intOf i).toNat)
 case atStart=>exact⟨0,[],A,aX _,rfl,GInv.nil (λb hb=>by have:=hA.1 b hb;simp;omega),rfl,(Below.refl _ _).alloc (bC _) _,trivial⟩
 case round=>
  obtain⟨k,gs,E,hk,rfl,o,ad,l,bo⟩:=hrel;have hB:=l.size;by_cases af:k<rows.length
  .obtain⟨xv,a5,bj⟩:=ab k af;have hc:wr.cell? ⟨rb,ro+k,none⟩=some xv:=(l.cell (p:=⟨rb,ro+k,none⟩) bi).trans a5;have a2:zR w wr A E:=λb hb=>⟨o.dA b hb,l.block b (hA.1 b hb)⟩
   have hx:RD wr E (.sl (rowD rows[k])) xv:=bH a2 _ _ bj;have aq:RD wr E (.sl (zh at_)) (.slice ao an ac):=bH a2 _ _ a3;obtain⟨xa,xn,xc,rfl⟩:=ajN hx;have ba:Glb A wr:=K0 hA l;have ah:cB Tryz.prog 172 #[.slice xa xn xc,.slice ao an ac] wr λe w'=>∃v,e=.returned v/\RD w' (λb=>(E b\/wr.heap.size<=b)/\b<w'.heap.size) (.sl (rowD (zn rows[k] at_))) v/\Grows (λ_=>False) wr w':=
    ayr (Qr rows[k] at_ a4 (au _ (aR af))) wr E [.slice xa xn xc,.slice ao an ac] ⟨o.dlt,ba.mono (λb hb=>o.dA b hb) (λ_ _=>rfl)⟩ ⟨hx,aq,trivial⟩
   have b3:gs.length<=k:=by have:=Vc at_ rows k;rw[<-ad,aU]at this;exact this
   have I:=I k af;rw[<-ad]at I;have U:=abl at_ af;have al:=abk at_ rows k;rw[<-ad]at al;have al:∀g∈gs,g.rows.length<=k:=λg hg=>al g.gr (List.mem_map_of_mem hg)
   rw[<-ad]at U;clear ab au a5 bj aq a3;generalize rows[k]=x at*;unfold V5 Yt at U;generalize b5:zn x at_=key at*;cases hh:Xv (gs.map GW.gr) key with
   |true=>
    rw[hh]at U;have hp:=ara hh;rw[aU]at hp;obtain⟨gb,cap,rfl⟩:=abH o.own d8;have P:∀(W2:aI) (E2:Nat->Prop) (kv:Value),GInv A w.heap.size W2 (.slice (some ⟨gb,0,none⟩) gs.length cap) gs E2->Glb A W2->RD W2 E2 (.sl (rowD key)) kv->cB Tryz.prog 197 #[.slice (some ⟨gb,0,none⟩) gs.length cap,kv,.func (.func 198) #[] #[]] W2 λe w'=>e=.returned (.tuple #[.int .i64 (qI (gs.map GW.gr) key),.bool true])/\Grows (λ_=>False) W2 w':=λW2 E2 kv h1 h2 h3=>by have:=h1.search h2 d8 h3;rw[hh]at this;exact this
    generalize qI (gs.map GW.gr) key=p at*;clear I;obtain⟨g,hg⟩:∃g,gs[p]=g:=⟨_,rfl⟩;have bb:g∈gs:=hg▸aR hp;have b4:=al g bb
    go_wp2_with (first
     |(go_at_call 172;refine ah.mono ?_;rintro e w1 ⟨kv,rfl,ae,j⟩;obtain⟨ka,kn,kc,rfl⟩:=ajN ae)
     |(go_at_call 197;have h1:=o.grow hB j;refine(P w1 _ _ h1 (K0 hA (ZN l hB j)) ae).mono ?_;rintro e w2 ⟨rfl,R⟩;have h2:=h1.grow (bB hB j.size) R;have ai:=bB hB (bB j.size R.size);have av:=ZN (ZN l hB j) (bB hB j.size) R;have ax:=h2.rvCell hp hg;have a0:=bH (h1.kg R) _ _ (bH (o.kg j) _ _ hx))
     |(at_builtin;refine jL _ rfl (.tmp 48) (.tmp 50) 45 rfl w.heap.size tR ir (.slice none 0 0) 1 24 Tryz.underlying45 bd bf bg bh rfl dV _ _ _ rfl (((h2.rows g bb).1).alloc _) ⟨w2.heap.size,0,none⟩ 1 1 [.slice xa xn xc] rfl rfl aog (au9 hx) (by simp only[maxLen];omega) d8 dX ?_;intro b7 w3 J aa a7 _;obtain⟨bw,bu,rfl⟩:=abH J d8;obtain⟨b0,a9,aj,aw,a6⟩:=aq0 h2 ai hp a0 hg J aa a7 av))
    go_roundw
    case rel=>
     exact⟨k+1,_,_,af,by go_num,aj,(amS hp hg x _ _).trans U.symm,aw,a6⟩
    case measure=>simp[intOf];omega
   |false=>
    rw[hh]at U;have hp:=aav (gs.map GW.gr) key;have I:=I hh;rw[aU]at hp I;have P:∀(W2:aI) (E2:Nat->Prop) (kv:Value),GInv A w.heap.size W2 u5 gs E2->Glb A W2->RD W2 E2 (.sl (rowD key)) kv->cB Tryz.prog 197 #[u5,kv,.func (.func 198) #[] #[]] W2 λe w'=>e=.returned (.tuple #[.int .i64 (qI (gs.map GW.gr) key),.bool false])/\Grows (λ_=>False) W2 w':=λW2 E2 kv h1 h2 h3=>by have:=h1.search h2 d8 h3;rw[hh]at this;exact this
    generalize qI (gs.map GW.gr) key=p at*
    go_wp2_with (first
     |(go_at_call 172;refine ah.mono ?_;rintro e w1 ⟨kv,rfl,ae,j⟩;obtain⟨ka,kn,kc,rfl⟩:=ajN ae)
     |(go_at_call 197;have h1:=o.grow hB j;refine(P w1 _ _ h1 (K0 hA (ZN l hB j)) ae).mono ?_;rintro e w2 ⟨rfl,R⟩;have h2:=h1.grow (bB hB j.size) R;have ai:=bB hB (bB j.size R.size);have av:=ZN (ZN l hB j) (bB hB j.size) R;have a0:=bH (h1.kg R) _ _ (bH (o.kg j) _ _ hx);have be:=bH (h1.kg R) _ _ ae)
     |(go_at_call 199;refine(I _ w.heap.size u5 (cellsG gs) (h2.own.alloc _) dX h2.ones w2.heap.size _ _ (heap_alloc_new w2 _) (λe=>Nat.lt_irrefl _ (h2.own.lt _ e).2) rfl rfl).mono ?_;rintro e w3 ⟨v3,rfl,J,aa,_,a9⟩;obtain⟨gb,cap,rfl⟩:=abH J d8;obtain⟨a1,ar⟩:∃a1,gs.take p++[⟨key,[],Value.slice ka kn kc,.slice none 0 0,[]⟩]++gs.drop p=a1:=⟨_,rfl⟩;obtain⟨bq,h3,ak,az,ay⟩:=h2.ins ai hp be ar J aa a9;have ax:w3.cell? ⟨gb,p*2+1,none⟩=some (.slice none 0 0):=h3.rvCell az ay;have bt:=ak _ _ a0;have bk:w.heap.size<=w3.heap.size:=bB dX aa.size;have aw:Below w.heap.size w w3:=(av.grown (cU w2 _ none) ai (λk e=>by cases e)).grown aa dX (λk e=>(h2.own.lt k e).1);have a6:True:=trivial)
     |(at_builtin;refine jL _ rfl (.tmp 48) (.tmp 50) 45 rfl w.heap.size tR ir (.slice none 0 0) 1 24 Tryz.underlying45 bd bf bg bh rfl dV _ _ _ rfl (cD _ _ _ _) ⟨w3.heap.size,0,none⟩ 1 1 [.slice xa xn xc] rfl rfl aog (au9 hx) (by simp only[maxLen];omega) d8 dX ?_;intro b8 w4 ag bc a8 _;obtain⟨bz,bv,rfl⟩:=abH ag d8;obtain⟨b1,b2,aj,bm,bn⟩:=aq0 h3 bk az bt ay ag bc a8 aw))
    go_roundw
    case rel=>
     rw[bq]at aj;exact⟨k+1,_,_,af,by go_num,aj,((amS az ay x _ _).trans (by rw[<-ar,azX];rfl)).trans U.symm,bm,bn⟩
    case measure=>simp[intOf];omega
  have bp:k=rows.length:=d8
  subst bp;rw[List.take_length]at ad;clear ab
  go_wp2
  go_ret
  exact⟨_,gs,E,rfl,o,ad,l,bo⟩
def JS(gs:am Gr):am (am D):=gs.map λg=> [D.sl (rowD g.key),D.sl (zg g.rows)]
theorem aw4(l:am Gr):(JS l).length=l.length:=by simp[JS]
theorem aw3{r:am Gr}{i:Nat}(h:i<r.length):(JS r)[((i:Int)).toNat]?=some [D.sl (rowD r[i].key),D.sl (zg r[i].rows)]:=by simp[JS,am.getElem?_eq_getElem h]
def vC(at_:am Int)(rows:am (am Val)):am Gr:=if at_=[]then [⟨[],rows⟩]else uo at_ rows
theorem afA{w w':aI}(h:Below w.heap.size w w'):Grows (λ_=>False) w w':=by
 refine⟨h.os,h.tape,h.output,h.size,λb i _=>h.block b i,λb t m hs=>?_⟩;have g:b<w.heap.size:=by
  rcases Nat.lt_or_ge b w.heap.size with h|h
  .exact h
  simp[aI.shape?,Array.getElem?_eq_none h]at hs
 simp only[aI.shape?,h.block b g];exact hs
theorem ayh{w w':aI}{A:Nat->Prop}{d:D}{v:Value}(h:RD w' (λb=>(A b\/w.heap.size<=b)/\b<w'.heap.size) d v):aaY ⟨w,A,λ_=>False,λ_=>none⟩ w' (rC (.d d)) v:=by
 refine⟨bC _,λ_=>⟨none,0,.nilFunc,[]⟩,?_,?_,?_,?_,?_,?_⟩
 .show RD w' _ d v;refine bH (λb i=>⟨⟨?_,i.2,?_⟩,rfl⟩) _ _ h
  .rcases i.1 with h|h
   .exact .inl h
   exact .inr (.inr h)
  rintro⟨p,x,g,_⟩;cases g
 .intro p y g;cases g
 .intro p q y z b g;cases g
 .intro p y b g;cases g
 .intro p y g;cases g
 intro p y g;cases g
theorem ait(cols:am Col)(rows:am (am Val))(at_:am Int)(aq:rows.length<=1000000)(I:∀r∈rows,zS r.length at_)(ae:at_.length<=1000000)
 (p:∀(i:Nat) (h:i<rows.length),Xv (uo at_ (rows.take i)) (zn rows[i] at_)=false->amn (uo at_ (rows.take i)).length (qI (uo at_ (rows.take i)) (zn rows[i] at_))):
 dY Y6 [.agg [.d (.sl (zl cols)),.d (.sl (zg rows))],.c (.d (.sl (zh at_)))] (rC (.d (.sl (JS (vC at_ rows))))):=by
 by_cases R:at_=[]
 .subst R;refine zC ?_;show Sat Pg Y6 _ (DQ (rC (.d (.sl [[.sl [],.sl (zg rows)]]))));clear p I;refine W0.s T8 ?_;exact⟨rfl,rfl⟩
 have ak:at_.length≠0:=λh=>R (aS h)
 have hq:vC at_ rows=uo at_ rows:=if_neg R;rw[hq];by_cases hr:rows=[]
 .subst hr;refine zC ?_;show Sat Pg Y6 _ (DQ (rC (.d (.sl []))));have e:(((zh at_).length:Int)==0)=false:=by rw[zE];simpa using R
  clear p I;refine W0.s T8 ?_;rw[e];(conv=>whnf);refine wZ (P:=Pg) (f:=T8.f) (body:=(W0.l 0)) 1 ?_;exact⟨rfl,rfl⟩
 refine⟨dU,λw A vals hA J=>?_⟩
 match vals,J with
 |[],J=>exact J.elim
 |[_],J=>exact J.2.elim
 |_::_::_::_,J=>exact J.2.2.elim
 |[tv,av],J=>
 obtain⟨ar,au,_⟩:=J;obtain⟨vs,rfl,j⟩:=ar
 match vs,j with
 |[],j=>exact j.elim
 |[_],j=>exact j.2.elim
 |_::_::_::_,j=>exact j.2.2.elim
 |[cv,rv],j=>
 have ai:RD w A (.sl (zg rows)) rv:=j.2.1;have aa:RD w A (.sl (zh at_)) av:=au;have af:=aa;simp only[RD]at ai aa;obtain⟨a,n,c,rfl,hn,_,_,ab⟩:=ai;obtain⟨ao,an,ac,rfl,ad,_⟩:=aa;rw[zy]at hn;subst hn;rw[zE]at ad;subst ad;rcases ab with h|⟨b,o,sz,rfl,aj,ab⟩
 .exact absurd (by cases rows with|nil=>rfl|cons a r=>simp[zg]at h) hr
 have U:∀(i:Nat) (h:i<rows.length),∃u,w.cell? ⟨b,o+i,none⟩=some u/\RD w A (.sl (rowD rows[i])) u:=by
  have gen:∀(rows:am (am Val)) (o:Nat),RDs w A b sz o (zg rows)->∀(i:Nat) (h:i<rows.length),∃u,w.cell? ⟨b,o+i,none⟩=some u/\RD w A (.sl (rowD rows[i])) u:=by
   intro rows;induction rows with
   |nil=>intro o _ i h;simp at h
   |cons x r ih=>
    intro o hd i h;simp only[zg,cG,RDs,RDc]at hd;obtain⟨h1,⟨⟨u,h2,h3⟩,_⟩,h4⟩:=hd;have hs:sz=1:=by simpa using h1.symm
    subst hs;cases i with
    |zero=>exact⟨u,h2,h3⟩
    |succ i=>
     obtain⟨u,h5,h6⟩:=ih (o+1) h4 i (by simpa using h);exact⟨u,by rw[<-h5];congr 2;omega,h6⟩
  exact gen rows o ab
 refine(apZ w A hA cv b o c ao at_.length ac at_ rows ak aq af aj U I ae p).mono ?_;rintro e w' ⟨v,gs,E,rfl,ah,al,ag,aw⟩;refine⟨v,_,rfl,rfl,ayh ?_,afA ag⟩;have:=ah.data;have e:JS (uo at_ rows)=gs.map λg=> [D.sl (rowD g.key),D.sl (zg g.rows)]:=by rw[<-al];simp[JS,GW.gr]
 rw[e];exact this
end
end Go.Proofs.YtkdijaiaplkliaaGreatDoor
