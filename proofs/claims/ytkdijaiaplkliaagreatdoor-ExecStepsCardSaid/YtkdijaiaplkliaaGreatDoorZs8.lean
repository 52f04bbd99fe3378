import Derived.Test.YtkdijaiaplkliaaGreatDoorProg
import Derived.Lib.Strings
import Derived.Lib.Slices
import Derived.Lib.Walk
import Derived.Lib.Bytealg
import Derived.Lib.Mul64
import Derived.Lib.IndexMore
import Derived.Shelf.Strings.Search3
import Derived.Shelf.LaysM
import Derived.Ground.NamesProg
import Derived.WalkKit
import Derived.Laws.AppendOwn
import Derived.Laws.OwnMore
import Derived.Test.YtkdijaiaplkliaaGreatDoorZs7
set_option linter.unusedSimpArgs false
set_option linter.unusedVariables false
set_option maxRecDepth 100000
set_option maxHeartbeats 4000000
open _root_ renaming List->am,cond_false->aA,cond_true->aB,congrArg->aF,Option->aH,decide_eq_false->aJ,bne_self_eq_false->aL,of_decide_eq_false->aM,beq_self_eq_true->aQ,of_decide_eq_true->aS,reduceCtorEq->bH,decide_eq_true->bL,decide_eq_false_iff_not->bP,bne_eq_false_iff_eq->cm,beq_iff_eq->cq
open List renaming drop_eq_nil_of_le->aC,length_append->aR,eq_nil_of_length_eq_zero->bC,getElem_mem->bI,mem_cons_self->bJ,length_map->bK,take_of_length_le->bR,pairwise_cons->bS,mem_cons->bT,sizeOf_lt_of_mem->bU,take_append_drop->bV,mem_of_getElem?->bW,length_take->bX,drop_eq_getElem_cons->bY,take_succ_eq_append_getElem->b9,set_cons_succ->cn,length_singleton->cA,singleton_append->cB,mem_iff_getElem?->cC,pairwise_append->cD,map_cons->cF,mem_singleton->cG
open Go.IntKind renaming i64->aD,u64->bG,wrap_i64->cj
open Go renaming IntKind->aE,World->aN
open Nat renaming eq_of_beq_eq_true->aG,beq->aV,zero_le->aZ,le_refl->bE,lt_of_lt_of_le->bQ,lt_of_le_of_lt->bZ,le_of_ble_eq_true->cg
open Bool renaming false_eq_true->aI,true_eq_false->aO,or_false->aP,and_false->aU,false_or->aW,true_and->aX,not_true->aY,false_and->bA,not_false->bB,or_eq_true->bD,and_true->bF,or_eq_false_iff->bM,true_or->bN,or_true->bO
open Go.Op renaming bytesLess->aK
open Option renaming bind_eq_some_iff->aT,map_eq_some_iff->cd
open Go.AM.RD renaming keep->ck
open SizeOf renaming sizeOf->cr
open BitVec renaming ofInt->cw
open Go.Lib renaming half_mul_le->cz
open Go.ByteArray renaming toList_eq->cE
namespace Go.AM
mutual
def bnd:D ->Prop
 | .lit _=>True
 | .sl l=>l.length<=9223372036854775807 /\bnds l
 | .fn _ _=>True
 | .ifc _ l=>bndc l
 | .mp _ ks l=>ks.Nodup /\ks.length=l.length /\bnds l
def bnds:am (am D) ->Prop
 | []=>True
 |e::r=>bndc e /\bnds r
def bndc:am D ->Prop
 | []=>True
 |d::r=>bnd d /\bndc r
end
mutual
theorem akl {w:aN}{ok:Nat ->Prop}: ∀(d:D) (v:Value),RD w ok d v ->bnd d
 | .lit _,_,_=>by simp only[bnd]
 | .sl l,v,h=>by
   simp only[RD]at h;obtain⟨a,n,c,J,j,P,i,g⟩:=h;simp only[bnd];refine⟨by rw[<- j];simp only[maxLen]at i;omega,?_⟩;rcases g with g|⟨b,o,sz,_,_,p⟩
   ·subst g;simp only[bnds]
   exact RDs_bnd l b sz o p
 | .fn _ _,_,_=>by simp only[bnd]
 | .ifc t l,v,h=>by
   simp only[RD]at h;obtain⟨vs,_,j⟩:=h;simp only[bnd];exact RDv_bnd l vs j
 | .mp ag ks l,v,h=>by
   simp only[RD]at h;obtain⟨b,r,clock,_,_,_,i,g⟩:=h;obtain⟨p,I⟩:=RDe_bnd ag l r.toList g;simp only[bnd];exact⟨i.2.1,by rw[<- i.1,bK,p],I⟩
theorem RDe_bnd {w:aN}{ok:Nat ->Prop}(ag:Bool): ∀(l:am (am D)) (g:am MapEntry),RDe w ok ag g l ->g.length=l.length /\bnds l
 | [],g,h=>by simp only[RDe]at h;subst h;simp only[bnds];exact⟨rfl,trivial⟩
 |e::r,g,h=>by
  simp only[RDe]at h;obtain⟨m,i,vs,rfl,_,j,o⟩:=h;obtain⟨p,I⟩:=RDe_bnd ag r i o;simp only[bnds];exact⟨by simp[p],RDv_bnd e vs j,I⟩
theorem RDv_bnd {w:aN}{ok:Nat ->Prop}: ∀(l:am D) (vs:am Value),RDv w ok vs l ->bndc l
 | [],_,_=>by simp only[bndc]
 |d::r,vs,h=>by
  simp only[RDv]at h;simp only[bndc];obtain⟨v,g,_,i,j⟩:=h;exact⟨akl d v i,RDv_bnd r g j⟩
theorem RDs_bnd {w:aN}{ok:Nat ->Prop}: ∀(l:am (am D)) (b sz o:Nat),RDs w ok b sz o l ->bnds l
 | [],_,_,_,_=>by simp only[bnds]
 |e::r,b,sz,o,h=>by
  simp only[RDs]at h;simp only[bnds];exact⟨RDc_bnd e b o h.2.1,RDs_bnd r b sz (o+sz) h.2.2⟩
theorem RDc_bnd {w:aN}{ok:Nat ->Prop}: ∀(l:am D) (b o:Nat),RDc w ok b o l ->bndc l
 | [],_,_,_=>by simp only[bndc]
 |d::r,b,o,h=>by
  simp only[RDc]at h;simp only[bndc];obtain⟨⟨v,_,g⟩,i⟩:=h;exact⟨akl d v g,RDc_bnd r b (o+1) i⟩
end
theorem atq {l:am (am D)}:bnds l↔ ∀e∈l,bndc e:=by
 induction l with
 |nil=>simp[bnds]
 |cons x r g=>simp[bnds,g]
def Kl:C ->Prop
 | .d x=>bnd x
 | .fp l=>bndc l
 |_=>True
def ag1:W ->Prop
 | .c x=>Kl x
 | .agg cs=> ∀x∈cs,Kl x
theorem aqI {ι:Nat ->Gh}{w:aN}{ok:Nat ->Prop}{c:C}{v:Value}(h:CR ι w ok c v):Kl c:=by
 cases c with
 |d x=>exact akl x v h
 |fp l=>obtain⟨b,o,_,_,h⟩:=h;exact RDc_bnd l b o h
 |_=>trivial
theorem anV {ι:Nat ->Gh}{w:aN}{ok:Nat ->Prop}: ∀{cs:am C}{vs:am Value},CRs ι w ok cs vs -> ∀c∈cs,Kl c
 | [],_,_,c,g=>by cases g
 |x::r,[],h,_,_=>h.elim
 |x::r,v::vs,h,c,g=>by
  rcases bT.1 g with rfl|g
  ·exact aqI h.1
  exact anV h.2 c g
theorem axg {ι:Nat ->Gh}{w:aN}{ok:Nat ->Prop}{x:W}{v:Value}(h:WR ι w ok x v):ag1 x:=by
 cases x with
 |c x=>exact aqI h
 |agg cs=>obtain⟨vs,_,h⟩:=h;exact anV h
theorem anY {ι:Nat ->Gh}{w:aN}{ok:Nat ->Prop}: ∀{xs:am W}{vs:am Value},qd ι w ok xs vs -> ∀x∈xs,ag1 x
 | [],_,_,c,g=>by cases g
 |x::r,[],h,_,_=>h.elim
 |x::r,v::vs,h,c,g=>by
  rcases bT.1 g with rfl|g
  ·exact axg h.1
  exact anY h.2 c g
theorem Ud {P:Program}{k:Nat}{args:am W}{Q:Res ->Prop}(hk:xT P k=true)(h:(∀x∈args,ag1 x) ->Sat P k args Q):Sat P k args Q:=
 ⟨hk,λw A vals hA g=>(h (anY g)).2 w A vals hA g⟩
theorem w8 {P:Program}{k:Nat}{args:am W}{Q:Res ->Prop}(i:Nat){l:am (am D)}(hk:xT P k=true)(hi:args[i]? =some (.c (.d (.sl l))))(h:l.length<=9223372036854775807 ->Sat P k args Q):Sat P k args Q:=
 Ud hk λg=>h (by
  have:=g _ (bW hi);simp only[ag1,Kl,bnd]at this;exact this.1)
theorem zC {i:Nat}{n:Nat}(h:i<n)(g:n<=9223372036854775807):aD.wrap ((i:Int)+1)=((i+1:Nat):Int):=by
 rw[cj];omega
theorem yk {n:Int}(g: -9223372036854775808<=n)(i:n<=9223372036854775807):aD.wrap n=n:=by
 rw[cj];omega
noncomputable def andR (l:am Prop)(K:Prop):Prop:=List.rec (motive:=λ_=>Prop) K (λp _ g=>p /\g) l
theorem an1: ∀(l:am Prop) (K:Prop),andR l K=je l K
 | [],_=>rfl
 |p::r,K=>by
  show(p /\andR r K)=(p /\je r K);rw[an1 r K]
noncomputable def forceN (l:am Nat)(K:am Nat ->Prop):Prop:=List.rec (motive:=λ_=>(am Nat ->Prop) ->Prop) (λK=>K []) (λx _ g K=>g (λr=>K (x::r))) l K
theorem aiq: ∀(l:am Nat) (K:am Nat ->Prop),forceN l K=K l
 | [],_=>rfl
 |x::r,K=>aiq r λr=>K (x::r)
noncomputable def aCallR (P:Program)(dst:aH Nat)(f:FuncId)(args:am W)(s:S)(K:S ->Prop):Prop:=
 forceN (ud s.pl [] (ZZ args)) λU=>
  zA P f (args.map (W.pk s.pl U)) (uy s.pl U 0 U) λr=>cond (Ub U (Xe dst U) r) (K (ac8 s U (Xe dst U) dst r)) False
noncomputable def aopR (P:Program)(dst:aH Tmp)(op:AOp)(s:S)(K:S ->Prop):Prop:=
 match op with
 | .callh f args=>aCallR P dst f (args.map s.ow) s K
 |op=>zH P dst op s K
theorem avZ (P:Program):aopR P=zH P:=by
 funext dst op s K;cases op<;>try rfl
 simp_all[aopR,zH,aCallR,afb,aiq]
noncomputable def opsG (ap:aH Tmp ->AOp ->S ->(S ->Prop) ->Prop)(f:FuncId ->am W ->aH W)(n:Nat):am AI ->S ->(S ->Prop) ->Prop:=
 Nat.rec (motive:=λ_=>am AI ->S ->(S ->Prop) ->Prop) (λ_ _ _=>False) (λ_ j ops s K=>match ops with
  | []=>K s
  | .mk dst g p op drop::r=>
    match g with
    |none=>match dst with
     |none=>ap none op s λl=>xG (l.drop drop) λi=>j r i K
     |some d=>Jy f op s (ap (some d) op s λl=>split p (some d) l λi=>xG (i.drop drop) λi=>j r i K) λI v=>
      bif p then
       xG (s.put (some d) v) λl=>scK f 100 none (some d) drop r l (andR I (split true (some d) l λi=>xG (i.drop drop) λi=>j r i K)) λJ i P=>
        andR I (andR J (j P i K))
      else andR I (xG ((s.put (some d) v).drop drop) λi=>j r i K)
    |some (d,o)=>match s.tmp d with
     | .w (.c (.d (.lit (.bool b))))=>
       bif (bif b then o else !o)then ap dst op s λl=>split p dst l λi=>xG (i.drop drop) λi=>j r i K
       else xG ((s.put dst qz).drop drop) λs=>j r s K
     | .tup []=>xG ((s.put dst qz).drop drop) λs=>j r s K
     |_=>False) n
theorem aox (P:Program)(f:FuncId ->am W ->aH W): ∀n,opsG (zH P) f n=qm P f n
 |0=>by
  funext ops s K;unfold qm;rfl
 |n+1=>by
  funext ops s K;have j:=aox P f n;cases ops with
  |nil=>unfold qm;rfl
  |cons i r=>
   obtain⟨dst,g,l,op,drop⟩:=i;unfold qm;rw[<- j];simp only[<- an1];rfl
noncomputable def opsR (P:Program)(f:FuncId ->am W ->aH W)(n:Nat):am AI ->S ->(S ->Prop) ->Prop:=opsG (aopR P) f n
theorem aoy (P:Program)(f:FuncId ->am W ->aH W)(n:Nat):opsR P f n=qm P f n:=by
 grind[opsR,avZ,aox]
noncomputable def mwtrR (P:Program)(f:FuncId ->am W ->aH W)(t:ATr):S ->(S ->Prop) ->Prop:=
 ATr.rec (motive:=λ_=>S ->(S ->Prop) ->Prop) (λs K=>K s) (λops _ i s K=>opsR P f 1000 ops s λj=>i j K) (λ_ _ ia g s K=>ia s K /\g s K) t
theorem gR (P:Program)(f:FuncId ->am W ->aH W): ∀t,mwtrR P f t=KE P f t
 | .fin=>rfl
 | .run ops t=>by
   funext s K;unfold KE;rw[<- gR P f t,<- aoy];rfl
 | .br a b=>by
   funext s K;unfold KE;rw[<- gR P f a,<- gR P f b];rfl
noncomputable def mwpR (P:Program)(f:FuncId ->am W ->aH W)(c:ACode):(E ->S ->Prop) ->S ->Prop:=
 ACode.rec (motive:=λ_=>(E ->S ->Prop) ->S ->Prop)
  (λQ s=>Q .normal s)
  (λops Q s=>opsR P f 1000 ops s (Q .normal))
  (λ_ _ ia g Q s=>ia (Vp g Q) s)
  (λc _ _ ia g Q s=>match yC (s.o c)with
   |some t=>cond t (ia Q s) (g Q s)
   |none=>False)
  (λid _ ia Q s=>ia (j5 id Q) s)
  (λj _ g Q s=>zY g j Q s)
  (λ_ ia Q s=>ia Q s)
  (λi Q s=>Q (.exit i) s)
  (λQ s=>Q .ret s)
  (λt Q s=>mwtrR P f t s (Q .normal)) c
theorem Zg (P:Program)(f:FuncId ->am W ->aH W): ∀c,mwpR P f c=j9 P f c
 | .skip=>by funext Q s;unfold j9;rfl
 | .reg ops=>by
   funext Q s;unfold j9;rw[<- aoy];rfl
 | .seq a b=>by
   funext Q s;unfold j9;rw[<- Zg P f a,<- Zg P f b];rfl
 | .cond c a b=>by
   funext Q s;unfold j9;rw[<- Zg P f a,<- Zg P f b];rfl
 | .block i a=>by
   funext Q s;unfold j9;rw[<- Zg P f a];rfl
 | .loop k b=>by
   funext Q s;unfold j9;rw[<- Zg P f b];rfl
 | .scope a=>by
   funext Q s;unfold j9;rw[<- Zg P f a];rfl
 | .exit i=>by funext Q s;unfold j9;rfl
 | .ret=>by funext Q s;unfold j9;rfl
 | .tree t=>by
   funext Q s;unfold j9;rw[<- gR];rfl
noncomputable def wpF (P:Program)(f:FuncId ->am W ->aH W)(F:AFun)(args:am W)(Q:Res ->Prop):Prop:=
 xG ⟨ZL 0 args,[]⟩ λs=>mwpR P f F.code (Qf F.res [] Q) s
noncomputable def wpFH (P:Program)(f:FuncId ->am W ->aH W)(F:AFun)(args:am W)(hs:am Pl)(Q:Res ->Prop):Prop:=
 xG ⟨ZL 0 (args.map (W.ren ((uS 100000 hs).map some))),jS 100000 (hs.map (Pl.ren ((uS 100000 hs).map some)))⟩ λs=>
  mwpR P f F.code (Qf F.res (uS 100000 hs) Q) s
theorem xq {P:Program}{k:Nat}{ords:am (Nat×am Nat)}{A:AFun}{args:am W}{Q:Res ->Prop}(T:Tab P)(g:cFun P ords k=some A.erase)(i:xT P k=true)(h:wpF P T.f A args Q):Sat P k args Q:=by
 refine am0 T g i ?_<;>simp_all[wpF,aud,Zg]
theorem xX {P:Program}{k:Nat}{ords:am (Nat×am Nat)}{A:AFun}{args:am W}{hs:am Pl}{Q:Res ->Prop}(T:Tab P)(g:cFun P ords k=some A.erase)(i:xT P k=true)(j:hs.length<=1000)(h:wpFH P T.f A args hs Q):zA P k args hs Q:=by
 refine ajb T g i j ?_<;>simp_all[wpFH,apN,Zg]
theorem JT {P:Program}{f:FuncId ->am W ->aH W}(c:ACode){Q Q':E ->S ->Prop}(g: ∀e s,Q e s ->Q' e s)(s:S):mwpR P f c Q s ->mwpR P f c Q' s:=by
 rw[Zg];grind[ZV]
theorem yq {P:Program}{f:FuncId ->am W ->aH W}{body:ACode}{g:am Nat}{Q:E ->S ->Prop}{s:S}{ι:Type}(σ:ι ->S)(μ:ι ->Nat)(R:ι ->Prop)(h0: ∃i,R i /\yX s g (· =σ i))
 (l: ∀i,R i ->mwpR P f body (JQ (λo=> ∃j,(R j /\μ j<μ i)/\yX o g (· =σ j)) Q) (σ i)):zY (mwpR P f body) g Q s:=
 at3 (JT body) σ μ R h0 l
theorem yx {P:Program}{f:FuncId ->am W ->aH W}{body:ACode}{g:am Nat}{Q:E ->S ->Prop}{s:S}(n:Nat)(σ:Nat ->S)(R:Nat ->Prop)(h0:R 0 /\yX s g (· =σ 0))
 (J: ∀i,i<=n ->R i ->mwpR P f body (JQ (λj=>i<n /\R (i+1)/\yX j g (· =σ (i+1))) Q) (σ i)):zY (mwpR P f body) g Q s:=by
 refine yq σ (λi=>n - i) (λi=>i<=n /\R i) ⟨0,⟨aZ _,h0.1⟩,h0.2⟩ ?_;rintro i ⟨l,o⟩;refine JT body (λe j h=>?_) _ (J i l o);cases e with
 |normal=>
  obtain⟨p,r,I⟩:=h;exact⟨i+1,⟨⟨p,r⟩,by omega⟩,I⟩
 |exit k=>exact h
 |ret=>exact h
def ag9:am Nat ->am Nat ->am Nat
 | [],b=>b
 |x::r,b=>x::ag9 r b
def jk (b:am Nat):am Nat ->am Nat
 | []=> []
 |x::r=>bif isin x b then jk b r else x::jk b r
def KP (a b:am Nat):am Nat:=ag9 a (jk a b)
def fL {α:Type}:am Nat ->(am Nat ->α) ->α
 | [],K=>K []
 |x::r,K=>fL r λs=>K (x::s)
def Z6:O ->am Nat ->am Nat
 | .t n,l=>n::l
 | .k _,l=>l
def aqA:am O ->am Nat ->am Nat
 | [],l=>l
 |x::r,l=>Z6 x (aqA r l)
def axX:aH O ->am Nat ->am Nat
 |some x,l=>Z6 x l
 |none,l=>l
def axY:am (Nat×Nat×O) ->am Nat ->am Nat
 | [],l=>l
 |x::r,l=>Z6 x.2.2 (axY r l)
def aqz:am Operand ->am Nat
 | []=> []
 | .tmp t::r=>t::aqz r
 |_::r=>aqz r
def usA:AOp ->am Nat
 | .cap x| .clr _ _ x| .slen x| .bnot x| .ineg x| .conv _ x| .mov x| .bx x| .ld _ _ x| .nc x| .b2s x| .s2b x| .fa _ x| .fld _ _ _ x| .ext x _| .len x| .isn _ x=>Z6 x []
 | .pick a b c| .mmt _ a b c=>Z6 a (Z6 b (Z6 c []))
 | .alloc _=> []
 | .build _ g=>axY g []
 | .lits _ g=>aqA g []
 | .st _ a x=>Z6 a (Z6 x [])
 | .clo _ l| .clof _ l| .callh _ l| .call _ l=>aqA l []
 | .eqa _ _ a b| .beq _ a b| .shf _ a b| .cpy _ a b| .ia _ a b| .six a b| .app _ _ a b| .appz _ _ _ a b| .apps a b| .bin _ a b| .mm _ a b| .mk _ _ _ a b=>Z6 a (Z6 b [])
 | .stop=> []
 | .sli _ x a b| .slw _ x a b| .sls x a b=>Z6 x (axX a (axX b []))
 | .pure o _=>aqz o.operands.toList
 | .calv x l| .inv _ x l=>Z6 x (aqA l [])
 | .mki _ x| .ast _ _ x=>Z6 x []
 | .mkm _=> []
 | .lku _ _ _ _ x i=>Z6 x (Z6 i [])
 | .mup _ _ m k v=>Z6 m (Z6 k (Z6 v []))
 | .rng x=>Z6 x []
 | .nxt x=>Z6 x []
 | .ent x=>Z6 x []
def apS:aH Nat ->am Nat
 |some d=> [d]
 |none=> []
def ayG:aH (Nat×Bool) ->am Nat
 |some x=> [x.1]
 |none=> []
def apc {α:Type}(out:am Nat):am AI ->(am AI ->am Nat ->α) ->α
 | [],K=>K [] out
 | .mk d g i op _::r,K=>apc out r λxs l=>fL (KP (jk (apS d) l) (ag9 (usA op) (ayG g))) λj=>K (.mk d g i op l::xs) j
def apx {α:Type}(i:am Nat):am AI ->(am AI ->am Nat ->α) ->α
 | [],K=>K [] i
 | .mk d g j op l::r,K=>fL (KP i (apS d)) λo=>fL (jk l o) λp=>fL (jk p o) λI=>apx I r λxs e=>K (.mk d g j op p::xs) e
def eqO (d:Nat):aH Nat ->Bool
 |some e=>aV e d
 |none=>false
def avL (d:Nat):am AI ->am AI ->am AI
 | [],j=>j
 | .mk e g i o l::r,j=>bif eqO d e then j else avL d r (.mk e g i o l::j)
def apm {α:Type}:am AI ->am Nat ->am Nat ->(am Nat ->am Nat ->α) ->α
 | [],U,c,K=>K U c
 | .mk e g _ _ i::r,U,c,K=>match g with
   |some q=>bif isin q.1 U then apm r (ag9 (apS e) U) (ag9 (apS e) (ag9 i c)) K else apm r U c K
   |none=>apm r U c K
def aty:am Nat ->am Nat
 | []=> []
 |x::r=>bif isin x r then aty r else x::aty r
def aym:am Nat ->Bool
 |_::_::_=>true
 |_=>false
def aps {α:Type}:am AI ->am AI ->(am AI ->am AI ->α) ->α
 |i,[],K=>K [] i
 |i,.mk dst g j op drop::r,K=>
  match op with
  | .pick (.t d) _ _=>apm (avL d i []) [d] [] λU col=>fL (bif aym U then KP drop (KP (aty col) [d])else drop) λl=>aps (.mk dst g j op l::i) r λxs a=>K (.mk dst g j op l::xs) a
  |_=>aps (.mk dst g j op drop::i) r λxs a=>K (.mk dst g j op drop::xs) a
def bwT {α:Type}(out:am Nat):ATr ->(ATr ->am Nat ->α) ->α
 | .fin,K=>K .fin out
 | .run ops t,K=>bwT out t λt2 l=>apc l ops λxs g=>K (.run xs t2) g
 | .br a b,K=>bwT out a λx i=>bwT out b λy j=>fL (KP i j) λl=>K (.br x y) l
def fwT {α:Type}:ATr ->am Nat ->am AI ->(ATr ->am Nat ->α) ->α
 | .fin,d,_,K=>K .fin d
 | .run ops t,d,g,K=>apx d ops λxs j=>aps g xs λys i=>fwT t j i λt2 l=>K (.run ys t2) l
 | .br a b,d,g,K=>fwT a d g λx j=>fwT b d g λy l=>fL (KP j l) λe=>K (.br x y) e
def axk (i:Nat):am (Nat×am Nat) ->am Nat
 | []=> []
 |(j,l)::r=>bif aV j i then l else axk i r
def bwC {α:Type}:ACode ->am (am Nat) ->am (Nat×am Nat) ->am Nat ->am Nat ->(ACode ->am Nat ->am (am Nat) ->α) ->α
 | .skip,ks,_,_,out,K=>K .skip out ks
 | .reg ops,ks,_,_,out,K=>apc out ops λxs l=>K (.reg xs) l ks
 | .seq a b,ks,k,r,out,K=>bwC b ks k r out λy l ks=>bwC a ks k r l λx g ks=>K (.seq x y) g ks
 | .cond c a b,ks,k,r,out,K=>bwC b ks k r out λy o ks=>bwC a ks k r out λx j ks=>fL (Z6 c (KP j o)) λl=>K (.cond c x y) l ks
 | .block i a,ks,k,r,out,K=>bwC a ks ((i,out)::k) r out λx l ks=>K (.block i x) l ks
 | .loop _ a,ks,k,r,_,K=>match ks with
   |q::ks=>bwC a ks k r q λx _ ks=>K (.loop q x) q ks
   | []=>K .skip [] []
 | .scope a,ks,k,r,out,K=>bwC a ks k r out λx l ks=>K (.scope x) l ks
 | .exit i,ks,k,_,_,K=>fL (axk i k) λl=>K (.exit i) l ks
 | .ret,ks,_,r,_,K=>K .ret r ks
 | .tree t,ks,_,_,out,K=>bwT out t λx l=>K (.tree x) l ks
def fwC {α:Type}:ACode ->am Nat ->(ACode ->am Nat ->α) ->α
 | .skip,d,K=>K .skip d
 | .reg ops,d,K=>apx d ops λxs g=>aps [] xs λys _=>K (.reg ys) g
 | .seq a b,d,K=>fwC a d λx g=>fwC b g λy j=>K (.seq x y) j
 | .cond c a b,d,K=>fwC a d λx g=>fwC b d λy j=>fL (KP g j) λe=>K (.cond c x y) e
 | .block i a,d,K=>fwC a d λx g=>fL (KP g d) λe=>K (.block i x) e
 | .loop q a,d,K=>fwC a q λx g=>fL (KP g q) λe=>K (.loop q x) e
 | .scope a,d,K=>fwC a d λx g=>K (.scope x) g
 | .exit i,d,K=>K (.exit i) d
 | .ret,d,K=>K .ret d
 | .tree t,d,K=>fwT t d [] λx g=>K (.tree x) g
def auy:am ARes ->am Nat
 | []=> []
 | .tmp t::r=>t::auy r
 | .cell a _ _::r=>a::auy r
def avC (P:Program):am Field ->aH (am Nat)
 | []=>some []
 |f::r=>match acQ P f.type,avC P r with
  |some k,some l=>some (k::l)
  |_,_=>none
def axq (P:Program)(t:TypeId):aH (am Nat):=match P.underlying t with
 |some (.struct g)=>avC P g.toList
 |_=>none
def ayC (P:Program)(op:Op)(ty:TypeId):aH AOp:=match op with
 | .binOp b t x y _=>match kF P b t y with
   |some neg=>some (.isn neg (cO x))
   |none=>match axq P t with
    |some n=>match b with
     | .eql=>some (.eqa false n (cO x) (cO y))
     | .neq=>some (.eqa true n (cO x) (cO y))
     |_=>none
    |none=>match VK P b t x y with
     |some z=>some z
     |none=>bif g8 b&&acT P t then some (.bin b (cO x) (cO y))else some (.pure op ty)
 |op=>cOp P op ty
def aj4 (P:Program)(hs:am Nat)(all:am Oper)(gs:am Nat):am Nat ->aH (am AI)
 | []=>some []
 |i::r=>match all[i]? with
  |some o=>match(bif isin i hs then att P o.op o.type else ayC P o.op o.type),ZE all o.guard,aj4 P hs all gs r with
   |some x,some g,some l=>some (.mk o.dst g (isin i gs) x []::l)
   |_,_,_=>none
  |none=>none
def afi (P:Program)(hs:am Nat)(all:am Oper)(gs:am Nat):Tr ->aH ATr
 | .fin=>some .fin
 | .run l t=>match aj4 P hs all gs l,afi P hs all gs t with
   |some x,some y=>some (.run x y)
   |_,_=>none
 | .br a b=>match afi P hs all gs a,afi P hs all gs b with
   |some x,some y=>some (.br x y)
   |_,_=>none
def ax2 (P:Program)(N:Nat)(ords:am (Nat×am Nat))(id:Nat)(ops:am Oper):Bool ->aH ACode
 |false=>(aj4 P (vA ords id) ops (uK ops) (zN 0 ops.length)).map .reg
 |true=>match aget ords (2000000+id)with
  |some l=>match ak2 300 l with
   |some (t,_)=>(afi P (vA ords id) ops (uK ops) t).map .tree
   |none=>none
  |none=>match aget ords id with
   |some g=>(aj4 P (vA ords id) ops (uK ops) g).map .reg
   |none=>none
def WE (P:Program)(N:Nat)(ords:am (Nat×am Nat)):Code ->aH ACode
 | .skip=>some .skip
 | .region id ops d=>ax2 P N ords id ops.toList d
 | .seq a b=>match WE P N ords a,WE P N ords b with
   |some x,some y=>some (.seq x y)
   |_,_=>none
 | .cond c a b=>match WE P N ords a,WE P N ords b with
   |some x,some y=>some (.cond (cO c) x y)
   |_,_=>none
 | .block i a=>(WE P N ords a).map (.block i)
 | .loop a=>(WE P N ords a).map (.loop [])
 | .scope a=>(WE P N ords a).map .scope
 | .label _=>some .skip
 | .exit i=>some (.exit i)
 | .ret=>some .ret
 |_=>none
def ayB (P:Program)(ords:am (Nat×am Nat))(ks:am (am Nat))(k:Nat):aH AFun:=match P.funcs[k]? with
 |some fn=>match fn.body with
  |some c=>match WE P fn.ntmps ords c,abd P fn.results.toList with
   |some x,some r=>bwC x ks [] (auy r) [] λy _ _=>fwC y (zN 0 (fn.params.size+fn.nfree)) λz _=>some ⟨z,r⟩
   |_,_=>none
  |none=>none
 |none=>none
structure CC (P:Program)(k:Nat) where
 o:am (Nat×am Nat)
 A:AFun
 ok:cFun P o k=some A.erase
theorem u8r (n:Nat)(h:n<256):UInt8.ofBitVec (BitVec.ofFin ⟨n,h⟩)=UInt8.ofNat n:=by
 apply UInt8.toNat_inj.1;show n=(OfNat.ofNat n:UInt8).toNat;rw[UInt8.toNat_ofNat];exact(Nat.mod_eq_of_lt h).symm
theorem amk {α:Type}(l:am α):Array.mk l=l.toArray:=rfl
def ev {α:Type}(x:α){y:α}(h:x=y:=by conv=>lhs;reduce;simp only[u8r,amk,UInt8.reduceOfNat,Int.reduceOfNat,Int.reduceNegSucc]):{y:α //x=y}:=⟨y,h⟩
def X4:ACode ->am ACode ->am ACode
 | .seq a b,l=>X4 b (X4 a l)
 | .cond _ a b,l=>X4 b (X4 a l)
 | .block _ a,l=>X4 a l
 | .loop _ a,l=>a::X4 a l
 | .scope a,l=>X4 a l
 |_,l=>l
def axE:Nat ->am ACode ->ACode
 |_,[]=>.skip
 |0,x::_=>x
 |n+1,_::r=>axE n r
def axA:am ACode ->Nat
 | []=>0
 |_::r=>axA r+1
def CC.l {P:Program}{k:Nat}(c:CC P k)(n:Nat):ACode:=axE (axA (X4 c.A.code []) - 1 - n) (X4 c.A.code [])
theorem Sat.w {P:Program}{k:Nat}{args:am W}{R:Res}{Q:Res ->Prop}{p g:Prop}(h:Sat P k args (λr=>r=R))(l:p)(j:Sat P k args Q=g:=by(conv=>rhs;whnf)<;>exact rfl)(i:Q R=p:=by(conv=>lhs;whnf)<;>exact rfl):g:=by
 subst i j;exact h.mono λ_ e=>by grind
theorem zi {b:Bool}{p q g:Prop}(i:b=true ->p)(j:b=false ->q)(e:cond b p q=g:=by(conv=>rhs;whnf)<;>exact rfl):g:=by
 grind
theorem Sat.cal {P:Program}{k:Nat}{args:am W}{R:Res}{Q:Res ->Prop}(h:Sat P k args (λr=>r=R))(g:Q R):Sat P k args Q:=h.mono λ_ e=>by grind
theorem CC.s {P:Program}{k:Nat}(c:CC P k)(T:Tab P){args:am W}{Q:Res ->Prop}{p:Prop}(h:p)(e:wpF P T.f c.A args Q=p:=by(conv=>lhs;whnf)<;>exact rfl)(g:xT P k=true:=by kernel_rfl):Sat P k args Q:=xq T c.ok g (e▸h)
theorem yu {B g:Prop}{n:Int}{l:am (am D)}{sz:Nat}{y:am D}{K:am D ->Prop}{p:Prop}(j:B)(o:p)(e:(0<=n /\ ∃y,l[n.toNat]? =some y /\y.length=sz /\K y)=g:=by(conv=>rhs;whnf)<;>exact rfl)(hB:B=(l[n.toNat]? =some y):=by exact rfl)(hA:0<=n:=by omega)(hC:y.length=sz:=by exact rfl)(i:K y=p:=by(conv=>lhs;whnf)<;>exact rfl):g:=by
 subst e i;exact⟨hA,y,hB▸j,hC,o⟩
theorem vw {g:Prop}{n:Int}{l:am (am D)}{sz:Nat}{y:am D}{K:am D ->Prop}{p:Prop}(j:p)(e:(0<=n /\ ∃y,l[n.toNat]? =some y /\y.length=sz /\K y)=g:=by(conv=>rhs;whnf)<;>exact rfl)(hB:l[n.toNat]? =some y:=by exact rfl)(hA:0<=n:=by omega)(hC:y.length=sz:=by exact rfl)(i:K y=p:=by(conv=>lhs;whnf)<;>exact rfl):g:=by
 subst e i;exact⟨hA,y,hB,hC,j⟩
theorem wu {A B C K g p:Prop}(j:p)(e:(A /\B /\C /\K)=g:=by(conv=>rhs;whnf)<;>exact rfl)(hA:A:=by simp)(hB:B:=by unfold ym;simp;omega)(hC:C:=by simp;omega)(i:K=p:=by(conv=>lhs;whnf)<;>exact rfl):g:=by
 subst e i;exact⟨hA,hB,hC,j⟩
theorem xW {A B K g p:Prop}(j:p)(e:(A /\B /\K)=g:=by(conv=>rhs;whnf)<;>exact rfl)(hA:A:=by omega)(hB:B:=by omega)(i:K=p:=by(conv=>lhs;whnf)<;>exact rfl):g:=by
 subst e i;exact⟨hA,hB,j⟩
theorem aw1 {A K g p:Prop}(j:p)(e:(A /\K)=g:=by(conv=>rhs;whnf)<;>exact rfl)(hA:A:=by first|exact rfl|omega)(i:K=p:=by(conv=>lhs;whnf)<;>exact rfl):g:=by
 subst e i;exact⟨hA,j⟩
theorem ow {α:Type}{A K:α ->Prop}{y:α}{g p:Prop}(j:p)(e:(∃y,A y /\K y)=g:=by(conv=>rhs;whnf)<;>exact rfl)(hA:A y:=by exact rfl)(i:K y=p:=by(conv=>lhs;whnf)<;>exact rfl):g:=by
 subst e i;exact⟨y,hA,j⟩
theorem y6 {A B g p:Prop}{s:S}{i:am Nat}{I:S ->Prop}(hA:A)(hB:B)(l:p)(e:(A /\B /\yX s i I)=g:=by(conv=>rhs;whnf)<;>exact rfl)(j:VX s i I=p:=by(conv=>lhs;whnf)<;>exact rfl):g:=by
 subst e j;exact⟨hA,hB,ze l⟩
theorem WS {P:Program}(T:Tab P)(body:ACode)(n:Nat)(σ:Nat ->S)(R:Nat ->Prop){j:am Nat}{Q:E ->S ->Prop}{s:S}{g:Prop}
 (l: ∀i,i<=n ->R i ->mwpR P T.f body (JQ (λp=>i<n /\R (i+1)/\yX p j (· =σ (i+1))) Q) (σ i)) (e:zY (mwpR P T.f body) j Q s=g:=by(conv=>rhs;whnf)<;>exact rfl) (h0:R 0:=by first|exact trivial|exact rfl) (o:VX s j (· =σ 0):=by(conv=>whnf)<;>exact rfl):g:=by
 subst e;exact yx n σ R ⟨h0,ze o⟩ l
theorem jH {i n:Nat}{p q g:Prop}(j:i<n ->p)(l:n<=i ->q)(e:cond (decide ((i:Int)<(n:Int))) p q=g:=by(conv=>rhs;whnf)<;>exact rfl):g:=by
 subst e;cases h:decide ((i:Int)<(n:Int))
 ·exact l (by have:=aM h;omega)
 exact j (by have:=aS h;omega)
theorem rgE {i n:Nat}{p q g:Prop}(j:i<n ->p)(l:i=n ->q)(e:cond (decide ((i:Int)<(n:Int))) p q=g:=by(conv=>rhs;whnf)<;>exact rfl)(hi:i<=n:=by omega):g:=
 jH j (λh=>l (Nat.le_antisymm hi h)) e
end Go.AM
namespace Go.Proofs.YtkdijaiaplkliaaGreatDoor
open Go Go.AM
noncomputable abbrev Pg:Program:=Tryz.prog
def wH:Nat:=3
def vR:Nat:=7
def YX:Nat:=8
def aju:Nat:=9
def qR:Nat:=10
def vy:Nat:=11
def wx:Nat:=12
def alw:Nat:=13
def alq:Nat:=15
def arL:Nat:=17
def ZQ:Nat:=18
def ajw:Nat:=19
def ahi:Nat:=20
def adI:Nat:=21
def ans:Nat:=22
def aet:Nat:=23
def Qm:Nat:=24
def abG:Nat:=25
def ahj:Nat:=26
def um:Nat:=27
def jQ:Nat:=28
def xH:Nat:=29
def wY:Nat:=30
def Yl:Nat:=31
def Kz:Nat:=32
def ajy:Nat:=33
def zK:Nat:=34
def qJ:Nat:=35
def afQ:Nat:=36
def anm:Nat:=37
def anv:Nat:=38
def anu:Nat:=39
def abJ:Nat:=40
def abI:Nat:=41
def Ky:Nat:=42
def UO:Nat:=43
def kC:Nat:=44
def xU:Nat:=45
def aaE:Nat:=46
def VW:Nat:=47
def Yh:Nat:=48
def XL:Nat:=49
def q0:Nat:=50
def XK:Nat:=51
def Qj:Nat:=52
def aaD:Nat:=53
def ahm:Nat:=54
def XM:Nat:=55
def Zs:Nat:=56
def aaI:Nat:=57
def ki:Nat:=58
def ajx:Nat:=59
def aaK:Nat:=60
def ajA:Nat:=61
def VC:Nat:=62
def UP:Nat:=63
def afU:Nat:=64
def WQ:Nat:=65
def vK:Nat:=66
def kD:Nat:=67
def WO:Nat:=68
def QO:Nat:=69
def vx:Nat:=70
def alv:Nat:=71
def adH:Nat:=72
def afP:Nat:=73
def ahl:Nat:=74
def abH:Nat:=75
def alt:Nat:=76
def aaF:Nat:=77
def ajs:Nat:=78
def anq:Nat:=79
def ajv:Nat:=80
def Kw:Nat:=81
def ku:Nat:=82
def apJ:Nat:=83
def Qk:Nat:=84
def afN:Nat:=85
def kw:Nat:=86
def anp:Nat:=87
def WP:Nat:=88
def adt:Nat:=89
def Zu:Nat:=90
def afT:Nat:=91
def aev:Nat:=92
def afS:Nat:=93
def gM:Nat:=94
def kk:Nat:=95
def YA:Nat:=96
def Yy:Nat:=97
def jM:Nat:=98
def uF:Nat:=99
def Vy:Nat:=100
def QH:Nat:=101
def Yz:Nat:=102
def JM:Nat:=103
def QN:Nat:=104
def aaH:Nat:=105
def aaG:Nat:=106
def aho:Nat:=107
def ahn:Nat:=108
def aeu:Nat:=109
def ajC:Nat:=110
def abM:Nat:=111
def aaJ:Nat:=112
def ajB:Nat:=113
def VA:Nat:=114
def UN:Nat:=115
def aew:Nat:=116
def jG:Nat:=117
def VB:Nat:=118
def jR:Nat:=119
def kr:Nat:=120
def wz:Nat:=121
def Xw:Nat:=122
def KA:Nat:=123
def ZR:Nat:=124
def xL:Nat:=125
def jq:Nat:=126
def ZS:Nat:=127
def gN:Nat:=128
def adG:Nat:=129
def anl:Nat:=130
def JN:Nat:=131
def Yj:Nat:=132
def ajz:Nat:=133
def abF:Nat:=134
def UL:Nat:=135
def Vz:Nat:=136
def kB:Nat:=137
def kA:Nat:=138
def UK:Nat:=139
def alp:Nat:=140
def alr:Nat:=141
def anr:Nat:=146
def aaX:Nat:=147
def Jq:Nat:=148
def Kx:Nat:=149
def Vj:Nat:=150
def JL:Nat:=151
def QM:Nat:=152
def afR:Nat:=153
def UM:Nat:=154
def Vk:Nat:=155
def adr:Nat:=156
def ads:Nat:=157
def XV:Nat:=158
def kE:Nat:=159
def kz:Nat:=160
def Zt:Nat:=161
def jr:Nat:=162
def Yx:Nat:=163
def Qi:Nat:=164
def We:Nat:=165
def Vh:Nat:=166
def abE:Nat:=167
def ano:Nat:=168
def Yi:Nat:=169
def ahk:Nat:=170
def gK:Nat:=171
def als:Nat:=172
def kj:Nat:=173
def ann:Nat:=174
def apI:Nat:=175
def y0:Nat:=176
def ajt:Nat:=182
def YW:Nat:=183
def adq:Nat:=184
def gO:Nat:=185
def YY:Nat:=186
def Wf:Nat:=187
def Xs:Nat:=188
def kx:Nat:=189
def Wc:Nat:=190
def vz:Nat:=191
def XX:Nat:=192
def XJ:Nat:=193
def WN:Nat:=194
def Yk:Nat:=195
def Ql:Nat:=196
def Xu:Nat:=197
def Xt:Nat:=198
def aaC:Nat:=200
def afM:Nat:=201
def jj:Nat:=202
def ji:Nat:=203
def arJ:Nat:=204
def arK:Nat:=205
def ahh:Nat:=206
def YV:Nat:=207
def abK:Nat:=220
def Vi:Nat:=222
def QI:Nat:=224
def Wd:Nat:=225
def alu:Nat:=228
def ant:Nat:=229
def abL:Nat:=230
def aaY:Nat:=231
def QJ:Nat:=252
def Xv:Nat:=253
def XW:Nat:=254
def kq:Nat:=256
def Xr:Nat:=258
def afO:Nat:=273
def adp:Nat:=274
def ado:Nat:=275
def aes:Nat:=303
def km:Nat:=304
def kl:Nat:=305
def gL:Nat:=306
def adn:Nat:=307
abbrev up (n:Nat):am Nat:=zN 0 n
noncomputable def cp (o:am (Nat×am Nat))(ks:am (am Nat))(k:Nat){A:AFun}(_:ayB Pg o ks k=some A:=by conv=>lhs;reduce;simp only[u8r,amk,UInt8.reduceOfNat,Int.reduceOfNat,Int.reduceNegSucc])(h:cFun Pg o k=some A.erase:=by kernel_rfl):CC Pg k:=⟨o,A,h⟩
noncomputable section
def vV:=cp [] [] 3
def j6:=cp [] [[0,3,4],[0,3,4,5]] 7
def Kr:=cp [] [[1,3,4]] 8
def ajf:=cp [(10,up 63)] [] 9
def vY:=cp [] [[0,4,7,20,21,22]] 10
def jz:=cp [] [[0,3,9]] 11
def ZH:=cp [] [] 12
def Uq:=cp [(6,up 11),(11,up 12)] [[2,3,6],[2,3,5]] 13
def akS:=cp [] [] 15
def aii:=cp [(2000013,[1,4,0,1,3,4,2,1,4,2,5,6,7,0,1,4,5,2,6,7,0])] [[3,4,8,10,34,35,36]] 17
def Up:=cp [(1000007,[1])] [[1,2,4]] 18
def ajh:=cp [] [] 19
def ag4:=cp [] [] 20
def Ko:=cp [] [[0,3]] 21
def am9:=cp [] [] 22
def aeg:=cp [] [] 23
def abi:=cp [] [[1,4,8,9,10]] 24
def X7:=cp [] [[1,4,5]] 25
def ag5:=cp [] [] 26
def abg:=cp [] [] 27
def Xn:=cp [(1000013,[1])] [[1,3]] 28
def qP:=cp [] [] 29
def Uu:=cp [(9,up 12)] [[0,12,13,14]] 30
def jD:=cp [] [[0,10,38,39,40]] 31
def anb:=cp [(1000001,[2])] [] 32
def Xb:=cp [(9,up 9),(22,up 9)] [[1,59,60,61],[1,59,60,61,71,72,73],[1,22,23,24]] 33
def xg:=cp [] [[1,57,58,59]] 34
def qF:=cp [] [] 35
def afo:=cp [] [] 36
def am5:=cp [] [] 37
def adA:=cp [(2000009,[1,5,0,1,2,5,8,2,1,2,3,4,2,1,7,6,7,9,10,11,12,13,0,1,2,9,10,2,1,5,6,7,11,12,13,0,1,5,11,6,7,12,13,0,2,1,2,6,7,2,1,7,3,4,9,10,11,12,13,0,1,7,9,3,4,10,11,12,13,0,1,4,9,3,4,10,2,1,5,6,7,11,12,13,0,1,5,11,6,7,12,13,0]),(2000006,[1,9,0,1,2,3,4,5,6,7,10,2,1,5,8,9,11,12,13,0,1,5,11,8,9,12,13,0])] [[1,6,7,15,16,17]] 38
def ana:=cp [] [] 39
def akW:=cp [(9,[0,1,2,4,5,3,6,7])] [] 40
def akV:=cp [] [] 41
def YQ:=cp [(3,up 16)] [[0,2,3]] 42
def Ut:=cp [] [[1,6,13,14,15]] 43
def K4:=cp [] [[13,14,15]] 44
def uh:=cp [] [[2,4,7,8,34,35,36]] 45
def aaw:=cp [] [[1,2,5,6]] 46
def Zq:=cp [(3,up 16)] [[0,2,3]] 47
def QW:=cp [] [[4,5,14,15,16]] 48
def yU:=cp [(1,[0,1,2,3,5,6,7,8,4,9,10,11]),(2000003,[1,3,1,2,3,2,1,1,0,2,1,5,4,5,6,7,8,0,1,5,5,4,6,7,8,0,2,1,1,4,2,1,5,0,5,6,7,8,0,1,1,5,2,1,4,0,6,7,8,0,1,4,6,0,7,8,0,1,1,5,2,1,5,0,4,6,7,8,0,1,1,4,2,1,4,0,6,7,8,0,1,4,6,0,7,8,0]),(2000022,[1,24,0,1,2,3,4,5,6,7,8,9,10,11,12,13,14,15,16,18,19,20,21,22,24,25,2,1,6,17,23,26,27,28,29,0,1,6,26,17,23,27,28,29,0])] [[4,7,10,12,13,14,15,16,17,57,58,59],[4,7,10,12,13,14,15,16,17,19,22,24,57,58,59,96,97,98]] 49
def yg:=cp [(4,[0,1,3,4,2,5,6,7]),(2000005,[1,2,0,3,2,1,1,1,2,1,5,2,4,5,6,7,0,1,5,4,2,5,6,7,0,1,6,4,1,2,5,6,7,0]),(2000006,[1,1,1,2,1,1,0,2,1,5,2,3,4,5,6,0,1,5,3,2,4,5,6,0,2,1,1,2,2,1,5,0,3,4,5,6,0,1,1,3,2,1,4,0,4,5,6,0,1,4,4,0,5,6,0,1,1,3,2,1,5,0,2,4,5,6,0,1,1,2,2,1,4,0,4,5,6,0,1,4,4,0,5,6,0]),(17,up 12),(22,up 16)] [[4,6,10,11,12,13,14,15,60,61,62],[4,6,10,11,12,13,14,15,17,18,60,61,62,75,76,77]] 50
def yM:=cp [(1,[0,2,1,3,4,5,6]),(2000002,[1,7,0,1,2,3,6,7,8,2,1,1,4,2,1,1,5,2,1,6,9,10,11,12,13,14,0,1,6,10,9,11,12,13,14,0,2,1,1,9,2,1,6,5,10,11,12,13,14,0,1,1,10,2,1,5,5,11,12,13,14,0,1,5,11,5,12,13,14,0,1,1,10,2,1,6,5,9,11,12,13,14,0,1,1,9,2,1,5,5,11,12,13,14,0,1,5,11,5,12,13,14,0,2,1,1,5,2,1,1,4,2,1,6,9,10,11,12,13,14,0,1,6,10,9,11,12,13,14,0,1,7,10,4,9,11,12,13,14,0,1,1,10,2,1,1,4,2,1,6,5,9,11,12,13,14,0,1,1,9,2,1,5,5,11,12,13,14,0,1,5,11,5,12,13,14,0,1,7,5,4,9,11,12,13,14,0]),(3,up 8),(1000007,[1,2]),(1000008,[1,2]),(1000018,[7]),(20,up 12),(21,up 10)] [[6,8,9,10,11,12,13,16,68,69,70],[3,5,6,8,9,10,11,12,13,50]] 51
def qq:=cp [(1,[0,1,2,3,5,6,7,8,4,9,10,11]),(2,up 8),(14,up 16)] [[6,8,10,11,12,13,40,41,42],[6,8,10,11,12,13,15,40,41,42,56,57,58]] 52
def aav:=cp [] [[0,12,13]] 53
def K2:=cp [] [[17,18,19]] 54
def XC:=cp [] [] 55
def Zp:=cp [] [[0,1,7,8]] 56
def ajm:=cp [] [] 57
def ag2:=cp [] [] 58
def aax:=cp [] [[4,37,38,39]] 59
def aaz:=cp [(24,up 21)] [[0,3,6,13,14,15]] 60
def ajp:=cp [] [] 61
def YG:=cp [] [[0,6,11,12,13]] 62
def jO:=cp [] [[0,6,24,25,26]] 63
def afr:=cp [(1000001,[1])] [] 64
def xB:=cp [] [[0,6,29,30,31]] 65
def zI:=cp [(1000010,[1]),(15,[0,1,3,4,5,2,6,7,8]),(18,up 13),(42,up 7)] [[20,130,131,132],[5,10,20,106,107,108],[1,5,8,10,83,84,85],[1,5,8,10,16,83,84,85,89,90,91],[1,5,8,10,46,47,48]] 66
def Q0:=cp [(1000013,[0]),(1000015,[1,2])] [[2,3,4,7,19,20,21]] 67
def xA:=cp [(4,[0,1,3,4,2,5,6,7]),(5,[0,2,1,3,4,5]),(2000006,[1,1,1,2,1,1,0,2,1,5,2,3,4,5,6,0,1,5,3,2,4,5,6,0,2,1,1,2,2,1,5,0,3,4,5,6,0,1,1,3,2,1,4,0,4,5,6,0,1,4,4,0,5,6,0,1,1,3,2,1,5,0,2,4,5,6,0,1,1,2,2,1,4,0,4,5,6,0,1,4,4,0,5,6,0]),(2000015,[1,7,0,1,2,3,4,5,6,2,1,1,7,2,1,4,8,9,10,11,0,1,4,9,8,10,11,0,2,1,1,8,2,1,4,7,9,10,11,0,1,1,9,2,1,3,7,10,11,0,1,3,10,7,11,0,1,1,9,2,1,4,7,8,10,11,0,1,1,8,2,1,3,7,10,11,0,1,3,10,7,11,0]),(1000015,[999999]),(17,up 16),(2000023,[1,3,0,2,4,2,1,7,1,3,5,6,7,8,9,0,1,1,3,2,1,6,1,5,6,7,8,9,0,1,6,5,1,6,7,8,9,0])] [[4,6,10,11,12,13,14,15,55,56,57],[4,6,10,11,12,13,14,15,17,18,55,56,57,62,63,64]] 68
def yh:=cp [(2000004,[1,3,0,1,3,2,1,5,2,4,5,6,7,0,1,5,4,2,5,6,7,0]),(11,[0,1,2,4,3,5,6,7,8]),(1000013,[1]),(18,up 24),(19,up 16),(2000026,[1,11,0,2,3,5,6,7,8,9,10,11,12,2,1,1,1,2,1,7,4,13,14,15,16,17,18,0,1,7,13,4,14,15,16,17,18,0,2,1,1,4,2,1,7,1,13,14,15,16,17,18,0,1,1,13,2,1,6,1,14,15,16,17,18,0,1,6,14,1,15,16,17,18,0,1,1,13,2,1,7,1,4,14,15,16,17,18,0,1,1,4,2,1,6,1,14,15,16,17,18,0,1,6,14,1,15,16,17,18,0])] [[4,19,124,125,126],[4,6,11,69,70,71],[4,6,8,9,10,11,40,41,42]] 69
def xM:=cp [] [[4,5,8,43,44,45],[4,5,8,12,13,43,44,45,50,51,52],[4,5,8,23,24,25]] 70
def abh:=cp [(6,up 9)] [[0,1,5]] 71
def Kn:=cp [] [[2,3,4,21,22,23]] 72
def afn:=cp [(3,[0,1,2,3,5,6,7,8,4,9,10,11])] [] 73
def ag6:=cp [(2000003,[1,5,0,1,2,3,4,2,1,2,5,6,2,1,1,7,2,1,4,8,9,10,11,0,1,4,9,8,10,11,0,2,1,1,8,2,1,4,7,9,10,11,0,1,1,9,2,1,3,7,10,11,0,1,3,10,7,11,0,1,1,9,2,1,4,7,8,10,11,0,1,1,8,2,1,3,7,10,11,0,1,3,10,7,11,0,2,1,1,8,2,1,2,5,6,2,1,4,7,9,10,11,0,1,1,9,2,1,3,7,10,11,0,1,3,10,7,11,0,1,1,9,2,1,2,5,6,2,1,3,7,10,11,0,1,3,10,7,11,0,1,5,10,5,6,7,11,0,1,1,9,2,1,2,5,6,2,1,4,7,8,10,11,0,1,1,8,2,1,3,7,10,11,0,1,3,10,7,11,0,1,1,8,2,1,2,5,6,2,1,3,7,10,11,0,1,3,10,7,11,0,1,5,10,5,6,7,11,0]),(1000003,[999999]),(1000007,[1])] [] 74
def akU:=cp [] [] 75
def atu:=cp [] [] 76
def aji:=cp [] [] 77
def Va:=cp [] [[2,5,8,9,10]] 78
end
noncomputable section
def am7:=cp [(2000001,[1,9,0,1,2,3,4,5,6,7,8,2,1,2,9,10,2,1,1,11,2,1,4,12,13,14,15,0,1,4,13,12,14,15,0,2,1,1,12,2,1,4,11,13,14,15,0,1,1,13,2,1,3,11,14,15,0,1,3,14,11,15,0,1,1,13,2,1,4,11,12,14,15,0,1,1,12,2,1,3,11,14,15,0,1,3,14,11,15,0,2,1,1,12,2,1,2,9,10,2,1,4,11,13,14,15,0,1,1,13,2,1,3,11,14,15,0,1,3,14,11,15,0,1,1,13,2,1,2,9,10,2,1,3,11,14,15,0,1,3,14,11,15,0,1,5,14,9,10,11,15,0,1,1,13,2,1,2,9,10,2,1,4,11,12,14,15,0,1,1,12,2,1,3,11,14,15,0,1,3,14,11,15,0,1,1,12,2,1,2,9,10,2,1,3,11,14,15,0,1,3,14,11,15,0,1,5,14,9,10,11,15,0]),(1000001,[999999]),(2000002,[1,16,0,1,2,3,4,5,6,7,8,9,10,11,12,13,14,16,2,1,1,15,2,1,5,17,18,19,20,21,0,1,5,20,17,18,19,21,0,2,1,1,17,2,1,5,15,18,19,20,21,0,1,5,20,15,18,19,21,0,1,6,20,15,17,18,19,21,0])] [] 79
def ajg:=cp [] [] 80
def Kq:=cp [] [[1,5,9,10,11]] 81
def K1:=cp [] [] 82
def gw:=cp [(1000007,[1,2]),(1000009,[4])] [[1,2,3,10,11]] 83
def afm:=cp [] [] 85
def vH:=cp [(1000009,[1])] [[6,25,26,27],[0,3,9,10,11]] 86
def Kp:=cp [] [[0,5,8,9,10]] 87
def uQ:=cp [(2000011,[1,3,0,1,5,2,1,2,2,3,2,1,3,4,6,7,0,1,3,6,4,7,0,1,5,6,2,3,4,7,0]),(12,up 11)] [[0,1,2,13,14,15]] 88
def YF:=cp [] [[2,5,8,9,10]] 89
def Qb:=cp [] [[1,5,9,10,11]] 90
def afq:=cp [(2000001,[1,9,0,1,2,3,4,5,6,7,8,2,1,2,9,10,2,1,1,11,2,1,4,12,13,14,15,0,1,4,13,12,14,15,0,2,1,1,12,2,1,4,11,13,14,15,0,1,1,13,2,1,3,11,14,15,0,1,3,14,11,15,0,1,1,13,2,1,4,11,12,14,15,0,1,1,12,2,1,3,11,14,15,0,1,3,14,11,15,0,2,1,1,12,2,1,2,9,10,2,1,4,11,13,14,15,0,1,1,13,2,1,3,11,14,15,0,1,3,14,11,15,0,1,1,13,2,1,2,9,10,2,1,3,11,14,15,0,1,3,14,11,15,0,1,5,14,9,10,11,15,0,1,1,13,2,1,2,9,10,2,1,4,11,12,14,15,0,1,1,12,2,1,3,11,14,15,0,1,3,14,11,15,0,1,1,12,2,1,2,9,10,2,1,3,11,14,15,0,1,3,14,11,15,0,1,5,14,9,10,11,15,0]),(1000001,[999999]),(2000002,[1,16,0,1,2,3,4,5,6,7,8,9,10,11,12,13,14,16,2,1,1,15,2,1,5,17,18,19,20,21,0,1,5,20,17,18,19,21,0,2,1,1,17,2,1,5,15,18,19,20,21,0,1,5,20,15,18,19,21,0,1,6,20,15,17,18,19,21,0])] [] 91
def Uv:=cp [] [] 92
def Qa:=cp [] [[0,5,8,9,10]] 93
def gz:=cp [] [] 94
def QV:=cp [] [[1,5,12,13,14]] 95
def Yw:=cp [(1000011,[2])] [[0,1,5,6]] 96
def Jm:=cp [(1,up 11)] [] 97
def WG:=cp [(1000000,[4])] [] 98
def Jn:=cp [(1,up 20)] [] 99
def adh:=cp [] [] 100
def wO:=cp [] [[0,1,2,8,9,10]] 101
def Jo:=cp [(1,up 12)] [] 102
def afl:=cp [] [] 103
def QL:=cp [] [[0,23,24]] 104
def ajk:=cp [(1000001,[0])] [] 105
def ajj:=cp [] [] 106
def K3:=cp [(1000008,[2])] [[3,8,9,10]] 107
def Ya:=cp [(1000006,[2]),(1000017,[2])] [[3,36,37,38]] 108
def aej:=cp [(1000005,[1])] [] 109
def ajq:=cp [] [] 110
def akX:=cp [(1000001,[1])] [] 111
def ajo:=cp [(4,[0,6,7,8,9,10,11,12,1,2,3,4,5,13,14,15,16,17])] [] 112
def Vb:=cp [] [[0,6,10,11,12]] 113
def adl:=cp [] [] 114
def Us:=cp [] [] 115
def ael:=cp [] [] 116
def jA:=cp [] [] 117
def adm:=cp [] [] 118
def Xo:=cp [] [[0,4,7,8,9]] 119
def K0:=cp [] [] 120
def uP:=cp [(1000000,[4])] [] 121
def aek:=cp [(2000001,[1,2,1,4,2,1,1,0,2,1,1,2,2,1,1,3,2,1,4,5,6,7,8,0,1,4,6,5,7,8,0,1,5,6,3,5,7,8,0,2,1,1,3,2,1,1,2,2,1,4,5,6,7,8,0,1,4,6,5,7,8,0,1,5,6,2,5,7,8,0,1,6,6,3,2,5,7,8,0,2,1,1,3,2,1,1,0,2,1,1,2,2,1,4,5,6,7,8,0,1,4,6,5,7,8,0,1,5,6,2,5,7,8,0,1,6,6,0,2,5,7,8,0,1,7,6,0,3,2,5,7,8,0]),(1000001,[6])] [] 122
def jg:=cp [(4,up 12)] [[0,1,2,13,14]] 123
def abj:=cp [] [] 124
def ajn:=cp [] [] 125
def QG:=cp [(1000000,[4])] [] 126
def abk:=cp [(1,[0,1,2,3,5,6,7,8,9,10,4,11,12,13,14])] [] 127
def X8:=cp [(6,up 9)] [[0,1,12,13]] 128
def am4:=cp [] [] 129
def Km:=cp [] [] 130
def x9:=cp [(2,[0,1,2,3,7,4,5,6])] [[2,3,5,20,21,22],[2,3,5,7,8,20,21,22,30,31,32],[2,3,5,7,8,10,11,12,20,21,22,30,31,32,52,53,54]] 131
def yH:=cp [(1,[0,1,3,4,2,5,6,7])] [[4,8,9,10,13,44,45,46],[4,8,9,10,13,15,16,44,45,46,57,58,59],[2,3,4,8,9,10,26,27,28]] 132
def aay:=cp [] [] 133
def ZG:=cp [(1000005,[2]),(16,up 8),(18,[0,1,2,4,5,6,3,7,8,9,10])] [[0,1,5,6,7,8,27,28,29]] 134
def aei:=cp [] [] 135
def Vu:=cp [] [[1,15,16]] 136
def ag7:=cp [] [] 137
def abe:=cp [] [[3,6,7,8]] 140
def Un:=cp [(2000004,[1,13,0,2,3,4,6,12,13,14,15,17,19,20,21,2,1,1,1,2,1,2,5,7,2,1,3,8,9,10,2,1,1,11,2,1,6,16,18,22,23,24,25,0,1,6,18,16,22,23,24,25,0,2,1,2,16,18,2,1,5,11,22,23,24,25,0,1,5,22,11,23,24,25,0,1,1,18,2,1,6,11,16,22,23,24,25,0,1,1,16,2,1,5,11,22,23,24,25,0,1,5,22,11,23,24,25,0,2,1,2,16,18,2,1,3,8,9,10,2,1,5,11,22,23,24,25,0,1,5,22,11,23,24,25,0,1,8,22,8,9,10,11,23,24,25,0,1,1,18,2,1,3,8,9,10,2,1,6,11,16,22,23,24,25,0,1,1,16,2,1,5,11,22,23,24,25,0,1,5,22,11,23,24,25,0,1,1,16,2,1,3,8,9,10,2,1,5,11,22,23,24,25,0,1,5,22,11,23,24,25,0,1,8,22,8,9,10,11,23,24,25,0,2,1,2,16,18,2,1,2,5,7,2,1,3,8,9,10,2,1,5,11,22,23,24,25,0,1,5,22,11,23,24,25,0,1,8,22,8,9,10,11,23,24,25,0,1,10,22,5,7,8,9,10,11,23,24,25,0,1,1,18,2,1,2,5,7,2,1,3,8,9,10,2,1,6,11,16,22,23,24,25,0,1,1,16,2,1,5,11,22,23,24,25,0,1,5,22,11,23,24,25,0,1,1,16,2,1,3,8,9,10,2,1,5,11,22,23,24,25,0,1,5,22,11,23,24,25,0,1,8,22,8,9,10,11,23,24,25,0,1,1,16,2,1,2,5,7,2,1,3,8,9,10,2,1,5,11,22,23,24,25,0,1,5,22,11,23,24,25,0,1,8,22,8,9,10,11,23,24,25,0,1,10,22,5,7,8,9,10,11,23,24,25,0,2,1,2,5,7,2,1,1,1,2,1,3,8,9,10,2,1,1,11,2,1,6,16,18,22,23,24,25,0,1,6,18,16,22,23,24,25,0,2,1,2,16,18,2,1,5,11,22,23,24,25,0,1,5,22,11,23,24,25,0,1,1,18,2,1,6,11,16,22,23,24,25,0,1,1,16,2,1,5,11,22,23,24,25,0,1,5,22,11,23,24,25,0,2,1,2,16,18,2,1,3,8,9,10,2,1,5,11,22,23,24,25,0,1,5,22,11,23,24,25,0,1,8,22,8,9,10,11,23,24,25,0,1,1,18,2,1,3,8,9,10,2,1,6,11,16,22,23,24,25,0,1,1,16,2,1,5,11,22,23,24,25,0,1,5,22,11,23,24,25,0,1,1,16,2,1,3,8,9,10,2,1,5,11,22,23,24,25,0,1,5,22,11,23,24,25,0,1,8,22,8,9,10,11,23,24,25,0,2,1,3,8,9,10,2,1,1,1,2,1,1,11,2,1,6,16,18,22,23,24,25,0,1,6,18,16,22,23,24,25,0,2,1,2,16,18,2,1,5,11,22,23,24,25,0,1,5,22,11,23,24,25,0,1,1,18,2,1,6,11,16,22,23,24,25,0,1,1,16,2,1,5,11,22,23,24,25,0,1,5,22,11,23,24,25,0,2,1,1,11,2,1,1,1,2,1,6,16,18,22,23,24,25,0,1,6,18,16,22,23,24,25,0,2,1,2,16,18,2,1,5,1,22,23,24,25,0,1,5,22,1,23,24,25,0,1,1,18,2,1,6,1,16,22,23,24,25,0,1,1,16,2,1,5,1,22,23,24,25,0,1,5,22,1,23,24,25,0,2,1,2,16,18,2,1,1,1,2,1,5,11,22,23,24,25,0,1,5,22,11,23,24,25,0,2,1,1,11,2,1,5,1,22,23,24,25,0,1,5,22,1,23,24,25,0,1,6,22,1,11,23,24,25,0,1,1,18,2,1,1,1,2,1,6,11,16,22,23,24,25,0,1,1,16,2,1,5,11,22,23,24,25,0,1,5,22,11,23,24,25,0,2,1,1,11,2,1,6,1,16,22,23,24,25,0,1,1,16,2,1,5,1,22,23,24,25,0,1,5,22,1,23,24,25,0,1,1,16,2,1,1,1,2,1,5,11,22,23,24,25,0,1,5,22,11,23,24,25,0,2,1,1,11,2,1,5,1,22,23,24,25,0,1,5,22,1,23,24,25,0,1,6,22,1,11,23,24,25,0,2,1,2,16,18,2,1,1,1,2,1,3,8,9,10,2,1,5,11,22,23,24,25,0,1,5,22,11,23,24,25,0,1,8,22,8,9,10,11,23,24,25,0,2,1,3,8,9,10,2,1,1,1,2,1,5,11,22,23,24,25,0,1,5,22,11,23,24,25,0,2,1,1,11,2,1,5,1,22,23,24,25,0,1,5,22,1,23,24,25,0,1,6,22,1,11,23,24,25,0,1,9,22,1,8,9,10,11,23,24,25,0,1,1,18,2,1,1,1,2,1,3,8,9,10,2,1,6,11,16,22,23,24,25,0,1,1,16,2,1,5,11,22,23,24,25,0,1,5,22,11,23,24,25,0,1,1,16,2,1,3,8,9,10,2,1,5,11,22,23,24,25,0,1,5,22,11,23,24,25,0,1,8,22,8,9,10,11,23,24,25,0,2,1,3,8,9,10,2,1,1,1,2,1,6,11,16,22,23,24,25,0,1,1,16,2,1,5,11,22,23,24,25,0,1,5,22,11,23,24,25,0,2,1,1,11,2,1,6,1,16,22,23,24,25,0,1,1,16,2,1,5,1,22,23,24,25,0,1,5,22,1,23,24,25,0,1,1,16,2,1,1,1,2,1,5,11,22,23,24,25,0,1,5,22,11,23,24,25,0,2,1,1,11,2,1,5,1,22,23,24,25,0,1,5,22,1,23,24,25,0,1,6,22,1,11,23,24,25,0,1,1,16,2,1,1,1,2,1,3,8,9,10,2,1,5,11,22,23,24,25,0,1,5,22,11,23,24,25,0,1,8,22,8,9,10,11,23,24,25,0,2,1,3,8,9,10,2,1,1,1,2,1,5,11,22,23,24,25,0,1,5,22,11,23,24,25,0,2,1,1,11,2,1,5,1,22,23,24,25,0,1,5,22,1,23,24,25,0,1,6,22,1,11,23,24,25,0,1,9,22,1,8,9,10,11,23,24,25,0,2,1,2,16,18,2,1,1,1,2,1,2,5,7,2,1,3,8,9,10,2,1,5,11,22,23,24,25,0,1,5,22,11,23,24,25,0,1,8,22,8,9,10,11,23,24,25,0,1,10,22,5,7,8,9,10,11,23,24,25,0,2,1,2,5,7,2,1,1,1,2,1,3,8,9,10,2,1,5,11,22,23,24,25,0,1,5,22,11,23,24,25,0,1,8,22,8,9,10,11,23,24,25,0,2,1,3,8,9,10,2,1,1,1,2,1,5,11,22,23,24,25,0,1,5,22,11,23,24,25,0,2,1,1,11,2,1,5,1,22,23,24,25,0,1,5,22,1,23,24,25,0,1,6,22,1,11,23,24,25,0,1,9,22,1,8,9,10,11,23,24,25,0,1,11,22,1,5,7,8,9,10,11,23,24,25,0,1,1,18,2,1,1,1,2,1,2,5,7,2,1,3,8,9,10,2,1,6,11,16,22,23,24,25,0,1,1,16,2,1,5,11,22,23,24,25,0,1,5,22,11,23,24,25,0,1,1,16,2,1,3,8,9,10,2,1,5,11,22,23,24,25,0,1,5,22,11,23,24,25,0,1,8,22,8,9,10,11,23,24,25,0,1,1,16,2,1,2,5,7,2,1,3,8,9,10,2,1,5,11,22,23,24,25,0,1,5,22,11,23,24,25,0,1,8,22,8,9,10,11,23,24,25,0,1,10,22,5,7,8,9,10,11,23,24,25,0,2,1,2,5,7,2,1,1,1,2,1,3,8,9,10,2,1,6,11,16,22,23,24,25,0,1,1,16,2,1,5,11,22,23,24,25,0,1,5,22,11,23,24,25,0,1,1,16,2,1,3,8,9,10,2,1,5,11,22,23,24,25,0,1,5,22,11,23,24,25,0,1,8,22,8,9,10,11,23,24,25,0,2,1,3,8,9,10,2,1,1,1,2,1,6,11,16,22,23,24,25,0,1,1,16,2,1,5,11,22,23,24,25,0,1,5,22,11,23,24,25,0,2,1,1,11,2,1,6,1,16,22,23,24,25,0,1,1,16,2,1,5,1,22,23,24,25,0,1,5,22,1,23,24,25,0,1,1,16,2,1,1,1,2,1,5,11,22,23,24,25,0,1,5,22,11,23,24,25,0,2,1,1,11,2,1,5,1,22,23,24,25,0,1,5,22,1,23,24,25,0,1,6,22,1,11,23,24,25,0,1,1,16,2,1,1,1,2,1,3,8,9,10,2,1,5,11,22,23,24,25,0,1,5,22,11,23,24,25,0,1,8,22,8,9,10,11,23,24,25,0,2,1,3,8,9,10,2,1,1,1,2,1,5,11,22,23,24,25,0,1,5,22,11,23,24,25,0,2,1,1,11,2,1,5,1,22,23,24,25,0,1,5,22,1,23,24,25,0,1,6,22,1,11,23,24,25,0,1,9,22,1,8,9,10,11,23,24,25,0,1,1,16,2,1,1,1,2,1,2,5,7,2,1,3,8,9,10,2,1,5,11,22,23,24,25,0,1,5,22,11,23,24,25,0,1,8,22,8,9,10,11,23,24,25,0,1,10,22,5,7,8,9,10,11,23,24,25,0,2,1,2,5,7,2,1,1,1,2,1,3,8,9,10,2,1,5,11,22,23,24,25,0,1,5,22,11,23,24,25,0,1,8,22,8,9,10,11,23,24,25,0,2,1,3,8,9,10,2,1,1,1,2,1,5,11,22,23,24,25,0,1,5,22,11,23,24,25,0,2,1,1,11,2,1,5,1,22,23,24,25,0,1,5,22,1,23,24,25,0,1,6,22,1,11,23,24,25,0,1,9,22,1,8,9,10,11,23,24,25,0,1,11,22,1,5,7,8,9,10,11,23,24,25,0]),(1000004,[16,22])] [] 141
def am8:=cp [(1000003,[3]),(1000004,[4])] [] 146
def aaU:=cp [] [] 147
def Jp:=cp [] [] 148
def YN:=cp [] [[0,1,7,8]] 149
def qQ:=cp [(1000003,[4]),(1000006,[4]),(1000010,[7]),(1000015,[5])] [[0,1,2,6],[0,1,2,6,7,8],[0,1,2,6,7,8]] 150
def afj:=cp [] [] 151
def aaW:=cp [] [] 152
def afp:=cp [] [] 153
def Ur:=cp [] [] 154
def ajl:=cp [] [] 155
def Vv:=cp [] [] 156
def Vw:=cp [(1000004,[2])] [[0,8,9,10]] 157
def XU:=cp [] [] 158
def ag8:=cp [] [] 159
def XE:=cp [] [[0,1,7,8]] 160
def wc:=cp [] [[0,1,7,8]] 161
def yL:=cp [(1000003,[4]),(1000006,[4]),(1000010,[7]),(1000015,[5])] [[0,1,2,6],[0,1,2,6,7,8],[0,1,2,6,7,8]] 162
def Jl:=cp [] [] 163
def gt:=cp [] [] 164
def qt:=cp [(1000003,[4]),(1000006,[4]),(1000010,[7]),(1000015,[5])] [[0,1,2,6],[0,1,2,6,7,8],[0,1,2,6,7,8]] 165
def j7:=cp [] [[0,1,2,11,12,13]] 166
def akR:=cp [] [] 167
def adz:=cp [(6,up 8)] [[0,12,13,14]] 168
def QX:=cp [] [[1,5,19,20,21]] 169
def QY:=cp [] [[2,5,8,9,10]] 170
def gu:=cp [] [[0,1,4,5,8,9,10]] 171
def Uo:=cp [] [[0,5,8,9,10]] 172
def ag3:=cp [] [] 173
def am6:=cp [(1,up 9)] [] 174
def apd:=cp [] [] 175
def xS:=cp [(7,up 13),(9,up 14),(11,up 13),(14,up 13),(17,up 8)] [] 176
def aje:=cp [] [] 182
def jf:=cp [(1,up 19),(1000003,[3]),(6,up 8),(7,up 19),(1000009,[4])] [] 183
def X9:=cp [(4,up 6)] [[0,3,7,8]] 185
def qG:=cp [(4,up 17),(6,up 18)] [[0,1,2,3,8],[0,1,2,3,8,9]] 186
def xf:=cp [(5,up 11),(11,up 18),(17,up 12),(23,up 18),(35,up 14),(1000040,[5]),(1000042,[5]),(1000044,[5])] [[0,1,2,3,4,18,19,20,21,22],[0,14,17],[0,2,4,14,15],[0,10,13],[0,1,4,10,11]] 187
def XD:=cp [] [[0,1,7,8]] 189
def jB:=cp [] [[0,1,7,8]] 190
def yP:=cp [(4,up 17),(6,up 18)] [[0,1,2,3,8],[0,1,2,3,8,9]] 191
end
noncomputable section
def yO:=cp [(5,up 11),(11,up 18),(17,up 12),(23,up 18),(35,up 14),(1000040,[5]),(1000042,[5]),(1000044,[5])] [[0,1,2,3,4,18,19,20,21,22],[0,14,17],[0,2,4,14,15],[0,10,13],[0,1,4,10,11]] 192
def KX:=cp [] [] 193
def abf:=cp [] [] 194
def qr:=cp [(4,up 17),(6,up 18)] [[0,1,2,3,8],[0,1,2,3,8,9]] 195
def yV:=cp [(5,up 11),(11,up 18),(17,up 12),(23,up 18),(35,up 14),(1000040,[5]),(1000042,[5]),(1000044,[5])] [[0,1,2,3,4,18,19,20,21,22],[0,14,17],[0,2,4,14,15],[0,10,13],[0,1,4,10,11]] 196
def qV:=cp [] [[0,1,2,8,9,10]] 197
def aeh:=cp [] [] 198
def ajd:=cp [] [] 200
def afk:=cp [] [[2,3,4,8,9,10]] 201
def YP:=cp [(7,up 8)] [[0,1,4,5,6]] 202
def YO:=cp [(7,up 8)] [[0,1,4,5,6]] 203
def aih:=cp [] [] 204
def arb:=cp [] [] 205
def QU:=cp [] [] 206
def YL:=cp [(3,up 12),(7,up 11),(9,up 11),(10,[0,1,2,3,4,5,8,9,6,7,10])] [] 207
def WF:=cp [(6,up 9)] [[0,1,12,13]] 220
def j8:=cp [(1000004,[7]),(1000006,[11]),(1000008,[7])] [[0,2,4,10,11]] 222
def jo:=cp [(1000004,[7]),(1000006,[11]),(1000008,[7])] [[0,2,4,10,11]] 224
def jC:=cp [(1000004,[7]),(1000006,[11]),(1000008,[7])] [[0,2,4,10,11]] 225
def akT:=cp [] [] 228
def YM:=cp [] [] 229
def aaV:=cp [] [] 231
def jp:=cp [(3,up 24)] [[0,1,2,3,10]] 252
def uj:=cp [(3,up 24)] [[0,1,2,3,10]] 253
def uA:=cp [(3,up 24)] [[0,1,2,3,10]] 254
def QZ:=cp [] [] 256
def ui:=cp [] [] 258
def JB:=cp [] [] 273
def adk:=cp [] [] 274
def adj:=cp [(6,up 8)] [[2,8,9,10,14,15,16,17,18],[2,8,9,10,11,13,14,15,16]] 275
def aef:=cp [] [] 303
def KZ:=cp [] [] 304
def KY:=cp [] [] 305
def gv:=cp [] [] 306
def adi:=cp [] [] 307
end
end Go.Proofs.YtkdijaiaplkliaaGreatDoor
namespace Go.AM
theorem beqS_iff (x y:ByteArray):zo x y=true↔x=y:=by
 unfold zo;rw[cE,cE];constructor
 ·intro h;have h:=eq_of_beq h;cases x;simp_all
 simp_all
theorem beqS_self (x:ByteArray):zo x x=true:=(beqS_iff x x).2 rfl
theorem apa (x y:ByteArray):zo x y=false↔x≠y:=by
 grind[beqS_iff]
theorem QT (x y:UInt8)(xs ys:am UInt8):aK (x::xs) (y::ys)=true↔x<y\/(x=y /\aK xs ys=true):=by
 simp[aK]
theorem Um: ∀(l:am UInt8),aK l l=false
 | []=>rfl
 |x::r=>by
  have:=Um r;simp[aK,this]
theorem JA: ∀(a b c:am UInt8),aK a b=true ->aK b c=true ->aK a c=true
 |_,_,[],_,h=>by grind[aK]
 |_,[],_::_,h,_=>by grind[aK]
 | [],_::_,_::_,_,_=>rfl
 |x::xs,y::ys,z::j,i,g=>by
  rw[QT]at i g⊢;rcases i with i|⟨rfl,i⟩
  ·rcases g with g|⟨rfl,g⟩
   ·exact .inl (UInt8.lt_trans i g)
   exact .inl i
  rcases g with g|⟨rfl,g⟩
  ·exact .inl g
  exact .inr ⟨rfl,JA xs ys j i g⟩
theorem aau: ∀(a b:am UInt8),aK a b=false ->aK b a=false ->a=b
 | [],[],_,_=>rfl
 | [],y::ys,h,_=>by grind[aK]
 |x::xs,[],_,h=>by grind[aK]
 |x::xs,y::ys,i,j=>by
  have g1: ¬(x<y\/(x=y /\aK xs ys=true)):=λh=>by grind[QT]
  have g2: ¬(y<x\/(y=x /\aK ys xs=true)):=λh=>by grind[QT]
  have g:x=y:=by
   rcases UInt8.lt_or_lt_of_ne (a:=x) (b:=y)|> λf=>Decidable.em (x=y)with h|h
   ·exact h
   grind
  subst g;rw[aau xs ys ?_ ?_]
  ·cases h:aK xs ys
   ·rfl
   exact absurd (.inr ⟨rfl,h⟩) g1
  cases h:aK ys xs
  ·rfl
  exact absurd (.inr ⟨rfl,h⟩) g2
theorem apL (x:ByteArray):XN x x=false:=Um _
theorem aiy {x y z:ByteArray}(g:XN x y=true)(i:XN y z=true):XN x z=true:=JA _ _ _ g i
theorem awm {x y:ByteArray}(g:XN x y=false)(i:XN y x=false):x=y:=by
 have h:=aau _ _ g i;exact(beqS_iff x y).1 (by simp_all[zo])
theorem arV {x y:ByteArray}(h:XN x y=true):XN y x=false:=by
 grind[aiy,apL]
end Go.AM
namespace Go.Proofs
set_option maxHeartbeats 1000000 in
set_option maxRecDepth 100000 in
theorem Tryz.stringslite_IndexByte (s:ByteArray)(c:Int)(w:aN):
 Calls Tryz.prog 188 #[.string s,.int .u8 c] w λe w'=>e= .returned (.int .i64 (Lib.indexByte s.data.toList c.toNat.toUInt8))/\w'=w:=by
 go_enter Tryz.func188,Tryz.ntmps188
 go_wp2
 rw[run_callFunc_extern Tryz.func223 (by kernel_rfl) (by kernel_rfl) (by kernel_rfl) (e:=Extern.BytealgIndexByte.indexByte) (by kernel_rfl),Lib.run_indexByteString];simp only[Result.andThen];rw[Oper.upon_value]
 go_wp2
 go_ret
 exact⟨rfl,rfl⟩
end Go.Proofs
namespace Go.Proofs.YtkdijaiaplkliaaGreatDoor
open Go Go.AM
def int (n:Int):C:=.d (.lit (.int .i64 n))
def str (b:ByteArray):C:=.d (.lit (.string b))
def bool (n:Bool):C:=.d (.lit (.bool n))
def rI (n:Int):Res:=⟨.w (.c (int n)),[]⟩
def rB (n:Bool):Res:=⟨.w (.c (bool n)),[]⟩
theorem auQ {P:Program}{k:Nat}{args:am W}{x:Value}(hk:xT P k=true)(j:x.oneCell'=true)
 (h: ∀(w:aN) (A:Nat ->Prop) (vals:am Value),qd (λ_=>⟨none,0,.nilFunc,[]⟩) w A args vals ->Calls P k vals.toArray w λe w'=>e= .returned x /\w'=w):
 Sat P k args (λr=>r=⟨.w (.c (.d (.lit x))),[]⟩):=by
 refine⟨hk,λw A vals hA i=>(h w A vals i).mono ?_⟩;rintro e w' ⟨rfl,rfl⟩;refine⟨x,_,rfl,rfl,⟨bE _,λ_=>⟨none,0,.nilFunc,[]⟩,?_,?_,?_,?_,?_,?_⟩,Grows.refl _ _⟩
 ·simp only[VR,WR,CR,RD];exact⟨trivial,j⟩
 ·intro p y g;cases g
 ·intro p q y z b g;cases g
 ·intro p y b g;cases g
 ·intro p y g;cases g
 intro p y g;cases g
theorem amU {ι:Nat ->Gh}{w:aN}{A:Nat ->Prop}{vals:am Value}{x y:Value}(h:qd ι w A [.c (.d (.lit x)),.c (.d (.lit y))] vals):vals=[x,y]:=by
 match vals,h with
 | [v,u],h=>simp only[qd,WR,CR,RD]at h;rw[h.1.1,h.2.1.1]
def afh (s:ByteArray)(c:Int):Int:=Lib.indexByte s.data.toList c.toNat.toUInt8
theorem ae0 (s:ByteArray)(c:Int):Sat Pg Xs [.c (str s),.c (.d (.lit (.int .u8 c)))] (λr=>r=rI (afh s c)):=by
 refine auQ (by kernel_rfl) rfl λw A vals h=>?_
 rw[amU h];exact Tryz.stringslite_IndexByte s c w
attribute [local irreducible] Sat
set_option maxRecDepth 100000
def T0:Tab Pg:=⟨λ_ _=>none,λ_ _ _ h=>by cases h⟩
theorem ajI (s:ByteArray)(c:Int):Sat Pg QM [.c (str s),.c (.d (.lit (.int .u8 c)))] (λr=>r=rI (afh s c)):=by
 refine xq T0 aaW.ok (by kernel_rfl) ?_;refine Sat.cal (ae0 s c) ?_;rfl
structure Val where
 k:Int
 n:Int
 s:ByteArray
def Val.ds (v:Val):am D:=[.lit (.int .i64 v.k),.lit (.int .i64 v.n),.lit (.string v.s)]
def Val.w (v:Val):W:=.agg [int v.k,int v.n,str v.s]
def inB (n:Int):Bool:=decide (n>= -1000000000000000)&&decide (n<=1000000000000000)
theorem ap9 (n:Int):Sat Pg alt [.c (int n)] (λr=>r=rB (inB n)):=by
 refine atu.s T0 ?_;rfl
theorem alH (n:Int):(n !=n)=false:=by simp
theorem beqS_self (b:ByteArray):zo b b=true:=by unfold zo;simp
theorem ajN (n:Int):Sat Pg JL [.c (int n)] (λr=>r=rB false):=by
 refine afj.s T0 ?_;exact aF rB (alH n)
theorem aa0 (n:Int):Sat Pg XJ [.c (int n)] (λr=>r=rB false):=by
 refine KX.s T0 ?_;exact aF rB (alH n)
theorem aeX (b:ByteArray):Sat Pg WN [.c (str b)] (λr=>r=rB false):=by
 refine abf.s T0 ?_;exact aF rB (show(!zo b b)=false by rw[beqS_self];rfl)
def T1f (k:FuncId)(l:am W):aH W:=
 match l with
 | [.c (.d (.lit (.int .i64 n)))]=>bif aV k alt then some (.c (bool (inB n)))else bif aV k JL||aV k XJ then some (.c (bool false))else none
 | [.c (.d (.lit (.string _)))]=>bif aV k WN then some (.c (bool false))else none
 | [.c (.d (.lit (.string s))),.c (.d (.lit (.int .u8 c)))]=>bif aV k QM then some (.c (int (afh s c)))else none
 |_=>none
theorem qC {c:Bool}{w z:W}{y:aH W}(h:(bif c then some w else y)=some z):(c=true /\z=w)\/(c=false /\y=some z):=by
 cases c
 ·exact .inr ⟨rfl,h⟩
 cases h;exact .inl ⟨rfl,rfl⟩
theorem axc (k:FuncId)(l:am W)(w:W)(h:T1f k l=some w):Sat Pg k l (λr=>r=⟨.w w,[]⟩):=by
 unfold T1f at h;split at h
 ·rcases qC h with⟨g,rfl⟩|⟨_,h⟩
  ·rw[aG g];exact ap9 _
  rcases qC h with⟨g,rfl⟩|⟨_,h⟩
  ·rw[bD]at g;rcases g with g|g
   ·rw[aG g];exact ajN _
   rw[aG g];exact aa0 _
  cases h
 ·rcases qC h with⟨g,rfl⟩|⟨_,h⟩
  ·rw[aG g];exact aeX _
  cases h
 ·rcases qC h with⟨g,rfl⟩|⟨_,h⟩
  ·rw[aG g];exact ajI _ _
  cases h
 cases h
def T1:Tab Pg:=⟨T1f,axc⟩
def yZ (a b:Int):Int:=bif decide (a<b)then -1 else bif decide (a>b)then 1 else 0
def Kt (a b:ByteArray):Int:=bif XN a b then -1 else bif zo a b then 0 else 1
theorem J3 (a b:Int):Sat Pg Vy [.c (int a),.c (int b)] (λr=>r=rI (yZ a b)):=by
 unfold yZ;refine xq T1 adh.ok (by kernel_rfl) ?_
 repeat' (conv=>whnf
          refine zw (λh=>?_) (λh=>?_))
 all_goals refine aF rI ?_
 all_goals simp only[*,aB,aA]
theorem kP (a b:Int):Sat Pg Yx [.c (int a),.c (int b)] (λr=>r=rI (yZ a b)):=by
 unfold yZ;refine xq T1 Jl.ok (by kernel_rfl) ?_
 repeat' (conv=>whnf
          refine zw (λh=>?_) (λh=>?_))
 all_goals refine aF rI ?_
 all_goals simp only[*,aB,aA]
theorem aca (a b:ByteArray):Sat Pg Qi [.c (str a),.c (str b)] (λr=>r=rI (Kt a b)):=by
 unfold Kt;refine xq T1 gt.ok (by kernel_rfl) ?_
 repeat' (conv=>whnf
          refine zw (λh=>?_) (λh=>?_))
 all_goals refine aF rI ?_
 ·rw[h];rfl
 ·cases g:XN a b<;>cases i:zo a b<;>simp_all
 cases g:XN a b<;>cases i:zo a b<;>simp_all
def ayv:ByteArray:=⟨#[95,46,58,47,60,62,36,42,126,45]⟩
def acW (c:Int):Bool:=(decide (c>=97)&&decide (c<=122))||(decide (c>=65)&&decide (c<=90))||(decide (c>=48)&&decide (c<=57))||decide (afh ayv c>=0)
theorem ap7 (c:Int):Sat Pg JM [.c (.d (.lit (.int .u8 c)))] (λr=>r=rB (acW c)):=by
 refine afl.s T1 ?_;rfl
def yY (k:Int)(v:Val):Int:=
 bif v.k !=0&&(v.k !=k|| !(k==1||k==2||k==3))then 14 else
 bif (v.k==1&&v.n !=0&&v.n !=1)then 2 else bif (v.k==2&& !inB v.n)then 2 else
 bif v.k==3&&decide ((v.s.size:Int)>200)then 7 else
 bif v.k !=3&& !zo v.s ⟨#[]⟩then 1 else bif (v.k==0||v.k==3)&&v.n !=0 then 1 else 0
theorem aeS (k:Int)(v:Val):Sat Pg ki [.c (int k),v.w] (λr=>r=rI (yY k v)):=by
 obtain⟨a,n,s⟩:=v;unfold yY;refine xq T1 ag2.ok (by kernel_rfl) ?_
 repeat' (conv=>whnf
          refine zw (λh=>?_) (λh=>?_))
 all_goals refine aF rI ?_
 all_goals first|(simp only[*,aB,aA];done)|simp_all only[aI]
end Go.Proofs.YtkdijaiaplkliaaGreatDoor
namespace Go.Proofs.YtkdijaiaplkliaaGreatDoor
open Go Go.AM
section
attribute [local irreducible] Sat zY
def T2f (k:FuncId)(l:am W):aH W:=
 match l with
 | [.c (.d (.lit (.int .u8 c)))]=>bif aV k JM then some (.c (bool (acW c)))else none
 | [.c (.d (.lit (.int .i64 m))),.c (.d (.lit (.int .i64 n)))]=>bif aV k Vy||aV k Yx then some (.c (int (yZ m n)))else none
 | [.c (.d (.lit (.string m))),.c (.d (.lit (.string n)))]=>bif aV k Qi then some (.c (int (Kt m n)))else none
 | [.c (.d (.lit (.int .i64 t))),.agg [.d (.lit (.int .i64 g)),.d (.lit (.int .i64 n)),.d (.lit (.string s))]]=>bif aV k ki then some (.c (int (yY t ⟨g,n,s⟩)))else none
 |_=>T1f k l
theorem as9 (k:FuncId)(l:am W)(w:W)(h:T2f k l=some w):Sat Pg k l (λr=>r=⟨.w w,[]⟩):=by
 unfold T2f at h;split at h
 ·rcases qC h with⟨g,rfl⟩|⟨_,h⟩
  ·rw[aG g];exact ap7 _
  cases h
 ·rcases qC h with⟨g,rfl⟩|⟨_,h⟩
  ·rw[bD]at g;rcases g with g|g
   ·rw[aG g];exact J3 _ _
   rw[aG g];exact kP _ _
  cases h
 ·rcases qC h with⟨g,rfl⟩|⟨_,h⟩
  ·rw[aG g];exact aca _ _
  cases h
 ·rcases qC h with⟨g,rfl⟩|⟨_,h⟩
  ·rw[aG g];exact aeS _ ⟨_,_,_⟩
  cases h
 grind[axc]
def T2:Tab Pg:=⟨T2f,as9⟩
def xP (a b:Val):Int:=bif a.k !=b.k then yZ a.k b.k else bif a.k==3 then Kt a.s b.s else bif a.k==1||a.k==2 then yZ a.n b.n else 0
theorem uY (a b:Val):Sat Pg xL [a.w,b.w] (λr=>r=rI (xP a b)):=by
 obtain⟨g,a2,a3⟩:=a;obtain⟨i,j,l⟩:=b;unfold xP;refine xq T2 ajn.ok (by kernel_rfl) ?_
 repeat' (conv=>whnf
          refine zw (λh=>?_) (λh=>?_))
 all_goals refine aF rI ?_
 all_goals first|(simp only[*,aB,aA];done)|simp_all only[aI]
def abU:am UInt8 ->Int
 | []=>0
 |c::r=>bif !acW c.toNat then 3 else abU r
def wC (s:ByteArray):Int:=bif zo s ⟨#[]⟩||decide ((s.size:Int)>40)then 3 else abU s.data.toList
theorem zq {α:Type}{l:am α}{i:Nat}(h:i<l.length):l.drop i=l[i]::l.drop (i+1):=bY h
theorem XQ (s:ByteArray):s.data.toList.length=s.size:=by simp
theorem J6 (s:ByteArray):Sat Pg aaD [.c (str s)] (λr=>r=rI (wC s)):=by
 unfold wC;refine aav.s T2 ?_;refine zi (λh=>?_) (λh=>?_)
 ·rw[h];rfl
 rw[h];simp only[bM,bP]at h;refine WS T2 (aav.l 0) s.size (λi=>⟨[(0,.w (.c (str s))),(12,zl s.size),(13,zl i)],[]⟩) (λi=>abU s.data.toList=abU (s.data.toList.drop i)) ?_
 intro i hi g;refine jH (λj=>?_) (λJ=>?_)
 ·have o:i<s.data.toList.length:=by grind[XQ]
  rw[zq o]at g;(conv=>whnf);refine⟨⟨by omega,by omega⟩,?_⟩;have I:s.data.toList.getD ((i:Int)).toNat 0=s.data.toList[i]:=by grind
  rw[I];generalize s.data.toList[i]=b at g;refine zi (λp=>?_) (λp=>?_)
  ·(conv=>whnf);simp only[abU,p,aB]at g;exact aF rI g.symm
  (conv=>whnf);simp only[abU,p,aA]at g;refine y6 j g ?_;rw[zC j (by omega)];rfl
 rw[aC (by grind[XQ])]at g;(conv=>whnf);exact aF rI g.symm
def rowD (r:am Val):am (am D):=r.map Val.ds
def yt (r:am Val):W:=.c (.d (.sl (rowD r)))
theorem zt (r:am Val):(rowD r).length=r.length:=by simp[rowD]
theorem xj {r:am Val}{i:Nat}(h:i<r.length):(rowD r)[((i:Int)).toNat]? =some (r[i]).ds:=by grind[rowD]
def jF {α:Type}(c:α ->α ->Int):am α ->am α ->Int
 | [],[]=>0
 | [],_::_=> -1
 |_::_,[]=>1
 |x::xs,y::ys=>bif c x y !=0 then c x y else jF c xs ys
theorem atw {α:Type}(c:α ->α ->Int){a b:am α}{i:Nat}(h:a.length<=i):jF c (a.drop i) (b.drop i)=bif decide (((b.length:Int))>i)then -1 else 0:=by
 rw[aC h];by_cases g:i<b.length
 ·rw[zq g];have:decide (((b.length:Int))>i)=true:=bL (by omega);rw[this];rfl
 rw[aC (by omega)];have:decide (((b.length:Int))>i)=false:=aJ (by omega);rw[this];rfl
theorem J2 (g:FuncId)(c:Val ->Val ->Int)(hc: ∀x y,Sat Pg g [x.w,y.w] (λr=>r=rI (c x y)))(a b:am Val):
 Sat Pg Vh [yt a,yt b,.c (.d (.fn g []))] (λr=>r=rI (jF c a b)):=by
 refine w8 0 (by kernel_rfl) rfl λp=>?_
 rw[zt]at p;refine j7.s T2 ?_
 refine yx (P:=Pg) (f:=T2.f) (body:=(j7.l 0)) a.length (λi=>⟨[(0,.w (yt a)),(1,.w (yt b)),(2,.w (.c (.d (.fn g [])))),(11,.w (yt a)),(12,zl (rowD a).length),(13,zl i)],[]⟩)
  (λi=>i<=b.length /\jF c a b=jF c (a.drop i) (b.drop i)) ⟨⟨aZ _,rfl⟩,ze ?_⟩ ?_
 ·exact rfl
 intro i hi j;obtain⟨ab,j⟩:=j;refine zi (λh1=>?_) (λh1=>?_)
 ·have o:i<a.length:=by simp_all[zt]
  (conv=>whnf);refine yu (xj o) ?_;refine zi (λR=>?_) (λR=>?_)
  ·have I:b.length<=i:=by simp_all[zt]
   rw[zq o,aC I]at j;(conv=>whnf);exact aF rI j.symm
  have J:i<b.length:=by grind[zt]
  refine yu (xj J) ?_;refine Sat.cal (hc a[i] b[i]) ?_;rw[zq o,zq J]at j;refine zi (λU=>?_) (λU=>?_)
  ·simp only[jF,U,aB]at j;(conv=>whnf);exact aF rI j.symm
  simp only[jF,U,aA]at j;(conv=>whnf);refine⟨o,⟨J,j⟩,ze ?_⟩;(conv=>whnf);rw[zC o p];rfl
 have I:a.length<=i:=by grind[zt]
 have aa:i=a.length:=by omega
 rw[atw c I]at j;subst aa;refine zi (λR=>?_) (λR=>?_)
 ·have:decide (((b.length:Int))>a.length)=true:=bL (by simp_all[zt]);rw[this]at j;(conv=>whnf);exact aF rI j.symm
 have:decide (((b.length:Int))>a.length)=false:=aJ (by grind[zt]);rw[this]at j;(conv=>whnf);exact aF rI j.symm
def ay5 (a b:am Val):Int:=jF xP a b
structure Col where
 name:ByteArray
 t:Int
def Col.ds (c:Col):am D:=[.lit (.string c.name),.lit (.int .i64 c.t)]
def Col.w (c:Col):W:=.agg [str c.name,int c.t]
def zm (r:am Col):am (am D):=r.map Col.ds
theorem zV (r:am Col):(zm r).length=r.length:=by simp[zm]
theorem xC {r:am Col}{i:Nat}(h:i<r.length):(zm r)[((i:Int)).toNat]? =some (r[i]).ds:=by grind[zm]
def yj {α:Type}(p:α ->Bool):Int ->am α ->Int
 |_,[]=> -1
 |i,x::r=>bif p x then i else yj p (i+1) r
theorem v7 (g:FuncId)(cap:am D)(p:Col ->Bool)(hp: ∀x:Col,Sat Pg g [x.w,.c (.fp cap)] (λr=>r=rB (p x)))(l:am Col):
 Sat Pg Zs [.c (.d (.sl (zm l))),.c (.d (.fn g [cap]))] (λr=>r=rI (yj p 0 l)):=by
 refine w8 0 (by kernel_rfl) rfl λo=>?_
 rw[zV]at o;refine Zp.s T2 ?_
 refine yx (P:=Pg) (f:=T2.f) (body:=(Zp.l 0)) l.length (λi=>⟨[(0,.w (.c (.d (.sl (zm l))))),(1,.w (.c (.d (.fn g [cap])))),(7,zl (zm l).length),(8,zl i)],[]⟩)
  (λi=>yj p 0 l=yj p i (l.drop i)) ⟨rfl,ze ?_⟩ ?_
 ·exact rfl
 intro i hi I;refine zi (λU=>?_) (λU=>?_)
 ·have j:i<l.length:=by simp_all[zV]
  (conv=>whnf);refine yu (xC j) ?_;refine Sat.cal (hp l[i]) ?_;rw[zq j]at I;refine zi (λJ=>?_) (λJ=>?_)
  ·simp only[yj,J,aB]at I;(conv=>whnf);exact aF rI I.symm
  simp only[yj,J,aA]at I;refine y6 j I ?_;rw[zC j o];rfl
 have R:l.length<=i:=by grind[zV]
 rw[aC R]at I;(conv=>whnf);exact aF rI I.symm
theorem agq (x:Col)(name:ByteArray):Sat Pg aaI [x.w,.c (.fp [.lit (.string name)])] (λr=>r=rB (zo x.name name)):=by
 obtain⟨a,b⟩:=x;refine xq T2 ajm.ok (by kernel_rfl) ?_;exact rfl
def zj (l:am Col)(name:ByteArray):Int:=yj (λx=>zo x.name name) 0 l
theorem xz (l:am Col)(rows:C)(name:ByteArray)(hr: ∃d,rows= .d d):Sat Pg Kz [.agg [.d (.sl (zm l)),rows],.c (str name)] (λr=>r=rI (zj l name)):=by
 obtain⟨d,rfl⟩:=hr;refine anb.s T2 ?_;refine Sat.cal (v7 aaI [.lit (.string name)] (λx=>zo x.name name) (λx=>agq x name) l) ?_;rfl
def T3f (k:FuncId)(l:am W):aH W:=
 match l with
 | [.c (.d (.lit (.string s)))]=>bif aV k aaD then some (.c (int (wC s)))else T2f k l
 | [.agg [.d (.lit (.int .i64 g)),.d (.lit (.int .i64 j)),.d (.lit (.string p))],.agg [.d (.lit (.int .i64 i)),.d (.lit (.int .i64 o)),.d (.lit (.string r))]]=>
   bif aV k xL then some (.c (int (xP ⟨g,j,p⟩ ⟨i,o,r⟩)))else none
 |_=>T2f k l
theorem aoZ (k:FuncId)(l:am W)(w:W)(h:T3f k l=some w):Sat Pg k l (λr=>r=⟨.w w,[]⟩):=by
 unfold T3f at h;split at h
 ·rcases qC h with⟨g,rfl⟩|⟨_,h⟩
  ·rw[aG g];exact J6 _
  grind[as9]
 ·rcases qC h with⟨g,rfl⟩|⟨_,h⟩
  ·rw[aG g];exact uY ⟨_,_,_⟩ ⟨_,_,_⟩
  cases h
 grind[as9]
def T3:Tab Pg:=⟨T3f,aoZ⟩
def ue:am Col ->am Val ->Int
 |c::cs,v::vs=>bif yY c.t v !=0 then yY c.t v else ue cs vs
 |_,_=>0
theorem anT (cols:am Col):ue cols []=0:=by cases cols<;>rfl
structure Tbl where
 cols:am Col
 rows:am (am Val)
def zf (l:am (am Val)):am (am D):=l.map λr=> [D.sl (rowD r)]
def Tbl.w (t:Tbl):W:=.agg [.d (.sl (zm t.cols)),.d (.sl (zf t.rows))]
def Tbl.ds (t:Tbl):am D:=[.sl (zm t.cols),.sl (zf t.rows)]
theorem zx (r:am (am Val)):(zf r).length=r.length:=by simp[zf]
theorem yJ {r:am (am Val)}{i:Nat}(h:i<r.length):(zf r)[((i:Int)).toNat]? =some [D.sl (rowD r[i])]:=by grind[zf]
def Yd (all:am Col):Nat ->am Col ->Int
 |_,[]=>0
 |i,c::r=>bif wC c.name !=0 then wC c.name else bif decide (zj (all.take i) c.name>=0)then 4 else bif c.t !=1&&c.t !=2&&c.t !=3 then 14 else Yd all (i+1) r
def Xg (cols:am Col):am (am Val) ->Int
 | []=>0
 |r::g=>bif ((r.length:Int)) !=cols.length then 10 else bif ue cols r !=0 then ue cols r else Xg cols g
def zL (t:Tbl):Int:=
 bif decide ((t.cols.length:Int)>32)||decide ((t.rows.length:Int)>20000)then 7 else bif Yd t.cols 0 t.cols !=0 then Yd t.cols 0 t.cols else Xg t.cols t.rows
theorem arg (l:am Col)(i:Nat):(zm l).take i=zm (l.take i):=by grind[zm,List.map_take]
theorem an9 (l:am Col): ∀y∈zm l,y.length=2:=by
 intro y g;simp only[zm,List.mem_map]at g;obtain⟨x,_,rfl⟩:=g;rfl
set_option maxHeartbeats 1000000 in
theorem qb (t:Tbl):Sat Pg ajy [t.w] (λr=>r=rI (zL t)):=by
 obtain⟨cols,rows⟩:=t;unfold zL;refine Ud (by kernel_rfl) λhb=>?_
 have hb:=hb _ (cG.2 rfl);refine Xb.s T3 ?_;rw[zx,zV];refine zw (λh=>?_) (λh=>?_)
 ·rw[h];rfl
 rw[h];simp only[bM,bP]at h;simp only[aA];(conv=>whnf)
 refine yx (P:=Pg) (f:=T3.f) (body:=(Xb.l 0)) cols.length (λi=>⟨[(1,cV (.ptr 1 0)),(22,.w (.c (.d (.sl (zm cols))))),(23,zl (zm cols).length),(24,zl i)],[(1,.box [.d (.sl (zm cols)),.d (.sl (zf rows))])]⟩)
  (λi=>Yd cols 0 cols=Yd cols i (cols.drop i)) ⟨rfl,ze ?_⟩ ?_
 ·exact rfl
 intro i hi g;refine zi (λh1=>?_) (λh1=>?_)
 ·have o:i<cols.length:=by simp_all[zV]
  rw[zq o]at g;refine yu (xC o) ?_;refine zi (b:=wC cols[i].name !=0) (λJ=>?_) (λJ=>?_)
  ·simp only[Yd,J,aB]at g;(conv=>whnf);rw[g,J];rfl
  simp only[Yd,J,aA]at g;refine xW ?_ (hA:=by grind[z6]) (hB:=by grind[z6]);have ht:(zm cols).take (z6 (some ((i:Int))) ((zm cols).length:Int)).toNat=zm (cols.take i):=by grind[z6,arg]
  rw[ht];refine Sat.w (xz (cols.take i) (.d (.sl [])) cols[i].name ⟨_,rfl⟩) ?_;refine zw (b:=decide (zj (cols.take i) cols[i].name>=0)) (λh4=>?_) (λh4=>?_)
  ·simp only[h4,aB]at g;(conv=>whnf);rw[g];rfl
  simp only[h4,aA]at g;refine zi (b:=cols[i].t !=1&&cols[i].t !=2&&cols[i].t !=3) (λR=>?_) (λR=>?_)
  ·simp only[R,aB]at g;(conv=>whnf);rw[g];rfl
  simp only[R,aA]at g;refine y6 o g ?_;rw[zC o (by omega)];rfl
 have p:cols.length<=i:=by grind[zV]
 rw[aC p]at g;have ac:(Yd cols 0 cols !=0)=false:=by rw[g];rfl
 rw[ac];simp only[aA];(conv=>whnf)
 refine yx (P:=Pg) (f:=T3.f) (body:=(Xb.l 2)) rows.length (λi=>⟨[(1,cV (.ptr 1 0)),(59,.w (.c (.d (.sl (zf rows))))),(60,zl (zf rows).length),(61,zl i)],[(1,.box [.d (.sl (zm cols)),.d (.sl (zf rows))])]⟩)
  (λi=>Xg cols rows=Xg cols (rows.drop i)) ⟨rfl,ze ?_⟩ ?_
 ·exact rfl
 clear g p h1 hi i;intro i hi g;refine zi (λh1=>?_) (λh1=>?_)
 ·have o:i<rows.length:=by simp_all[zx]
  rw[zq o]at g;have ab:(rows[i]).length<=9223372036854775807:=by
   have:=hb (.d (.sl (zf rows))) (by grind);simp only[Kl,bnd]at this;have:=atq.1 this.2 [D.sl (rowD rows[i])] (by grind[zf])
   grind[bndc,bnd,zt]
  refine yu (yJ o) ?_;generalize rows[i]=row at g ab;(conv=>whnf);rw[zt,zV];refine zw (λJ=>?_) (λJ=>?_)
  ·simp only[Xg,J,aB]at g;(conv=>whnf);exact aF rI g.symm
  simp only[Xg,J,aA]at g;have hl:row.length=cols.length:=by grind
  conv=>whnf
  refine yx (P:=Pg) (f:=T3.f) (body:=(Xb.l 1)) row.length (λj=>⟨[(1,cV (.ptr 1 0)),(59,.w (.c (.d (.sl (zf rows))))),(60,zl (zf rows).length),(61,zl i),(71,.w (yt row)),(72,zl (rowD row).length),(73,zl j)],[(1,.box [.d (.sl (zm cols)),.d (.sl (zf rows))])]⟩)
   (λj=>ue cols row=ue (cols.drop j) (row.drop j)) ⟨rfl,ze ?_⟩ ?_
  ·exact rfl
  intro j hj U;refine zi (λh4=>?_) (λh4=>?_)
  ·have I:j<row.length:=by simp_all[zt]
   have aa:j<cols.length:=by omega
   rw[zq I,zq aa]at U;refine yu (xj I) ?_;refine yu (xC aa) ?_;refine zi (b:=yY cols[j].t row[j] !=0) (λR=>?_) (λR=>?_)
   ·simp only[ue,R,aB]at U;rw[U,R]at g;(conv=>whnf);exact aF rI g.symm
   simp only[ue,R,aA]at U;refine y6 I U ?_;rw[zC I ab];rfl
  have p:row.length<=j:=by grind[zt]
  rw[aC p,anT]at U;rw[U]at g;refine y6 o g ?_;rw[zC o (by omega)];rfl
 have p:rows.length<=i:=by grind[zx]
 rw[aC p]at g;(conv=>whnf);exact aF rI g.symm
def qI (a b:Val):Bool:=(a.k==b.k)&&((a.n==b.n)&&(zo a.s b.s&&true))
def vd {α:Type}(e:α ->α ->Bool):am α ->am α ->Bool
 | [],[]=>true
 |x::xs,y::ys=>bif !e x y then false else vd e xs ys
 |_,_=>false
def xN (a b:am Val):Bool:=bif ((a.length:Int)) !=b.length then false else vd qI a b
theorem Jx {α:Type}(e:α ->α ->Bool){a b:am α}{i:Nat}(h:a.length<=i)(g:a.length=b.length):vd e (a.drop i) (b.drop i)=true:=by
 rw[aC h,aC (by omega)];rfl
theorem lens {α β:Type}{a:am α}{b:am β}(h:(((a.length:Int)) !=(b.length:Int))=false):a.length=b.length:=by grind
theorem ahR (a b:am Val):Sat Pg alv [yt a,yt b] (λr=>r=rB (xN a b)):=by
 refine w8 0 (by kernel_rfl) rfl λj=>?_
 rw[zt]at j;unfold xN;refine abh.s T3 ?_;rw[zt,zt];refine zw (λh=>?_) (λh=>?_)
 ·rw[h];rfl
 rw[h];have R:=lens h;simp only[aA];refine WS T3 (abh.l 0) a.length (λi=>⟨[(0,.w (yt a)),(1,.w (yt b)),(5,zl i)],[]⟩) (λi=>vd qI a b=vd qI (a.drop i) (b.drop i)) ?_
 intro i hi o;refine zi (λP=>?_) (λP=>?_)
 ·have g:i<a.length:=by simp_all[zt]
  have p:i<b.length:=by omega
  rw[zq g,zq p]at o;refine yu (xj g) ?_;refine yu (xj p) ?_;refine zi (b:=!qI a[i] b[i]) (λI=>?_) (λI=>?_)
  ·simp only[vd,I,aB]at o;(conv=>whnf);exact aF rB o.symm
  simp only[vd,I,aA]at o;refine y6 g o ?_;rw[zC g j];rfl
 have J:a.length<=i:=by grind[zt]
 rw[Jx _ J R]at o;(conv=>whnf);exact aF rB o.symm
def eqC (a b:Col):Bool:=zo a.name b.name&&((a.t==b.t)&&true)
def agU {α:Type}(p:α ->Bool):am α ->Bool
 | []=>true
 |x::r=>bif p x then agU p r else false
def DQ (X:Res)(r:Res):Prop:=r.v.plain=true /\r.asData=X
theorem zD {P:Program}{k:Nat}{args:am W}{X:Res}(h:Sat P k args (DQ X)):Sat P k args (λr=>r=X):=h.data λ_ h=>h
def rC (x:C):Res:=⟨.w (.c x),[]⟩
theorem w6 (l:am Col)(g:l.length<=1000000):Sat Pg XM [.c (.d (.sl (zm l)))] (λr=>r=rC (.d (.sl (zm l)))):=by
 refine zD (xq T3 XC.ok (by kernel_rfl) ?_)
 conv=>whnf
 refine⟨λh=>?_,?_⟩
 ·refine aw1 ?_;rw[h];rfl
 (conv=>whnf);refine⟨an9 l,by grind[ym,zV],by grind[zV],?_⟩;refine aw1 ?_;refine Eq.trans (b:=rC (.d (.sl (([]++zm l).take (0+(zm l).length))))) rfl ?_;simp_all
end
end Go.Proofs.YtkdijaiaplkliaaGreatDoor
namespace Go.AM
def S.mvOwn (s:S)(d p q sz n:Nat)(g:am (am D)):S:=(s.redo [p,q] [(q,.arr sz g false)]).put (some d) (cV (.own q sz n))
theorem u9 {s:S}(d p q sz n:Nat)(i:am (am D))(hq:q<100000)(h:aget s.sl d=some (cV (.own p sz n)))(R:aget s.pl p=some (.arr sz i false)):X0 s (s.mvOwn d p q sz n i):=by
 intro F N ι a w hr;have hh:F.h q=none:=by
  cases e:F.h q with
  |none=>rfl
  |some g=>have:=hr.hdom q g e;omega
 have hι: ∀r,isin r [p,q]=false ->wo ι q (ι p) r=ι r:=λr U=>qn ι _ (aer U).2
 have j:=hr.places p _ R;have J: ∀r x b,aget [(q,Pl.arr sz i false)] r=some x ->foot (wo ι q (ι p)) r x b ->b<w.heap.size /\(w.heap.size<=b\/ ∃q' y,isin q' [p,q]=true /\aget s.pl q'=some y /\y.live=true /\foot ι q' y b):=by
  intro r x b o P;obtain⟨rfl,rfl⟩:=zy o;simp only[foot,zJ]at P;exact⟨(hr.mine b ⟨p,_,R,rfl,P⟩).2,.inr ⟨p,_,by simp[isin],R,rfl,P⟩⟩
 have hrel:Rel F N (wo ι q (ι p)) (s.redo [p,q] [(q,.arr sz i false)]) a w:=by
  refine hr.redo [p,q] [(q,.arr sz i false)] _ w hι (λ_ _ _=>rfl) (zT.refl w) rfl rfl (Out.refl w) (bE _) ?_ ?_ ?_ (λr x o=>by obtain⟨rfl,_⟩:=zy o;exact hh)
  ·intro r x o;obtain⟨rfl,rfl⟩:=zy o;have hk:=V1 hr [p,r] [(r,.arr sz i false)] (wo ι r (ι p)) w hι (λ_ _ _=>rfl) (bE _) J;obtain⟨h0,hn,h⟩:=j;refine⟨h0,by rw[zJ];exact hn,?_⟩;rcases h with⟨g1,g2⟩|⟨b,g1,g2,g3,g4⟩
   ·exact .inl ⟨by rw[zJ];exact g1,g2⟩
   exact .inr ⟨b,by rw[zJ];exact g1,RDs.keep' hk b sz i 0 (λ_ _ _=>rfl) g2,λhf=>(by cases hf),g4⟩
  ·exact J
  intro r r' x y b o hy aa;obtain⟨rfl,rfl⟩:=zy o;obtain⟨rfl,rfl⟩:=zy hy;exact absurd rfl aa
 obtain⟨x,ab,I⟩:=hr.slots d _ h;refine⟨_,{hrel with slots:=λk v l=>?_}⟩;have l:aget (yD d (cV (.own q sz n)) (s.redo [p,q] [(q,.arr sz i false)]).sl) k=some v:=l;rw[yA]at l;by_cases e:d=k
 ·rw[if_pos e]at l;cases l;subst e;refine⟨x,ab,?_⟩;have I:CR ι w (F.ok ι s.pl w) (.own p sz n) x:=I;simp only[cV,VR,WR];simp only[CR,zJ];exact I
 rw[if_neg e]at l;exact hrel.slots k v l
end Go.AM
namespace Go.Proofs.YtkdijaiaplkliaaGreatDoor
open Go Go.AM
section
attribute [local irreducible] Sat zA zY
def ab0 (sz:Nat)(l:am (am D)):Res:=⟨.w (.c (.own 0 sz l.length)),[.arr sz l false]⟩
theorem afB {α:Type}(p:α ->Bool): ∀(l:am α) (i:Nat),(yj p i l= -1 /\l.filter (λx=>!p x)=l)\/ ∃k,k<l.length /\yj p i l=((i+k:Nat):Int)/\(l.take k).filter (λx=>!p x)=l.take k /\(l.take (k+1)).filter (λx=>!p x)=l.take k
 | [],i=>.inl ⟨rfl,rfl⟩
 |x::r,i=>by
  cases o:p x
  ·have I:=afB p r (i+1);have e:yj p (i:Int) (x::r)=yj p ((i+1:Nat):Int) r:=by simp_all[yj]
   rcases I with⟨g,j⟩|⟨k,g,j,J,P⟩
   ·grind
   grind
  refine .inr ⟨0,by simp,by simp_all[yj],by simp,by simp[o]⟩
theorem amx {α:Type}: ∀{l:am α}{i:Nat}(_:i<l.length) (x:α),(l.set i x).take (i+1)=l.take i++[x]
 | [],_,h,_=>by cases h
 |y::r,0,_,x=>by simp
 |y::r,i+1,h,x=>by simp only[cn,List.take_succ_cons,List.cons_append];rw[amx (by simpa using h) x]
theorem amv {α:Type}: ∀{l:am α}{i j:Nat}(_:i<j) (x:α),(l.set i x).drop j=l.drop j
 | [],_,_,_,_=>by simp
 |y::r,0,j+1,_,x=>by simp
 |y::r,i+1,j+1,h,x=>by simp only[cn,List.drop_succ_cons];exact amv (by omega) x
theorem aqp {α:Type}{e g:am α}(h:e.length=g.length):z8 e 0 g=g:=by
 simp_all[z8]
theorem anf {α:Type}(q:α ->Bool){l:am α}{j:Nat}(h:j<l.length):(l.take (j+1)).filter q=(l.take j).filter q++(bif q l[j]then [l[j]]else []):=by
 grind[b9]
def zp (l:am ByteArray):am (am D):=l.map λb=> [D.lit (.string b)]
def V3 (l:am ByteArray):W:=.c (.d (.sl (zp l)))
theorem zF (l:am ByteArray):(zp l).length=l.length:=by simp[zp]
theorem wL {r:am ByteArray}{i:Nat}(h:i<r.length):(zp r)[((i:Int)).toNat]? =some [D.lit (.string r[i])]:=by grind[zp]
theorem aeN (l:am ByteArray)(s:ByteArray):Sat Pg kz [V3 l,.c (str s)] (λr=>r=rI (yj (λx=>zo s x) 0 l)):=by
 refine w8 0 (by kernel_rfl) rfl λj=>?_
 rw[zF]at j;refine XE.s T3 ?_
 refine yx (P:=Pg) (f:=T3.f) (body:=(XE.l 0)) l.length (λi=>⟨[(0,.w (V3 l)),(1,.w (.c (str s))),(7,zl (zp l).length),(8,zl i)],[]⟩)
  (λi=>yj (λx=>zo s x) 0 l=yj (λx=>zo s x) i (l.drop i)) ⟨rfl,ze ?_⟩ ?_
 ·exact rfl
 intro i hi o;refine zi (λJ=>?_) (λJ=>?_)
 ·have g:i<l.length:=by simp_all[zF]
  rw[zq g]at o;refine yu (wL g) ?_;refine zi (λp=>?_) (λp=>?_)
  ·simp only[yj,p,aB]at o;(conv=>whnf);exact aF rI o.symm
  simp only[yj,p,aA]at o;refine y6 g o ?_;rw[zC g j];rfl
 have I:l.length<=i:=by grind[zF]
 rw[aC I]at o;(conv=>whnf);exact aF rI o.symm
def hasB (l:am ByteArray)(s:ByteArray):Bool:=l.any λx=>zo s x
theorem Xp {α:Type}(p:α ->Bool): ∀(l:am α) (i:Nat),decide (yj p (i:Int) l>=0)=l.any p
 | [],i=>by grind[yj]
 |x::r,i=>by
  simp only[yj,List.any_cons];by_cases h:p x=true
  ·simp_all
  simp only[Bool.not_eq_true]at h;simp only[h,aA,aW];exact Xp p r (i+1)
theorem yi (l:am ByteArray)(s:ByteArray):Sat Pg UN [V3 l,.c (str s)] (λr=>r=rB (hasB l s)):=by
 refine Us.s T3 ?_;refine Sat.w (aeN l s) ?_;exact aF rB (Xp _ l 0)
def aj7 (c:Int):Bool:=((decide (c<97)||decide (c>122))&&(decide (c<48)||decide (c>57)))&&(c !=95)
def idL:am UInt8 ->Bool
 | []=>true
 |c::r=>bif aj7 c.toNat then false else idL r
def kws:am ByteArray:=[⟨#[97,110,100]⟩,⟨#[111,114]⟩,⟨#[110,111,116]⟩,⟨#[110,117,108,108]⟩,⟨#[116,114,117,101]⟩,⟨#[102,97,108,115,101]⟩]
def acL (s:ByteArray):Int:=(s.data.toList.getD 0 0).toNat
def yB (s:ByteArray):Bool:=bif zo s ⟨#[]⟩||decide ((s.size:Int)>40)||decide (acL s<97)||decide (acL s>122)then false else bif !idL s.data.toList then false else !hasB kws s
theorem au7 {s:ByteArray}(h:zo s ⟨#[]⟩=false):0<s.size:=by
 rcases Nat.eq_zero_or_pos s.size with e|e
 ·have:s=⟨#[]⟩:=by
   obtain⟨d⟩:=s;have:d= #[]:=Array.eq_empty_of_size_eq_zero e;rw[this]
  grind[beqS_self]
 exact e
theorem ahO (s:ByteArray):Sat Pg QN [.c (str s)] (λr=>r=rB (yB s)):=by
 unfold yB;refine QL.s T3 ?_;have key:(!(zo s ⟨#[]⟩||decide ((s.size:Int)>40)))=true ->0<s.size:=λh=>by
  grind[au7]
 refine⟨λh=>⟨⟨by omega,by grind⟩,trivial⟩,?_⟩
 conv=>whnf
 refine⟨λh=>⟨⟨by omega,by
  grind⟩,trivial⟩,?_⟩
 refine zi (b:=zo s ⟨#[]⟩||decide ((s.size:Int)>40)||decide (acL s<97)||decide (acL s>122)) (λh=>?_) (λh=>?_)
 ·(conv=>whnf);rw[h];rfl
 rw[h];simp only[bM,bP]at h;have P:(s.size:Int)<=40:=by omega
 simp only[aA];refine WS T3 (QL.l 0) s.size (λi=>⟨[(0,.w (.c (str s))),(23,zl s.size),(24,zl i)],[]⟩) (λi=>idL s.data.toList=idL (s.data.toList.drop i)) ?_
 intro i hi g;refine jH (λj=>?_) (λJ=>?_)
 ·have o:i<s.data.toList.length:=by grind[XQ]
  rw[zq o]at g;(conv=>whnf);refine⟨⟨by omega,by omega⟩,?_⟩;have I:s.data.toList.getD ((i:Int)).toNat 0=s.data.toList[i]:=by grind
  rw[I];generalize s.data.toList[i]=b at g;refine zi (b:=aj7 b.toNat) (λp=>?_) (λp=>?_)
  ·simp only[idL,p,aB]at g;(conv=>whnf);rw[g];rfl
  simp only[idL,p,aA]at g;refine y6 j g ?_;rw[zC j (by omega)];rfl
 rw[aC (by grind[XQ])]at g;refine Sat.w (yi kws s) ?_;rw[g];rfl
def qg (s:ByteArray):Int:=
 bif zo s ⟨#[109,105,110]⟩||(zo s ⟨#[109,97,120]⟩||(zo s ⟨#[104,97,115]⟩||zo s ⟨#[115,116,97,114,116,115]⟩))then 2 else
 bif zo s ⟨#[97,98,115]⟩||zo s ⟨#[108,101,110]⟩then 1 else 0
theorem ask (s:ByteArray):Sat Pg kB [.c (str s)] (λr=>r=rI (qg s)):=by
 unfold qg;refine xq T3 ag7.ok (by kernel_rfl) ?_
 repeat' (conv=>whnf
          refine zw (λh=>?_) (λh=>?_))
 all_goals refine aF rI ?_
 all_goals first|(simp only[*,aB,aA];done)|(simp_all only[aI,aB,aA];done)|(simp_all;done)
def ari (c:Int):Bool:=(decide (c<32)||decide (c>126))||(c==34)
def ahb:am UInt8 ->Int
 | []=>0
 |c::r=>bif ari c.toNat then 10 else ahb r
def YT (v:Val):Int:=bif yY v.k v !=0 then yY v.k v else ahb v.s.data.toList
theorem yl {b:Bool}{x y:Int}(g:x≠0)(h:(bif b then x else y)=0):b=false /\y=0:=by
 grind
theorem KQ {k:Int}{v:Val}(h:(yY k v !=0)=false):(v.s.size:Int)<=200:=by
 rw[cm]at h;unfold yY at h;obtain⟨_,h⟩:=yl (by omega) h;obtain⟨_,h⟩:=yl (by omega) h;obtain⟨_,h⟩:=yl (by omega) h;obtain⟨i,h⟩:=yl (by omega) h;obtain⟨g,_⟩:=yl (by omega) h;by_cases e:v.k=3
 ·simp_all
 rw[show(v.k !=3)=true by simpa using e,aX,Bool.not_eq_false']at g;rw[(AM.beqS_iff _ _).1 g]
 decide
theorem amd (v:Val):Sat Pg Vz [v.w] (λr=>r=rI (YT v)):=by
 obtain⟨k,n,s⟩:=v;unfold YT;refine Vu.s T3 ?_;refine zi (b:=yY k ⟨k,n,s⟩ !=0) (λh=>?_) (λh=>?_)
 ·(conv=>whnf);rw[h];rfl
 have P:(s.size:Int)<=200:=KQ h;simp only[h,aA];refine WS T3 (Vu.l 0) s.size (λi=>⟨[(1,cV (.ptr 1 0)),(15,zl s.size),(16,zl i)],[(1,.box [int k,int n,str s])]⟩) (λi=>ahb s.data.toList=ahb (s.data.toList.drop i)) ?_
 intro i hi g;refine jH (λj=>?_) (λJ=>?_)
 ·have o:i<s.data.toList.length:=by grind[XQ]
  rw[zq o]at g;(conv=>whnf);refine⟨⟨by omega,by omega⟩,?_⟩;have I:s.data.toList.getD ((i:Int)).toNat 0=s.data.toList[i]:=by grind
  rw[I];generalize s.data.toList[i]=b at g;refine zi (b:=ari b.toNat) (λp=>?_) (λp=>?_)
  ·simp only[ahb,p,aB]at g;(conv=>whnf);rw[g];rfl
  simp only[ahb,p,aA]at g;refine y6 j g ?_;rw[zC j (by omega)];rfl
 rw[aC (by grind[XQ])]at g;(conv=>whnf);rw[g];rfl
def uz (n uT:Int):Int:=bif decide (n<uT)then 8 else bif decide (n>16)then 7 else 0
theorem auR (n uT:Int):Sat Pg aaG [.c (int n),.c (int uT)] (λr=>r=rI (uz n uT)):=by
 unfold uz;refine xq T3 ajj.ok (by kernel_rfl) ?_
 repeat' (conv=>whnf
          refine zw (λh=>?_) (λh=>?_))
 all_goals refine aF rI ?_
 all_goals first|(simp only[*,aB,aA];done)|(simp_all only[aI,aB,aA];done)|(simp_all;done)
def T4f (k:FuncId)(l:am W):aH W:=
 match l with
 | [.c (.d (.lit (.string s)))]=>bif aV k QN then some (.c (bool (yB s)))else bif aV k kB then some (.c (int (qg s)))else T3f k l
 | [.c (.d (.lit (.int .i64 m))),.c (.d (.lit (.int .i64 n)))]=>bif aV k aaG then some (.c (int (uz m n)))else T3f k l
 | [.agg [.d (.lit (.int .i64 g)),.d (.lit (.int .i64 n)),.d (.lit (.string s))]]=>bif aV k Vz then some (.c (int (YT ⟨g,n,s⟩)))else none
 |_=>T3f k l
theorem axd (k:FuncId)(l:am W)(w:W)(h:T4f k l=some w):Sat Pg k l (λr=>r=⟨.w w,[]⟩):=by
 unfold T4f at h;split at h
 ·rcases qC h with⟨g,rfl⟩|⟨_,h⟩
  ·rw[aG g];exact ahO _
  rcases qC h with⟨g,rfl⟩|⟨_,h⟩
  ·rw[aG g];exact ask _
  grind[aoZ]
 ·rcases qC h with⟨g,rfl⟩|⟨_,h⟩
  ·rw[aG g];exact auR _ _
  grind[aoZ]
 ·rcases qC h with⟨g,rfl⟩|⟨_,h⟩
  ·rw[aG g];exact amd ⟨_,_,_⟩
  cases h
 grind[aoZ]
def T4:Tab Pg:=⟨T4f,axd⟩
def vS (op:Int)(i:ByteArray)(v:Val)(l g:Int)(name j:Bool):Int:=
 bif (l !=g)||((!zo i ⟨#[]⟩&& !name)||(!qI v ⟨0,0,⟨#[]⟩⟩&& !j))then 1 else
 bif j then YT v else bif name&& !yB i then 3 else bif op==16&&qg i==0 then 5 else bif op==16&&qg i !=g then 1 else 0
def xl (op:Int)(i:ByteArray)(v:Val)(g:Int):Int:=
 bif op==1 then vS op i v g 0 false true else bif op==2 then vS op i v g 0 true false else
 bif op==3||op==4 then vS op i v g 1 false false else bif op==16 then vS op i v g g true false else
 bif decide (op<5)||decide (op>15)then 1 else vS op i v g 2 false false
inductive Ex where
 |mk (op:Int) (nm:ByteArray) (v:Val) (ks:am Ex)
mutual
def Ex.ds:Ex ->am D
 | .mk op g v ks=> [.lit (.int .i64 op),.lit (.string g),.lit (.int .i64 v.k),.lit (.int .i64 v.n),.lit (.string v.s),.sl (exsD ks)]
def exsD:am Ex ->am (am D)
 | []=> []
 |e::r=>e.ds::exsD r
end
def Ex.cs:Ex ->am C
 | .mk op g v ks=> [int op,str g,int v.k,int v.n,str v.s,.d (.sl (exsD ks))]
def Ex.w (e:Ex):W:=.agg e.cs
def Ex.err1:Ex ->Int
 | .mk op g v ks=>xl op g v ks.length
theorem gD: ∀l:am Ex,exsD l=l.map Ex.ds
 | []=>rfl
 |e::r=>by simp only[exsD,cF,gD r]
theorem wV (l:am Ex):(exsD l).length=l.length:=by simp[gD]
theorem UA {r:am Ex}{i:Nat}(h:i<r.length):(exsD r)[((i:Int)).toNat]? =some (r[i]).ds:=by grind[gD]
theorem auO (e:Ex):Sat Pg aaF [e.w] (λr=>r=rI e.err1):=by
 obtain⟨op,g,⟨i,j,vs⟩,ks⟩:=e;show Sat Pg aaF [.agg [int op,str g,int i,int j,str vs,.d (.sl (exsD ks))]] (λr=>r=rI (xl op g ⟨i,j,vs⟩ ks.length));rw[<- wV];refine xq T4 aji.ok (by kernel_rfl) ?_;generalize(exsD ks)=l
 repeat' (conv=>whnf
          refine zw (λh=>?_) (λh=>?_))
 all_goals refine aF rI ?_
 all_goals unfold xl vS qI
 all_goals generalize((List.length l:Nat):Int)=m at*
 all_goals try simp only[aB,aA,bN,aW,bO,aP,bF,aU,aX,bA,aY,bB,aL,aQ,aI,aO,bH]at*
 all_goals first|done|(simp only[*,aB,aA,bN,aW,bO,aP,bF,aU,aX,bA,aY,bB,aL,aQ,aI,aO,bH];done)|(simp_all only[aB,aA,bN,aW,bO,aP,bF,aU,aX,bA,aY,bB,aL,aQ,aI,aO,bH];done)|skip
mutual
def Ex.meas:Ex ->Int ->Int×Int
 | .mk _ _ _ ks,n=>((measL ks (n+1) 0).1,(measL ks (n+1) 0).2+1)
def measL:am Ex ->Int ->Int ->Int×Int
 | [],n,d=>(n,d)
 |k::r,n,d=>bif decide (n>200)then(n,d)else measL r (k.meas n).1 (zU true d (k.meas n).2)
end
def Ex.ks:Ex ->am Ex
 | .mk _ _ _ ks=>ks
theorem acY (a b:Int):zU true a b=max a b:=by
 show(if b>a then b else a)=_;omega
theorem aiz: ∀(ks:am Ex) (n d:Int),n<=201 ->(∀k∈ks,∀n:Int,n<=200 ->n+1<=(k.meas n).1 /\(k.meas n).1<=201 /\1<=(k.meas n).2 /\(k.meas n).2<=(k.meas n).1 - n) ->
 n<=(measL ks n d).1 /\(measL ks n d).1<=201 /\d<=(measL ks n d).2 /\(measL ks n d).2<=max d ((measL ks n d).1 - n)
 | [],n,d,i,_=>by grind[measL]
 |k::r,n,d,i,h=>by
  simp only[measL];by_cases e:n>200
  ·rw[bL e,aB];grind
  rw[aJ e,aA];have g:=h k (bJ ..) n (by omega);have l:=aiz r (k.meas n).1 (zU true d (k.meas n).2) g.2.1 (λx j=>h x (List.mem_cons_of_mem _ j))
  grind[acY]
theorem alC: ∀(e:Ex) (n:Int),n<=200 ->n+1<=(e.meas n).1 /\(e.meas n).1<=201 /\1<=(e.meas n).2 /\(e.meas n).2<=(e.meas n).1 - n
 | .mk op i v ks,n,g=>by
   have h:=aiz ks (n+1) 0 (by omega) (λk hk n g=>alC k n g)
   grind[Ex.meas]
theorem atF {ks:am Ex}{i:Nat}(h:i<ks.length)(n d:Int):measL (ks.drop i) n d=bif decide (n>200)then(n,d)else measL (ks.drop (i+1)) (ks[i].meas n).1 (zU true d (ks[i].meas n).2):=by
 rw[zq h];rfl
def ayj (ks:am Ex)(i:Nat)(n d:Int):S:=⟨[(1,zl n),(6,zl d),(13,.w (.c (.d (.sl (exsD ks))))),(14,zl (exsD ks).length),(15,zl i)],[]⟩
def ac6 (x:Int×Int):Res:=⟨.tup [.c (int x.1),.c (int x.2)],[]⟩
theorem aod {op:Int}{g:ByteArray}{v:Val}{ks:am Ex}(h:ag1 (Ex.mk op g v ks).w):ks.length<=9223372036854775807:=by
 have:=h (.d (.sl (exsD ks))) (by simp[Ex.cs])
 grind[Kl,bnd,wV]
theorem adX (e:Ex)(n:Int)(h0:0<=n)(hn:n<=200):Sat Pg UO [e.w,.c (int n)] (λr=>r=ac6 (e.meas n)):=by
 obtain⟨op,nm,v,ks⟩:=e;have ih: ∀k∈ks,∀n:Int,0<=n ->n<=200 ->Sat Pg UO [k.w,.c (int n)] (λr=>r=ac6 (k.meas n)):=λk hk n h0 hn=>adX k n h0 hn
 refine Ud (by kernel_rfl) λhb=>?_
 have R:=aod (hb _ (bJ ..));have hq: ∀m d:Int,measL ks (n+1) 0=(m,d) ->ac6 (Ex.meas (.mk op nm v ks) n)=ac6 (m,d+1):=λm d h=>by grind[Ex.meas]
 refine Ut.s T4 ?_
 refine yq (P:=Pg) (f:=T4.f) (body:=(Ut.l 0)) (λx:Nat×Int×Int=>ayj ks x.1 x.2.1 x.2.2) (λx=>ks.length - x.1) (λx=>x.1<=ks.length /\0<=x.2.1 /\x.2.1<=201 /\0<=x.2.2 /\x.2.2<=201 /\measL ks (n+1) 0=measL (ks.drop x.1) x.2.1 x.2.2)
  ⟨(0,n+1,0),⟨aZ _,by grind,by grind,by grind,by grind,rfl⟩,ze ?_⟩ ?_
 ·(conv=>whnf);rw[yk (by omega) (by omega)];rfl
 rintro⟨i,g,p⟩ hx;obtain⟨hi,ad,ah,af,ag,o⟩:i<=ks.length /\0<=g /\g<=201 /\0<=p /\p<=201 /\measL ks (n+1) 0=measL (ks.drop i) g p:=hx;have wd:aD.wrap (p+1)=p+1:=yk (by omega) (by omega);refine zi (λh1=>?_) (λh1=>?_)
 ·have j:i<ks.length:=by have:=aS h1;grind[wV]
  rw[atF j]at o;have hg:(exsD ks)[((i:Int)).toNat]? =some (ks[i]).ds:=UA j;have hm:ks[i]∈ks:=bI j;generalize ks[i]=k at*;have ae:=ih k hm g ad;have J:=alC k g;obtain⟨ab,aa,v1,U⟩:=k;refine yu hg ?_;refine zi (b:=decide (g>200)) (λI=>?_) (λI=>?_)
  ·rw[I,aB]at o;rw[hq _ _ o];(conv=>whnf);exact aF (λx=>ac6 (g,x)) wd
  rw[I,aA]at o;have I:=aM I;have J:=J (by omega);refine Sat.w (ae (by omega)) ?_;refine⟨(i+1,(Ex.meas (.mk ab aa v1 U) g).1,zU true p (Ex.meas (.mk ab aa v1 U) g).2),⟨⟨by grind,by grind,by grind,?_,?_,o⟩,by grind⟩,ze ?_⟩
  ·grind[acY]
  ·grind[acY]
  (conv=>whnf);rw[zC j R];rfl
 have ac:ks.length<=i:=by grind[wV]
 rw[aC ac]at o;rw[hq _ _ o];(conv=>whnf);exact aF (λx=>ac6 (g,x)) wd
termination_by cr e
decreasing_by
 simp_wf
 have:=bU hk;omega
mutual
def Ex.err:Ex ->Int
 | .mk op g v ks=>bif xl op g v ks.length !=0 then xl op g v ks.length else errL ks
def errL:am Ex ->Int
 | []=>0
 |k::r=>bif k.err !=0 then k.err else errL r
end
theorem arp {ks:am Ex}{i:Nat}(h:i<ks.length):errL (ks.drop i)=bif ks[i].err !=0 then ks[i].err else errL (ks.drop (i+1)):=by
 rw[zq h];rfl
theorem aiQ (e:Ex):Sat Pg kC [e.w] (λr=>r=rI e.err):=by
 have o:=auO e;obtain⟨op,nm,v,ks⟩:=e;have ih: ∀k∈ks,Sat Pg kC [k.w] (λr=>r=rI k.err):=λk hk=>aiQ k
 refine Ud (by kernel_rfl) λhb=>?_
 have p:=aod (hb _ (bJ ..));simp only[Ex.err];refine K4.s T4 ?_;refine Sat.w o ?_;refine zw (b:=xl op nm v ks.length !=0) (λh=>?_) (λh=>?_)
 ·(conv=>whnf);rw[h];rfl
 rw[h];simp only[aA];refine WS T4 (K4.l 0) ks.length (λi=>⟨[(13,.w (.c (.d (.sl (exsD ks))))),(14,zl (exsD ks).length),(15,zl i)],[]⟩) (λi=>errL ks=errL (ks.drop i)) ?_
 intro i hi j;refine zi (λh1=>?_) (λh1=>?_)
 ·have g:i<ks.length:=by simp_all[wV]
  rw[arp g]at j;have hg:(exsD ks)[((i:Int)).toNat]? =some (ks[i]).ds:=UA g;have hm:ks[i]∈ks:=bI g;generalize ks[i]=k at*;have P:=ih k hm;obtain⟨aa,U,v1,R⟩:=k;refine yu hg ?_;refine Sat.w P ?_;generalize(Ex.err (.mk aa U v1 R))=x at*;refine zw (b:=x !=0) (λI=>?_) (λI=>?_)
  ·rw[I,aB]at j;(conv=>whnf);rw[j];rfl
  rw[I,aA]at j;refine y6 g j ?_;rw[zC g p];rfl
 have J:ks.length<=i:=by grind[wV]
 rw[aC J]at j;(conv=>whnf);rw[j];rfl
termination_by cr e
decreasing_by
 simp_wf
 have:=bU hk;omega
def Ex.chk (e:Ex):Int:=bif decide ((e.meas 0).1>200)then 7 else bif decide ((e.meas 0).2>16)then 20 else e.err
theorem U5 (e:Ex):Sat Pg ajw [e.w] (λr=>r=rI e.chk):=by
 have j:=adX e 0 (by omega) (by omega);have l:=aiQ e;unfold Ex.chk;obtain⟨op,p,v,ks⟩:=e;refine ajh.s T4 ?_;refine Sat.cal (j) ?_;generalize(Ex.meas (.mk op p v ks) 0)=m at*;obtain⟨m1,o⟩:=m;refine zi (b:=decide (m1>200)) (λg=>?_) (λg=>?_)
 ·(conv=>whnf);rw[g];rfl
 refine zi (b:=decide (o>16)) (λi=>?_) (λi=>?_)
 ·(conv=>whnf);rw[g,i];rfl
 refine Sat.w l ?_;rw[g,i];rfl
def alA:am ByteArray ->am Pl
 | []=> [.box [.nil]]
 |s::l=> [.box [.own 1 1 (s::l).length],.arr 1 (zp (s::l)) false]
def yp (l:am ByteArray)(s:ByteArray):Int:=bif !yB s then 3 else bif hasB l s then 4 else 0
def axh (l:am ByteArray)(s:ByteArray):am Pl:=
 match l with
 | []=> [.box [.own 1 1 1],.arr 1 (zp [s]) false]
 |x::r=> [.box [.own 2 1 ((x::r).length+1)],.gone,.arr 1 (zp ((x::r)++[s])) false]
def Xm (l:am ByteArray)(s:ByteArray):Res:=⟨.w (.c (int (yp l s))),bif yp l s !=0 then alA l else axh l s⟩
theorem akz {l:am ByteArray}{s:ByteArray}(h:(!yB s)=true):yp l s=3:=by grind[yp]
theorem atg {l:am ByteArray}{s:ByteArray}(h:(!yB s)=false)(g:hasB l s=true):yp l s=4:=by grind[yp]
theorem aky {l:am ByteArray}{s:ByteArray}(h:(!yB s)=false)(g:hasB l s=false):yp l s=0:=by grind[yp]
theorem avg (l:am ByteArray): ∀y∈zp l,y.length=1:=by
 intro y g;obtain⟨r,_,rfl⟩:=List.mem_map.1 g;rfl
theorem Uc (l:am ByteArray)(s:ByteArray)(o:l.length<=1000000):zA Pg adr [.c (.ptr 0 0),.c (str s)] (alA l) (λr=>r=Xm l s):=by
 cases l with
 |nil=>
  unfold Xm;refine xX T4 Vv.ok (by kernel_rfl) (cg rfl) ?_;refine zi (b:=!yB s) (λh=>?_) (λh=>?_)
  ·(conv=>whnf);rw[akz h];rfl
  refine Sat.w (yi [] s) ?_;refine wu ?_ (hA:=by simp) (hB:=by grind[ym]) (hC:=by simp);rw[aky h rfl];rfl
 |cons x r=>
  unfold Xm;have j:(zp (x::r)).take ((x::r).length)=zp (x::r):=by grind[zF]
  refine xX T4 Vv.ok (by kernel_rfl) (cg rfl) ?_;refine zi (b:=!yB s) (λh=>?_) (λh=>?_)
  ·(conv=>whnf);rw[akz h];rfl
  (conv=>whnf);have i:=yi (x::r) s;unfold V3 at i;rw[<- j]at i;refine Sat.w i ?_;refine zw (b:=hasB (x::r) s) (λg=>?_) (λg=>?_)
  ·(conv=>whnf);rw[atg h g];rfl
  refine wu ?_ (hA:=by simp) (hB:=by grind[ym]) (hC:=by grind);rw[aky h g];show _=(⟨_,[.box [.own 2 1 ((x::r).length+1)],.gone,.arr 1 (zp ((x::r)++[s])) false]⟩:Res);rw[show zp ((x::r)++[s])=(zp (x::r)).take ((x::r).length)++zp [s]by grind[zp]];rfl
def vo:am ByteArray ->am ByteArray ->Int
 |_,[]=>0
 |g,s::r=>bif yp g s !=0 then yp g s else vo (g++[s]) r
def X2:am ByteArray ->am ByteArray ->am ByteArray
 |g,[]=>g
 |g,s::r=>bif yp g s !=0 then g else X2 (g++[s]) r
def W8 (g l:am ByteArray):Res:=⟨.w (.c (int (vo g l))),alA (X2 g l)⟩
theorem aic {g r:am ByteArray}{s:ByteArray}(h:(yp g s !=0)=true):W8 g (s::r)=⟨.w (.c (int (yp g s))),alA g⟩:=by
 simp only[W8,vo,X2,h,aB]
theorem an0 {g r:am ByteArray}{s:ByteArray}(h:(yp g s !=0)=false):W8 g (s::r)=W8 (g++[s]) r:=by
 simp_all[W8,vo,X2]
def ayA (l:am ByteArray)(i:Nat):am ByteArray ->S
 | []=>⟨[(0,cV (.ptr 100000 0)),(8,.w (V3 l)),(9,zl (zp l).length),(10,zl i)],[(100000,.box [.nil])]⟩
 |x::r=>⟨[(0,cV (.ptr 100000 0)),(8,.w (V3 l)),(9,zl (zp l).length),(10,zl i)],[(100000,.box [.own 600256 1 (x::r).length]),(600256,.arr 1 (zp (x::r)) false)]⟩
theorem zR {α:Type}{l:am α}{i:Nat}(h:i<l.length):l.take (i+1)=l.take i++[l[i]]:=b9 h
theorem aoJ (l:am ByteArray)(hl:l.length<=1000):zA Pg ads [.c (.ptr 0 0),V3 l] [.box [.nil]] (λr=>r=W8 [] l):=by
 refine xX T4 Vw.ok (by kernel_rfl) (cg rfl) ?_
 conv=>whnf
 refine yq (P:=Pg) (f:=T4.f) (body:=(Vw.l 0)) (λx:Nat×am ByteArray=>ayA l x.1 x.2) (λx=>l.length - x.1) (λx=>x.1<=l.length /\x.2.length=x.1 /\W8 [] l=W8 x.2 (l.drop x.1)) ⟨(0,[]),⟨aZ _,rfl,rfl⟩,ze ?_⟩ ?_
 ·exact rfl
 rintro⟨i,p⟩ hx;obtain⟨hi,ha,j⟩:i<=l.length /\p.length=i /\W8 [] l=W8 p (l.drop i):=hx;have wi:i<l.length ->aD.wrap ((i:Int)+1)=((i+1:Nat):Int):=λh=>zC h (by omega)
 cases p with
 |nil=>
  refine zi (λI=>?_) (λI=>?_)
  ·have g:i<l.length:=by have I:decide ((i:Int)<((zp l).length:Int))=true:=I;simp_all[zF]
   have U:=wL g;rw[zq g]at j;generalize l[i]=s at*;refine yu U ?_;refine zA.mono (Uc [] s (by simp)) ?_;rintro _ rfl;by_cases o:(yp [] s !=0)=true
   ·have e:Xm [] s=⟨.w (.c (int (yp [] s))),[.box [.nil]]⟩:=by unfold Xm;rw[o];rfl
    rw[aic o]at j;rw[e,j];refine zi (λk=>?_) (λk=>?_)
    ·exact rfl
    grind
   have o:(yp [] s !=0)=false:=by grind
   have J:yp [] s=0:=by grind
   have e:Xm [] s=⟨.w (.c (int 0)),[.box [.own 1 1 1],.arr 1 (zp [s]) false]⟩:=by unfold Xm;rw[o,J];rfl
   rw[an0 o]at j;rw[e];(conv=>whnf);refine⟨(i+1,[s]),⟨⟨g,by grind,j⟩,by grind⟩,ze ?_⟩;(conv=>whnf);rw[wi g];rfl
  have R:l.length<=i:=by grind[zF]
  rw[aC R]at j;rw[j];exact rfl
 |cons x r=>
  refine zi (λI=>?_) (λI=>?_)
  ·have g:i<l.length:=by have I:decide ((i:Int)<((zp l).length:Int))=true:=I;simp_all[zF]
   have U:=wL g;rw[zq g]at j;generalize l[i]=s at*;refine yu U ?_;refine zA.mono (Uc (x::r) s (by omega)) ?_;rintro _ rfl;by_cases o:(yp (x::r) s !=0)=true
   ·have e:Xm (x::r) s=⟨.w (.c (int (yp (x::r) s))),[.box [.own 1 1 (x::r).length],.arr 1 (zp (x::r)) false]⟩:=by unfold Xm;rw[o];rfl
    rw[aic o]at j;rw[e,j];refine zi (λk=>?_) (λk=>?_)
    ·exact rfl
    grind
   have o:(yp (x::r) s !=0)=false:=by grind
   have J:yp (x::r) s=0:=by grind
   have e:Xm (x::r) s=⟨.w (.c (int 0)),[.box [.own 2 1 ((x::r).length+1)],.gone,.arr 1 (zp ((x::r)++[s])) false]⟩:=by unfold Xm;rw[o,J];rfl
   rw[an0 o]at j;rw[e];(conv=>whnf);refine⟨(i+1,(x::r)++[s]),⟨⟨g,by grind,j⟩,by grind⟩,ze ?_⟩;(conv=>whnf);rw[wi g];show _=S.mk _ [(100000,.box [.own 600256 1 (x::(r++[s])).length]),_];rw[show(x::(r++[s])).length=(x::r).length+1 by simp];rfl
  have R:l.length<=i:=by grind[zF]
  rw[aC R]at j;rw[j];exact rfl
def zg (l:am Int):am (am D):=l.map λn=> [D.lit (.int .i64 n)]
theorem zB (l:am Int):(zg l).length=l.length:=by simp[zg]
theorem y5 {r:am Int}{i:Nat}(h:i<r.length):(zg r)[((i:Int)).toNat]? =some [D.lit (.int .i64 r[i])]:=by grind[zg]
theorem aeM (l:am Int)(s:Int):Sat Pg kx [.c (.d (.sl (zg l))),.c (int s)] (λr=>r=rI (yj (λx=>s==x) 0 l)):=by
 refine w8 0 (by kernel_rfl) rfl λj=>?_
 rw[zB]at j;refine XD.s T4 ?_
 refine yx (P:=Pg) (f:=T4.f) (body:=(XD.l 0)) l.length (λi=>⟨[(0,.w (.c (.d (.sl (zg l))))),(1,.w (.c (int s))),(7,zl (zg l).length),(8,zl i)],[]⟩)
  (λi=>yj (λx=>s==x) 0 l=yj (λx=>s==x) i (l.drop i)) ⟨rfl,ze ?_⟩ ?_
 ·exact rfl
 intro i hi o;refine zi (λJ=>?_) (λJ=>?_)
 ·have g:i<l.length:=by simp_all[zB]
  rw[zq g]at o;refine yu (y5 g) ?_;refine zi (λp=>?_) (λp=>?_)
  ·simp only[yj,p,aB]at o;(conv=>whnf);exact aF rI o.symm
  simp only[yj,p,aA]at o;refine y6 g o ?_;rw[zC g j];rfl
 have I:l.length<=i:=by grind[zB]
 rw[aC I]at o;(conv=>whnf);exact aF rI o.symm
def Kv (l:am Int)(s:Int):Bool:=l.any λx=>s==x
theorem aaZ (l:am Int)(s:Int):Sat Pg UM [.c (.d (.sl (zg l))),.c (int s)] (λr=>r=rB (Kv l s)):=by
 refine Ur.s T4 ?_;refine Sat.w (aeM l s) ?_;exact aF rB (Xp _ l 0)
def UH:am (am D) ->am Int
 | [.lit (.int _ m)]::r=>m::UH r
 |_=> []
theorem aqe (L:am (am D))(op:Int)(rest:am D)(h:zg (UH L)=L):Sat Pg afR [.c (.d (.sl L)),.c (.fp (.lit (.int .i64 op)::rest))] (λr=>r=rB (Kv (UH L) op)):=by
 rw[<- h];generalize UH L=l at*;have e:UH (zg l)=l:=by
  clear h;induction l<;>grind[UH,zg]
 rw[e];refine afp.s T4 ?_;refine Sat.cal (aaZ l op) ?_;rfl
def Kf (op:Int)(i:ByteArray)(v:Val)(g:Int):Bool:=((op==0&&zo i ⟨#[]⟩)&&qI v ⟨0,0,⟨#[]⟩⟩)&&g==0
def Ex.zero:Ex ->Bool
 | .mk op g v ks=>Kf op g v ks.length
theorem au2 (op:Int)(g:ByteArray)(k n:Int)(s:ByteArray)(l:am (am D)):Sat Pg Vk [.agg [int op,str g,int k,int n,str s,.d (.sl l)]] (λr=>r=rB (Kf op g ⟨k,n,s⟩ l.length)):=by
 refine xq T4 ajl.ok (by kernel_rfl) ?_
 repeat' (conv=>whnf
          refine zw (λh=>?_) (λh=>?_))
 all_goals refine aF rB ?_
 all_goals unfold Kf qI
 all_goals try simp only[aB,aA,bN,aW,bO,aP,bF,aU,aX,bA,aY,bB,aL,aQ,aI,aO,bH]at*
 all_goals first|done|(simp only[*,aB,aA,bN,aW,bO,aP,bF,aU,aX,bA,aY,bB,aL,aQ,aI,aO,bH];done)|(simp_all only[aB,aA,bN,aW,bO,aP,bF,aU,aX,bA,aY,bB,aL,aQ,aI,aO,bH];done)|skip
def aly:C ->aH Int| .d (.lit (.int .i64 n))=>some n|_=>none
def apK:C ->aH ByteArray| .d (.lit (.string n))=>some n|_=>none
def slD:C ->aH (am (am D))| .d (.sl n)=>some n|_=>none
theorem ahr {c:C}{n:Int}(h:aly c=some n):c=int n:=by
 unfold aly at h;split at h
 ·cases h;rfl
 cases h
theorem aov {c:C}{n:ByteArray}(h:apK c=some n):c=str n:=by
 unfold apK at h;split at h
 ·cases h;rfl
 cases h
theorem axK {c:C}{n:am (am D)}(h:slD c=some n):c= .d (.sl n):=by
 unfold slD at h;grind
def zc:am C ->aH W
 | [a,b,c,d,e,f]=>(aly a).bind λop=>(apK b).bind λg=>(aly c).bind λk=>(aly d).bind λn=>(apK e).bind λs=>(slD f).bind λl=>some (.c (bool (Kf op g ⟨k,n,s⟩ l.length)))
 |_=>none
def T5f (k:FuncId)(l:am W):aH W:=
 bif aV k Vk then(match l with| [.agg cs]=>zc cs|_=>none)else T4f k l
theorem axe (k:FuncId)(l:am W)(w:W)(h:T5f k l=some w):Sat Pg k l (λr=>r=⟨.w w,[]⟩):=by
 unfold T5f at h;cases hk:aV k Vk
 ·simp_all[axd]
 rw[hk,aB]at h;rw[aG hk];split at h
 ·rename_i cs;unfold zc at h;split at h
  ·obtain⟨op,g,h⟩:=aT.1 h;obtain⟨J,i,h⟩:=aT.1 h;obtain⟨v,j,h⟩:=aT.1 h;obtain⟨n,o,h⟩:=aT.1 h;obtain⟨s,p,h⟩:=aT.1 h;obtain⟨l,I,h⟩:=aT.1 h;cases h;rw[ahr g,aov i,ahr j,ahr o,aov p,axK I];exact au2 _ _ _ _ _ _
  cases h
 cases h
def T5:Tab Pg:=⟨T5f,axe⟩
structure Itm where
 e:Ex
 nm:ByteArray
def Itm.ds (x:Itm):am D:=x.e.ds++[.lit (.string x.nm)]
structure Agg where
 fn:ByteArray
 col:ByteArray
 nm:ByteArray
def Agg.ds (x:Agg):am D:=[.lit (.string x.fn),.lit (.string x.col),.lit (.string x.nm)]
structure Srt where
 col:ByteArray
 desc:Bool
def Srt.ds (x:Srt):am D:=[.lit (.string x.col),.lit (.bool x.desc)]
structure Stp where
 op:Int
 cond:Ex
 items:am Itm
 cols:am ByteArray
 aggs:am Agg
 sorts:am Srt
 n:Int
 table:ByteArray
def Stp.ds (s:Stp):am D:=[.lit (.int .i64 s.op)]++(s.cond.ds++[.sl (s.items.map Itm.ds),.sl (zp s.cols),.sl (s.aggs.map Agg.ds),.sl (s.sorts.map Srt.ds),.lit (.int .i64 s.n),.lit (.string s.table)])
def Stp.w (s:Stp):W:=.agg (s.ds.map .d)
def V5 (op:Int)(z:Bool)(g cols j i n:Int)(tb:ByteArray):Bool:=
 bif decide (op<1)||decide (op>9)then false else
 bif ((!Kv [1] op&& !z)||((!Kv [2] op&&decide (g>0))||((!Kv [3] op&&decide (j>0))||((!Kv [4] op&&decide (i>0))||(!Kv [5] op&&n !=0)))))then false else
 bif !Kv [6,7,8] op&& !zo tb ⟨#[]⟩then false else
 Kv [3,6,7,8,9] op||cols==0
def Stp.uses (s:Stp):Bool:=V5 s.op s.cond.zero s.items.length s.cols.length s.aggs.length s.sorts.length s.n s.table
theorem au1 (op:Int)(l:Int)(o:ByteArray)(k n:Int)(s:ByteArray)(ks g cols j i:am (am D))(m:Int)(tb:ByteArray):
 Sat Pg aaH [.agg [int op,int l,str o,int k,int n,str s,.d (.sl ks),.d (.sl g),.d (.sl cols),.d (.sl j),.d (.sl i),int m,str tb]] (λr=>r=rB (V5 op (Kf l o ⟨k,n,s⟩ ks.length) g.length cols.length j.length i.length m tb)):=by
 refine xq T5 ajk.ok (by kernel_rfl) ?_
 repeat' (conv=>whnf
          first|refine zw (λh=>?_) (λh=>?_)|(refine Sat.mono (aqe _ _ _ rfl) ?_;rintro _ rfl))
 all_goals refine aF rB ?_
 all_goals unfold V5
 all_goals try simp only[List.take_length,UH]at*
 all_goals generalize((List.length cols:Nat):Int)=p at*
 all_goals try simp only[aB,aA,bN,aW,bO,aP,bF,aU,aX,bA,aY,bB,aL,aQ,aI,aO,bH]at*
 all_goals first|done|(simp only[*,aB,aA,bN,aW,bO,aP,bF,aU,aX,bA,aY,bB,aL,aQ,aI,aO,bH];done)|(simp_all only[aB,aA,bN,aW,bO,aP,bF,aU,aX,bA,aY,bB,aL,aQ,aI,aO,bH];done)|skip
def yW (l:am Itm):am (am D):=l.map Itm.ds
theorem wJ (l:am Itm):(yW l).length=l.length:=by simp[yW]
theorem WM {r:am Itm}{i:Nat}(h:i<r.length):(yW r)[((i:Int)).toNat]? =some (r[i]).ds:=by grind[yW]
theorem gh {g:am ByteArray}{s:ByteArray}(h:(yp g s !=0)=true):Xm g s=⟨.w (.c (int (yp g s))),alA g⟩:=by grind[Xm]
theorem acG {g:am ByteArray}{s:ByteArray}(h:(yp g s !=0)=false):Xm g s=⟨.w (.c (int 0)),axh g s⟩:=by
 grind[Xm]
def x8:am ByteArray ->am Itm ->Int
 |_,[]=>0
 |g,x::r=>bif x.e.chk !=0 then x.e.chk else bif yp g x.nm !=0 then yp g x.nm else x8 (g++[x.nm]) r
def itS (l:am Itm)(i:Nat):am ByteArray ->S
 | []=>⟨[(3,cV (.ptr 3 0)),(8,.w (.c (.d (.sl (yW l))))),(9,zl (yW l).length),(10,zl i)],[(3,.box [.nil])]⟩
 |x::r=>⟨[(3,cV (.ptr 3 0)),(8,.w (.c (.d (.sl (yW l))))),(9,zl (yW l).length),(10,zl i)],[(3,.box [.own 600352 1 (x::r).length]),(600352,.arr 1 (zp (x::r)) false)]⟩
theorem asr (l:am Itm)(hl:l.length<=1000):Sat Pg aho [.c (.d (.sl (yW l)))] (λr=>r=rI (x8 [] l)):=by
 refine K3.s T5 ?_;refine yq (P:=Pg) (f:=T5.f) (body:=(K3.l 0)) (λx:Nat×am ByteArray=>itS l x.1 x.2) (λx=>l.length - x.1) (λx=>x.1<=l.length /\x.2.length=x.1 /\x8 [] l=x8 x.2 (l.drop x.1)) ⟨(0,[]),⟨aZ _,rfl,rfl⟩,ze ?_⟩ ?_
 ·exact rfl
 rintro⟨i,o⟩ hx;obtain⟨hi,ha,j⟩:i<=l.length /\o.length=i /\x8 [] l=x8 o (l.drop i):=hx;have wi:i<l.length ->aD.wrap ((i:Int)+1)=((i+1:Nat):Int):=λh=>zC h (by omega)
 have aa:decide ((i:Int)<((yW l).length:Int))=true ->i<l.length:=λh=>by simp_all[wJ]
 have U:decide ((i:Int)<((yW l).length:Int))=false ->x8 [] l=0:=λh=>by
  have:=aM h;rw[wJ]at this;rw[j,aC (by omega)];cases o<;>rfl
 have ab: ∀g:i<l.length,x8 [] l=bif l[i].e.chk !=0 then l[i].e.chk else bif yp o l[i].nm !=0 then yp o l[i].nm else x8 (o++[l[i].nm]) (l.drop (i+1)):=λg=>by
  rw[j,zq g];rfl
 cases o with
 |nil=>
  refine zi (λh1=>?_) (λh1=>?_)
  ·have g:=aa h1;have hg:=WM g;have j:=ab g;generalize l[i]=x at*;obtain⟨⟨R,J,v1,I⟩,s⟩:=x;refine yu hg ?_;refine Sat.cal (U5 (.mk R J v1 I)) ?_;generalize(Ex.chk (.mk R J v1 I))=e1 at*;refine zi (b:=e1 !=0) (λh2=>?_) (λh2=>?_)
   ·simp only[h2,aB]at j;(conv=>whnf);rw[j];rfl
   simp only[h2,aA]at j;(conv=>whnf);refine zA.mono (Uc [] s (by simp)) ?_;rintro _ rfl;by_cases p:(yp [] s !=0)=true
   ·rw[gh p];simp only[p,aB]at j;generalize yp [] s=e2 at*;refine zi (λk=>?_) (λk=>?_)
    ·(conv=>whnf);rw[j];rfl
    exact absurd (p.symm.trans k) (by simp)
   have p:(yp [] s !=0)=false:=by grind
   rw[acG p];simp only[p,aA]at j;(conv=>whnf);refine⟨(i+1,[s]),⟨⟨g,by grind,j⟩,by grind⟩,ze ?_⟩;(conv=>whnf);rw[wi g];rfl
  have hE:=U h1;rw[hE];exact rfl
 |cons y r=>
  refine zi (λh1=>?_) (λh1=>?_)
  ·have g:=aa h1;have hg:=WM g;have j:=ab g;generalize l[i]=x at*;obtain⟨⟨R,J,v1,I⟩,s⟩:=x;refine yu hg ?_;refine Sat.cal (U5 (.mk R J v1 I)) ?_;generalize(Ex.chk (.mk R J v1 I))=e1 at*;refine zi (b:=e1 !=0) (λh2=>?_) (λh2=>?_)
   ·simp only[h2,aB]at j;(conv=>whnf);rw[j];rfl
   simp only[h2,aA]at j;(conv=>whnf);refine zA.mono (Uc (y::r) s (by omega)) ?_;rintro _ rfl;by_cases p:(yp (y::r) s !=0)=true
   ·rw[gh p];simp only[p,aB]at j;generalize yp (y::r) s=e2 at*;refine zi (λk=>?_) (λk=>?_)
    ·(conv=>whnf);rw[j];rfl
    exact absurd (p.symm.trans k) (by simp)
   have p:(yp (y::r) s !=0)=false:=by grind
   rw[acG p];simp only[p,aA]at j;(conv=>whnf);refine⟨(i+1,(y::r)++[s]),⟨⟨g,by grind,j⟩,by grind⟩,ze ?_⟩;(conv=>whnf);rw[wi g];show _=S.mk _ [(3,.box [.own 600352 1 (y::(r++[s])).length]),_];rw[show(y::(r++[s])).length=(y::r).length+1 by simp];rfl
  have hE:=U h1;rw[hE];exact rfl
def wU (l:am ByteArray)(uT:Int):Int:=bif uz l.length uT !=0 then uz l.length uT else vo [] l
theorem amy {n uT:Int}(h:(uz n uT !=0)=false):n<=16:=by
 rw[cm]at h;unfold uz at h;obtain⟨_,h⟩:=yl (by omega) h;obtain⟨h,_⟩:=yl (by omega) h
 grind
theorem KJ (l:am ByteArray)(uT:Int):Sat Pg aeu [V3 l,.c (int uT)] (λr=>r=rI (wU l uT)):=by
 unfold wU;rw[<- zF];refine aej.s T5 ?_;refine zi (b:=uz (zp l).length uT !=0) (λh=>?_) (λh=>?_)
 ·(conv=>whnf);rw[h];rfl
 have g:=amy h;rw[zF]at g;(conv=>whnf);refine zA.mono (aoJ l (by omega)) ?_;rintro _ rfl;rw[h,aA];unfold W8;generalize vo [] l=e;cases X2 [] l with
 |nil=>
  exact rfl
 |cons x r=>
  exact rfl
def wt (l:am Agg):am (am D):=l.map Agg.ds
theorem jd (l:am Agg):(wt l).length=l.length:=by simp[wt]
theorem gj {r:am Agg}{i:Nat}(h:i<r.length):(wt r)[((i:Int)).toNat]? =some (r[i]).ds:=by grind[wt]
def fns:am ByteArray:=[⟨#[115,117,109]⟩,⟨#[109,105,110]⟩,⟨#[109,97,120]⟩,⟨#[102,105,114,115,116]⟩]
def abl:ByteArray:=⟨#[99,111,117,110,116]⟩
def aa8 (x:Agg):Bool:=bif !zo x.fn abl&& !hasB fns x.fn then true else zo x.fn abl== !zo x.col ⟨#[]⟩
def WD (x:Agg):Int:=bif aa8 x then 5 else bif !zo x.col ⟨#[]⟩&& !yB x.col then 3 else 0
def vG:am ByteArray ->am Agg ->Int
 |_,[]=>0
 |g,x::r=>bif WD x !=0 then WD x else bif yp g x.nm !=0 then yp g x.nm else vG (g++[x.nm]) r
def UE (cols:am ByteArray)(g:am Agg):Int:=
 bif aD.wrap ((cols.length:Int)+g.length)==0 then 8 else bif decide ((cols.length:Int)>16)||decide ((g.length:Int)>16)then 7 else
 bif vo [] cols !=0 then vo [] cols else vG cols g
def grS (l:am Agg)(i p:Nat):am ByteArray ->S
 | []=>⟨[(3,cV (.ptr 3 0)),(36,.w (.c (.d (.sl (wt l))))),(37,zl (wt l).length),(38,zl i)],[(3,.box [.nil])]⟩
 |x::r=>⟨[(3,cV (.ptr 3 0)),(36,.w (.c (.d (.sl (wt l))))),(37,zl (wt l).length),(38,zl i)],[(3,.box [.own p 1 (x::r).length]),(p,.arr 1 (zp (x::r)) false)]⟩
theorem afe: ∀(l g:am ByteArray),(vo g l !=0)=false ->X2 g l=g++l
 | [],g,_=>by simp[X2]
 |s::r,g,h=>by
  simp only[vo]at h;simp only[X2];cases i:(yp g s !=0)
  ·simp_all[afe]
  simp_all
theorem aol (g:am Agg)(cols:am ByteArray)(ae:g.length<=16)(af:cols.length<=16)(s:S)(p0:Nat)(ad:p0=600496\/p0=601152)(hs:yX s [3,36,37,38] (· =grS g 0 p0 cols)):
 zY (mwpR Pg T5.f (Ya.l 0)) [3,36,37,38] (j5 1 (Vp (mwpR Pg T5.f (.seq (.reg [⟨(some 2),none,false,.mov (.k (zl 0)),[3,36,37,38]⟩]) .ret)) (Qf Ya.A.res [] λr=>r=rI (vG cols g)))) s:=by
 refine yq (P:=Pg) (f:=T5.f) (body:=(Ya.l 0)) (λx:Nat×Nat×am ByteArray=>grS g x.1 x.2.1 x.2.2) (λx=>g.length - x.1) (λx=>x.1<=g.length /\(x.2.1=600496\/x.2.1=601152)/\x.2.2.length=x.1+cols.length /\vG cols g=vG x.2.2 (g.drop x.1)) ⟨(0,p0,cols),⟨aZ _,ad,by simp,rfl⟩,hs⟩ ?_;rintro⟨i,p,ac⟩ hx;obtain⟨hi,hp,ha,aa⟩:i<=g.length /\(p=600496\/p=601152)/\ac.length=i+cols.length /\vG cols g=vG ac (g.drop i):=hx;have wi:i<g.length ->aD.wrap ((i:Int)+1)=((i+1:Nat):Int):=λh=>zC h (by omega)
 have I:decide ((i:Int)<((wt g).length:Int))=true ->i<g.length:=λh=>by simp_all[jd]
 have o:decide ((i:Int)<((wt g).length:Int))=false ->vG cols g=0:=λh=>by
  have:=aM h;rw[jd]at this;rw[aa,aC (by omega)];cases ac<;>rfl
 have ab: ∀J:i<g.length,vG cols g=bif WD g[i] !=0 then WD g[i]else bif yp ac g[i].nm !=0 then yp ac g[i].nm else vG (ac++[g[i].nm]) (g.drop (i+1)):=λJ=>by
  rw[aa,zq J];rfl
 cases ac with
 |nil=>
  refine zi (λh1=>?_) (λh1=>?_)
  ·have J:=I h1;have hg:=gj J;have U:=ab J;generalize g[i]=x at*;obtain⟨fn,col,s⟩:=x;have R:=yi fns fn;have j:=Uc [] s (by grind);by_cases he:(yp [] s !=0)=true
   ·rw[gh he]at j;simp only[he,aB]at U;generalize yp [] s=e2 at*;refine yu hg ?_;repeat' ((conv=>whnf);first|((with_reducible show Sat _ _ _ _);refine Sat.mono R ?_;rintro _ rfl)|((with_reducible show zA _ _ _ _ _);refine zA.mono j ?_;rintro _ rfl)|refine zw (λh=>?_) (λh=>?_))
    all_goals first|(exfalso;simp_all;done)|skip
    all_goals (conv=>whnf)
    all_goals rw[U]
    all_goals clear R j ab o I hs U aa wi hg
    all_goals unfold WD aa8
    all_goals refine aF rI ?_
    all_goals ((try unfold abl at*);(try generalize zo fn ⟨#[99,111,117,110,116]⟩=a at*);(try generalize hasB fns fn=b at*);(try generalize zo col ⟨#[]⟩=c at*);(try generalize yB col=d at*);(try cases a)<;>(try cases b)<;>(try cases c)<;>(try cases d)<;>simp_all;done)
   have he:(yp [] s !=0)=false:=by grind
   rw[acG he]at j;simp only[he,aA]at U;unfold WD aa8 at U;refine yu hg ?_;repeat' ((conv=>whnf);first|((with_reducible show Sat _ _ _ _);refine Sat.mono R ?_;rintro _ rfl)|((with_reducible show zA _ _ _ _ _);refine zA.mono j ?_;rintro _ rfl)|refine zw (λh=>?_) (λh=>?_))
   all_goals first|((conv=>whnf);(with_reducible show _=_);rw[U];refine aF rI ?_;clear R j ab o I hs U aa wi hg;((try unfold abl at*);(try generalize zo fn ⟨#[99,111,117,110,116]⟩=a at*);(try generalize hasB fns fn=b at*);(try generalize zo col ⟨#[]⟩=c at*);(try generalize yB col=d at*);(try cases a)<;>(try cases b)<;>(try cases c)<;>(try cases d)<;>simp_all;done))|skip
   all_goals
    (conv=>whnf);refine⟨(i+1,601152,[]++[s]),⟨⟨J,.inr rfl,by simp at ha⊢;omega,?_⟩,by show g.length -(i+1)<g.length - i;omega⟩,ze ?_⟩
    ·rw[U];clear R j ab o I hs U aa wi hg;((try unfold abl at*);(try generalize zo fn ⟨#[99,111,117,110,116]⟩=a at*);(try generalize hasB fns fn=b at*);(try generalize zo col ⟨#[]⟩=c at*);(try generalize yB col=d at*);(try cases a)<;>(try cases b)<;>(try cases c)<;>(try cases d)<;>simp_all;done)
    (conv=>whnf);rw[wi J];rfl
  have hE:=o h1;rw[hE];exact rfl
 |cons y r=>
  rcases hp with rfl|rfl
  all_goals
   refine zi (λh1=>?_) (λh1=>?_)
   ·have J:=I h1;have hg:=gj J;have U:=ab J;generalize g[i]=x at*;obtain⟨fn,col,s⟩:=x;have R:=yi fns fn;have j:=Uc (y::r) s (by first|(simp;done)|(simp at ha⊢;omega));by_cases he:(yp (y::r) s !=0)=true
    ·rw[gh he]at j;simp only[he,aB]at U;generalize yp (y::r) s=e2 at*;refine yu hg ?_;repeat' ((conv=>whnf);first|((with_reducible show Sat _ _ _ _);refine Sat.mono R ?_;rintro _ rfl)|((with_reducible show zA _ _ _ _ _);refine zA.mono j ?_;rintro _ rfl)|refine zw (λh=>?_) (λh=>?_))
     all_goals first|(exfalso;simp_all;done)|skip
     all_goals (conv=>whnf)
     all_goals rw[U]
     all_goals clear R j ab o I hs U aa wi hg
     all_goals unfold WD aa8
     all_goals refine aF rI ?_
     all_goals ((try unfold abl at*);(try generalize zo fn ⟨#[99,111,117,110,116]⟩=a at*);(try generalize hasB fns fn=b at*);(try generalize zo col ⟨#[]⟩=c at*);(try generalize yB col=d at*);(try cases a)<;>(try cases b)<;>(try cases c)<;>(try cases d)<;>simp_all;done)
    have he:(yp (y::r) s !=0)=false:=by simpa using he
    rw[acG he]at j;simp only[he,aA]at U;unfold WD aa8 at U;refine yu hg ?_;repeat' ((conv=>whnf);first|((with_reducible show Sat _ _ _ _);refine Sat.mono R ?_;rintro _ rfl)|((with_reducible show zA _ _ _ _ _);refine zA.mono j ?_;rintro _ rfl)|refine zw (λh=>?_) (λh=>?_))
    all_goals first|((conv=>whnf);(with_reducible show _=_);rw[U];refine aF rI ?_;clear R j ab o I hs U aa wi hg;((try unfold abl at*);(try generalize zo fn ⟨#[99,111,117,110,116]⟩=a at*);(try generalize hasB fns fn=b at*);(try generalize zo col ⟨#[]⟩=c at*);(try generalize yB col=d at*);(try cases a)<;>(try cases b)<;>(try cases c)<;>(try cases d)<;>simp_all;done))|skip
    all_goals
     (conv=>whnf);refine⟨(i+1,601152,(y::r)++[s]),⟨⟨J,.inr rfl,by simp at ha⊢;omega,?_⟩,by show g.length -(i+1)<g.length - i;omega⟩,ze ?_⟩
     ·rw[U];clear R j ab o I hs U aa wi hg;((try unfold abl at*);(try generalize zo fn ⟨#[99,111,117,110,116]⟩=a at*);(try generalize hasB fns fn=b at*);(try generalize zo col ⟨#[]⟩=c at*);(try generalize yB col=d at*);(try cases a)<;>(try cases b)<;>(try cases c)<;>(try cases d)<;>simp_all;done)
     (conv=>whnf);rw[wi J];show _=S.mk _ [(3,.box [.own 601152 1 (y::(r++[s])).length]),_];rw[show(y::(r++[s])).length=(y::r).length+1 by simp];rfl
   have hE:=o h1;rw[hE];exact rfl
theorem asq (op U:Int)(nm:ByteArray)(k n:Int)(s:ByteArray)(ks j:am (am D))(cols:am ByteArray)(g:am Agg)(l:am (am D))(m:Int)(tb:ByteArray):
 Sat Pg ahn [.agg [int op,int U,str nm,int k,int n,str s,.d (.sl ks),.d (.sl j),.d (.sl (zp cols)),.d (.sl (wt g)),.d (.sl l),int m,str tb]] (λr=>r=rI (UE cols g)):=by
 unfold UE;rw[<- zF,<- jd];refine Ya.s T5 ?_;refine zi (b:=aD.wrap (((zp cols).length:Int)+(wt g).length)==0) (λh=>?_) (λh=>?_)
 ·(conv=>whnf);rw[h];rfl
 rw[h,aA];refine zi (b:=decide (((zp cols).length:Int)>16)||decide (((wt g).length:Int)>16)) (λI=>?_) (λI=>?_)
 ·(conv=>whnf);rw[I];rfl
 rw[I,aA];simp only[bM,bP,zF,jd]at I;refine zA.mono (aoJ cols (by omega)) ?_;rintro _ rfl;have o:=afe cols [];unfold W8;generalize vo [] cols=e at*;by_cases J:(e !=0)=true
 ·rw[J,aB];cases X2 [] cols with
  |nil=>
   refine zi (λP=>?_) (λP=>?_)
   ·exact rfl
   grind
  |cons x r=>
   refine zi (λP=>?_) (λP=>?_)
   ·exact rfl
   grind
 have J:(e !=0)=false:=by grind
 have R:e=0:=by grind
 rw[o J,List.nil_append,J,aA,R];have i:cols.length<=16:=by omega
 cases p:cols with
 |nil=>
  rw[p]at i;refine aol g [] (by omega) i _ 600496 (.inl rfl) (ze ?_);exact rfl
 |cons x r=>
  rw[p]at i;refine aol g (x::r) (by omega) i _ 600496 (.inl rfl) (ze ?_);exact rfl
def xQ (l:am Srt):am (am D):=l.map Srt.ds
theorem Z4 (l:am Srt):(xQ l).length=l.length:=by simp[xQ]
theorem Jc {r:am Srt}{i:Nat}(h:i<r.length):(xQ r)[((i:Int)).toNat]? =some (r[i]).ds:=by grind[xQ]
def Stp.err (s:Stp):Int:=
 bif !s.uses then 1 else bif s.op==1 then s.cond.chk else
 bif s.op==2 then(bif uz s.items.length 1 !=0 then uz s.items.length 1 else x8 [] s.items)else
 bif s.op==3 then UE s.cols s.aggs else bif s.op==4 then wU (s.sorts.map Srt.col) 1 else
 bif s.op==5 then(bif decide (s.n<0)||decide (s.n>20000)then 2 else 0)else bif s.op==9 then wU s.cols 0 else
 bif !yB s.table then 3 else wU s.cols (bif s.op==6 then 1 else 0)
def ay6 (l:am Srt)(i:Nat):am ByteArray ->S
 | []=>⟨[(4,cV .nil),(37,.w (.c (.d (.sl (xQ l))))),(38,zl (xQ l).length),(39,zl i)],[]⟩
 |x::r=>⟨[(4,cV (.own 47 1 (x::r).length)),(37,.w (.c (.d (.sl (xQ l))))),(38,zl (xQ l).length),(39,zl i)],[(47,.arr 1 (zp (x::r)) false)]⟩
theorem ut (s:Stp)(hs:s.sorts.length<=1000000):Sat Pg ajx [s.w] (λr=>r=rI s.err):=by
 obtain⟨op,⟨eo,nm,⟨vk,vn,vs⟩,ks⟩,j,cols,o,g,n,tb⟩:=s;have hu:Sat Pg aaH [Stp.w ⟨op,⟨eo,nm,⟨vk,vn,vs⟩,ks⟩,j,cols,o,g,n,tb⟩] (λr=>r=rB (Stp.uses ⟨op,⟨eo,nm,⟨vk,vn,vs⟩,ks⟩,j,cols,o,g,n,tb⟩)):=by
  have:=au1 op eo nm vk vn vs (exsD ks) (yW j) (zp cols) (wt o) (xQ g) n tb;rw[wV,wJ,zF,jd,Z4]at this;exact this
 have hg:=asq op eo nm vk vn vs (exsD ks) (yW j) cols o (xQ g) n tb;have he:=U5 ⟨eo,nm,⟨vk,vn,vs⟩,ks⟩;have hi:=asr j;have hc:=KJ cols;have hs:g.length<=1000000:=hs;unfold Stp.err;simp only;generalize(Stp.uses ⟨op,⟨eo,nm,⟨vk,vn,vs⟩,ks⟩,j,cols,o,g,n,tb⟩)=u at*;generalize Ex.chk ⟨eo,nm,⟨vk,vn,vs⟩,ks⟩=ce at*;generalize UE cols o=ge at*;rw[<- wJ];refine aax.s T5 ?_;refine Sat.w hu ?_;refine zw (b:=!u) (λh1=>?_) (λh1=>?_)
 ·(conv=>whnf);rw[h1];rfl
 rw[h1,aA];refine zi (b:=op==1) (λh2=>?_) (λh2=>?_)
 ·refine Sat.w he ?_;rw[h2];rfl
 rw[h2,aA];refine zi (b:=op==2) (λh3=>?_) (λh3=>?_)
 ·rw[h3,aB];refine zi (b:=uz (yW j).length 1 !=0) (λP=>?_) (λP=>?_)
  ·(conv=>whnf);rw[P];rfl
  have hl:=amy P;rw[wJ]at hl;rw[P,aA];(conv=>whnf);refine Sat.cal (hi (by omega)) ?_;rfl
 rw[h3,aA];refine zi (b:=op==3) (λP=>?_) (λP=>?_)
 ·rw[P,aB];(conv=>whnf);refine Sat.cal (hg) ?_;rfl
 rw[P,aA];refine zi (b:=op==4) (λh5=>?_) (λh5=>?_)
 ·rw[h5,aB];refine WS T5 (aax.l 0) g.length (λi=>ay6 g i ((g.map Srt.col).take i)) (λ_=>True) ?_
  ·intro i ad _;have wi:i<g.length ->aD.wrap ((i:Int)+1)=((i+1:Nat):Int):=λh=>zC h (by omega)
   have U:decide ((i:Int)<((xQ g).length:Int))=true ->i<g.length:=λh=>by simp_all[Z4]
   have I:decide ((i:Int)<((xQ g).length:Int))=false ->(g.map Srt.col).take i=g.map Srt.col:=λh=>by
    grind[Z4,bK]
   have J: ∀h:i<g.length,(g.map Srt.col).take (i+1)=(g.map Srt.col).take i++[g[i].col]:=λh=>by
    grind[zR]
   have ac:((g.map Srt.col).take i).length<=1000000:=by grind
   cases R:(g.map Srt.col).take i with
   |nil=>
    rw[R]at J I;refine zi (λk1=>?_) (λk1=>?_)
    ·have p:=U k1;have hg:=Jc p;refine yu hg ?_;refine wu ?_ (hA:=by simp) (hB:=by grind[ym]) (hC:=by simp);refine y6 p trivial ?_;rw[J,wi p];rfl
    have hE:=I k1;rw[<- hE];refine Sat.cal (KJ [] 1) ?_;rfl
   |cons y r=>
    rw[R]at J I ac;refine zi (λk1=>?_) (λk1=>?_)
    ·have p:=U k1;have hg:=Jc p;have J:=J p;generalize g[i]=x at*;obtain⟨c,b⟩:=x;refine yu hg ?_;refine wu ?_ (hA:=by simp) (hB:=by grind[ym]) (hC:=by grind);refine y6 p trivial ?_;rw[J,wi p];have ab:(zp (y::r)).take ((y::r).length)=zp (y::r):=by grind[zF]
     show _=S.mk [(4,cV (.own 47 1 (y::(r++[c])).length)),_,_,_] [(47,.arr 1 (zp ((y::r)++[c])) false)];rw[show(y::(r++[c])).length=(y::r).length+1 by simp,show zp ((y::r)++[c])=(zp (y::r)).take ((y::r).length)++zp [c]by grind[zp]];rfl
    have hE:=I k1;have ab:(zp (y::r)).take ((y::r).length)=zp (y::r):=by grind[zF]
    have aa:=KJ (y::r) 1;unfold V3 at aa;rw[<- ab]at aa;rw[<- hE];refine Sat.cal (aa) ?_;rfl
 rw[h5,aA];refine zi (b:=op==5) (λh6=>?_) (λh6=>?_)
 ·rw[h6,aB];refine zi (b:=decide (n<0)||decide (n>20000)) (λh7=>?_) (λh7=>?_)
  ·rw[h7,aB];exact rfl
  rw[h7,aA];exact rfl
 rw[h6,aA];refine zi (b:=op==9) (λh7=>?_) (λh7=>?_)
 ·rw[h7,aB];refine Sat.cal (hc 0) ?_;rfl
 rw[h7,aA];refine zi (b:=!yB tb) (λh8=>?_) (λh8=>?_)
 ·rw[h8,aB];exact rfl
 rw[h8,aA];refine zi (b:=op==6) (λh9=>?_) (λh9=>?_)
 ·rw[h9,aB];refine Sat.cal (hc 1) ?_;rfl
 rw[h9,aA];refine Sat.cal (hc 0) ?_;rfl
structure Qry where
 src:ByteArray
 steps:am Stp
def wQ (l:am Stp):am (am D):=l.map Stp.ds
theorem Z5 (l:am Stp):(wQ l).length=l.length:=by simp[wQ]
theorem Jd {r:am Stp}{i:Nat}(h:i<r.length):(wQ r)[((i:Int)).toNat]? =some (r[i]).ds:=by grind[wQ]
def Qry.w (q:Qry):W:=.agg [str q.src,.d (.sl (wQ q.steps))]
def Xz:am Stp ->Int
 | []=>0
 |s::r=>bif s.err !=0 then s.err else Xz r
def Qry.err (q:Qry):Int:=bif !yB q.src then 3 else bif decide ((q.steps.length:Int)>16)then 7 else Xz q.steps
theorem aiN (q:Qry)(hs: ∀s∈q.steps,s.sorts.length<=1000000):Sat Pg ahm [q.w] (λr=>r=rI q.err):=by
 obtain⟨aa,l⟩:=q;unfold Qry.err;rw[<- Z5];refine K2.s T5 ?_;refine zi (b:=!yB aa) (λp=>?_) (λp=>?_)
 ·rw[p,aB];exact rfl
 rw[p,aA];refine zi (b:=decide (((wQ l).length:Int)>16)) (λo=>?_) (λo=>?_)
 ·rw[o,aB];exact rfl
 rw[o,aA];have o:=aM o;rw[Z5]at o;refine WS T5 (K2.l 0) l.length (λi=>⟨[(17,.w (.c (.d (.sl (wQ l))))),(18,zl (wQ l).length),(19,zl i)],[]⟩) (λi=>Xz l=Xz (l.drop i)) ?_
 intro i hi j;refine zi (λk1=>?_) (λk1=>?_)
 ·have g:i<l.length:=by simp_all[Z5]
  rw[zq g]at j;have hg:=Jd g;have hm:=hs _ (bI g);generalize l[i]=s at*;have J:=ut s hm;simp only[Xz]at j;generalize s.err=e at*;obtain⟨op,⟨eo,nm,⟨vk,vn,vs⟩,ks⟩,P,cols,ab,U,n,tb⟩:=s;refine yu hg ?_;refine Sat.w J ?_;refine zw (b:=e !=0) (λR=>?_) (λR=>?_)
  ·rw[R,aB]at j;rw[j];rfl
  rw[R,aA]at j;refine y6 g j ?_;rw[zC g (by omega)];rfl
 have I:l.length<=i:=by grind[Z5]
 rw[aC I]at j;rw[j];rfl
abbrev T6f:=T5f
theorem ao0 (k:FuncId)(l:am W)(w:W)(h:T6f k l=some w):Sat Pg k l (λr=>r=⟨.w w,[]⟩):=axe k l w h
def T6:Tab Pg:=⟨T6f,ao0⟩
theorem adx (a b:am Val):Sat Pg afQ [yt a,yt b] (λr=>r=rB (xN a b)):=by
 have h:=ahR a b;generalize xN a b=x at*;refine afo.s T6 ?_;refine Sat.cal (h) ?_;rfl
def agh (a b:Tbl):Bool:=bif (((a.cols.length:Int)) !=b.cols.length)||(((a.rows.length:Int)) !=b.rows.length)then false else bif !vd eqC a.cols b.cols then false else vd xN a.rows b.rows
theorem afd {α:Type}(e:α ->α ->Bool){a b:am α}{i:Nat}(h:i<a.length)(g:i<b.length):vd e (a.drop i) (b.drop i)=bif !e a[i] b[i]then false else vd e (a.drop (i+1)) (b.drop (i+1)):=by
 rw[zq h,zq g];rfl
theorem Wn (a b:Tbl):Sat Pg alw [a.w,b.w] (λr=>r=rB (agh a b)):=by
 obtain⟨I,p⟩:=a;obtain⟨R,br⟩:=b;unfold agh;simp only;rw[<- zV,<- zV,<- zx,<- zx];refine Ud (by kernel_rfl) λhb=>?_
 have hb:=hb _ (bJ ..);have ad:(zm I).length<=9223372036854775807:=by
  have:=hb (.d (.sl (zm I))) (by simp);simp only[Kl,bnd]at this;exact this.1
 have ae:(zf p).length<=9223372036854775807:=by
  have:=hb (.d (.sl (zf p))) (by simp);simp only[Kl,bnd]at this;exact this.1
 clear hb;rw[zV]at ad;rw[zx]at ae;refine Uq.s T6 ?_;refine zw (b:=(((zm I).length:Int)) !=((zm R).length:Int)||(((zf p).length:Int)) !=((zf br).length:Int)) (λh=>?_) (λh=>?_)
 ·rw[h,aB];exact rfl
 rw[h,aA];simp only[bM,cm,zV,zx]at h;(conv=>whnf);refine yx (P:=Pg) (f:=T6.f) (body:=(Uq.l 0)) I.length (λi=>⟨[(2,cV (.ptr 2 0)),(3,cV (.ptr 3 0)),(5,zl i)],[(2,.box [.d (.sl (zm I)),.d (.sl (zf p))]),(3,.box [.d (.sl (zm R)),.d (.sl (zf br))])]⟩) (λi=>vd eqC I R=vd eqC (I.drop i) (R.drop i)) ⟨rfl,ze ?_⟩ ?_
 ·exact rfl
 intro i hi j;refine zi (λU=>?_) (λU=>?_)
 ·have g:i<I.length:=by have:=aS U;rw[zV]at this;omega
  have J:i<R.length:=by omega
  rw[afd _ g J]at j;have hg:=xC g;have aa:=xC J;generalize I[i]=x at*;generalize R[i]=y at*;obtain⟨x1,x2⟩:=x;obtain⟨y1,y2⟩:=y;(conv=>whnf);refine⟨by omega,_,hg,rfl,?_⟩;(conv=>whnf);refine⟨by omega,_,aa,rfl,?_⟩;refine zi (b:=!eqC ⟨x1,x2⟩ ⟨y1,y2⟩) (λh2=>?_) (λh2=>?_)
  ·rw[h2,aB]at j;(conv=>whnf);rw[j];rfl
  rw[h2,aA]at j;(conv=>whnf);refine⟨g,j,ze ?_⟩;(conv=>whnf);rw[zC g ad];rfl
 have ab:I.length<=i:=by have:=aM U;rw[zV]at this;omega
 rw[Jx _ ab (by omega)]at j;rw[j,aY,aA];(conv=>whnf);refine yx (P:=Pg) (f:=T6.f) (body:=(Uq.l 1)) p.length (λi=>⟨[(2,cV (.ptr 2 0)),(3,cV (.ptr 3 0)),(6,zl i)],[(2,.box [.d (.sl (zm I)),.d (.sl (zf p))]),(3,.box [.d (.sl (zm R)),.d (.sl (zf br))])]⟩) (λi=>vd xN p br=vd xN (p.drop i) (br.drop i)) ⟨rfl,ze ?_⟩ ?_
 ·exact rfl
 intro i hi j;refine zi (λU=>?_) (λU=>?_)
 ·have g:i<p.length:=by have:=aS U;rw[zx]at this;omega
  have J:i<br.length:=by omega
  rw[afd _ g J]at j;have hg:=yJ g;have aa:=yJ J;have hs:=adx p[i] br[i];generalize xN p[i] br[i]=o at*;generalize p[i]=x at*;generalize br[i]=y at*;(conv=>whnf);refine⟨by omega,_,hg,rfl,?_⟩;(conv=>whnf);refine⟨by omega,_,aa,rfl,?_⟩;refine Sat.w hs ?_;refine zw (b:=!o) (λh2=>?_) (λh2=>?_)
  ·rw[h2,aB]at j;(conv=>whnf);rw[j];rfl
  rw[h2,aA]at j;(conv=>whnf);refine⟨g,j,ze ?_⟩;(conv=>whnf);rw[zC g ae];rfl
 have ab:p.length<=i:=by have:=aM U;rw[zx]at this;omega
 rw[Jx _ ab (by omega)]at j;rw[j];exact rfl
theorem amb (x:Col)(name:ByteArray):Sat Pg VA [x.w,.c (.fp [.lit (.string name)])] (λr=>r=rB (zo x.name name)):=by
 obtain⟨a,b⟩:=x;refine xq T6 adl.ok (by kernel_rfl) ?_;exact rfl
theorem xJ (l:am Col)(name:ByteArray):Sat Pg afU [.c (.d (.sl (zm l))),.c (str name)] (λr=>r=rI (zj l name)):=by
 refine afr.s T6 ?_;refine Sat.w (v7 VA [.lit (.string name)] (λx=>zo x.name name) (λx=>amb x name) l) ?_;rfl
def vq (k g:Int):Bool:=k==g||k==0
theorem Wm (k g:Int):Sat Pg ajA [.c (int k),.c (int g)] (λr=>r=rB (vq k g)):=by
 unfold vq;refine xq T6 ajp.ok (by kernel_rfl) ?_
 repeat' (conv=>whnf
          refine zw (λh=>?_) (λh=>?_))
 all_goals refine aF rB ?_
 simp_all
theorem asj (k g:Int):Sat Pg kE [.c (int k),.c (.fp [.lit (.int .i64 g)])] (λr=>r=rB (!vq k g)):=by
 refine ag8.s T6 ?_;refine Sat.w (Wm k g) ?_;rfl
theorem Jr (g:FuncId)(cap:am D)(p:Int ->Bool)(hp: ∀x:Int,Sat Pg g [.c (int x),.c (.fp cap)] (λr=>r=rB (p x)))(l:am Int):
 Sat Pg Wc [.c (.d (.sl (zg l))),.c (.d (.fn g [cap]))] (λr=>r=rI (yj p 0 l)):=by
 refine w8 0 (by kernel_rfl) rfl λo=>?_
 rw[zB]at o;refine jB.s T6 ?_
 refine yx (P:=Pg) (f:=T6.f) (body:=(jB.l 0)) l.length (λi=>⟨[(0,.w (.c (.d (.sl (zg l))))),(1,.w (.c (.d (.fn g [cap])))),(7,zl (zg l).length),(8,zl i)],[]⟩)
  (λi=>yj p 0 l=yj p i (l.drop i)) ⟨rfl,ze ?_⟩ ?_
 ·exact rfl
 intro i hi I;refine zi (λU=>?_) (λU=>?_)
 ·have j:i<l.length:=by simp_all[zB]
  (conv=>whnf);refine yu (y5 j) ?_;refine Sat.cal (hp l[i]) ?_;rw[zq j]at I;refine zi (λJ=>?_) (λJ=>?_)
  ·simp only[yj,J,aB]at I;(conv=>whnf);exact aF rI I.symm
  simp only[yj,J,aA]at I;refine y6 j I ?_;rw[zC j o];rfl
 have R:l.length<=i:=by grind[zB]
 rw[aC R]at I;(conv=>whnf);exact aF rI I.symm
theorem Vn (g:FuncId)(cap:am D)(p:Int ->Bool)(i: ∀x:Int,Sat Pg g [.c (int x),.c (.fp cap)] (λr=>r=rB (p x)))(l:am Int):
 Sat Pg XV [.c (.d (.sl (zg l))),.c (.d (.fn g [cap]))] (λr=>r=rB (l.any p)):=by
 refine XU.s T6 ?_;refine Sat.w (Jr g cap p i l) ?_;exact aF rB (Xp _ l 0)
def qA (l:am Int)(g:Int):Bool:=!l.any λk=>!vq k g
theorem aeR (l:am Int)(g:Int):Sat Pg abM [.c (.d (.sl (zg l))),.c (int g)] (λr=>r=rB (qA l g)):=by
 refine akX.s T6 ?_;refine Sat.w (Vn kE [.lit (.int .i64 g)] (λk=>!vq k g) (λx=>asj x g) l) ?_;rfl
def rII (x:Int×Int):Res:=⟨.tup [.c (int x.1),.c (int x.2)],[]⟩
def ja (b:Bool)(k:Int):Int×Int:=bif b then(k,0)else(0,14)
theorem xV (b:Bool)(k:Int):Sat Pg ajC [.c (bool b),.c (int k)] (λr=>r=rII (ja b k)):=by
 cases b<;>
 ·refine xq T6 ajq.ok (by kernel_rfl) ?_;exact rfl
def Yb (g:ByteArray)(l:am Int):Int×Int:=
 bif zo g ⟨#[109,105,110]⟩||zo g ⟨#[109,97,120]⟩then ja (qA l 2||qA l 3) (zU true (l.getD 0 0) (l.getD 1 0))else
 bif zo g ⟨#[97,98,115]⟩then ja (qA l 2) 2 else bif zo g ⟨#[108,101,110]⟩then ja (qA l 3) 2 else ja (qA l 3) 1
theorem asm (j:ByteArray)(l:am Int)(g:(zo j ⟨#[109,105,110]⟩||zo j ⟨#[109,97,120]⟩)=true ->2<=l.length):Sat Pg aaJ [.c (str j),.c (.d (.sl (zg l)))] (λr=>r=rII (Yb j l)):=by
 unfold Yb;have U:=aeR l 2;have I:=aeR l 3;have o:2<=l.length ->(zg l)[(0:Int).toNat]? =some [D.lit (.int .i64 (l.getD 0 0))]:=λh=>by
  have:=y5 (r:=l) (i:=0) (by omega)
  grind
 have g1:2<=l.length ->(zg l)[(1:Int).toNat]? =some [D.lit (.int .i64 (l.getD 1 0))]:=λh=>by
  have:=y5 (r:=l) (i:=1) (by omega)
  grind
 generalize l.getD 0 0=J at*;generalize l.getD 1 0=P at*;generalize qA l 2=R at*;generalize qA l 3=p at*;refine ajo.s T6 ?_;generalize zo j ⟨#[109,105,110]⟩=p1 at*;cases p1 with
 |true=>
  have g:=g rfl;have o:=o g;have g1:=g1 g;refine yu o ?_;refine yu g1 ?_;refine Sat.w U ?_;cases R with
  |true=>
   refine Sat.w (xV true (zU true J P)) ?_;rfl
  |false=>
   refine Sat.w I ?_;refine Sat.w (xV p (zU true J P)) ?_;rfl
 |false=>
  (conv=>whnf);generalize zo j ⟨#[109,97,120]⟩=p2 at*;cases p2 with
  |true=>
   have g:=g rfl;have o:=o g;have g1:=g1 g;refine yu o ?_;refine yu g1 ?_;refine Sat.w U ?_;cases R with
   |true=>
    refine Sat.w (xV true (zU true J P)) ?_;rfl
   |false=>
    refine Sat.w I ?_;refine Sat.w (xV p (zU true J P)) ?_;rfl
  |false=>
   (conv=>whnf);generalize zo j ⟨#[97,98,115]⟩=p3 at*;cases p3 with
   |true=>
    refine Sat.w U ?_;refine Sat.w (xV R 2) ?_;rfl
   |false=>
    (conv=>whnf);generalize zo j ⟨#[108,101,110]⟩=p4 at*;cases p4 with
    |true=>
     refine Sat.w I ?_;refine Sat.w (xV p 2) ?_;rfl
    |false=>
     refine Sat.w I ?_;refine Sat.w (xV p 1) ?_;rfl
def Qu (op:Int)(g:ByteArray):Int:=bif op==1||op==2 then 0 else bif op==3||op==4 then 1 else bif op==16 then qg g else 2
theorem Wx {op:Int}{j:ByteArray}{v:Val}{i g:Int}{name l:Bool}(h:vS op j v i g name l=0):i=g:=by
 have o:=(yl (by omega) h).1<;>simp_all
theorem anx {op:Int}{j:ByteArray}{v:Val}{p g:Int}(I:(op==16)=true)(h:vS op j v p g true false=0):g=qg j:=by
 have i:=(yl (by omega) h).2;simp only[aA]at i;have l:=(yl (by omega) i).2;have o:=(yl (by omega) l).2;have r:=(yl (by omega) o).1;simp_all
theorem Qv {op:Int}{p:ByteArray}{v:Val}{o:Int}(h:xl op p v o=0):o=Qu op p /\1<=op /\op<=16:=by
 unfold xl at h;unfold Qu;cases i:(op==1)
 ·rw[i,aA]at h;cases j:(op==2)
  ·rw[j,aA]at h;cases g:(op==3||op==4)
   ·rw[g,aA]at h;cases l:(op==16)
    ·rw[l,aA]at h;obtain⟨r,I⟩:=yl (by omega) h
     grind[Wx]
    rw[l,aB]at h
    grind[anx]
   rw[g,aB]at h;simp only[bD,cq]at g
   grind[Wx]
  rw[j,aB]at h
  grind[Wx]
 rw[i,aB]at h
 grind[Wx]
theorem aq3 (g:ByteArray):0<=qg g /\qg g<=2:=by
 grind[qg]
theorem alI (op:Int)(g:ByteArray):Qu op g<=2:=by
 have:=aq3 g<;>grind[Qu]
theorem atk {g:ByteArray}(h:(zo g ⟨#[109,105,110]⟩||zo g ⟨#[109,97,120]⟩)=true):qg g=2:=by
 grind[qg]
def vX (cols:am Col)(i:Int):Int:=((cols[i.toNat]?).map Col.t).getD 0
def vU (cols:am Col)(op:Int)(g:ByteArray)(v:Val)(l:am Int):Int×Int:=
 bif op==1 then(v.k,0)else
 bif op==2 then(bif decide (zj cols g<0)then(0,16)else(vX cols (zj cols g),0))else
 bif op==3||(op==14||op==15)then ja (qA l 1) 1 else
 bif op==10||op==11 then ja (vq (l.getD 0 0) (l.getD 1 0)||vq (l.getD 1 0) (l.getD 0 0)) 1 else
 bif op==12||op==13 then ja (qA l 2||qA l 3) 1 else
 bif op==16 then Yb g l else ja (qA l 2) 2
mutual
def Ex.ty (cols:am Col):Ex ->Int×Int
 | .mk op g v ks=>bif (tyL cols ks).1 !=0 then(0,(tyL cols ks).1)else vU cols op g v (tyL cols ks).2
def tyL (cols:am Col):am Ex ->Int×am Int
 | []=>(0,[])
 |k::r=>bif (k.ty cols).2 !=0 then((k.ty cols).2,[])else((tyL cols r).1,(k.ty cols).1::(tyL cols r).2)
end
theorem avp (cols:am Col){ks:am Ex}{i:Nat}(h:i<ks.length):tyL cols (ks.drop i)=bif (ks[i].ty cols).2 !=0 then((ks[i].ty cols).2,[])else((tyL cols (ks.drop (i+1))).1,(ks[i].ty cols).1::(tyL cols (ks.drop (i+1))).2):=by
 rw[zq h];rfl
theorem aoQ (cols:am Col): ∀ks:am Ex,(tyL cols ks).1=0 ->(tyL cols ks).2.length=ks.length
 | [],_=>rfl
 |k::r,h=>by
  simp only[tyL]at h⊢;cases g:((k.ty cols).2 !=0)<;>simp_all[aoQ]
theorem gC: ∀{ks:am Ex},errL ks=0 -> ∀k∈ks,k.err=0
 | [],_,k,hk=>by cases hk
 |a::r,h,k,hk=>by
  simp only[errL]at h;cases g:(a.err !=0)
  ·rw[g,aA]at h;rcases bT.1 hk with rfl|hk
   ·simpa using g
   exact gC h k hk
  simp_all
theorem Q4: ∀(p:Col ->Bool) (l:am Col) (i:Int),0<=i ->yj p i l<0\/(i<=yj p i l /\yj p i l<i+l.length)
 |p,[],i,h=>.inl (by simp[yj])
 |p,a::r,i,h=>by
  simp only[yj];cases p a
  ·rw[aA];rcases Q4 p r (i+1) (by omega)with g|g
   ·grind
   grind
  rw[aB];grind
def tnS (cols:am Col)(op:Int)(j:ByteArray)(v:Val)(ks:am Ex)(i:Nat)(g:am Int):S:=⟨[(0,.w (.c (.d (.sl (zm cols))))),(3,cV (.ptr 3 0)),(6,cV (.own 31 1 g.length)),(13,.w (.c (.d (.sl (exsD ks))))),(14,zl (exsD ks).length),(15,zl i)],[(3,.box [int op,str j,int v.k,int v.n,str v.s,.d (.sl (exsD ks))]),(31,.arr 1 (zg g) false)]⟩
theorem vu (a b:am Int):zg a++zg b=zg (a++b):=by simp[zg]
theorem J9 (cols:am Col): ∀(e:Ex),e.err=0 ->Sat Pg aaK [.c (.d (.sl (zm cols))),e.w] (λr=>r=rII (e.ty cols))
 | .mk op j v ks,he=>by
   have aa:xl op j v ks.length=0 /\errL ks=0:=by
    simp only[Ex.err]at he;cases hb:(xl op j v ks.length !=0)
    ·simp_all
    simp_all
   have ae:=gC aa.2;have ih: ∀k∈ks,Sat Pg aaK [.c (.d (.sl (zm cols))),k.w] (λr=>r=rII (k.ty cols)):=λk hk=>J9 cols k (ae k hk)
   obtain⟨af,a2,a3⟩:=Qv aa.1;have az:=alI op j;have ay:ks.length<=2:=by omega
   have ag:Ex.ty cols (.mk op j v ks)=bif (tyL cols ks).1 !=0 then(0,(tyL cols ks).1)else vU cols op j v (tyL cols ks).2:=by grind[Ex.ty]
   rw[ag];have ab:=aoQ cols ks;clear he aa ae ag;refine aaz.s T6 ?_;refine yq (P:=Pg) (f:=T6.f) (body:=(aaz.l 0)) (λx:Nat×am Int=>tnS cols op j v ks x.1 x.2) (λx=>ks.length - x.1) (λx=>x.1<=ks.length /\x.2.length=x.1 /\(tyL cols ks).1=(tyL cols (ks.drop x.1)).1 /\((tyL cols ks).1=0 ->(tyL cols ks).2=x.2++(tyL cols (ks.drop x.1)).2)) ⟨(0,[]),⟨aZ _,rfl,rfl,λ_=>rfl⟩,⟨_,zW 6 31 1 (by omega) (by omega) rfl,?_⟩⟩ ?_
   ·exact rfl
   rintro⟨i,g⟩ hx;obtain⟨hi,ha,I,U⟩:i<=ks.length /\g.length=i /\(tyL cols ks).1=(tyL cols (ks.drop i)).1 /\((tyL cols ks).1=0 ->(tyL cols ks).2=g++(tyL cols (ks.drop i)).2):=hx;have ac:(zg g).take g.length=zg g:=by grind[zB]
   obtain⟨vk,vn,vs⟩:=v;have wi:i<ks.length ->aD.wrap ((i:Int)+1)=((i+1:Nat):Int):=λh=>zC h (by omega)
   refine zi (λh1=>?_) (λh1=>?_)
   ·have p:i<ks.length:=by have:=aS h1;grind[wV]
    rw[avp cols p]at I U;have hg:(exsD ks)[((i:Int)).toNat]? =some (ks[i]).ds:=UA p;have hm:ks[i]∈ks:=bI p;generalize ks[i]=k at*;have aj:=ih k hm;obtain⟨an,al,v1,ak⟩:=k;generalize(Ex.ty cols (.mk an al v1 ak))=x at*;obtain⟨R,x2⟩:=x;simp only at I U;refine yu hg ?_;refine Sat.w aj ?_;refine zw (b:=x2 !=0) (λJ=>?_) (λJ=>?_)
    ·rw[J,aB]at I;have I:(tyL cols ks).1=x2:=I;rw[I,J,aB];exact rfl
    rw[J,aA]at I U;refine wu ?_;refine⟨(i+1,g++[R]),⟨⟨p,by grind,I,λh=>by grind⟩,by grind⟩,ze ?_⟩;(conv=>whnf);rw[wi p,ac];show _=S.mk [_,_,(6,cV (.own 31 1 (g++[R]).length)),_,_,_] [_,(31,.arr 1 (zg (g++[R])) false)];rw[<- vu,aR];rfl
   have ai:i=ks.length:=by grind[wV]
   rw[ai,List.drop_length]at I U;have I:(tyL cols ks).1=0:=I;have U:=U I;have U:(tyL cols ks).2=g:=by grind
   have ab:=ab I;rw[I,U];rw[U]at ab;simp only[aL,aA];have hA: ∀w,Sat Pg abM [.c (.d (.sl ((zg g).take g.length))),.c (int w)] (λr=>r=rB (qA g w)):=λw=>by grind[aeR]
   have hC:(op==16)=true ->Sat Pg aaJ [.c (str j),.c (.d (.sl ((zg g).take g.length)))] (λr=>r=rII (Yb j g)):=λh=>by
    rw[ac];refine asm j g λa0=>?_
    have ho:op=16:=by simpa using h
    rw[ho]at af;have a1:(ks.length:Int)=qg j:=af
    grind[atk]
   have J:(op==10||op==11)=true ->g.length=2:=λh=>by
    simp only[bD,cq]at h
    grind[Qu]
   have g0:(op==10||op==11)=true ->(zg g)[(0:Int).toNat]? =some [D.lit (.int .i64 (g.getD 0 0))]:=λh=>by
    have J:=J h;have:=y5 (r:=g) (i:=0) (by omega)
    grind
   have g1:(op==10||op==11)=true ->(zg g)[(1:Int).toNat]? =some [D.lit (.int .i64 (g.getD 1 0))]:=λh=>by
    have J:=J h;have:=y5 (r:=g) (i:=1) (by omega)
    grind
   have ad:=xJ cols j;have p:decide (zj cols j<0)=false ->(zm cols)[(zj cols j).toNat]? =some [D.lit (.string ((cols[(zj cols j).toNat]?).map Col.name|>.getD j)),D.lit (.int .i64 (vX cols (zj cols j)))]/\0<=zj cols j:=λh=>by
    have h:=aM h;have h3:=Q4 (λx=>zo x.name j) cols 0 (Int.le_refl _);have h4:0<=zj cols j /\zj cols j<cols.length:=by
     unfold zj at h⊢;omega
    grind[vX,zm,Col.ds]
   obtain⟨T,o⟩: ∃T,T=vU cols op j ⟨vk,vn,vs⟩ g:=⟨_,rfl⟩;rw[<- o];unfold vU at o;generalize zj cols j=ci at*;generalize vX cols ci=ct at*;generalize g.getD 0 0=x0 at*;generalize g.getD 1 0=R at*;(conv=>whnf);generalize(op==1)=p1 at*;cases p1 with
   |true=>
    (conv=>whnf);rw[o];rfl
   |false=>
    (conv=>whnf);generalize(op==2)=p2 at*;cases p2 with
    |true=>
     refine Sat.w ad ?_;refine zw (b:=decide (ci<0)) (λc=>?_) (λc=>?_)
     ·rw[c]at o;(conv=>whnf);rw[o];rfl
     obtain⟨hg,ah⟩:=p c;rw[c]at o;refine yu hg ?_ (hA:=ah);rw[o];rfl
    |false=>
     (conv=>whnf);generalize(op==3)=p3 at*;cases p3 with
     |true=>
      refine Sat.w (hA 1) ?_;refine Sat.w (xV (qA g 1) 1) ?_;rw[o];rfl
     |false=>
      (conv=>whnf);generalize(op==14)=av at*;cases av with
      |true=>
       refine Sat.w (hA 1) ?_;refine Sat.w (xV (qA g 1) 1) ?_;rw[o];rfl
      |false=>
       (conv=>whnf);generalize(op==15)=aw at*;cases aw with
       |true=>
        refine Sat.w (hA 1) ?_;refine Sat.w (xV (qA g 1) 1) ?_;rw[o];rfl
       |false=>
        (conv=>whnf);generalize(op==10)=ao at*;cases ao with
        |true=>
         have J:=J rfl;have g0:=g0 rfl;have g1:=g1 rfl;refine xW ?_ (hA:=by omega) (hB:=by omega);refine⟨_,g0,?_⟩;(conv=>whnf);refine xW ?_ (hA:=by omega) (hB:=by omega);refine⟨_,g1,?_⟩;refine Sat.w (Wm x0 R) ?_;generalize vq x0 R=f at*;cases f with
         |true=>
          refine Sat.w (xV true 1) ?_;rw[o];rfl
         |false=>
          refine xW ?_ (hA:=by omega) (hB:=by omega);refine⟨_,g1,?_⟩;(conv=>whnf);refine xW ?_ (hA:=by omega) (hB:=by omega);refine⟨_,g0,?_⟩;refine Sat.w (Wm R x0) ?_;refine Sat.w (xV (vq R x0) 1) ?_;rw[o];rfl
        |false=>
         (conv=>whnf);generalize(op==11)=aq at*;cases aq with
         |true=>
          have J:=J rfl;have g0:=g0 rfl;have g1:=g1 rfl;refine xW ?_ (hA:=by omega) (hB:=by omega);refine⟨_,g0,?_⟩;(conv=>whnf);refine xW ?_ (hA:=by omega) (hB:=by omega);refine⟨_,g1,?_⟩;refine Sat.w (Wm x0 R) ?_;generalize vq x0 R=f at*;cases f with
          |true=>
           refine Sat.w (xV true 1) ?_;rw[o];rfl
          |false=>
           refine xW ?_ (hA:=by omega) (hB:=by omega);refine⟨_,g1,?_⟩;(conv=>whnf);refine xW ?_ (hA:=by omega) (hB:=by omega);refine⟨_,g0,?_⟩;refine Sat.w (Wm R x0) ?_;refine Sat.w (xV (vq R x0) 1) ?_;rw[o];rfl
         |false=>
          (conv=>whnf);generalize(op==12)=ar at*;cases ar with
          |true=>
           refine Sat.w (hA 2) ?_;generalize qA g 2=b2 at*;cases b2 with
           |true=>
            refine Sat.w (xV true 1) ?_;rw[o];rfl
           |false=>
            refine Sat.w (hA 3) ?_;refine Sat.w (xV (qA g 3) 1) ?_;rw[o];rfl
          |false=>
           (conv=>whnf);generalize(op==13)=au at*;cases au with
           |true=>
            refine Sat.w (hA 2) ?_;generalize qA g 2=b2 at*;cases b2 with
            |true=>
             refine Sat.w (xV true 1) ?_;rw[o];rfl
            |false=>
             refine Sat.w (hA 3) ?_;refine Sat.w (xV (qA g 3) 1) ?_;rw[o];rfl
           |false=>
            (conv=>whnf);generalize(op==16)=ax at*;cases ax with
            |true=>
             refine Sat.w (hC rfl) ?_;rw[o];rfl
            |false=>
             refine Sat.w (hA 2) ?_;refine Sat.w (xV (qA g 2) 2) ?_;rw[o];rfl
termination_by e=>cr e
decreasing_by
 simp_wf
 have:=bU hk;omega
def yR (b:Bool):Val:=⟨1,bif b then 1 else 0,⟨#[]⟩⟩
def yf:Val:=⟨0,0,⟨#[]⟩⟩
def v6 (n:Int)(ok:Bool):Val:=bif ok then⟨2,n,⟨#[]⟩⟩else yf
def rV (v:Val):Res:=⟨.w v.w,[]⟩
def qv (v:Val):Prop:=v.s.size<=100000
theorem XR (b:Bool):qv (yR b):=by unfold qv;show(0:Nat)<=_;omega
theorem ae1:qv yf:=by unfold qv;show(0:Nat)<=_;omega
theorem Uf (n:Int)(b:Bool):qv (v6 n b):=by cases b<;>(unfold qv;show(0:Nat)<=_;omega)
theorem asC (k n:Int):qv ⟨k,n,⟨#[]⟩⟩:=by unfold qv;show(0:Nat)<=_;omega
theorem Wp {b:Bool}{x y:Val}(g:qv x)(i:qv y):qv (bif b then x else y):=by grind
theorem asA (b:Bool):Sat Pg abE [.c (bool b)] (λr=>r=rV (yR b)):=by
 cases b<;>
 ·refine xq T6 akR.ok (by kernel_rfl) ?_;exact rfl
theorem aqa (n:Int)(b:Bool):Sat Pg aaC [.c (int n),.c (bool b)] (λr=>r=rV (v6 n b)):=by
 cases b<;>
 ·refine xq T6 ajd.ok (by kernel_rfl) ?_;exact rfl
def T8f (k:FuncId)(l:am W):aH W:=
 match l with
 | [.c (.d (.lit (.bool b)))]=>bif aV k abE then some (.agg [int 1,int (bif b then 1 else 0),str ⟨#[]⟩])else T6f k l
 | [.c (.d (.lit (.int .i64 n))),.c (.d (.lit (.bool b)))]=>bif aV k aaC then some (.agg [int (bif b then 2 else 0),int (bif b then n else 0),str ⟨#[]⟩])else T6f k l
 |_=>T6f k l
theorem ayz (k:FuncId)(l:am W)(w:W)(h:T8f k l=some w):Sat Pg k l (λr=>r=⟨.w w,[]⟩):=by
 unfold T8f at h;split at h
 ·rcases qC h with⟨g,rfl⟩|⟨_,h⟩
  ·rw[aG g];exact asA _
  grind[ao0]
 ·rename_i n b;rcases qC h with⟨g,rfl⟩|⟨_,h⟩
  ·rw[aG g];have:=aqa n b;cases b<;>exact this
  grind[ao0]
 grind[ao0]
def T8:Tab Pg:=⟨T8f,ayz⟩
def jN (a b:Val):Val:=bif qI a (yR false)||qI b (yR false)then yR false else bif a.k==0||b.k==0 then yf else yR true
theorem al9 (a b:Val):Sat Pg ann [a.w,b.w] (λr=>r=rV (jN a b)):=by
 obtain⟨i,a2,a3⟩:=a;obtain⟨j,l,o⟩:=b;unfold jN;refine am6.s T8 ?_;refine zi (b:=qI ⟨i,a2,a3⟩ (yR false)||qI ⟨j,l,o⟩ (yR false)) (λh=>?_) (λh=>?_)
 ·(conv=>whnf);rw[h];rfl
 refine zi (b:=i==0||j==0) (λg=>?_) (λg=>?_)
 ·(conv=>whnf);rw[h,g];rfl
 (conv=>whnf);rw[h,g];rfl
def uI (a:Val):Val:=bif a.k==0 then a else yR (a.n==0)
theorem adb (a:Val):Sat Pg apI [a.w] (λr=>r=rV (uI a)):=by
 obtain⟨g,a2,a3⟩:=a;unfold uI;refine apd.s T8 ?_;refine zi (b:=g==0) (λh=>?_) (λh=>?_)
 ·(conv=>whnf);rw[h];rfl
 (conv=>whnf);rw[h];rfl
theorem aoL {a:Val}(h:qv a):qv (uI a):=Wp h (XR _)
theorem ava (a b:Val):qv (jN a b):=Wp (XR _) (Wp ae1 (XR _))
theorem vJ {n:Int}(h:inB n=true): -1000000000000000<=n /\n<=1000000000000000:=by
 simp_all[inB]
def Qe (a b:Int)(rest:Bool):Val:=bif b==0 then yf else bif rest then⟨2,Int.tmod a b,⟨#[]⟩⟩else⟨2,aD.wrap (Int.tdiv a b),⟨#[]⟩⟩
theorem aoK (a b:Int)(rest:Bool):qv (Qe a b rest):=Wp ae1 (Wp (asC _ _) (asC _ _))
theorem adV (a b:Int)(rest:Bool):Sat Pg ahh [.c (int a),.c (int b),.c (bool rest)] (λr=>r=rV (Qe a b rest)):=by
 unfold Qe;cases i:(b==0)with
 |true=>
  refine QU.s T8 ?_;refine zi (λh=>?_) (λh=>?_)
  ·exact rfl
  grind
 |false=>
  have g:b≠0:=by grind
  cases rest with
  |true=>
   refine QU.s T8 ?_;rw[i];refine⟨g,?_⟩;exact rfl
  |false=>
   refine QU.s T8 ?_;rw[i];refine⟨g,?_⟩;exact rfl
def rNB (n:Int)(b:Bool):Res:=⟨.tup [.c (int n),.c (bool b)],[]⟩
theorem Ys (n:Int)(b:Bool):Sat Pg alu [.c (int n),.c (bool b)] (λr=>r=rNB (bif b&&inB n then n else 0) (b&&inB n)):=by
 refine akT.s T8 ?_;refine zi (b:=!b|| !inB n) (λh=>?_) (λh=>?_)
 ·have h:(b&&inB n)=false:=by grind
  rw[h];rfl
 have h:(b&&inB n)=true:=by grind
 rw[h];rfl
def qN (a b:Int):Bool:=inB a&&inB b&&inB (a+b)
theorem aoI (a b:Int):Sat Pg arJ [.c (int a),.c (int b)] (λr=>r=rNB (bif qN a b then a+b else 0) (qN a b)):=by
 unfold qN;cases I:(!inB a|| !inB b)with
 |true=>
  have e:(inB a&&inB b)=false:=by grind
  rw[e];refine aih.s T8 ?_;refine zi (λh=>?_) (λh=>?_)
  ·exact rfl
  grind
 |false=>
  have i:inB a=true:=by grind
  have j:inB b=true:=by grind
  have o:=vJ i;have p:=vJ j;have l:aD.wrap (a+b)=a+b:=yk (by omega) (by omega);have g:=Ys (a+b) true;rw[i,j];refine aih.s T8 ?_;refine zi (λh=>?_) (λh=>?_)
  ·grind
  (conv=>whnf);rw[l];refine Sat.w g ?_;rfl
def QD (n:Int):W:=.c (.d (.lit (.int .u64 n)))
theorem aas {x:Int}(h:0<=x)(g:x<18446744073709551616):bG.wrap x=x:=by grind[IntKind.wrap_u64]
theorem Xh (a:Int)(h:inB a=true):Sat Pg afO [.c (int a)] (λr=>r=⟨.tup [QD (a.natAbs:Int),.c (bool (decide (a<0)))],[]⟩):=by
 have l:=vJ h;by_cases h0:a<0
 ·have j:aD.wrap (0 - a)=(a.natAbs:Int):=by grind[yk]
  have g:bG.wrap (a.natAbs:Int)=(a.natAbs:Int):=aas (by omega) (by omega);have i:decide (a<0)=true:=bL h0;refine JB.s T8 ?_;rw[i];(conv=>whnf);rw[j,g];rfl
 have g:bG.wrap a=(a.natAbs:Int):=by grind[aas]
 have i:decide (a<0)=false:=aJ h0;refine JB.s T8 ?_;rw[i];(conv=>whnf);rw[g];rfl
theorem at6 (a:Nat)(j:a<18446744073709551616):Kk .and bG (a:Int) 4294967295=((a%4294967296:Nat):Int):=by
 have g:(cw 64 (a:Int)).toNat=a:=by grind
 have i:(cw 64 4294967295).toNat=2^32 - 1:=rfl;show bG.wrap ((cw 64 (a:Int)&&&cw 64 4294967295).toNat:Int)=_;rw[BitVec.toNat_and,g,i,Nat.and_two_pow_sub_one_eq_mod]
 grind[aas]
theorem au6 (a:Nat):Ka false bG (a:Int) 32=((a/4294967296:Nat):Int):=by
 show(a:Int).fdiv (2^min (32:Nat) 64)=_
 grind
theorem wN (a:Nat)(h:a<18446744073709551616):bG.wrap (a:Int)=(a:Int):=aas (by omega) (by omega)
theorem wM (a:Nat):bG.wrap (a:Int)=((a%18446744073709551616:Nat):Int):=by grind[IntKind.wrap_u64]
theorem aiL (x y:Nat)(j:x<18446744073709551616)(l:y<18446744073709551616):Sat Pg adp [QD x,QD y] (λr=>r=⟨.tup [QD ((x*y/18446744073709551616:Nat):Int),QD ((x*y%18446744073709551616:Nat):Int)],[]⟩):=by
 obtain⟨R,p,U,g⟩:=Lib.mul64_hi x y j l;have I:=cz (a:=x/4294967296) (b:=y/4294967296) (by omega) (by omega);have J:=cz (a:=x/4294967296) (b:=y%4294967296) (by omega) (by omega);have P:=cz (a:=x%4294967296) (b:=y/4294967296) (by omega) (by omega);have h2:=at6 x j;have h3:=at6 y l;have h4:=au6 x;have h5:=au6 y;refine xq T8 adk.ok (by kernel_rfl) ?_;refine⟨by decide,?_⟩
 conv=>whnf
 refine⟨by decide,?_⟩
 conv=>whnf
 refine⟨by decide,?_⟩;refine⟨by decide,?_⟩;refine⟨by decide,?_⟩
 conv=>whnf
 have m1: ∀a b:Nat,(a:Int)*(b:Int)=((a*b:Nat):Int):=λa b=>(Int.natCast_mul a b).symm
 have o: ∀a b:Nat,(a:Int)+(b:Int)=((a+b:Nat):Int):=λa b=>(Int.natCast_add a b).symm
 rw[h2,h3,h4,h5];simp only[m1,wN _ R,au6,wN _ (bZ J (by omega)),o,wN _ p,at6 _ p,wN _ (bZ P (by omega)),wN _ U,wN _ (bZ I (by omega)),wM (x*y)];have i:x*y/18446744073709551616<18446744073709551616:=Nat.div_lt_of_lt_mul (bQ (Nat.mul_lt_mul'' j l) (by omega));rw[<- g]at i;rw[wN _ (bZ (Nat.le_add_right _ _) i),o,wN _ i,g];rfl
theorem asi (l:Nat)(j:l<18446744073709551616):Sat Pg ado [QD 0,QD l,QD 1] (λz=>z=⟨.tup [QD l,QD 0],[]⟩):=by
 have g:bG.wrap (Int.tdiv (l:Int) 1)=(l:Int):=by simp_all[wN]
 have i:Int.tmod (l:Int) 1=0:=Int.tmod_one _;refine xq T8 adj.ok (by kernel_rfl) ?_;refine⟨by decide,?_⟩;refine⟨by decide,?_⟩;rw[g,i];rfl
def uU (a b:Int):Bool:=inB a&&inB b&&inB (a*b)
theorem amj (a b:Int)(i:inB a=true)(j:inB b=true)(g:a.natAbs*b.natAbs<18446744073709551616):
 Sat Pg kq [.c (int a),.c (int b),.c (int 1)] (λz=>z=⟨.tup [QD ((a.natAbs*b.natAbs:Nat):Int),QD 0,.c (bool (!(decide (a<0)==decide (b<0)))),.c (bool (decide (((a.natAbs*b.natAbs:Nat):Int)<=1000000000000000)))],[]⟩):=by
 have P:=vJ i;have R:=vJ j;have r:=Xh a i;have I:=Xh b j;have l:=aiL a.natAbs b.natAbs (by omega) (by omega);have J:=asi (a.natAbs*b.natAbs) g;have o:a.natAbs*b.natAbs/18446744073709551616=0:=Nat.div_eq_of_lt g;have p:a.natAbs*b.natAbs%18446744073709551616=a.natAbs*b.natAbs:=Nat.mod_eq_of_lt g;rw[o,p]at l;have hr:(!inB a|| !inB b)=false:=by grind
 refine QZ.s T8 ?_;refine zi (λh0=>?_) (λh0=>?_)
 ·have h0:(((!inB a|| !inB b)||decide ((1:Int)<1))|| !inB 1)=true:=h0;rw[hr]at h0;exact absurd h0 (by decide)
 refine Sat.w r ?_;refine Sat.w I ?_;refine Sat.w l ?_;refine Sat.w J ?_;rfl
theorem ajU (a b:Int)(h:(inB a&&inB b)=false\/18446744073709551616<=a.natAbs*b.natAbs):
 Sat Pg kq [.c (int a),.c (int b),.c (int 1)] (λz=>z=⟨.tup [QD 0,QD 0,.c (bool false),.c (bool false)],[]⟩):=by
 cases hr:(!inB a|| !inB b)with
 |true=>
  refine QZ.s T8 ?_;refine zi (λh0=>?_) (λh0=>?_)
  ·exact rfl
  have h0:(((!inB a|| !inB b)||decide ((1:Int)<1))|| !inB 1)=false:=h0;rw[hr]at h0;simp at h0
 |false=>
  have i:inB a=true:=by grind
  have j:inB b=true:=by grind
  have I:18446744073709551616<=a.natAbs*b.natAbs:=by
   grind
  have r:=vJ i;have g:=vJ j;have l:=Xh a i;have o:=Xh b j;have p:=aiL a.natAbs b.natAbs (by omega) (by omega);have J:1<=a.natAbs*b.natAbs/18446744073709551616:=by omega
  generalize a.natAbs=x at*;generalize b.natAbs=y at*;generalize x*y/18446744073709551616=hi at*;refine QZ.s T8 ?_;refine zi (λh0=>?_) (λh0=>?_)
  ·have h0:(((!inB a|| !inB b)||decide ((1:Int)<1))|| !inB 1)=true:=h0;rw[hr]at h0;exact absurd h0 (by decide)
  refine Sat.w l ?_;refine Sat.w o ?_;refine Sat.w p ?_;refine zw (λg=>?_) (λg=>?_)
  ·exact rfl
  have g:decide ((hi:Int)>=1)=false:=g;have:=aM g;omega
theorem adM (a b:Int):((a.natAbs*b.natAbs:Nat):Int)=((a*b).natAbs:Int):=by rw[Int.natAbs_mul]
theorem ap5 (a b:Int):Sat Pg ant [.c (int a),.c (int b),.c (int 1)] (λr=>r=rNB (bif uU a b then a*b else 0) (uU a b)):=by
 unfold uU;by_cases h0:(inB a&&inB b)=false\/18446744073709551616<=a.natAbs*b.natAbs
 ·have i:=ajU a b h0;have e:(inB a&&inB b&&inB (a*b))=false:=by
   rcases h0 with h0|h0
   ·grind
   have R:=adM a b;have:inB (a*b)=false:=by
    grind[inB]
   simp_all
  rw[e];refine YM.s T8 ?_;refine Sat.w i ?_;refine Sat.w (Ys 0 false) ?_;rfl
 have g:(inB a&&inB b)=true:=by grind
 have hm:a.natAbs*b.natAbs<18446744073709551616:=by
  grind
 simp only[Bool.and_eq_true]at g;have i:=amj a b g.1 g.2 hm;have R:=adM a b;have J:(!(decide (a<0)==decide (b<0)))=true ->a*b<=0:=by
  grind[Int.mul_nonpos_of_nonneg_of_nonpos]
 have l:(!(decide (a<0)==decide (b<0)))=false ->0<=a*b:=by
  grind
 rw[g.1,g.2];generalize(!(decide (a<0)==decide (b<0)))=s at*;have I:inB (a*b)=decide (((a.natAbs*b.natAbs:Nat):Int)<=1000000000000000):=by
  rw[R];unfold inB;by_cases h:((a*b).natAbs:Int)<=1000000000000000
  ·grind
  rw[aJ h];by_cases h5:a*b>= -1000000000000000
  ·rw[aJ (p:=a*b<=1000000000000000) (by omega),aU]
  simp_all[aJ]
 rw[<- I]at i;generalize a.natAbs*b.natAbs=m at*;generalize a*b=p at*;cases j:inB p with
 |true=>
  rw[j]at i;have hp:=vJ j;have U:aD.wrap (m:Int)=(m:Int):=yk (by omega) (by omega);cases s with
  |true=>
   have h4:=J rfl;have P:aD.wrap (0 -(m:Int))=p:=by grind[yk]
   have o:=Ys p true;rw[j]at o;refine YM.s T8 ?_;refine Sat.w i ?_;rw[U,P];refine Sat.w o ?_;rfl
  |false=>
   have h4:=l rfl;have P:(m:Int)=p:=by omega
   have o:=Ys p true;rw[j]at o;refine YM.s T8 ?_;refine Sat.w i ?_;rw[U,P];refine Sat.w o ?_;rfl
 |false=>
  rw[j]at i;cases s with
  |true=>
   refine YM.s T8 ?_;refine Sat.w i ?_;refine Sat.w (Ys (aD.wrap (0 - aD.wrap (m:Int))) false) ?_;rfl
  |false=>
   refine YM.s T8 ?_;refine Sat.w i ?_;refine Sat.w (Ys (aD.wrap (m:Int)) false) ?_;rfl
theorem auN (a b:Int):Sat Pg arK [.c (int a),.c (int b)] (λr=>r=rNB (bif uU a b then a*b else 0) (uU a b)):=by
 have h:=ap5 a b;refine arb.s T8 ?_;refine Sat.w h ?_;rfl
def Yo (s p:ByteArray):Bool:=bif decide ((s.size:Int)>=(p.size:Int))then zo (s.extract 0 p.size) p else false
theorem amn (s p:ByteArray):Sat Pg Xr [.c (str s),.c (str p)] (λr=>r=rB (Yo s p)):=by
 unfold Yo;cases h:decide ((s.size:Int)>=(p.size:Int))with
 |false=>
  refine ui.s T8 ?_;rw[h];exact rfl
 |true=>
  refine ui.s T8 ?_;rw[h];(conv=>whnf);refine⟨by show(0:Int)<=0;omega,by show(0:Int)<=p.size;omega,aS h,?_⟩;exact rfl
theorem ajH (s p:ByteArray):Sat Pg aaY [.c (str s),.c (str p)] (λr=>r=rB (Yo s p)):=by
 have h:=amn s p;generalize Yo s p=b at*;refine aaV.s T8 ?_;refine Sat.w h ?_;rfl
def XH (s t:ByteArray):Bool:=Lib.contains s.data.toList t.data.toList
def Kh:Prop:= ∀s t:ByteArray,s.size<=100000 ->Sat Pg abL [.c (str s),.c (str t)] (λr=>r=rB (XH s t))
def CK (g i j o:Bool)(l:am Val)(u:Val):Prop:=
 (g=true\/i=true ->u.k=2)/\(g=false ->i=false ->j=true\/o=true -> ∃b,u=yR b)/\(g=false ->i=false ->j=false ->o=false ->u∈l)
def at0 (l:am Val)(i:Nat):Val:=l.getD i yf
def Zr (g:ByteArray)(l:am Val):Val:=
 bif zo g ⟨#[97,98,115]⟩then v6 (zU true (at0 l 0).n (aD.wrap (0 -(at0 l 0).n))) true else
 bif zo g ⟨#[108,101,110]⟩then v6 (at0 l 0).s.size true else
 bif zo g ⟨#[104,97,115]⟩then yR (XH (at0 l 0).s (at0 l 1).s)else
 bif zo g ⟨#[115,116,97,114,116,115]⟩then yR (Yo (at0 l 0).s (at0 l 1).s)else
 bif decide (xP (at0 l 1) (at0 l 0)<0)==zo g ⟨#[109,105,110]⟩then at0 l 1 else at0 l 0
theorem asn (hC:Kh)(j:ByteArray)(l:am Val)(hn:qg j≠0)(hl:(l.length:Int)=qg j)(hs: ∀v∈l,qv v):qv (Zr j l)/\Sat Pg YV [.c (str j),yt l] (λr=>r=rV (Zr j l))/\CK (zo j ⟨#[97,98,115]⟩) (zo j ⟨#[108,101,110]⟩) (zo j ⟨#[104,97,115]⟩) (zo j ⟨#[115,116,97,114,116,115]⟩) l (Zr j l):=by
 unfold qg at hn hl;unfold Zr;generalize P:zo j ⟨#[97,98,115]⟩=p1 at*;generalize e2:zo j ⟨#[108,101,110]⟩=p2 at*;generalize e3:zo j ⟨#[104,97,115]⟩=p3 at*;generalize e4:zo j ⟨#[115,116,97,114,116,115]⟩=p4 at*;generalize e5:zo j ⟨#[109,105,110]⟩=U at*;generalize zo j ⟨#[109,97,120]⟩=p6 at*;have h1:1<=l.length:=by
  grind
 have R:p1=false ->p2=false ->l.length=2:=by
  grind
 clear hn hl
 match l,h1,R,hs with
 |x::r,_,R,hs=>
 have hx:=hs x (bJ ..);obtain⟨p,o,g⟩:=x;cases p1 with
 |true=>
  refine⟨Uf (zU true o (aD.wrap (0 - o))) true,?_,⟨λ_=>rfl,λh=>(by cases h),λh=>(by cases h)⟩⟩;refine YL.s T8 ?_;rw[P];refine vw ?_;refine vw ?_;exact rfl
 |false=>
  cases p2 with
  |true=>
   refine⟨Uf g.size true,?_,⟨λ_=>rfl,λ_ h=>(by cases h),λ_ h=>(by cases h)⟩⟩;refine YL.s T8 ?_;rw[P];(conv=>whnf);rw[e2];refine vw ?_;exact rfl
  |false=>
   have R:=R rfl rfl
   match r,R,hs with
   | [y],_,hs=>
   obtain⟨I,J,i⟩:=y;cases p3 with
   |true=>
    have hb:=hC g i hx;show qv (yR (XH g i))/\Sat Pg YV _ (λr=>r=rV (yR (XH g i)))/\CK _ _ _ _ _ (yR (XH g i));generalize XH g i=b at*;refine⟨XR _,?_,⟨λh=>(by grind),λ_ _ _=>⟨_,rfl⟩,λ_ _ h=>(by cases h)⟩⟩;refine YL.s T8 ?_;rw[P];(conv=>whnf);rw[e2];(conv=>whnf);rw[e3];refine vw ?_;refine vw ?_;refine Sat.w hb ?_;rfl
   |false=>
    cases p4 with
    |true=>
     have hb:=ajH g i;show qv (yR (Yo g i))/\Sat Pg YV _ (λr=>r=rV (yR (Yo g i)))/\CK _ _ _ _ _ (yR (Yo g i));generalize Yo g i=b at*;refine⟨XR _,?_,⟨λh=>(by grind),λ_ _ _=>⟨_,rfl⟩,λ_ _ _ h=>(by cases h)⟩⟩;refine YL.s T8 ?_;rw[P];(conv=>whnf);rw[e2];(conv=>whnf);rw[e3];(conv=>whnf);rw[e4];refine vw ?_;refine vw ?_;refine Sat.w hb ?_;rfl
    |false=>
     show qv (bif decide (xP ⟨I,J,i⟩ ⟨p,o,g⟩<0)==U then⟨I,J,i⟩else⟨p,o,g⟩)/\Sat Pg YV _ (λr=>r=rV (bif decide (xP ⟨I,J,i⟩ ⟨p,o,g⟩<0)==U then⟨I,J,i⟩else⟨p,o,g⟩))/\CK _ _ _ _ _ (bif decide (xP ⟨I,J,i⟩ ⟨p,o,g⟩<0)==U then⟨I,J,i⟩else⟨p,o,g⟩);refine⟨Wp (hs _ (by simp)) (hs _ (by simp)),?_,⟨λh=>(by grind),λ_ _ h=>(by grind),λ_ _ _ _=>by grind⟩⟩;refine YL.s T8 ?_;rw[P];(conv=>whnf);rw[e2];(conv=>whnf);rw[e3];(conv=>whnf);rw[e4];refine vw ?_;refine vw ?_;refine zi (λc=>?_) (λc=>?_)
     ·have c:(decide (xP ⟨I,J,i⟩ ⟨p,o,g⟩<0)==U)=true:=by grind
      rw[c];refine vw ?_;exact rfl
     have c:(decide (xP ⟨I,J,i⟩ ⟨p,o,g⟩<0)==U)=false:=by grind
     rw[c];refine vw ?_;exact rfl
def BK (op:Int)(g:ByteArray)(l:am Val)(u:Val):Prop:=
 ((op==3)=true ->(∀v∈l,v.k≠0) -> ∃b,u=yR b)/\
 ((op==3)=false ->(op==4)=false ->(op==5)=false ->(op==6)=false ->(op==7)=false ->(op==8)=false ->(op==9)=false ->(op==16)=false -> ∃b,u=yR b)/\
 ((op==16)=true ->CK (zo g ⟨#[97,98,115]⟩) (zo g ⟨#[108,101,110]⟩) (zo g ⟨#[104,97,115]⟩) (zo g ⟨#[115,116,97,114,116,115]⟩) l u)
def uw (op:Int)(g:ByteArray)(l:am Val):Val:=
 bif op==3 then uI (at0 l 0)else bif op==4 then v6 (aD.wrap (0 -(at0 l 0).n)) true else
 bif op==5 then v6 (bif qN (at0 l 0).n (at0 l 1).n then(at0 l 0).n+(at0 l 1).n else 0) (qN (at0 l 0).n (at0 l 1).n)else
 bif op==6 then v6 (bif qN (at0 l 0).n (aD.wrap (0 -(at0 l 1).n))then(at0 l 0).n+aD.wrap (0 -(at0 l 1).n)else 0) (qN (at0 l 0).n (aD.wrap (0 -(at0 l 1).n)))else
 bif op==7 then v6 (bif uU (at0 l 0).n (at0 l 1).n then(at0 l 0).n*(at0 l 1).n else 0) (uU (at0 l 0).n (at0 l 1).n)else
 bif op==8||op==9 then Qe (at0 l 0).n (at0 l 1).n (op==9)else bif op==16 then Zr g l else
 yR ((((op==10&&(xP (at0 l 0) (at0 l 1)==0))||(op==11&&(xP (at0 l 0) (at0 l 1) !=0)))||(op==12&&decide (xP (at0 l 0) (at0 l 1)<0)))||(op==13&&decide (xP (at0 l 0) (at0 l 1)<=0)))
theorem auP (hC:Kh)(op:Int)(j:ByteArray)(v:Val)(ks:am Ex)(l:am Val)(ae:xl op j v ks.length=0)(ho:3<=op)(hl:l.length=ks.length)(af:op=16 ->qg j≠0)(hs: ∀v∈l,qv v):
 (qv (uw op j l)/\BK op j l (uw op j l))/\Sat Pg y0 [(Ex.mk op j v ks).w,yt l] (λr=>r=rV (uw op j l)):=by
 unfold BK uw;obtain⟨aj,_,ak⟩:=Qv ae;have ad:op=16 ->Qu op j=qg j:=λh=>by rw[h];rfl
 have ai:op≠3 ->op≠4 ->op≠16 ->Qu op j=2:=λh3 h4 h5=>by
  grind[Qu]
 have ah:op=3\/op=4 ->Qu op j=1:=λh=>by
  rcases h with rfl|rfl<;>rfl
 have ab:(op==16)=true ->(qv (Zr j l)/\CK (zo j ⟨#[97,98,115]⟩) (zo j ⟨#[108,101,110]⟩) (zo j ⟨#[104,97,115]⟩) (zo j ⟨#[115,116,97,114,116,115]⟩) l (Zr j l))/\Sat Pg YV [.c (str j),yt l] (λr=>r=rV (Zr j l)):=λh=>by
  grind[asn]
 have hE:(op==3)=false ->(op==4)=false ->(op==16)=false ->l.length=2:=λh3 h4 h5=>by
  grind
 have h1:1<=l.length:=by
  grind
 have h5:(op==5)=true ->l.length=2:=λh=>by
  grind
 have h6:(op==6)=true ->l.length=2:=λh=>by
  grind
 have h7:(op==7)=true ->l.length=2:=λh=>by
  grind
 have h8:(op==8)=true ->l.length=2:=λh=>by
  grind
 have h9:(op==9)=true ->l.length=2:=λh=>by
  grind
 have I: ∀k:Int,(op==k)=true ->k≠16 -> ∀{X:Prop},(op==16)=true ->X:=λk h1 h2 _ h3=>by
  grind
 clear ai ah ad aj ae hl af ho ak;generalize e3:(op==3)=p3 at*;generalize e4:(op==4)=p4 at*;generalize e5:(op==5)=p5 at*;generalize e6:(op==6)=p6 at*;generalize e7:(op==7)=p7 at*;generalize e8:(op==8)=p8 at*;generalize ac:(op==16)=al at*;obtain⟨vk,vn,vs⟩:=v
 match l,h1,ab,hE,h5,h6,h7,h8,h9,hs with
 |x::r,_,ab,hE,h5,h6,h7,h8,h9,hs=>
 have hx:=hs x (bJ ..);clear hs;obtain⟨o,g,p⟩:=x;cases p3 with
 |true=>
  show(qv (uI ⟨o,g,p⟩)/\(_ ->_ -> ∃b,uI ⟨o,g,p⟩=yR b)/\_ /\_)/\Sat Pg y0 _ (λr=>r=rV (uI ⟨o,g,p⟩));refine⟨⟨aoL hx,λ_ hk=>⟨(g==0),by unfold uI;rw[show(Val.mk o g p).k=o from rfl,show(o==0)=false by simpa using hk ⟨o,g,p⟩ (by simp)];rfl⟩,λh=>(by cases h),I 3 e3 (by omega)⟩,?_⟩;refine xS.s T8 ?_;rw[e3];refine vw ?_;refine Sat.w (adb ⟨o,g,p⟩) ?_;rfl
 |false=>
  cases p4 with
  |true=>
   show(qv (v6 (aD.wrap (0 - g)) true)/\_ /\_ /\_)/\Sat Pg y0 _ (λr=>r=rV (v6 (aD.wrap (0 - g)) true));refine⟨⟨Uf _ _,λh=>(by cases h),λ_ h=>(by cases h),I 4 e4 (by omega)⟩,?_⟩;refine xS.s T8 ?_;rw[e3];(conv=>whnf);rw[e4];refine vw ?_;exact rfl
  |false=>
   cases p5 with
   |true=>
    have R:=h5 rfl
    match r,R with
    | [y],_=>
    obtain⟨J,i,P⟩:=y;have U:=aoI g i;show(qv (v6 (bif qN g i then g+i else 0) (qN g i))/\_ /\_ /\_)/\Sat Pg y0 _ (λr=>r=rV (v6 (bif qN g i then g+i else 0) (qN g i)));generalize(bif qN g i then g+i else 0)=n at*;generalize qN g i=c at*;refine⟨⟨Uf _ _,λh=>(by cases h),λ_ _ h=>(by cases h),I 5 e5 (by omega)⟩,?_⟩;refine xS.s T8 ?_;rw[e3];(conv=>whnf);rw[e4];(conv=>whnf);rw[e5];refine vw ?_;refine vw ?_;refine Sat.w U ?_;cases c<;>rfl
   |false=>
    cases p6 with
    |true=>
     have R:=h6 rfl
     match r,R with
     | [y],_=>
     obtain⟨J,i,P⟩:=y;have U:=aoI g (aD.wrap (0 - i));show(qv (v6 (bif qN g (aD.wrap (0 - i))then g+aD.wrap (0 - i)else 0) (qN g (aD.wrap (0 - i))))/\_ /\_ /\_)/\Sat Pg y0 _ (λr=>r=rV (v6 (bif qN g (aD.wrap (0 - i))then g+aD.wrap (0 - i)else 0) (qN g (aD.wrap (0 - i)))));generalize(bif qN g (aD.wrap (0 - i))then g+aD.wrap (0 - i)else 0)=n at*;generalize qN g (aD.wrap (0 - i))=c at*;refine⟨⟨Uf _ _,λh=>(by cases h),λ_ _ _ h=>(by cases h),I 6 e6 (by omega)⟩,?_⟩;refine xS.s T8 ?_;rw[e3];(conv=>whnf);rw[e4];(conv=>whnf);rw[e5];(conv=>whnf);rw[e6];refine vw ?_;refine vw ?_;refine Sat.w U ?_;cases c<;>rfl
    |false=>
     cases p7 with
     |true=>
      have R:=h7 rfl
      match r,R with
      | [y],_=>
      obtain⟨J,i,P⟩:=y;have U:=auN g i;show(qv (v6 (bif uU g i then g*i else 0) (uU g i))/\_ /\_ /\_)/\Sat Pg y0 _ (λr=>r=rV (v6 (bif uU g i then g*i else 0) (uU g i)));generalize(bif uU g i then g*i else 0)=n at*;generalize uU g i=c at*;refine⟨⟨Uf _ _,λh=>(by cases h),λ_ _ _ _ h=>(by cases h),I 7 e7 (by omega)⟩,?_⟩;refine xS.s T8 ?_;rw[e3];(conv=>whnf);rw[e4];(conv=>whnf);rw[e5];(conv=>whnf);rw[e6];(conv=>whnf);rw[e7];refine vw ?_;refine vw ?_;refine Sat.w U ?_;cases c<;>rfl
     |false=>
      cases p8 with
      |true=>
       have R:=h8 rfl
       match r,R with
       | [y],_=>
       obtain⟨J,i,P⟩:=y;have U:=adV g i (op==9);have aa:=aoK g i (op==9);show(qv (Qe g i (op==9))/\_ /\_ /\_)/\Sat Pg y0 _ (λr=>r=rV (Qe g i (op==9)));generalize Qe g i (op==9)=v1 at*;refine⟨⟨aa,λh=>(by cases h),λ_ _ _ _ _ h=>(by cases h),I 8 e8 (by omega)⟩,?_⟩;obtain⟨u1,u2,u3⟩:=v1;refine xS.s T8 ?_;rw[e3];(conv=>whnf);rw[e4];(conv=>whnf);rw[e5];(conv=>whnf);rw[e6];(conv=>whnf);rw[e7];(conv=>whnf);rw[e8];refine vw ?_;refine vw ?_;refine Sat.w U ?_;rfl
      |false=>
       cases e9:(op==9)with
       |true=>
        have R:=h9 e9
        match r,R with
        | [y],_=>
        obtain⟨J,i,P⟩:=y;have U:=adV g i (op==9);have aa:=aoK g i (op==9);show(qv (Qe g i true)/\_ /\_ /\_)/\Sat Pg y0 _ (λr=>r=rV (Qe g i true));rw[show Qe g i true=Qe g i (op==9)by rw[e9]];generalize Qe g i (op==9)=v1 at*;refine⟨⟨aa,λh=>(by cases h),λ_ _ _ _ _ _ h=>(by cases h),I 9 e9 (by omega)⟩,?_⟩;obtain⟨u1,u2,u3⟩:=v1;refine xS.s T8 ?_;rw[e3];(conv=>whnf);rw[e4];(conv=>whnf);rw[e5];(conv=>whnf);rw[e6];(conv=>whnf);rw[e7];(conv=>whnf);rw[e8];(conv=>whnf);rw[e9];refine vw ?_;refine vw ?_;refine Sat.w U ?_;rfl
       |false=>
        cases al with
        |true=>
         obtain⟨⟨aa,ag⟩,U⟩:=ab rfl;show(qv (Zr j (⟨o,g,p⟩::r))/\_ /\_ /\_)/\Sat Pg y0 _ (λz=>z=rV (Zr j (⟨o,g,p⟩::r)));generalize Zr j (⟨o,g,p⟩::r)=v1 at*;refine⟨⟨aa,λh=>(by cases h),λ_ _ _ _ _ _ _ h=>(by cases h),λ_=>ag⟩,?_⟩;obtain⟨u1,u2,u3⟩:=v1;refine xS.s T8 ?_;rw[e3];(conv=>whnf);rw[e4];(conv=>whnf);rw[e5];(conv=>whnf);rw[e6];(conv=>whnf);rw[e7];(conv=>whnf);rw[e8];(conv=>whnf);rw[e9];(conv=>whnf);rw[ac];refine Sat.w U ?_;rfl
        |false=>
         have R:=hE rfl rfl rfl
         match r,R with
         | [y],_=>
         obtain⟨J,i,P⟩:=y;show(qv (yR ((((op==10&&(xP ⟨o,g,p⟩ ⟨J,i,P⟩==0))||(op==11&&(xP ⟨o,g,p⟩ ⟨J,i,P⟩ !=0)))||(op==12&&decide (xP ⟨o,g,p⟩ ⟨J,i,P⟩<0)))||(op==13&&decide (xP ⟨o,g,p⟩ ⟨J,i,P⟩<=0))))/\_ /\_ /\_)/\Sat Pg y0 _ (λr=>r=rV (yR ((((op==10&&(xP ⟨o,g,p⟩ ⟨J,i,P⟩==0))||(op==11&&(xP ⟨o,g,p⟩ ⟨J,i,P⟩ !=0)))||(op==12&&decide (xP ⟨o,g,p⟩ ⟨J,i,P⟩<0)))||(op==13&&decide (xP ⟨o,g,p⟩ ⟨J,i,P⟩<=0)))));refine⟨⟨XR _,λh=>(by cases h),λ_ _ _ _ _ _ _ _=>⟨_,rfl⟩,λh=>(by cases h)⟩,?_⟩;refine xS.s T8 ?_;rw[e3];(conv=>whnf);rw[e4];(conv=>whnf);rw[e5];(conv=>whnf);rw[e6];(conv=>whnf);rw[e7];(conv=>whnf);rw[e8];(conv=>whnf);rw[e9];(conv=>whnf);rw[ac];refine vw ?_;refine vw ?_;exact rfl
def wF (l:am Val):Bool:=l.any λv=>v.k==0
mutual
def Ex.val (cols:am Col)(row:am Val):Ex ->Val
 | .mk op g v ks=>bif op==1 then v else bif op==2 then at0 row (zj cols g).toNat else
   bif op==14 then jN (at0 (valL cols row ks) 0) (at0 (valL cols row ks) 1)else
   bif op==15 then uI (jN (uI (at0 (valL cols row ks) 0)) (uI (at0 (valL cols row ks) 1)))else
   bif wF (valL cols row ks)then yf else uw op g (valL cols row ks)
def valL (cols:am Col)(row:am Val):am Ex ->am Val
 | []=> []
 |k::r=>k.val cols row::valL cols row r
end
theorem Jh (cols:am Col)(row:am Val): ∀ks,valL cols row ks=ks.map (Ex.val cols row)
 | []=>rfl
 |k::r=>by simp only[valL,cF,Jh cols row r]
theorem anR (x:Col)(op:Int)(g:ByteArray)(rest:am D):Sat Pg kj [x.w,.c (.fp (.lit (.int .i64 op):: .lit (.string g)::rest))] (λr=>r=rB (zo x.name g)):=by
 refine xq T8 ag3.ok (by kernel_rfl) ?_;exact rfl
def vlS (cols:am Col)(row:am Val)(op:Int)(j:ByteArray)(v:Val)(ks:am Ex)(i:Nat)(g:am Val):S:=⟨[(0,.w (.c (.d (.sl (zm cols))))),(1,.w (yt row)),(5,cV (.ptr 5 0)),(6,cV (.ptr 6 0)),(7,cV (.own 46 3 g.length)),(8,ya (wF g)),(27,.w (.c (.d (.sl (exsD ks))))),(28,zl (exsD ks).length),(29,zl i)],
 [(5,.box [int op,str j,int v.k,int v.n,str v.s,.d (.sl (exsD ks))]),(6,.box [int 0,int 0,str ⟨#[]⟩]),(46,.arr 3 (rowD g) false)]⟩
theorem vT (a b:am Val):rowD a++rowD b=rowD (a++b):=by simp[rowD]
theorem akE (l:am Val)(v:Val):wF (l++[v])=(wF l||(v.k==0)):=by simp[wF]
theorem apn {v:Val}(h:YT v=0):qv v:=by
 unfold YT at h;cases g:(yY v.k v !=0)
 ·have:=KQ g<;>grind[qv]
 simp_all
theorem KF {op:Int}{j:ByteArray}{v:Val}{i:Int}(g:(op==1)=true)(h:xl op j v i=0):YT v=0:=by
 unfold xl at h;rw[g,aB]at h;exact(yl (by omega) h).2
theorem af0 {op:Int}{i:ByteArray}{v:Val}{g:Int}(o:op=16)(h:xl op i v g=0):qg i≠0:=by
 subst o;have h:vS 16 i v g g true false=0:=h;have j:=(yl (by omega) h).2;simp only[aA]at j;have l:=(yl (by omega) j).2;have p:=(yl (by omega) l).1<;>simp_all
theorem ah4 (cols:am Col): ∀{ks:am Ex},(tyL cols ks).1=0 -> ∀k∈ks,(k.ty cols).2=0
 | [],_,k,hk=>by cases hk
 |a::r,h,k,hk=>by
  simp only[tyL]at h;cases g:((a.ty cols).2 !=0)
  ·rw[g,aA]at h;rcases bT.1 hk with rfl|hk
   ·simpa using g
   exact ah4 cols h k hk
  simp_all
theorem ah5 {cols:am Col}{op:Int}{g:ByteArray}{v:Val}{ks:am Ex}(h:(Ex.ty cols (.mk op g v ks)).2=0):(tyL cols ks).1=0 /\(vU cols op g v (tyL cols ks).2).2=0:=by
 simp only[Ex.ty]at h;cases i:((tyL cols ks).1 !=0)<;>simp_all
theorem auk (hC:Kh)(op:Int)(g:ByteArray)(v:Val)(ks:am Ex)(l:am Val)(i:xl op g v ks.length=0)(o:3<=op)(j:l.length=ks.length)(hs: ∀v∈l,qv v):
 (qv (uw op g l)/\BK op g l (uw op g l))/\Sat Pg y0 [(Ex.mk op g v ks).w,yt l] (λr=>r=rV (uw op g l)):=
 auP hC op g v ks l i o j (λh=>af0 h i) hs
theorem aiR (hC:Kh)(cols:am Col)(row:am Val)(al: ∀v∈row,qv v)(ah:row.length=cols.length): ∀(e:Ex),e.err=0 ->(e.ty cols).2=0 ->qv (e.val cols row)/\Sat Pg abF [.c (.d (.sl (zm cols))),yt row,e.w] (λr=>r=rV (e.val cols row))
 | .mk op g v ks,he,av=>by
   have R:xl op g v ks.length=0 /\errL ks=0:=by
    simp only[Ex.err]at he;cases hb:(xl op g v ks.length !=0)
    ·simp_all
    simp_all
   have ag:=gC R.2;obtain⟨ao,aq⟩:=ah5 av;have au:=ah4 cols ao;have ax: ∀k∈ks,qv (k.val cols row)/\Sat Pg abF [.c (.d (.sl (zm cols))),yt row,k.w] (λr=>r=rV (k.val cols row)):=λk hk=>aiR hC cols row al ah k (ag k hk) (au k hk)
   have an: ∀x∈valL cols row ks,qv x:=λx hx=>by
    grind[Jh]
   have ih:=λk hk=>(ax k hk).2
   obtain⟨bj,bk,bl⟩:=Qv R.1;have bi:=alI op g;have bh:ks.length<=2:=by omega
   have aw:(valL cols row ks).length=ks.length:=by grind[Jh]
   have ad:(op==14||op==15)=true ->(valL cols row ks).length=2:=λh=>by
    simp only[bD,cq]at h
    grind[Qu]
   have ae:(op==1)=true ->qv v:=λh=>apn (KF h R.1)
   have af:(op==2)=true ->0<=zj cols g /\zj cols g<row.length:=λh=>by
    have h:op=2:=by simpa using h
    subst h;have J:(bif decide (zj cols g<0)then((0:Int),(16:Int))else(vX cols (zj cols g),0)).2=0:=aq;have h3:=Q4 (λx=>zo x.name g) cols 0 (Int.le_refl _)
    grind[zj]
   have aa:=auk hC op g v ks (valL cols row ks) R.1
   have ac:Ex.val cols row (.mk op g v ks)=bif op==1 then v else bif op==2 then at0 row (zj cols g).toNat else
    bif op==14 then jN (at0 (valL cols row ks) 0) (at0 (valL cols row ks) 1)else
    bif op==15 then uI (jN (uI (at0 (valL cols row ks) 0)) (uI (at0 (valL cols row ks) 1)))else
    bif wF (valL cols row ks)then yf else uw op g (valL cols row ks):=by grind[Ex.val]
   have ai: ∀{l:am Val}{i:Nat},i<l.length ->(∀x∈l,qv x) ->qv (at0 l i):=fun{l i} h1 J=>by
    grind[at0]
   have ak:(op==1)=false ->(op==2)=false ->3<=op:=λh1 J=>by
    grind
   rw[ac];refine⟨?_,?_⟩
   ·cases e1:(op==1)
    ·cases e2:(op==2)
     ·cases e3:(op==14)<;>simp_all[Wp,ae1,aoL,ava]
     simp_all
    grind
   clear av ao aq au ax he ag ac ae;obtain⟨V,hV⟩: ∃V,V=valL cols row ks:=⟨_,rfl⟩;rw[<- hV]at an aw ad aa⊢;have a7: ∀i (h:i<ks.length) (J:i<V.length),V[i]=ks[i].val cols row:=λi h J=>by
    grind[Jh]
   have j:V.length=2 ->(rowD V)[(0:Int).toNat]? =some (at0 V 0).ds:=λh=>by
    have:=xj (r:=V) (i:=0) (by omega)
    grind[at0]
   have o:V.length=2 ->(rowD V)[(1:Int).toNat]? =some (at0 V 1).ds:=λh=>by
    have:=xj (r:=V) (i:=1) (by omega)
    grind[at0]
   have a9:(op==2)=true ->(rowD row)[(zj cols g).toNat]? =some (at0 row (zj cols g).toNat).ds:=λh=>by
    grind[at0,rowD]
   have p:=v7 kj [.lit (.int .i64 op),.lit (.string g),.lit (.int .i64 v.k),.lit (.int .i64 v.n),.lit (.string v.s),.sl (exsD ks)] (λx=>zo x.name g) (λx=>anR x op g _) cols;have p:Sat Pg Zs _ (λr=>r=rI (zj cols g)):=p;clear hV ai;obtain⟨vk,vn,vs⟩:=v;generalize at0 row (zj cols g).toNat=fv at*;generalize zj cols g=ci at*;generalize at0 V 0=a0 at*;generalize at0 V 1=a1 at*;cases e1:(op==1)with
   |true=>
    refine ZG.s T8 ?_;rw[e1];exact rfl
   |false=>
    cases e2:(op==2)with
    |true=>
     have hf:=af e2;have hg:=a9 e2;obtain⟨f1,f2,f3⟩:=fv;refine ZG.s T8 ?_;rw[e1];(conv=>whnf);rw[e2];refine Sat.w p ?_;refine yu hg ?_ (hA:=hf.1);exact rfl
    |false=>
     have aa:=aa (ak e1 e2) aw an;refine ZG.s T8 ?_;rw[e1];(conv=>whnf);rw[e2];(conv=>whnf);refine yx (P:=Pg) (f:=T8.f) (body:=(ZG.l 0)) ks.length (λi=>vlS cols row op g ⟨vk,vn,vs⟩ ks i (V.take i)) (λ_=>True) ⟨trivial,⟨_,zW 7 46 3 (by omega) (by omega) rfl,?_⟩⟩ ?_
     ·exact rfl
     intro i hi _;obtain⟨T,hT⟩: ∃T,T=V.take i:=⟨_,rfl⟩;have bg:T.length=i:=by grind
     have ar:(rowD T).take T.length=rowD T:=by grind[zt]
     have wi:i<ks.length ->aD.wrap ((i:Int)+1)=((i+1:Nat):Int):=λh=>zC h (by omega)
     have U: ∀h:i<ks.length,V.take (i+1)=T++[ks[i].val cols row]:=λh=>by
      grind[zR]
     have ab:ks.length<=i ->V=T:=λh=>by grind
     show mwpR Pg T8.f (ZG.l 0) _ (vlS cols row op g ⟨vk,vn,vs⟩ ks i (V.take i));unfold vlS;rw[<- hT];clear hT;refine zi (λh1=>?_) (λh1=>?_)
     ·have I:i<ks.length:=by have:=aS h1;grind[wV]
      have hg:(exsD ks)[((i:Int)).toNat]? =some (ks[i]).ds:=UA I;have hm:ks[i]∈ks:=bI I;have U:=U I;generalize ks[i]=k at*;have bc:=ih k hm;obtain⟨bf,be,v1,bd⟩:=k;generalize(Ex.val cols row (.mk bf be v1 bd))=x at*;obtain⟨x1,x2,x3⟩:=x;refine yu hg ?_;refine Sat.w bc ?_;refine wu ?_;refine y6 I trivial ?_;rw[wi I,ar,U,akE,<- vT,aR];rfl
     have a8:ks.length<=i:=by grind[wV]
     have a6:=ab a8;subst a6;clear U ab a7;cases e3:(op==14)with
     |true=>
      have J:=ad (by grind);have j:=j J;have o:=o J;have hb:=al9 a0 a1;generalize jN a0 a1=u at*;obtain⟨u1,u2,u3⟩:=u;obtain⟨ay,az,a2⟩:=a0;obtain⟨a3,a4,a5⟩:=a1;(conv=>whnf);rw[e3];refine xW ?_ (hA:=by omega) (hB:=by omega);refine⟨_,j,?_⟩;(conv=>whnf);refine xW ?_ (hA:=by omega) (hB:=by omega);refine⟨_,o,?_⟩;(conv=>whnf);refine Sat.w hb ?_;rfl
     |false=>
      cases e4:(op==15)with
      |true=>
       have J:=ad (by simp_all);have j:=j J;have o:=o J;have ba:=adb a0;have bb:=adb a1;generalize uI a0=n0 at*;generalize uI a1=n1 at*;have hb:=al9 n0 n1;generalize jN n0 n1=u at*;have hn:=adb u;generalize uI u=z at*;obtain⟨u1,u2,u3⟩:=u;obtain⟨z1,z2,z3⟩:=z;obtain⟨bm,bn,bo⟩:=n0;obtain⟨bp,bq,bs⟩:=n1;obtain⟨ay,az,a2⟩:=a0;obtain⟨a3,a4,a5⟩:=a1;(conv=>whnf);rw[e3];(conv=>whnf);rw[e4];refine xW ?_ (hA:=by omega) (hB:=by omega);refine⟨_,j,?_⟩;(conv=>whnf);refine xW ?_ (hA:=by omega) (hB:=by omega);refine⟨_,o,?_⟩;(conv=>whnf);refine Sat.w ba ?_;refine Sat.w bb ?_;refine Sat.w hb ?_;refine Sat.w hn ?_;rfl
      |false=>
       cases e5:wF V with
       |true=>
        (conv=>whnf);rw[e3];(conv=>whnf);rw[e4];exact rfl
       |false=>
        have aj:Sat Pg y0 [(Ex.mk op g ⟨vk,vn,vs⟩ ks).w,.c (.d (.sl ((rowD V).take V.length)))] (λr=>r=rV (uw op g V)):=by rw[ar];exact aa.2
        generalize uw op g V=u at*;obtain⟨u1,u2,u3⟩:=u;(conv=>whnf);rw[e3];(conv=>whnf);rw[e4];refine Sat.w aj ?_;rfl
termination_by e=>cr e
decreasing_by
 simp_wf
 have:=bU hk;omega
theorem V8 {e:Ex}(h:e.chk=0):e.err=0:=by
 unfold Ex.chk at h;exact(yl (by omega) (yl (by omega) h).2).2
def Ex.tyE (cols:am Col)(e:Ex):Int×Int:=bif e.chk !=0 then(0,e.chk)else e.ty cols
theorem agr (cols:am Col)(e:Ex):Sat Pg ajz [.c (.d (.sl (zm cols))),e.w] (λr=>r=rII (e.tyE cols)):=by
 have j:=U5 e;have g:=J9 cols e;unfold Ex.tyE;cases i:(e.chk !=0)with
 |true=>
  generalize e.chk=c at*;obtain⟨op,l,⟨o,p,vs⟩,ks⟩:=e;refine aay.s T8 ?_;refine Sat.w j ?_;rw[i];exact rfl
 |false=>
  have g:=g (V8 (by grind));generalize e.chk=c at*;generalize e.ty cols=t at*;obtain⟨op,l,⟨o,p,vs⟩,ks⟩:=e;refine aay.s T8 ?_;refine Sat.w j ?_;rw[i];refine Sat.w g ?_;rfl
def Qh:am Col ->am Val ->Bool
 |c::cs,v::vs=>bif yY c.t v !=0 then false else Qh cs vs
 |_,_=>true
def Qg (cols:am Col)(row:am Val):Bool:=bif ((cols.length:Int)) !=row.length then false else Qh cols row
theorem aso (cols:am Col)(row:am Val):Sat Pg ano [.c (.d (.sl (zm cols))),yt row] (λr=>r=rB (Qg cols row)):=by
 refine w8 1 (by kernel_rfl) rfl λo=>?_
 rw[zt]at o;unfold Qg;refine adz.s T8 ?_;rw[zV,zt];refine zw (λh=>?_) (λh=>?_)
 ·rw[h];exact rfl
 rw[h];have hl:=lens h;simp only[aA];refine WS T8 (adz.l 0) row.length (λi=>⟨[(0,.w (.c (.d (.sl (zm cols))))),(12,.w (yt row)),(13,zl (rowD row).length),(14,zl i)],[]⟩) (λi=>Qh cols row=Qh (cols.drop i) (row.drop i)) ?_
 intro i hi g;refine zi (λh1=>?_) (λh1=>?_)
 ·have j:i<row.length:=by simp_all[zt]
  have I:i<cols.length:=by omega
  rw[zq j,zq I]at g;have g:Qh cols row=bif yY cols[i].t row[i] !=0 then false else Qh (cols.drop (i+1)) (row.drop (i+1)):=g
  have hg:=xj j;have P:=xC I;generalize row[i]=x at*;generalize cols[i]=c at*;obtain⟨x1,x2,x3⟩:=x;obtain⟨U,p⟩:=c;refine yu hg ?_;refine yu P ?_;refine zi (b:=yY p ⟨x1,x2,x3⟩ !=0) (λJ=>?_) (λJ=>?_)
  ·rw[show(Col.mk U p).t=p from rfl,J,aB]at g;(conv=>whnf);rw[g];rfl
  rw[show(Col.mk U p).t=p from rfl,J,aA]at g;refine y6 j g ?_;rw[zC j o];rfl
 have R:row.length<=i:=by grind[zt]
 rw[aC R,aC (by omega)]at g;(conv=>whnf);rw[g];rfl
theorem ak9: ∀{cols:am Col}{row:am Val},Qh cols row=true ->row.length=cols.length -> ∀v∈row,qv v
 |_,[],_,_,v,g=>by cases g
 | [],_::_,_,h,_,_=>by cases h
 |c::cs,x::r,h,j,v,g=>by
  simp only[Qh]at h;cases i:(yY c.t x !=0)
  ·rw[i,aA]at h;rcases bT.1 g with rfl|g
   ·have:=KQ i<;>grind[qv]
   exact ak9 h (by simpa using j) v g
  grind
noncomputable def exprV (cols:am Col)(row:am Val)(e:Ex):Val:=bif (e.tyE cols).2 !=0|| !Qg cols row then yf else e.val cols row
theorem aiO (hC:Kh)(cols:am Col)(row:am Val)(e:Ex):Sat Pg anl [.c (.d (.sl (zm cols))),yt row,e.w] (λr=>r=rV (exprV cols row e)):=by
 have p:=agr cols e;have o:=aso cols row;unfold exprV;cases g:((e.tyE cols).2 !=0)with
 |true=>
  generalize e.tyE cols=t at*;obtain⟨P,t2⟩:=t;have g:(t2 !=0)=true:=g;obtain⟨op,J,⟨R,U,vs⟩,ks⟩:=e;refine Km.s T8 ?_;refine Sat.w p ?_;refine zw (λc=>?_) (λc=>?_)
  ·exact rfl
  have c:(t2 !=0)=false:=c;rw[g]at c;cases c
 |false=>
  cases j:Qg cols row with
  |false=>
   rw[j]at o;generalize e.tyE cols=t at*;obtain⟨P,t2⟩:=t;have g:(t2 !=0)=false:=g;obtain⟨op,J,⟨R,U,vs⟩,ks⟩:=e;refine Km.s T8 ?_;refine Sat.w p ?_;refine zw (λc=>?_) (λc=>?_)
   ·have c:(t2 !=0)=true:=c;rw[g]at c;cases c
   refine Sat.w o ?_;rfl
  |true=>
   have i:row.length=cols.length /\Qh cols row=true:=by
    have j:=j;unfold Qg at j;cases I:(((cols.length:Int)) !=row.length)
    ·rw[I,aA]at j
     grind
    grind
   have l:e.chk=0 /\(e.ty cols).2=0:=by
    have g:=g;unfold Ex.tyE at g;cases I:(e.chk !=0)<;>simp_all
   have hv:=(aiR hC cols row (ak9 i.2 i.1) i.1 e (V8 l.1) l.2).2;rw[j]at o;generalize e.tyE cols=t at*;generalize e.val cols row=u at*;obtain⟨P,t2⟩:=t;obtain⟨u1,u2,u3⟩:=u;have g:(t2 !=0)=false:=g;obtain⟨op,J,⟨R,U,vs⟩,ks⟩:=e;refine Km.s T8 ?_;refine Sat.w p ?_;refine zw (λc=>?_) (λc=>?_)
   ·have c:(t2 !=0)=true:=c;rw[g]at c;cases c
   refine Sat.w o ?_;refine Sat.w hv ?_;rfl
noncomputable def condB (cols:am Col)(row:am Val)(e:Ex):Bool:=qI (exprV cols row e) (yR true)
theorem auH (hC:Kh)(cols:am Col)(row:am Val)(e:Ex):Sat Pg adG [.c (.d (.sl (zm cols))),yt row,e.w] (λr=>r=rB (condB cols row e)):=by
 have g:=aiO hC cols row e;unfold condB;generalize exprV cols row e=u at*;obtain⟨u1,u2,u3⟩:=u;obtain⟨op,i,⟨j,l,vs⟩,ks⟩:=e;refine am4.s T8 ?_;refine Sat.w g ?_;rfl
theorem xm (a b:am (am Val)):zf (a++b)=zf a++zf b:=by simp[zf]
def vE (op l:Int)(o:ByteArray)(v:Val)(ks:am Ex)(i cs g j:am (am D))(m:Int)(tb:ByteArray):am C:=
 [int op,int l,str o,int v.k,int v.n,str v.s,.d (.sl (exsD ks)),.d (.sl i),.d (.sl cs),.d (.sl g),.d (.sl j),int m,str tb]
def whS (cols:am Col)(rows:am (am Val))(st:am C)(i:Nat)(g:am (am Val)):S:=⟨[(4,cV (.ptr 4 0)),(5,cV (.ptr 5 0)),(8,cV (.own 38 1 g.length)),(23,.w (.c (.d (.sl (zf rows))))),(24,zl (zf rows).length),(25,zl i)],
 [(4,.box [.d (.sl (zm cols)),.d (.sl (zf rows))]),(5,.box st),(38,.arr 1 (zf g) false)]⟩
noncomputable def whereR (cols:am Col)(rows:am (am Val))(e:Ex):am (am Val):=rows.filter λr=>condB cols r e
theorem Zd {α:Type}(p:α ->Bool){l:am α}{i:Nat}(h:i<l.length):(l.take (i+1)).filter p=(l.take i).filter p++(bif p l[i]then [l[i]]else []):=by
 grind[zR]
theorem kU (hC:Kh)(d:D)(cols:am Col)(rows:am (am Val))(hr:rows.length<=20000)(J:Int)(U:ByteArray)(v:Val)(ks:am Ex)(R cs I aa:am (am D))(m:Int)(tb:ByteArray):
 Sat Pg vx [.c (.d d),.agg [.d (.sl (zm cols)),.d (.sl (zf rows))],.agg (vE 1 J U v ks R cs I aa m tb)] (λr=>r=⟨.tup [.c (.d (.sl (zf (whereR cols rows (.mk J U v ks))))),.c (bool true)],[]⟩):=by
 refine zD ?_;have j:=λrow=>auH hC cols row (.mk J U v ks)
 obtain⟨vk,vn,vs⟩:=v;unfold whereR;generalize af:(λr=>condB cols r (.mk J U ⟨vk,vn,vs⟩ ks))=p at*;have j: ∀row,Sat Pg adG [.c (.d (.sl (zm cols))),yt row,(Ex.mk J U ⟨vk,vn,vs⟩ ks).w] (λr=>r=rB (p row)):=λrow=>by grind
 refine xM.s T8 ?_;refine yx (P:=Pg) (f:=T8.f) (body:=(xM.l 0)) rows.length (λi=>whS cols rows (vE 1 J U ⟨vk,vn,vs⟩ ks R cs I aa m tb) i ((rows.take i).filter p)) (λ_=>True) ⟨trivial,⟨_,zW 8 38 1 (by omega) (by omega) rfl,?_⟩⟩ ?_
 ·exact rfl
 intro i hi _;have wi:i<rows.length ->aD.wrap ((i:Int)+1)=((i+1:Nat):Int):=λh=>zC h (by omega)
 obtain⟨T,hT⟩: ∃T,T=(rows.take i).filter p:=⟨_,rfl⟩;have ae:T.length<=i:=by
  grind
 have ac:(zf T).take T.length=zf T:=by grind[zx]
 have o: ∀h:i<rows.length,(rows.take (i+1)).filter p=T++(bif p rows[i]then [rows[i]]else []):=λh=>by grind[Zd]
 have ab:rows.length<=i ->T=rows.filter p:=λh=>by grind
 show mwpR Pg T8.f (xM.l 0) _ (whS cols rows (vE 1 J U ⟨vk,vn,vs⟩ ks R cs I aa m tb) i ((rows.take i).filter p));unfold whS vE;rw[<- hT];clear hT;refine zi (λh1=>?_) (λh1=>?_)
 ·have g:i<rows.length:=by simp_all[zx]
  have hg:=yJ g;have o:=o g;generalize rows[i]=x at*;have hc:=j x;generalize p x=b at*;refine yu hg ?_;refine Sat.w hc ?_;refine zw (b:=b) (λh2=>?_) (λh2=>?_)
  ·subst h2;refine wu ?_;refine y6 g trivial ?_;rw[wi g,ac,o,aB,xm,aR];rfl
  subst h2;refine y6 g trivial ?_;rw[wi g,o,aA,List.append_nil];rfl
 have ad:rows.length<=i:=by grind[zx]
 rw[<- ab ad];refine aw1 ?_;show Res.mk (.tup [.c (.d (.sl ((zf T).take T.length))),.c (bool true)]) []=_;rw[ac]
end
end Go.Proofs.YtkdijaiaplkliaaGreatDoor
namespace Go.AM
noncomputable def loopU (W:(E ->S ->Prop) ->S ->Prop)(g:am Nat)(Q:E ->S ->Prop)(n:Nat):S ->Prop:=
 Nat.rec (motive:=λ_=>S ->Prop) (λ_=>False) (λ_ i s=>VX s g λj=>W (JQ i Q) j) n
theorem wB {P:Program}{f:FuncId ->am W ->aH W}{body:ACode}{g:am Nat}{Q:E ->S ->Prop}{s:S}(n:Nat)(h:loopU (mwpR P f body) g Q n s):zY (mwpR P f body) g Q s:=by
 have step: ∀(n:Nat) (s:S),loopU (mwpR P f body) g Q n s -> ∃k,n=k+1 /\mwpR P f body (JQ (loopU (mwpR P f body) g Q k) Q) (s.norm g):=by
  intro n s h;cases n with
  |zero=>exact absurd h id
  |succ k=>
   grind[loopU,Wi]
 refine yq (ι:=S×Nat) (λp=>p.1) (λp=>p.2) (λp=>mwpR P f body (JQ (loopU (mwpR P f body) g Q p.2) Q) p.1) ?_ ?_
 ·obtain⟨k,_,hk⟩:=step n s h;refine⟨(s.norm g,k),hk,ze ?_⟩;rw[Wi]
 rintro⟨R,k⟩ r;refine JT body (λe o l=>?_) _ r;cases e with
 |normal=>
  obtain⟨j,J,I⟩:=step k o l;refine⟨(o.norm g,j),⟨I,by grind⟩,ze ?_⟩;rw[Wi]
 |exit i=>exact l
 |ret=>exact l
end Go.AM
namespace Go.Proofs.YtkdijaiaplkliaaGreatDoor
open Go Go.AM
section
attribute [local irreducible] Sat zA zY
theorem aaq (cols:am Col)(rows:am (am Val))(e:Ex):(whereR cols rows e).length<=rows.length:=List.length_filter_le _ _
def qE (t:Tbl)(e:Int):Res:=⟨.tup [t.w,.c (int e)],[]⟩
def aqC (cols:am Col)(e:Ex):Int:=bif (e.ty cols).2 !=0 then(e.ty cols).2 else bif vq (e.ty cols).1 1 then 0 else 14
def wl (e:Ex):Stp:=⟨1,e,[],[],[],[],0,⟨#[]⟩⟩
def rNT (e:Int):Res:=⟨.tup [.agg [.nil,.nil],.c (int e)],[]⟩
theorem yF {b:Bool}{k:Int}(h:(ja b k).2=0):b=true /\(ja b k).1=k:=by
 cases b
 ·cases h
 exact⟨rfl,rfl⟩
theorem ah3 {cols:am Col}: ∀{ks:am Ex},(tyL cols ks).1=0 ->(tyL cols ks).2=ks.map λk=>(k.ty cols).1
 | [],_=>rfl
 |a::r,h=>by
  simp only[tyL]at h⊢;cases g:((a.ty cols).2 !=0)<;>simp_all[ah3]
theorem aqg {s:ByteArray}(h:zo s ⟨#[]⟩=true):s=⟨#[]⟩:=(beqS_iff _ _).1 h
def Bl (v:Val):Prop:=v=yf\/ ∃b,v=yR b
theorem aoh: ∀{cols:am Col}{row:am Val}{i:Nat}(g:i<cols.length) (j:i<row.length),Qh cols row=true ->yY cols[i].t row[i]=0
 |c::cs,x::r,i,g,j,h=>by
  simp only[Qh]at h;cases l:(yY c.t x !=0)
  ·rw[l,aA]at h;cases i with
   |zero=>simpa using l
   |succ i=>
    simp only[List.getElem_cons_succ];exact aoh (cols:=cs) (row:=r) (by simpa using g) (by simpa using j) h
  grind
theorem axn {cols:am Col}{row:am Val}(h:Qg cols row=true):row.length=cols.length /\Qh cols row=true:=by
 unfold Qg at h;cases g:(((cols.length:Int)) !=row.length)
 ·rw[g,aA]at h
  grind
 grind
theorem an4 (u w:Val):Bl (jN u w):=by
 unfold jN;cases(qI u (yR false)||qI w (yR false))
 ·cases(u.k==0||w.k==0)
  ·exact .inr ⟨true,rfl⟩
  exact .inl rfl
 exact .inr ⟨false,rfl⟩
theorem aq6 (u:Val)(h:Bl u):Bl (uI u):=by
 rcases h with rfl|⟨b,rfl⟩
 ·exact .inl rfl
 cases b
 ·exact .inr ⟨true,rfl⟩
 exact .inr ⟨false,rfl⟩
end
section
attribute [local irreducible] Sat zA zY zo
def alL (n:Int):Val:=⟨2,n,⟨#[]⟩⟩
def yK (k:Int)(v:Val):Prop:=v=yf\/(k=1 /\ ∃b,v=yR b)\/(k=2 /\ ∃n,inB n=true /\v=alL n)\/(k=3 /\ ∃s:ByteArray,s.size<=200 /\v=⟨3,0,s⟩)
theorem bs0:zo ⟨#[]⟩ ⟨#[]⟩=true:=AM.beqS_self _
theorem arB (k:Int):yK k yf:=.inl rfl
theorem VQ (b:Bool):yK 1 (yR b):=.inr (.inl ⟨rfl,b,rfl⟩)
theorem jh {n:Int}(h:inB n=true):yK 2 (alL n):=.inr (.inr (.inl ⟨rfl,n,h,rfl⟩))
theorem ai7 {k:Int}{v:Val}(h:yK k v):yY k v=0:=by
 rcases h with rfl|⟨rfl,b,rfl⟩|⟨rfl,n,g,rfl⟩|⟨rfl,s,hs,rfl⟩
 ·show yY k ⟨0,0,⟨#[]⟩⟩=0
  grind[yY,bs0]
 ·cases b
  ·show yY 1 ⟨1,0,⟨#[]⟩⟩=0
   grind[yY,bs0]
  show yY 1 ⟨1,1,⟨#[]⟩⟩=0
  grind[yY,bs0]
 ·show yY 2 ⟨2,n,⟨#[]⟩⟩=0
  grind[yY,bs0]
 grind[yY]
theorem acO {k:Int}{v:Val}(h:yY k v=0):yK k v:=by
 obtain⟨j,n,s⟩:=v;obtain⟨r,h⟩:=yl (by omega) h;obtain⟨l,h⟩:=yl (by omega) h;obtain⟨o,h⟩:=yl (by omega) h;obtain⟨J,h⟩:=yl (by omega) h;obtain⟨i,h⟩:=yl (by omega) h;obtain⟨I,_⟩:=yl (by omega) h;by_cases g:j=0
 ·subst g;have hs:=aqg (by simpa using i);have p:n=0:=by grind
  subst hs p;exact .inl rfl
 have hk:j=k /\(k=1\/k=2\/k=3):=by
  grind
 obtain⟨rfl,hk⟩:=hk;rcases hk with rfl|rfl|rfl
 ·have hs:=aqg (by simpa using i);subst hs
  right;left
  refine aw1 ?_;by_cases g:n=0
  ·subst g;exact⟨false,rfl⟩
  have:n=1:=by simpa[g]using l
  subst this;exact⟨true,rfl⟩
 ·have hs:=aqg (by simpa using i);subst hs
  right;right;left
  exact⟨rfl,n,by simpa using o,rfl⟩
 right;grind
theorem yK.kind {k:Int}{v:Val}(h:yK k v)(g:v.k≠0):v.k=k /\(k=1\/k=2\/k=3):=by
 rcases h with rfl|⟨rfl,b,rfl⟩|⟨rfl,n,_,rfl⟩|⟨rfl,s,_,rfl⟩
 ·exact absurd rfl g
 ·exact⟨rfl,.inl rfl⟩
 ·exact⟨rfl,.inr (.inl rfl)⟩
 grind
theorem yK.num {k:Int}{v:Val}(h:yK k v)(g:v.k≠0)(hk:vq k 2=true): ∃n,inB n=true /\v=alL n:=by
 rcases h with rfl|⟨rfl,b,rfl⟩|⟨rfl,n,hi,rfl⟩|⟨rfl,s,_,rfl⟩
 ·exact absurd rfl g
 ·cases hk
 ·grind
 cases hk
theorem yK.text {k:Int}{v:Val}(h:yK k v)(g:v.k≠0)(hk:vq k 3=true): ∃s:ByteArray,s.size<=200 /\v=⟨3,0,s⟩:=by
 rcases h with rfl|⟨rfl,b,rfl⟩|⟨rfl,n,hi,rfl⟩|⟨rfl,s,hs,rfl⟩
 ·exact absurd rfl g
 ·cases hk
 ·cases hk
 grind
theorem yK.bl {k:Int}{v:Val}(h:yK k v)(hk:vq k 1=true):Bl v:=by
 rcases h with rfl|⟨rfl,b,rfl⟩|⟨rfl,n,hi,rfl⟩|⟨rfl,s,hs,rfl⟩
 ·exact .inl rfl
 ·exact .inr ⟨b,rfl⟩
 ·cases hk
 cases hk
theorem ahe {v:Val}(h:Bl v):yK 1 v:=by
 rcases h with rfl|⟨b,rfl⟩
 ·exact .inl rfl
 grind[VQ]
theorem WL {n:Int}(g: -1000000000000000<=n)(i:n<=1000000000000000):inB n=true:=by
 simp_all[inB]
theorem JF {n:Int}{b:Bool}(h:b=true ->inB n=true):yK 2 (v6 n b):=by
 cases b
 ·exact .inl rfl
 exact jh (h rfl)
theorem amT {n:Int}(h:inB n=true):aD.wrap (0 - n)= -n:=by
 have:=vJ h<;>grind[cj]
theorem awg {n:Int}(h:inB n=true):inB (-n)=true:=by
 grind[vJ,WL]
theorem avl {a b:Int}(h:inB a=true):inB (Int.tdiv a b)=true:=by
 have:=vJ h;have g:=Int.natAbs_tdiv_le_natAbs a b
 grind[WL]
theorem avm {a b:Int}(h:inB a=true):inB (Int.tmod a b)=true:=by
 have:=vJ h;have g:(Int.tmod a b).natAbs<=a.natAbs:=by
  simp_all[Nat.mod_le]
 grind[WL]
theorem ala {a b:Int}{rest:Bool}(h:inB a=true):yK 2 (Qe a b rest):=by
 unfold Qe;cases j:(b==0)
 ·cases rest
  ·simp only[aA];have g:=avl (b:=b) h;have i:=vJ g;rw[show aD.wrap (Int.tdiv a b)=Int.tdiv a b by grind[cj]];exact jh g
  exact jh (avm h)
 exact .inl rfl
theorem akA {a b:Int}(h:qN a b=true):inB (a+b)=true:=by
 simp_all[qN]
theorem auc {a b:Int}(h:uU a b=true):inB (a*b)=true:=by
 simp_all[uU]
theorem aea {a b w:Int}(h:qA [a,b] w=true):vq a w=true /\vq b w=true:=by
 grind[qA]
theorem ad9 {a w:Int}(h:qA [a] w=true):vq a w=true:=by
 grind[qA]
theorem axp {op t:Int}{o:ByteArray}{a:Val}(i:yK t a)(l:a.k≠0)(g:op=3\/op=4)(j:vq t (bif op==3 then 1 else 2)=true):yK (bif op==3 then 1 else 2) (uw op o [a]):=by
 rcases g with rfl|rfl
 ·exact ahe (aq6 a (i.bl j))
 obtain⟨n,hi,rfl⟩:=i.num l j;show yK 2 (v6 (aD.wrap (0 - n)) true);rw[amT hi];exact jh (awg hi)
theorem awd {op t u:Int}{I:ByteArray}{a b:Val}(l:yK t a)(o:yK u b)(i:a.k≠0)(j:b.k≠0)(g:5<=op /\op<=9)(p:vq t 2=true)(r:vq u 2=true):yK 2 (uw op I [a,b]):=by
 obtain⟨n,hi,rfl⟩:=l.num i p;obtain⟨m,J,rfl⟩:=o.num j r;have g:op=5\/op=6\/op=7\/op=8\/op=9:=by omega
 rcases g with rfl|rfl|rfl|rfl|rfl
 ·show yK 2 (v6 (bif qN n m then n+m else 0) (qN n m))
  grind[JF,akA]
 ·show yK 2 (v6 (bif qN n (aD.wrap (0 - m))then n+aD.wrap (0 - m)else 0) (qN n (aD.wrap (0 - m))))
  grind[JF,akA]
 ·show yK 2 (v6 (bif uU n m then n*m else 0) (uU n m))
  grind[JF,auc]
 ·exact ala (rest:=false) hi
 exact ala (rest:=true) hi
theorem atI {g:ByteArray}{I:am Int}{l:am Val}(hl:(l.length:Int)=qg g)(hn:qg g≠0)(J:I.length=l.length)(p: ∀i (h1:i<I.length) (h2:i<l.length),yK I[i] l[i])(j: ∀x∈l,x.k≠0)(r:(Yb g I).2=0):yK (Yb g I).1 (Zr g l):=by
 unfold Yb at r⊢;unfold Zr;unfold qg at hl hn;have d1:zo g ⟨#[97,98,115]⟩=true ->zo g ⟨#[109,105,110]⟩=false /\zo g ⟨#[109,97,120]⟩=false /\zo g ⟨#[104,97,115]⟩=false /\zo g ⟨#[115,116,97,114,116,115]⟩=false:=λh=>by
  grind[AM.beqS_iff]
 have d2:zo g ⟨#[108,101,110]⟩=true ->zo g ⟨#[109,105,110]⟩=false /\zo g ⟨#[109,97,120]⟩=false /\zo g ⟨#[104,97,115]⟩=false /\zo g ⟨#[115,116,97,114,116,115]⟩=false:=λh=>by
  grind[AM.beqS_iff]
 have d3:zo g ⟨#[104,97,115]⟩=true ->zo g ⟨#[109,105,110]⟩=false /\zo g ⟨#[109,97,120]⟩=false:=λh=>by
  grind[AM.beqS_iff]
 have d4:zo g ⟨#[115,116,97,114,116,115]⟩=true ->zo g ⟨#[109,105,110]⟩=false /\zo g ⟨#[109,97,120]⟩=false:=λh=>by
  grind[AM.beqS_iff]
 generalize zo g ⟨#[97,98,115]⟩=U at*;generalize zo g ⟨#[108,101,110]⟩=p2 at*;generalize zo g ⟨#[104,97,115]⟩=p3 at*;generalize zo g ⟨#[115,116,97,114,116,115]⟩=p4 at*;generalize zo g ⟨#[109,105,110]⟩=p5 at*;generalize zo g ⟨#[109,97,120]⟩=p6 at*;have h2:U=false ->p2=false ->l.length=2:=by
  grind
 have P:U=true\/p2=true ->l.length=1:=λh=>by
  grind
 have h0:U=false ->p2=false ->p3=false ->p4=false ->(p5||p6)=true:=by
  grind
 cases U with
 |true=>
  obtain⟨rfl,rfl,rfl,rfl⟩:=d1 rfl;simp only[aP,aA,aB]at r⊢;obtain⟨o,R⟩:=yF r;rw[R]
  match l,I,P,J,p,j,o with
  | [a],[t],_,_,p,j,o=>
    obtain⟨n,hi,rfl⟩:=(p 0 (by simp) (by simp):yK t a).num (j _ (by simp)) (ad9 o);show yK 2 (v6 (zU true n (aD.wrap (0 - n))) true);have hb:=vJ hi;rw[amT hi,acY];exact jh (WL (by omega) (by omega))
 |false=>
  cases p2 with
  |true=>
   obtain⟨rfl,rfl,rfl,rfl⟩:=d2 rfl;simp only[aP,aA,aB]at r⊢;obtain⟨o,R⟩:=yF r;rw[R]
   match l,I,P,J,p,j,o with
   | [a],[t],_,_,p,j,o=>
     obtain⟨s,hi,rfl⟩:=(p 0 (by simp) (by simp):yK t a).text (j _ (by simp)) (ad9 o);show yK 2 (v6 (s.size:Int) true);exact jh (WL (by omega) (by omega))
  |false=>
   cases p3 with
   |true=>
    obtain⟨rfl,rfl⟩:=d3 rfl;simp only[aP,aA,aB]at r⊢
    grind[yF,VQ]
   |false=>
    cases p4 with
    |true=>
     obtain⟨rfl,rfl⟩:=d4 rfl;simp only[aP,aA,aB]at r⊢
     grind[yF,VQ]
    |false=>
     cases aa:(p5||p6)with
     |false=>
      grind
     |true=>
      rw[aa]at r;simp only[aB]at r⊢;obtain⟨o,R⟩:=yF r;rw[R]
      match l,I,h2 rfl rfl,J,p,j,o with
      | [a,b],[t,u],_,_,p,j,o=>
        have fa:yK t a:=p 0 (by simp) (by simp);have fb:yK u b:=p 1 (by simp) (by simp);have na:=j a (by simp);have nb:=j b (by simp);have ka:=fa.kind na;have kb:=fb.kind nb;have hm:zU true t u=t /\zU true t u=u:=by
         rw[acY];simp only[bD]at o;rcases o with o|o
         ·have:=aea o;unfold vq at this;simp only[bD,cq]at this;omega
         have:=aea o;unfold vq at this;simp only[bD,cq]at this;omega
        show yK (zU true t u) (bif decide (xP b a<0)==p5 then b else a)
        grind
theorem atG {cols:am Col}{row:am Val}(g:Qg cols row=true){i:Nat}(h:i<cols.length):yK cols[i].t (at0 row i):=by
 obtain⟨l,j⟩:=axn g<;>grind[aoh,at0,acO]
theorem aoR {cols:am Col}{row:am Val}(hf:Qg cols row=true): ∀(e:Ex),e.err=0 ->(e.ty cols).2=0 ->yK (e.ty cols).1 (e.val cols row)
 | .mk op j v ks,he,J=>by
   have p:xl op j v ks.length=0 /\errL ks=0:=by
    simp only[Ex.err]at he;cases hb:(xl op j v ks.length !=0)
    ·simp_all
    simp_all
   have R:=gC p.2;obtain⟨I,g⟩:=ah5 J;have ac:=ah4 cols I;have ih: ∀k∈ks,yK (k.ty cols).1 (k.val cols row):=λk hk=>aoR hf k (R k hk) (ac k hk)
   have hT:(Ex.ty cols (.mk op j v ks))=vU cols op j v (ks.map λk=>(k.ty cols).1):=by
    grind[Ex.ty,ah3]
   rw[ah3 I]at g;rw[hT];obtain⟨aa,af,ag⟩:=Qv p.1;have ab:wF (valL cols row ks)=false -> ∀x∈valL cols row ks,x.k≠0:=λh x hx e=>by
    grind[wF]
   have l:Ex.val cols row (.mk op j v ks)=bif op==1 then v else bif op==2 then at0 row (zj cols j).toNat else
    bif op==14 then jN (at0 (valL cols row ks) 0) (at0 (valL cols row ks) 1)else
    bif op==15 then uI (jN (uI (at0 (valL cols row ks) 0)) (uI (at0 (valL cols row ks) 1)))else
    bif wF (valL cols row ks)then yf else uw op j (valL cols row ks):=by grind[Ex.val]
   rw[l];have hn:=p.1;clear l hT he J;rw[Jh]at ab⊢;have hp: ∀k,Qu op j=k ->(ks.length:Int)=k:=λk h=>by grind
   have ho:op=1\/op=2\/(op=3\/op=4)\/(5<=op /\op<=9)\/(10<=op /\op<=13)\/op=14\/op=15\/op=16:=by omega
   have i: ∀k:Int,op≠k ->(op==k)=false:=λk h=>by simpa using h
   rcases ho with rfl|rfl|h|h|h|rfl|rfl|rfl
   ·show yK v.k v;have hc:=KF (by rfl) hn;refine acO ?_;unfold YT at hc;cases hb:(yY v.k v !=0)
    ·grind
    simp_all
   ·have h2:(bif decide (zj cols j<0)then((0:Int),(16:Int))else(vX cols (zj cols j),0)).2=0:=g;have P:=Q4 (λx=>zo x.name j) cols 0 (Int.le_refl _);have r: ¬zj cols j<0:=λh=>by
     grind
    show yK (bif decide (zj cols j<0)then((0:Int),(16:Int))else(vX cols (zj cols j),0)).1 (at0 row (zj cols j).toNat);have h5:(zj cols j).toNat<cols.length:=by grind[zj]
    rw[aJ r];simp_all[vX,atG]
   ·have U:ks.length=1:=by
     have:=hp 1 (by rcases h with rfl|rfl<;>rfl);omega
    match ks,U with
    | [a],_=>
      have e:vU cols op j v ([a].map λk=>(k.ty cols).1)=ja (qA [(a.ty cols).1] (bif op==3 then 1 else 2)) (bif op==3 then 1 else 2):=by
       rcases h with rfl|rfl<;>rfl
      rw[e]at g⊢;obtain⟨P,r⟩:=yF g;rw[r,i 1 (by omega),i 2 (by omega),i 14 (by omega),i 15 (by omega)];simp only[aA];cases hA:wF ([a].map (Ex.val cols row))
      ·grind[axp,ad9]
      exact .inl rfl
   ·have U:ks.length=2:=by
     have o:op=5\/op=6\/op=7\/op=8\/op=9:=by omega
     have:=hp 2 (by rcases o with rfl|rfl|rfl|rfl|rfl<;>rfl);omega
    match ks,U with
    | [a,b],_=>
      have e:vU cols op j v ([a,b].map λk=>(k.ty cols).1)=ja (qA [(a.ty cols).1,(b.ty cols).1] 2) 2:=by
       have o:op=5\/op=6\/op=7\/op=8\/op=9:=by omega
       rcases o with rfl|rfl|rfl|rfl|rfl<;>rfl
      rw[e]at g⊢;obtain⟨P,r⟩:=yF g;obtain⟨h5,h6⟩:=aea P;rw[r,i 1 (by omega),i 2 (by omega),i 14 (by omega),i 15 (by omega)];simp only[aA];cases hA:wF ([a,b].map (Ex.val cols row))
      ·grind[awd]
      exact .inl rfl
   ·have e:(vU cols op j v (ks.map λk=>(k.ty cols).1)).1=1:=by
     have o:op=10\/op=11\/op=12\/op=13:=by omega
     rcases o with rfl|rfl|rfl|rfl
     ·exact(yF g).2
     ·exact(yF g).2
     ·exact(yF g).2
     exact(yF g).2
    rw[e];rw[i 1 (by omega),i 2 (by omega),i 14 (by omega),i 15 (by omega)];simp only[aA];cases hA:wF (ks.map (Ex.val cols row))
    ·have o:op=10\/op=11\/op=12\/op=13:=by omega
     rcases o with rfl|rfl|rfl|rfl<;>exact VQ _
    exact .inl rfl
   ·have h2:=yF (show(ja (qA (ks.map λk=>(k.ty cols).1) 1) 1).2=0 from g);show yK (ja (qA (ks.map λk=>(k.ty cols).1) 1) 1).1 (jN _ _)
    grind[ahe,an4]
   ·have h2:=yF (show(ja (qA (ks.map λk=>(k.ty cols).1) 1) 1).2=0 from g);show yK (ja (qA (ks.map λk=>(k.ty cols).1) 1) 1).1 (uI (jN _ _))
    grind[ahe,aq6,an4]
   have ae:=af0 rfl hn;have ad:(ks.length:Int)=qg j:=aa;have g:(Yb j (ks.map λk=>(k.ty cols).1)).2=0:=g;show yK (Yb j (ks.map λk=>(k.ty cols).1)).1 (bif wF (ks.map (Ex.val cols row))then yf else Zr j (ks.map (Ex.val cols row)));cases hA:wF (ks.map (Ex.val cols row))with
   |true=>exact .inl rfl
   |false=>
    grind[atI]
theorem arv {cols:am Col}{row:am Val}{e:Ex}{k:Int}(l:Qg cols row=true)(h:e.tyE cols=(k,0)):yK k (exprV cols row e):=by
 unfold Ex.tyE at h;obtain⟨g,i⟩:e.chk=0 /\e.ty cols=(k,0):=by
  cases j:(e.chk !=0)<;>simp_all
 grind[aoR,V8,Ex.tyE,exprV]
end
end Go.Proofs.YtkdijaiaplkliaaGreatDoor
namespace Go.Proofs
section
open Go.Shelf
def Tryz.laysM144_ren:Go.Shelf.Ren:=⟨fun|144=>230|143=>257|219=>276|217=>188|225=>284|224=>285|267=>286|266=>223|314=>287|n=>n,fun|9=>9|4=>4|3=>3|5=>5|46=>228|146=>351|51=>288|n=>n,fun|1=>0|n=>n⟩
theorem Tryz.laysM144:Go.Proofs.LaysM.n144 Tryz.prog Tryz.laysM144_ren:={
 mixed:=by kernel_rfl
 f143:=Tryz.func257.trans (aF some (by kernel_rfl))
 f144:=Tryz.func230.trans (aF some (by kernel_rfl))
 f217:=Tryz.func188.trans (aF some (by kernel_rfl))
 f219:=Tryz.func276.trans (aF some (by kernel_rfl))
 f224:=Tryz.func285.trans (aF some (by kernel_rfl))
 f225:=Tryz.func284.trans (aF some (by kernel_rfl))
 f266:=Tryz.func223.trans (aF some (by kernel_rfl))
 f267:=Tryz.func286.trans (aF some (by kernel_rfl))
 f314:=Tryz.func287.trans (aF some (by kernel_rfl))
 t3:=Tryz.underlying3
 a3:=Tryz.isAgg3
 z3:=Tryz.sizeOf3
 v3:=Tryz.zeroValue3
 t4:=Tryz.underlying4
 a4:=Tryz.isAgg4
 z4:=Tryz.sizeOf4
 v4:=Tryz.zeroValue4
 t5:=Tryz.underlying5
 a5:=Tryz.isAgg5
 z5:=Tryz.sizeOf5
 v5:=Tryz.zeroValue5
 t9:=Tryz.underlying9
 a9:=Tryz.isAgg9
 z9:=Tryz.sizeOf9
 v9:=Tryz.zeroValue9
 t46:=Tryz.underlying228
 a46:=Tryz.isAgg228
 z46:=Tryz.sizeOf228
 v46:=Tryz.zeroValue228
 t51:=Tryz.underlying288
 a51:=Tryz.isAgg288
 z51:=Tryz.sizeOf288
 v51:=Tryz.zeroValue288
 t146:=Tryz.underlying351
 a146:=Tryz.isAgg351
 z146:=Tryz.sizeOf351
 v146:=Tryz.zeroValue351
 g1:=by kernel_rfl
 i3:=by kernel_rfl
 i4:=by kernel_rfl
 i5:=by kernel_rfl
 i9:=by kernel_rfl
 i46:=by kernel_rfl
 i51:=by kernel_rfl
 i146:=by kernel_rfl
 m1:=by kernel_rfl
 s1_3:=λw h=>Go.Proofs.cell_of_shapedOpen_int (zero:= #[.int .i64 0]) (t:=3) h (aS (by kernel_rfl)) (by kernel_rfl) rfl (by kernel_rfl) (by kernel_rfl) Tryz.underlying3}
end
end Go.Proofs
namespace Go.Proofs.YtkdijaiaplkliaaGreatDoor
open Go Go.AM
theorem ass {P:Program}{k:Nat}{args:am W}{x:Value}(hk:xT P k=true)(l:x.oneCell'=true)
 (h: ∀(w:aN) (A:Nat ->Prop) (vals:am Value) (m:Int),w.cell? ⟨0,0,none⟩=some (.int .i64 m) ->qd (λ_=>⟨none,0,.nilFunc,[]⟩) w A args vals ->Calls P k vals.toArray w λe w'=>e= .returned x /\w'=w):
 Sat P k args (λr=>r=⟨.w (.c (.d (.lit x))),[]⟩):=by
 refine⟨hk,λw A vals hA j=>?_⟩;obtain⟨m,i⟩:=hA.2.psi.int (k:=0) rfl;refine(h w A vals m i j).mono ?_;rintro e w' ⟨rfl,rfl⟩;refine⟨x,_,rfl,rfl,⟨bE _,λ_=>⟨none,0,.nilFunc,[]⟩,?_,?_,?_,?_,?_,?_⟩,Grows.refl _ _⟩
 ·simp only[VR,WR,CR,RD];exact⟨trivial,l⟩
 ·intro p y g;cases g
 ·intro p q y z b g;cases g
 ·intro p y b g;cases g
 ·intro p y g;cases g
 intro p y g;cases g
theorem apA:Kh:=λs t hs=>ass (by kernel_rfl) rfl λw A vals m g h=>by
 rw[amU h];exact Any.strings_Contains Tryz.laysM144.1 s t m w (by omega) g
section
attribute [local irreducible] Sat zA zY
def aur (cols:am Col)(rows:D)(j:am ByteArray)(i:Nat)(g:am Int):S:=⟨[(2,cV (.ptr 2 0)),(5,cV (.own 19 1 g.length)),(8,.w (.c (.d (.sl (zp j))))),(9,zl (zp j).length),(10,zl i)],
 [(2,.box [.d (.sl (zm cols)),.d rows]),(19,.arr 1 (zg g) false)]⟩
def zh (cols:am Col)(g:am ByteArray):am Int:=g.map (zj cols)
theorem Qy (cols:am Col)(rows:D)(g:am ByteArray)(hn:g.length<=1000000):Sat Pg ahk [.agg [.d (.sl (zm cols)),.d rows],.c (.d (.sl (zp g)))] (λr=>r=rC (.d (.sl (zg (zh cols g))))):=by
 refine zD ?_;refine QY.s T8 ?_;refine yx (P:=Pg) (f:=T8.f) (body:=(QY.l 0)) g.length (λi=>aur cols rows g i (zh cols (g.take i))) (λ_=>True) ⟨trivial,⟨_,zW 5 19 1 (by omega) (by omega) rfl,?_⟩⟩ ?_
 ·exact rfl
 intro i hi _;have aa:(zh cols (g.take i)).length=i:=by grind[zh]
 have o: ∀h:i<g.length,zh cols (g.take (i+1))=zh cols (g.take i)++[zj cols g[i]]:=λh=>by
  grind[zh,zR]
 have I:g.length<=i ->zh cols g=zh cols (g.take i):=λh=>by grind
 show mwpR Pg T8.f (QY.l 0) _ (aur cols rows g i (zh cols (g.take i)));generalize zh cols (g.take i)=T at*;have J:(zg T).take T.length=zg T:=by grind[zB]
 unfold aur;refine zi (λU=>?_) (λU=>?_)
 ·have j:i<g.length:=by simp_all[zF]
  have hg:=wL j;have o:=o j;have p:=xz cols (.d rows) g[i] ⟨rows,rfl⟩;generalize g[i]=x at*;generalize zj cols x=c at*;refine yu hg ?_;refine Sat.w p ?_;refine wu ?_;refine y6 j trivial ?_;rw[zC j (by omega),J,o,<- vu,aR];rfl
 have R:g.length<=i:=by grind[zF]
 rw[I R];refine aw1 ?_;show Res.mk (.w (.c (.d (.sl ((zg T).take T.length))))) []=_;rw[J];rfl
def apX (row:am Val)(at_:am Int)(i:Nat)(g:am Val):S:=⟨[(0,.w (yt row)),(5,cV (.own 20 3 g.length)),(8,.w (.c (.d (.sl (zg at_))))),(9,zl (zg at_).length),(10,zl i)],
 [(20,.arr 3 (rowD g) false)]⟩
def zn (row:am Val)(at_:am Int):am Val:=at_.map λk=>at0 row k.toNat
def zQ (n:Nat)(at_:am Int):Prop:= ∀k∈at_,0<=k /\k<n
theorem Xy (row:am Val)(at_:am Int)(hn:at_.length<=1000000)(R:zQ row.length at_):Sat Pg als [yt row,.c (.d (.sl (zg at_)))] (λr=>r=rC (.d (.sl (rowD (zn row at_))))):=by
 refine zD ?_;refine Uo.s T8 ?_;refine yx (P:=Pg) (f:=T8.f) (body:=(Uo.l 0)) at_.length (λi=>apX row at_ i (zn row (at_.take i))) (λ_=>True) ⟨trivial,⟨_,zW 5 20 3 (by omega) (by omega) rfl,?_⟩⟩ ?_
 ·exact rfl
 intro i hi _;have aa:(zn row (at_.take i)).length=i:=by grind[zn]
 have j: ∀h:i<at_.length,zn row (at_.take (i+1))=zn row (at_.take i)++[at0 row (at_[i]).toNat]:=λh=>by
  grind[zn,zR]
 have o:at_.length<=i ->zn row at_=zn row (at_.take i):=λh=>by grind
 show mwpR Pg T8.f (Uo.l 0) _ (apX row at_ i (zn row (at_.take i)));generalize zn row (at_.take i)=T at*;have p:(rowD T).take T.length=rowD T:=by grind[zt]
 unfold apX;refine zi (λU=>?_) (λU=>?_)
 ·have g:i<at_.length:=by simp_all[zB]
  have hg:=y5 g;have j:=j g;have hk:=R _ (bI g);generalize at_[i]=k at*;have J:(rowD row)[k.toNat]? =some (at0 row k.toNat).ds:=by
   grind[at0,rowD]
  generalize at0 row k.toNat=v at*;obtain⟨v1,v2,v3⟩:=v;refine yu hg ?_;refine yu J ?_ (hA:=hk.1);refine wu ?_;refine y6 g trivial ?_;rw[zC g (by omega),p,j,<- vT,aR];rfl
 have I:at_.length<=i:=by grind[zB]
 rw[o I];refine aw1 ?_;show Res.mk (.w (.c (.d (.sl ((rowD T).take T.length))))) []=_;rw[p];rfl
theorem XP (l:am Val): ∀x∈rowD l,x.length=3:=by
 intro x g;simp only[rowD,List.mem_map]at g;obtain⟨a,_,rfl⟩:=g;rfl
structure Gp where
 key:am Val
 rows:D
def Gp.ds (g:Gp):am D:=[.sl (rowD g.key),g.rows]
def gpD (l:am Gp):am (am D):=l.map Gp.ds
theorem aok (l:am Gp):(gpD l).length=l.length:=by simp[gpD]
theorem aoj {r:am Gp}{i:Nat}(h:i<r.length):(gpD r)[((i:Int)).toNat]? =some (r[i]).ds:=by grind[gpD]
def un (a b:am Val):Int:=jF xP a b
theorem acj (g:Gp)(k:am Val):Sat Pg Xt [.agg [.d (.sl (rowD g.key)),.d g.rows],yt k] (λr=>r=rI (un g.key k)):=by
 have h:=J2 xL xP uY g.key k;unfold un;generalize jF xP g.key k=c at*;obtain⟨a,b⟩:=g;refine aeh.s T8 ?_;refine Sat.w h ?_;rfl
theorem ara (i j:Nat)(h:i+j<=4611686018427387904):aD.wrap (Ka false bG (bG.wrap (aD.wrap ((i:Int)+(j:Int)))) 1)=(((i+j)/2:Nat):Int):=by
 grind[yk,IntKind.wrap,IntKind.bits,Ka]
def vp (p:Nat ->Bool):Nat ->Nat ->Nat ->Nat
 |0,i,_=>i
 |f+1,i,j=>bif decide (i<j)then(bif p ((i+j)/2)then vp p f ((i+j)/2+1) j else vp p f i ((i+j)/2))else i
theorem ZD (p:Nat ->Bool): ∀(f g i j:Nat),j - i<=f ->j - i<=g ->vp p f i j=vp p g i j
 |0,0,i,j,_,_=>rfl
 |0,g+1,i,j,h,_=>by
  have:decide (i<j)=false:=aJ (by omega);simp only[vp,this,aA]
 |f+1,0,i,j,_,h=>by
  have:decide (i<j)=false:=aJ (by omega);simp only[vp,this,aA]
 |f+1,g+1,i,j,l,o=>by
  simp only[vp];by_cases h:i<j
  ·rw[ZD p f g ((i+j)/2+1) j (by omega) (by omega),ZD p f g i ((i+j)/2) (by omega) (by omega)]
  rw[aJ h];rfl
theorem acK (p:Nat ->Bool): ∀(f i j n:Nat),i<=j ->j<=n ->i<=vp p f i j /\vp p f i j<=n
 |0,i,j,n,g,l=>by grind[vp]
 |f+1,i,j,n,g,l=>by
  simp only[vp];by_cases h:i<j
  ·rw[bL h,aB];cases p ((i+j)/2)
   ·have:=acK p f i ((i+j)/2) n (by omega) (by omega);exact this
   have:=acK p f ((i+j)/2+1) j n (by omega) (by omega);simp only[aB];omega
  rw[aJ h,aA];omega
def qL (gs:am Gp)(k:am Val)(h:Nat):Bool:=match gs[h]? with|some g=>decide (un g.key k<0)|none=>false
def Yn (gs:am Gp)(k:am Val):Nat:=vp (qL gs k) gs.length 0 gs.length
def Xd (gs:am Gp)(k:am Val)(i:Nat):Bool:=match gs[i]? with|some g=>un g.key k==0|none=>false
theorem auu (gs:am Gp)(k:am Val):Yn gs k<=gs.length:=(acK _ _ _ _ _ (aZ _) (bE _)).2
def bsS (gs:am Gp)(k:am Val)(i j:Nat):S:=⟨[(0,.w (.c (.d (.sl (gpD gs))))),(1,.w (yt k)),(2,.w (.c (.d (.fn Xt [])))),(8,zl gs.length),(9,zl i),(10,zl j)],[]⟩
theorem aeK (gs:am Gp)(k:am Val)(hl:gs.length<=1000000):Sat Pg Xu [.c (.d (.sl (gpD gs))),yt k,.c (.d (.fn Xt []))] (λr=>r=⟨.tup [.c (int (Yn gs k)),.c (bool (Xd gs k (Yn gs k)))],[]⟩):=by
 refine qV.s T8 ?_;refine yq (P:=Pg) (f:=T8.f) (body:=(qV.l 0)) (λx:Nat×Nat=>bsS gs k x.1 x.2) (λx=>x.2 - x.1) (λx=>x.1<=x.2 /\x.2<=gs.length /\Yn gs k=vp (qL gs k) gs.length x.1 x.2) ⟨(0,gs.length),⟨aZ _,bE _,rfl⟩,ze ?_⟩ ?_
 ·(conv=>whnf);rw[aok];rfl
 rintro⟨i,j⟩ hx;obtain⟨af,ab,hR⟩:i<=j /\j<=gs.length /\Yn gs k=vp (qL gs k) gs.length i j:=hx;show mwpR Pg T8.f (qV.l 0) _ (bsS gs k i j);unfold bsS;have wh:=ara i j (by omega);refine jH (λac=>?_) (λh1=>?_)
 ·have hm:(i+j)/2<gs.length:=by omega
  have hg:=aoj hm;have hp:qL gs k ((i+j)/2)=decide (un (gs[(i+j)/2]).key k<0):=by grind[qL]
  have hc:=acj gs[(i+j)/2] k;have p:Yn gs k=bif qL gs k ((i+j)/2)then vp (qL gs k) gs.length ((i+j)/2+1) j else vp (qL gs k) gs.length i ((i+j)/2):=by
   rw[hR];have J:vp (qL gs k) gs.length i j=vp (qL gs k) (gs.length - 1+1) i j:=by grind
   rw[J];simp only[vp];rw[bL ac,aB,ZD (qL gs k) (gs.length - 1) gs.length ((i+j)/2+1) j (by omega) (by omega),ZD (qL gs k) (gs.length - 1) gs.length i ((i+j)/2) (by omega) (by omega)]
  rw[hp]at p;have ad:aD.wrap ((((i+j)/2:Nat):Int)+1)=(((i+j)/2+1:Nat):Int):=zC hm (by omega);generalize gs[(i+j)/2]=g at*;obtain⟨U,gr⟩:=g;generalize un (Gp.mk U gr).key k=c at*;have ag:(i+j)/2<j /\i<=(i+j)/2:=by omega
  generalize(i+j)/2=m at*;(conv=>whnf);refine⟨by omega,?_⟩;(conv=>whnf);rw[wh];refine yu hg ?_;refine Sat.w hc ?_;refine zw (b:=decide (c<0)) (λh2=>?_) (λh2=>?_)
  ·rw[h2,aB]at p;(conv=>whnf);refine⟨(m+1,j),⟨⟨by grind,ab,p⟩,by grind⟩,ze ?_⟩;(conv=>whnf);rw[ad];rfl
  rw[h2,aA]at p;(conv=>whnf);refine⟨(i,m),⟨⟨by grind,by grind,p⟩,by grind⟩,ze ?_⟩;exact rfl
 have ae: ¬i<j:=by grind
 have I:Yn gs k=i:=by
  rw[hR];have e:vp (qL gs k) gs.length i j=vp (qL gs k) 0 i j:=ZD _ _ _ _ _ (by omega) (by omega);rw[e];rfl
 rw[I];clear hR I;by_cases aa:i<gs.length
 ·have hg:=aoj aa;have R:Xd gs k i=(un (gs[i]).key k==0):=by grind[Xd]
  have hc:=acj gs[i] k;rw[R];clear R;have J:decide ((i:Int)<(gs.length:Int))=true:=bL (by omega);generalize gs[i]=g at*;obtain⟨U,gr⟩:=g;generalize un (Gp.mk U gr).key k=c at*;refine zi (λo=>?_) (λo=>?_)
  ·refine yu hg ?_;refine Sat.w hc ?_;rfl
  have o:decide ((i:Int)<(gs.length:Int))=false:=o;rw[J]at o;cases o
 have R:Xd gs k i=false:=by grind[Xd]
 have J:decide ((i:Int)<(gs.length:Int))=false:=aJ (by omega);rw[R];clear R;refine zi (λo=>?_) (λo=>?_)
 ·have o:decide ((i:Int)<(gs.length:Int))=true:=o;rw[J]at o;cases o
 exact rfl
end
section
open Go Go.Proofs Go.RowKit
def Ju (w:aN)(v v':Value):Prop:= ∀b,v'.ownBlock=some b ->v.ownBlock=some b\/w.heap.size<=b
section
variable {P:Program}(w:aN)
theorem akG (base:Nat)(t ty e:TypeId)(i:TypeInfo)(z:Value)(size bytes:Nat)(ht:P.underlying t=some (.slice e))(hi:P.info? e=some i)(hz:i.zero=some z)
 (U:i.size=size) (ae:i.bytes=bytes)
 (v:Value) (n:Nat) (xs:am Value) (r:w.ownsRow base e size v n xs)
 (a:Addr) (m c:Nat) (l:am Value) (hl:l.length=m*size) (o: ∀j u,l[j]? =some u ->w.cell? (a.add j)=some u) (h1: ∀u∈l,u.oneCell'=true)
 (ad:n+m<=maxLen) (p:(n+m)*bytes<=140737488355328) {v':Value}{w':aN}(hr:(Builtin.append_ #[t,t] ty #[v,.slice (some a) m c]).run P w= .ok v' w'):w.drawn<=w'.drawn /\Ju w v v':=by
 subst U;subst ae;have ac:n+m<=9223372036854775807:=by simp only[maxLen]at ad;omega
 rcases r.2 with⟨rfl,rfl⟩|⟨g,cap,aa,rfl,ah,hg,aj,ai,af,ag⟩
 ·by_cases hm:m=0
  ·subst hm;have hn:l=[]:=bC (by simpa using hl);subst hn;simp[Builtin.append_,run_underlying ht,sizeOf,typeInfo,hi,Builtin.lenOf,Builtin.firstCells,loadCells,loadCellsFrom]at hr;exact⟨hr.2▸bE _,hr.1▸ λb J=>.inl J⟩
  have h:=run_append_nil (P:=P) w t ty e i z ht hi hz a m c l hl o (by omega) (by omega) (by have J:=p;simp only[Nat.zero_add]at J;omega);rw[h]at hr;cases hr;exact⟨Nat.le_succ _,λb J=>.inr (by simp[Value.ownBlock]at J;omega)⟩
 by_cases I:n+m<=cap
 ·have ab:n*i.size+l.length<=aa.size:=by rw[hl,af,<- Nat.add_mul];exact Nat.mul_le_mul_right _ I
  have h:=run_append_room (P:=P) w t ty e i ht hi g n cap aa hg a m c l hl o h1 I ab;rw[h]at hr;cases hr;exact⟨bE _,λb J=>.inl J⟩
 have R: ∀j u,xs[j]? =some u ->w.cell? ((⟨g,0,none⟩:Addr).add j)=some u:=r.cells (g:=g) rfl;have h:=run_append_grow (P:=P) w t ty e i z ht hi hz ⟨g,0,none⟩ n cap xs r.1 R a m c l hl o (by omega) (by omega) (growslice_fits (by omega) p);rw[h]at hr;cases hr;exact⟨Nat.le_succ _,λb J=>.inr (by simp[Value.ownBlock]at J;omega)⟩
end
theorem jb {P:Program}(w:aN){ops:Array Oper}{rest:am Oper}{o:Oper}{a:Act}{Q:Exit ->Act ->aN ->Prop}(ab:o.guard=none)(s x:Operand)(t:TypeId)
 (ho:o.op= .call {callee:=.builtin .append,args:= #[s,x],argTypes:= #[t,t]})
 (base:Nat) (e:TypeId) (i:TypeInfo) (z:Value) (size bytes:Nat) (ht:P.underlying t=some (.slice e)) (hi:P.info? e=some i) (hz:i.zero=some z)
 (r:i.size=size) (aa:i.bytes=bytes) (ae:z.cells.size=size) (ac:0<size)
 (v:Value) (n:Nat) (xs:am Value) (hs:a.eval s=v) (I:w.ownsRow base e size v n xs)
 (ad:Addr) (m c:Nat) (g:am Value) (hx:a.eval x= .slice (some ad) m c) (hl:g.length=m*size) (p: ∀j u,g[j]? =some u ->w.cell? (ad.add j)=some u) (h1: ∀u∈g,u.oneCell'=true)
 (U:n+m<=maxLen) (l:(n+m)*bytes<=140737488355328) (R:base<=w.heap.size)
 (h: ∀v' w',w'.ownsRow base e size v' (n+m) (xs++g) ->w.grownBy w' v.ownBlock ->(w.drawn<=w'.drawn /\Ju w v v') ->(v'= .slice none 0 0↔v= .slice none 0 0 /\m=0) ->wpList P ops Q rest (a.put o.dst v') w'):wpList P ops Q (o::rest) a w:=by
 refine wpList_plain ab λK hK=>?_
 obtain⟨v',w',J,r1,r2,r3⟩:=run_append_own (P:=P) w base t o.type e i z size bytes ht hi hz r aa ae ac v n xs I ad m c g hl p h1 U l R;have r4:=akG w base t o.type e i z size bytes ht hi hz r aa v n xs I ad m c g hl p h1 U l J;unfold Oper.wp execOp;simp only[ho,resolve,invoke,builtin,Sem.run_bind,Sem.run_pure,Result.andThen_ok,List.map_toArray,cF,List.map_nil,hs,hx,J];exact hK _ _ (h v' w' r1 r2 r4 r3)
theorem alK {w:aN}{b:Nat}{k r:Value}(h0:w.cell? ⟨b,0,none⟩=some k)(i:w.cell? ⟨b,1,none⟩=some r): ∀j u,[k,r][j]? =some u ->w.cell? ((⟨b,0,none⟩:Addr).add j)=some u:=by
 intro j u g
 match j,g with
 |0,g=>simp at g;subst g;simpa[Addr.add]using h0
 |1,g=>simp at g;subst g;simpa[Addr.add]using i
 |(j+2),g=>simp at g
theorem ac3 {k r:Value}(i:k.oneCell'=true)(j:r.oneCell'=true): ∀u∈ [k,r],u.oneCell'=true:=by
 intro u g;simp at g;rcases g with rfl|rfl
 ·exact i
 exact j
theorem apD:(Tryz.prog.info? 252).map (λi=>(i.zero,i.size,i.bytes))=some (some (.agg #[.slice none 0 0,.slice none 0 0]),2,48):=by kernel_rfl
theorem ayh:(Tryz.prog.info? 77).map (λi=>(i.zero,i.size,i.bytes))=some (some (.slice none 0 0),1,24):=by kernel_rfl
set_option maxRecDepth 100000 in
set_option maxHeartbeats 2000000 in
theorem apE (w:aN)(base:Nat)(v:Value)(n:Nat)(xs:am Value)(i:w.ownsRow base 252 2 v n xs)(hn:n<=1000000)(hb:base<=w.heap.size)
 (P vc:Nat) (k r:Value) (h0:w.cell? ⟨P,0,none⟩=some k) (h1:w.cell? ⟨P,1,none⟩=some r) (h2:k.oneCell'=true) (h3:r.oneCell'=true):
 Calls Tryz.prog 199 #[v,.int .i64 n,.slice (some ⟨P,0,none⟩) 1 vc] w λe w'=> ∃v',e= .returned v' /\w'.ownsRow base 252 2 v' (n+1) (xs++[k,r])/\w.grownBy w' v.ownBlock /\w.drawn<=w'.drawn /\Ju w v v':=by
 obtain⟨i0,hi,p,I,J⟩:=info_parts apD;rcases i.2 with⟨hv,R⟩|⟨g,cap,aa,hv,ab,hg,ae,ac,ad,U⟩
 ·subst R;subst hv
  go_enter Tryz.func199,Tryz.ntmps199
  go_wp2_with (at_builtin;refine jb _ rfl _ _ 248 rfl base 252 i0 (.agg #[.slice none 0 0,.slice none 0 0]) 2 48 Tryz.underlying248 hi p I J rfl (by decide) _ _ _ rfl i ⟨P,0,none⟩ 1 vc [k,r] rfl rfl (alK h0 h1) (ac3 h2 h3) (by simp only[maxLen];omega) (by omega) hb ?_;intro v' w' j o l _)
  go_ret
  exact⟨_,rfl,by simpa using j,o,l⟩
 subst hv
 go_enter Tryz.func199,Tryz.ntmps199
 go_wp2_with (at_builtin;refine jb _ rfl _ _ 248 rfl base 252 i0 (.agg #[.slice none 0 0,.slice none 0 0]) 2 48 Tryz.underlying248 hi p I J rfl (by decide) _ _ _ rfl i ⟨P,0,none⟩ 1 vc [k,r] rfl rfl (alK h0 h1) (ac3 h2 h3) (by simp only[maxLen];omega) (by omega) hb ?_;intro v' w' j o l _)
 all_goals go_ret
 all_goals exact⟨_,rfl,by assumption,by assumption,by assumption⟩
end
section
open Go Go.AM Go.Proofs Go.RowKit
abbrev tG:TypeId:=252
abbrev tR:TypeId:=77
structure GW where
 key:am Val
 rows:am (am Val)
 kv:Value
 rv:Value
 rvs:am Value
def cellsG (gs:am GW):am Value:=gs.flatMap λg=> [g.kv,g.rv]
theorem Qc: ∀gs:am GW,(cellsG gs).length=gs.length*2
 | []=>rfl
 |g::r=>by
  have:=Qc r;simp only[cellsG,List.flatMap_cons,aR,List.length_cons,List.length_nil]at this⊢;omega
theorem Yc (a b:am GW):cellsG (a++b)=cellsG a++cellsG b:=by simp[cellsG]
theorem anc (gs:am GW)(p:Nat):(cellsG gs).take (2*p)=cellsG (gs.take p)/\(cellsG gs).drop (2*p)=cellsG (gs.drop p):=by
 have e:=Yc (gs.take p) (gs.drop p);rw[bV]at e;by_cases h:p<=gs.length
 ·have g:(cellsG (gs.take p)).length=2*p:=by rw[Qc,bX];omega
  rw[e];exact⟨by rw[<- g,List.take_left],by rw[<- g,List.drop_left]⟩
 have g:(cellsG gs).length<=2*p:=by rw[Qc];omega
 rw[bR g,aC g,bR (by omega),aC (by omega)];exact⟨rfl,rfl⟩
theorem VN {gs:am GW}{p:Nat}(h:p<gs.length):(cellsG gs)[2*p]? =some gs[p].kv /\(cellsG gs)[2*p+1]? =some gs[p].rv:=by
 have e:=Yc (gs.take p) (gs.drop p);rw[bV]at e;have i:(cellsG (gs.take p)).length=2*p:=by rw[Qc,bX];omega
 have g:cellsG (gs.drop p)=gs[p].kv::gs[p].rv::cellsG (gs.drop (p+1)):=by rw[bY h];rfl
 rw[e,am.getElem?_append_right (by omega),am.getElem?_append_right (by omega),i,g];simp
theorem ape {gs:am GW}{p:Nat}(h:p<gs.length)(g:GW)(hk:g.kv=gs[p].kv):(cellsG gs).set (2*p+1) g.rv=cellsG (gs.set p g):=by
 have e:=Yc (gs.take p) (gs.drop p);rw[bV]at e;have o:(cellsG (gs.take p)).length=2*p:=by rw[Qc,bX];omega
 have i:cellsG (gs.drop p)=gs[p].kv::gs[p].rv::cellsG (gs.drop (p+1)):=by rw[bY h];rfl
 have j:gs.set p g=gs.take p++g::gs.drop (p+1):=by rw[List.set_eq_take_append_cons_drop,if_pos h]
 have l:cellsG (g::gs.drop (p+1))=g.kv::g.rv::cellsG (gs.drop (p+1)):=rfl;rw[e,List.set_append_right _ _ (by omega),o,i,j,Yc,l,hk];congr 1
 rw[show 2*p+1 - 2*p=1 by omega];rfl
def RVs (W:aN)(E:Nat ->Prop)(rows:am (am Val))(g:am Value):Prop:=g.length=rows.length /\ ∀(j:Nat) r,rows[j]? =some r -> ∃u,g[j]? =some u /\RD W E (.sl (rowD r)) u
theorem RVs.keep {W W':aN}{E E':Nat ->Prop}(h:zP W W' E E'){rows:am (am Val)}{g:am Value}(hr:RVs W E rows g):RVs W' E' rows g:=
 ⟨hr.1,λj r o=>let⟨u,i,l⟩:=hr.2 j r o;⟨u,i,ck h _ _ l⟩⟩
theorem RVs.snoc {W:aN}{E:Nat ->Prop}{rows:am (am Val)}{l:am Value}(hr:RVs W E rows l){x:am Val}{u:Value}(J:RD W E (.sl (rowD x)) u):RVs W E (rows++[x]) (l++[u]):=by
 refine⟨by simp[hr.1],λj r g=>?_⟩;rw[am.getElem?_append]at g;split at g
 ·rename_i i;obtain⟨v,p,I⟩:=hr.2 j r g;exact⟨v,by rw[am.getElem?_append_left (by rw[hr.1];exact i)];exact p,I⟩
 rename_i i;have o:j=rows.length:=by
  have:=(am.getElem?_eq_some_iff.1 g).1;simp at this;omega
 subst o;simp at g;subst g;exact⟨u,by rw[<- hr.1];simp,J⟩
structure GInv (A:Nat ->Prop)(B:Nat)(W:aN)(v:Value)(gs:am GW)(E:Nat ->Prop):Prop where
 dlt: ∀b,E b ->b<W.heap.size
 dA: ∀b,A b ->E b
 dB: ∀b,E b ->A b\/B<=b
 own:W.ownsRow B tG 2 v gs.length (cellsG gs)
 keys: ∀g∈gs,RD W E (.sl (rowD g.key)) g.kv
 rows: ∀g∈gs,W.ownsRow B tR 1 g.rv g.rows.length g.rvs /\RVs W E g.rows g.rvs
 vD: ∀b,v.ownBlock=some b -> ¬E b
 rD: ∀g∈gs,∀b,g.rv.ownBlock=some b -> ¬E b
 apart: ∀g∈gs,∀b,v.ownBlock=some b ->g.rv.ownBlock≠some b
 each:gs.Pairwise λg h=> ∀b,g.rv.ownBlock=some b ->h.rv.ownBlock≠some b
theorem alP {W W':aN}{B e s n:Nat}{v:Value}{xs:am Value}(h:W.ownsRow B e s v n xs)(hk: ∀b,v.ownBlock=some b ->W'.heap[b]? =W.heap[b]?):W'.ownsRow B e s v n xs:=by
 refine⟨h.1,?_⟩;rcases h.2 with o|⟨g,cap,i,rfl,l,j,rest⟩
 ·exact .inl o
 exact .inr ⟨g,cap,i,rfl,l,by rw[hk g rfl];exact j,rest⟩
variable {A:Nat ->Prop}{B:Nat}{W W':aN}{v v':Value}{gs:am GW}{E E':Nat ->Prop}
theorem GInv.more (h:GInv A B W v gs E)(hB:B<=W.heap.size)(hs:W.heap.size<=W'.heap.size)(hk: ∀b,b<W.heap.size ->W'.heap[b]? =W.heap[b]?)(r: ∀b,E b ->E' b)(o: ∀b,E' b ->b<W'.heap.size /\(E b\/W.heap.size<=b)):GInv A B W' v gs E':=by
 have I:zP W W' E E':=λb i=>⟨r b i,hk b (h.dlt b i)⟩
 refine⟨λb i=>(o b i).1,λb i=>r b (h.dA b i),λb i=>?_,?_,λg l=>ck I _ _ (h.keys g l),λg l=>⟨?_,(h.rows g l).2.keep I⟩,λb i p=>?_,λg l b i p=>?_,h.apart,h.each⟩
 ·rcases(o b i).2 with j|j
  ·exact h.dB b j
  exact .inr (Nat.le_trans hB j)
 ·exact alP h.own λb i=>hk b (h.own.lt b i).2
 ·exact alP (h.rows g l).1 λb i=>hk b ((h.rows g l).1.lt b i).2
 ·rcases(o b p).2 with j|j
  ·exact h.vD b i j
  have:=(h.own.lt b i).2;omega
 rcases(o b p).2 with j|j
 ·exact h.rD g l b i j
 have:=((h.rows g l).1.lt b i).2;omega
theorem GInv.nil (hA: ∀b,A b ->b<W.heap.size):GInv A B W (.slice none 0 0) [] A:=
 ⟨hA,λ_ h=>h,λ_ h=>.inl h,World.ownsRow_nil _ _ _ _,λg i=>(by cases i),λg i=>(by cases i),λb j=>(by cases j),λg i=>(by cases i),λg i=>(by cases i),List.Pairwise.nil⟩
theorem GInv.insert (h:GInv A B W v gs E){p:Nat}(hp:p<=gs.length){key:am Val}{J:Value}(ab:RD W E (.sl (rowD key)) J)
 (I:W'.ownsRow B tG 2 v' (gs.length+1) ((cellsG gs).take (2*p)++[J,.slice none 0 0]++(cellsG gs).drop (2*p))) (R:W.grownBy W' v.ownBlock) (hf:Ju W v v'):
 GInv A B W' v' (gs.take p++[⟨key,[],J,.slice none 0 0,[]⟩]++gs.drop p) E:=by
 have hK:zP W W' E E:=λb i=>⟨i,R.block b (h.dlt b i) λe=>h.vD b e.symm i⟩
 have o: ∀{Q:GW ->Prop},(∀g∈gs,Q g) ->Q ⟨key,[],J,.slice none 0 0,[]⟩ -> ∀g∈(gs.take p++[⟨key,[],J,.slice none 0 0,[]⟩]++gs.drop p),Q g:=λh1 h2 g l=>by
  simp only[List.mem_append,cG]at l;rcases l with(l|rfl)|l
  ·exact h1 g (List.mem_of_mem_take l)
  ·exact h2
  exact h1 g (List.mem_of_mem_drop l)
 refine⟨λb i=>bQ (h.dlt b i) R.size,h.dA,h.dB,?_,o (λg l=>ck hK _ _ (h.keys g l)) (ck hK _ _ ab),o (λg l=>⟨(h.rows g l).1.kept R ?_,(h.rows g l).2.keep hK⟩) ⟨World.ownsRow_nil _ _ _ _,rfl,λj r hj=>by simp at hj⟩,
  λb i P=>?_,o h.rD (λb i=>by cases i),o (λg l b i aa=>?_) (λb _ i=>by cases i),?_⟩
 ·have e1:=anc gs p;rw[e1.1,e1.2]at I;have e2:cellsG (gs.take p++[⟨key,[],J,.slice none 0 0,[]⟩]++gs.drop p)=cellsG (gs.take p)++[J,.slice none 0 0]++cellsG (gs.drop p):=by
   rw[Yc,Yc];rfl
  rw[e2];have e3:(gs.take p++[(⟨key,[],J,.slice none 0 0,[]⟩:GW)]++gs.drop p).length=gs.length+1:=by
   simp only[aR,bX,List.length_drop,cA];omega
  rw[e3];exact I
 ·cases hv:g.rv.ownBlock with
  |none=>exact .inl rfl
  |some b=>
   right
   intro e;exact h.apart g l b e.symm hv
 ·rcases hf b i with U|U
  ·exact h.vD b U P
  have:=h.dlt b P;omega
 ·rcases hf b i with U|U
  ·exact h.apart g l b U aa
  have:=((h.rows g l).1.lt b aa).2;omega
 have P:=h.each;have e:gs.take p++gs.drop p=gs:=bV ..;rw[<- e,cD]at P;rw[List.append_assoc,cD];refine⟨P.1,?_,λa ha c hc=>?_⟩
 ·rw[cB,bS];exact⟨λa _ b i=>(by cases i),P.2.1⟩
 rw[cB]at hc;rcases bT.1 hc with rfl|hc
 ·intro b _ i;cases i
 exact P.2.2 a ha c hc
theorem abW {α:Type}{R:α ->α ->Prop}: ∀{l:am α}{p:Nat}{y:α},l.Pairwise R ->(∀(j:Nat) x,l[j]? =some x ->j≠p ->R x y /\R y x) ->(l.set p y).Pairwise R
 | [],_,_,_,_=>by simp
 |x::r,0,y,h,i=>by
  rw[List.set_cons_zero,bS];rw[bS]at h;refine⟨λa g=>?_,h.2⟩;obtain⟨j,o⟩:=cC.1 g;exact(i (j+1) a (by simpa using o) (by omega)).2
 |x::r,p+1,y,h,i=>by
  rw[cn,bS];rw[bS]at h;refine⟨λa g=>?_,abW h.2 λj z o I=>i (j+1) z (by simpa using o) (by omega)⟩;rcases List.mem_or_eq_of_mem_set g with g|rfl
  ·exact h.1 a g
  exact(i 0 x rfl (by omega)).1
theorem anz {α:Type}{R:α ->α ->Prop}(I: ∀{x y},R x y ->R y x){l:am α}(h:l.Pairwise R){i j:Nat}{x y:α}(hi:l[i]? =some x)(J:l[j]? =some y)(o:i≠j):R x y:=by
 rw[List.pairwise_iff_getElem]at h;obtain⟨p,rfl⟩:=am.getElem?_eq_some_iff.1 hi;obtain⟨r,rfl⟩:=am.getElem?_eq_some_iff.1 J;rcases Nat.lt_or_gt_of_ne o with g|g
 ·exact h i j p r g
 exact I (h j i r p g)
theorem GInv.addRow {U cap:Nat}(h:GInv A B W (.slice (some ⟨U,0,none⟩) gs.length cap) gs E){p:Nat}(hp:p<gs.length){x:am Val}{xv l:Value}(hx:RD W E (.sl (rowD x)) xv){W1:aN}
 (ad:W1.ownsRow B tR 1 l (gs[p].rows.length+1) (gs[p].rvs++[xv])) (aa:W.grownBy W1 gs[p].rv.ownBlock) (hf:Ju W gs[p].rv l):
 GInv A B (W1.setCell ⟨U,2*p+1,none⟩ l) (.slice (some ⟨U,0,none⟩) gs.length cap) (gs.set p ⟨gs[p].key,gs[p].rows++[x],gs[p].kv,l,gs[p].rvs++[xv]⟩) E:=by
 have ab:gs[p]∈gs:=bI hp;have ae:gs[p].rv.ownBlock≠some U:=h.apart _ ab U rfl;have ag:=(h.own.lt U rfl).2;have ac:W1.ownsRow B tG 2 (.slice (some ⟨U,0,none⟩) gs.length cap) gs.length (cellsG gs):=h.own.kept aa (.inr λe=>ae e.symm);obtain⟨s1,s2⟩:=ac.stored (2*p+1) l;have hK:zP W (W1.setCell ⟨U,2*p+1,none⟩ l) E E:=λb I=>⟨I,by
  rw[s2.block b (bQ (h.dlt b I) aa.size) (λe=>h.vD b (Option.some.inj e▸rfl) I)];exact aa.block b (h.dlt b I) λe=>h.rD _ ab b e.symm I⟩
 have af:l.ownBlock≠some U:=λe=>by
  rcases hf U e with h'|h'
  ·exact ae h'
  omega
 have J: ∀{Q:GW ->Prop},(∀(j:Nat) g,gs[j]? =some g ->j≠p ->Q g) ->Q ⟨gs[p].key,gs[p].rows++[x],gs[p].kv,l,gs[p].rvs++[xv]⟩ -> ∀g∈(gs.set p ⟨gs[p].key,gs[p].rows++[x],gs[p].kv,l,gs[p].rvs++[xv]⟩),Q g:=λh1 h2 g hg=>by
  obtain⟨j,i⟩:=cC.1 hg;rw[am.getElem?_set]at i;split at i
  ·rename_i e;cases i;exact h2
  rename_i e;exact h1 j g i (Ne.symm e)
 have mem: ∀{j:Nat}{g:GW},gs[j]? =some g ->g∈gs:=λi=>bW i
 have P: ∀{j:Nat}{g:GW},gs[j]? =some g ->j≠p -> ∀b,g.rv.ownBlock=some b ->gs[p].rv.ownBlock≠some b:=λi o=>
  anz (R:=λg h=> ∀b,g.rv.ownBlock=some b ->h.rv.ownBlock≠some b) (λh b h1 h2=>h b h2 h1) h.each i (am.getElem?_eq_getElem hp) o
 have r: ∀{j:Nat}{g:GW},gs[j]? =some g ->j≠p -> ∀b,g.rv.ownBlock=some b ->l.ownBlock≠some b:=fun{j g} i o b I e=>by
  rcases hf b e with h'|h'
  ·exact P i o b I h'
  have:=((h.rows g (mem i)).1.lt b I).2;omega
 refine⟨λb I=>bQ (bQ (h.dlt b I) aa.size) s2.size,h.dA,h.dB,?_,J (λj g i _=>ck hK _ _ (h.keys g (mem i))) (by have:=ck hK _ _ (h.keys _ ab);exact this),
  J (λj g i o=>⟨?_,(h.rows g (mem i)).2.keep hK⟩) ⟨?_,((h.rows _ ab).2.snoc hx).keep hK⟩,h.vD,J (λj g i _=>h.rD g (mem i)) (λb I he=>?_),J (λj g i _=>h.apart g (mem i)) (λb I e=>?_),?_⟩
 ·have e:=ape hp ⟨gs[p].key,gs[p].rows++[x],gs[p].kv,l,gs[p].rvs++[xv]⟩ rfl;rw[List.length_set,<- e];exact s1
 ·have h1:W1.ownsRow B tR 1 g.rv g.rows.length g.rvs:=(h.rows g (mem i)).1.kept aa (by
   cases hv:g.rv.ownBlock with
   |none=>exact .inl rfl
   |some b=>exact .inr λe=>P i o b hv e.symm)
  refine h1.kept s2 ?_;cases hv:g.rv.ownBlock with
  |none=>exact .inl rfl
  |some b=>exact .inr λe=>h.apart g (mem i) U rfl (hv.trans e)
 ·have e:(gs[p].rows++[x]).length=gs[p].rows.length+1:=by simp
  rw[e];refine ad.kept s2 ?_;cases hv:l.ownBlock with
  |none=>exact .inl rfl
  |some b=>exact .inr λe=>af (hv.trans e)
 ·rcases hf b I with h'|h'
  ·exact h.rD _ ab b h' he
  have:=h.dlt b he;omega
 ·cases I;exact af e
 exact abW h.each λj g i o=>⟨r i o,λb h1 h2=>r i o b h2 h1⟩
theorem af6 {w:aN}{ok:Nat ->Prop}{b sz:Nat}: ∀(l:am (am D)) (o:Nat),(∀(j:Nat) e,l[j]? =some e ->e.length=sz /\RDc w ok b (o+j*sz) e) ->RDs w ok b sz o l
 | [],_,_=>by simp only[RDs]
 |e::r,o,h=>by
  simp only[RDs];have h0:=h 0 e rfl;refine⟨h0.1,by simpa using h0.2,af6 r (o+sz) λj x g=>?_⟩;have:=h (j+1) x (by simpa using g);exact⟨this.1,by rw[show o+sz+j*sz=o+(j+1)*sz by rw[Nat.add_mul];omega];exact this.2⟩
theorem ash {rows:am (am Val)}{l:am Value}{J:Value}(P:W.ownsRow B tR 1 J rows.length l)(hr:RVs W E rows l){ok:Nat ->Prop}(hE: ∀b,E b ->ok b)(hb: ∀b,J.ownBlock=some b ->ok b):RD W ok (.sl (zf rows)) J:=by
 have hK:zP W W E ok:=λb h=>⟨hE b h,rfl⟩
 simp only[RD];rcases P.2 with⟨rfl,hn⟩|⟨g,cap,R,rfl,aa,hg,p,o,ab,I⟩
 ·have:rows=[]:=bC hn;subst this;exact⟨none,0,0,rfl,rfl,bE _,aZ _,.inl rfl⟩
 refine⟨_,_,_,rfl,by rw[zx],p,o,.inr ⟨g,0,1,rfl,hb g rfl,af6 _ _ λj e i=>?_⟩⟩;simp only[zf,am.getElem?_map,cd]at i;obtain⟨r,i,rfl⟩:=i;refine⟨rfl,?_⟩;obtain⟨u,U,h2⟩:=hr.2 j r i;simp only[RDc];refine⟨⟨u,?_,ck hK _ _ h2⟩,trivial⟩;have ac:j<rows.length:=(am.getElem?_eq_some_iff.1 i).1;rw[show 0+j*1=j by omega,P.cellAt j (by omega)];exact U
theorem GInv.data (h:GInv A B W v gs E):RD W (λb=>(A b\/B<=b)/\b<W.heap.size) (.sl (gs.map λg=> [D.sl (rowD g.key),D.sl (zf g.rows)])) v:=by
 have hE: ∀b,E b ->(A b\/B<=b)/\b<W.heap.size:=λb i=>⟨h.dB b i,h.dlt b i⟩
 have hK:zP W W E (λb=>(A b\/B<=b)/\b<W.heap.size):=λb i=>⟨hE b i,rfl⟩
 simp only[RD];have p:=h.own;rcases p.2 with⟨rfl,hn⟩|⟨g,cap,ab,rfl,r,hg,R,J,ac,U⟩
 ·have:gs=[]:=bC hn;subst this;exact⟨none,0,0,rfl,rfl,bE _,aZ _,.inl rfl⟩
 refine⟨_,_,_,rfl,by rw[bK],R,J,.inr ⟨g,0,2,rfl,⟨.inr r,(p.lt g rfl).2⟩,af6 _ _ λj e l=>?_⟩⟩;simp only[am.getElem?_map,cd]at l;obtain⟨x,l,rfl⟩:=l;refine⟨rfl,?_⟩;obtain⟨P,aa⟩:=am.getElem?_eq_some_iff.1 l;have o:=bW l;have I:=VN P;rw[aa]at I;simp only[RDc];refine⟨⟨x.kv,?_,ck hK _ _ (h.keys x o)⟩,⟨x.rv,?_,ash (h.rows x o).1 (h.rows x o).2 hE λb i=>⟨.inr ((h.rows x o).1.lt b i).1,((h.rows x o).1.lt b i).2⟩⟩,trivial⟩
 ·rw[show 0+j*2=2*j by omega,p.cellAt (2*j) (by omega)];exact I.1
 rw[show 0+j*2+1=2*j+1 by omega,p.cellAt (2*j+1) (by omega)];exact I.2
end
section
open Go Go.AM Go.Proofs Go.RowKit
theorem auI {P:Program}{k:Nat}{args:am W}{d:D}(h:Sat P k args (λr=>r=rC (.d d)))(W:aN)(A:Nat ->Prop)(vals:am Value)(hA:(∀b,A b ->b<W.heap.size)/\Glb A W)(l:qd (λ_=>⟨none,0,.nilFunc,[]⟩) W A args vals):
 Calls P k vals.toArray W λe w'=> ∃v,e= .returned v /\RD w' (λb=>(A b\/W.heap.size<=b)/\b<w'.heap.size) d v /\Grows (λ_=>False) W w':=by
 refine(h.2 W A vals hA l).mono ?_;rintro e w' ⟨v,r,rfl,rfl,g,o⟩;refine⟨v,rfl,?_,o⟩;obtain⟨_,ι,i,_⟩:=g;have i:RD w' (Fr.ok ⟨W,A,λ_=>False,λ_=>none⟩ ι [] w') d v:=i;have hk:zP w' w' (Fr.ok ⟨W,A,λ_=>False,λ_=>none⟩ ι [] w') (λb=>(A b\/W.heap.size<=b)/\b<w'.heap.size):=λb j=>⟨⟨by
  rcases j.1 with h|h|h
  ·exact .inl h
  ·exact h.elim
  exact .inr h,j.2.1⟩,rfl⟩
 exact ck hk d v i
theorem asl {P:Program}{k:Nat}{args:am W}{x y:Value}(h:Sat P k args (λr=>r=⟨.tup [.c (.d (.lit x)),.c (.d (.lit y))],[]⟩))(W:aN)(A:Nat ->Prop)(vals:am Value)(hA:(∀b,A b ->b<W.heap.size)/\Glb A W)(o:qd (λ_=>⟨none,0,.nilFunc,[]⟩) W A args vals):
 Calls P k vals.toArray W λe w'=>e= .returned (.tuple #[x,y])/\Grows (λ_=>False) W w':=by
 refine(h.2 W A vals hA o).mono ?_;rintro e w' ⟨v,r,rfl,rfl,i,p⟩;refine⟨?_,p⟩;obtain⟨_,ι,g,_⟩:=i;obtain⟨vs,rfl,g⟩:=g
 match vs,g with
 | [a,b],g=>
   have j:a=x:=by have:=g.1;simp only[WR,CR,RD]at this;exact this.1
   have l:b=y:=by have:=g.2.1;simp only[WR,CR,RD]at this;exact this.1
   rw[j,l]
structure Gr where
 key:am Val
 rows:am (am Val)
def GW.gr (g:GW):Gr:=⟨g.key,g.rows⟩
def Gr.gp (g:Gr):Gp:=⟨g.key,.sl (zf g.rows)⟩
def GW.gp (g:GW):Gp:=⟨g.key,.lit g.rv⟩
def qu (gs:am Gr)(k:am Val):Nat:=Yn (gs.map Gr.gp) k
def YH (gs:am Gr)(k:am Val):Bool:=Xd (gs.map Gr.gp) k (qu gs k)
def Z9 (gs:am Gr)(p:Nat)(row:am Val):am Gr:=match gs[p]? with|some g=>gs.set p ⟨g.key,g.rows++[row]⟩|none=>gs
def ZM (gs:am Gr)(k:am Val):am Gr:=bif YH gs k then gs else gs.take (qu gs k)++[⟨k,[]⟩]++gs.drop (qu gs k)
def WK (at_:am Int)(gs:am Gr)(row:am Val):am Gr:=Z9 (ZM gs (zn row at_)) (qu gs (zn row at_)) row
def vQ (at_:am Int)(rows:am (am Val)):am Gr:=rows.foldl (WK at_) []
theorem anw {l l':am Gp}(h:l.map Gp.key=l'.map Gp.key)(k:am Val):qL l k=qL l' k:=by
 funext i;have e:(l[i]?).map Gp.key=(l'[i]?).map Gp.key:=by rw[<- am.getElem?_map,<- am.getElem?_map,h]
 unfold qL;cases g:l[i]? <;>cases j:l'[i]? <;>rw[g,j]at e<;>simp at e⊢
 rw[e]
theorem apB {l l':am Gp}(h:l.map Gp.key=l'.map Gp.key)(k:am Val)(i:Nat):Xd l k i=Xd l' k i:=by
 have e:(l[i]?).map Gp.key=(l'[i]?).map Gp.key:=by rw[<- am.getElem?_map,<- am.getElem?_map,h]
 unfold Xd;cases g:l[i]? <;>cases j:l'[i]? <;>rw[g,j]at e<;>simp at e⊢
 rw[e]
theorem apY {l l':am Gp}(h:l.map Gp.key=l'.map Gp.key)(k:am Val):Yn l k=Yn l' k:=by
 have g:l.length=l'.length:=by have:=aF List.length h;simpa using this
 unfold Yn;rw[anw h,g]
theorem aoD (gs:am GW)(k:am Val):Yn (gs.map GW.gp) k=qu (gs.map GW.gr) k /\Xd (gs.map GW.gp) k (qu (gs.map GW.gr) k)=YH (gs.map GW.gr) k:=by
 have e:(gs.map GW.gp).map Gp.key=((gs.map GW.gr).map Gr.gp).map Gp.key:=by simp[GW.gp,Gr.gp,GW.gr,Function.comp_def]
 exact⟨apY e k,apB e k _⟩
theorem kL (gs:am Gr)(k:am Val):qu gs k<=gs.length:=by
 have:=auu (gs.map Gr.gp) k;rwa[bK]at this
theorem aon {gs:am Gr}{k:am Val}(h:YH gs k=true):qu gs k<gs.length:=by
 unfold YH Xd at h;cases i:(gs.map Gr.gp)[qu gs k]? with
 |none=>rw[i]at h;cases h
 |some g=>
  have:=(am.getElem?_eq_some_iff.1 i).1;rwa[bK]at this
theorem alj (gs:am Gr)(k:am Val):gs.length<=(ZM gs k).length /\(ZM gs k).length<=gs.length+1 /\qu gs k<(ZM gs k).length:=by
 have g:=kL gs k;unfold ZM;cases h:YH gs k
 ·simp only[aA,aR,bX,List.length_drop,cA];omega
 have:=aon h;simp only[aB];omega
theorem aqX (gs:am Gr)(p:Nat)(row:am Val):(Z9 gs p row).length=gs.length:=by
 unfold Z9;split<;>simp
theorem gI (at_:am Int){rows:am (am Val)}{i:Nat}(h:i<rows.length):vQ at_ (rows.take (i+1))=WK at_ (vQ at_ (rows.take i)) rows[i]:=by
 unfold vQ;rw[zR h,List.foldl_append];rfl
theorem Q7 (at_:am Int)(rows:am (am Val)): ∀i,(vQ at_ (rows.take i)).length<=i
 |0=>by simp[vQ]
 |i+1=>by
  by_cases h:i<rows.length
  ·rw[gI at_ h];unfold WK;rw[aqX];have:=(alj (vQ at_ (rows.take i)) (zn rows[i] at_)).2.1;have:=Q7 at_ rows i;omega
  have:=Q7 at_ rows i;rw[bR (by omega)]at this⊢;omega
def ajZ (n p:Nat):Prop:= ∀(w:aN) (base:Nat) (v:Value) (xs:am Value),w.ownsRow base tG 2 v n xs ->base<=w.heap.size ->(∀u∈xs,u.oneCell'=true) ->
 ∀(g:Nat) (k r:Value),w.heap[g]? =some (.cells #[k,r] tG (0,0)) ->v.ownBlock≠some g ->k.oneCell'=true ->r.oneCell'=true ->
  Calls Tryz.prog 199 #[v,.int .i64 p,.slice (some ⟨g,0,none⟩) 1 1] w λe w'=> ∃v',e= .returned v' /\w'.ownsRow base tG 2 v' (n+1) (xs.take (2*p)++[k,r]++xs.drop (2*p))/\w.grownBy w' v.ownBlock /\w.drawn<=w'.drawn /\Ju w v v'
theorem awi {n:Nat}(l:n<=1000000):ajZ n n:=by
 intro w base v xs g j _ o k r i _ hk hr;have p:xs.length=2*n:=by rw[g.1];omega
 rw[bR (by omega),aC (by omega),List.append_nil];exact apE w base v n xs g l j o 1 k r (by simp[aN.cell?,i]) (by simp[aN.cell?,i]) hk hr
variable {A:Nat ->Prop}{B:Nat}{W:aN}{v:Value}{gs:am GW}{E:Nat ->Prop}
theorem GInv.search (h:GInv A B W v gs E)(hA:Glb A W)(hl:gs.length<=1000000){key:am Val}{kv:Value}(o:RD W E (.sl (rowD key)) kv):
 Calls Tryz.prog 197 #[v,kv,.func (.func 198) #[] #[]] W λe w'=>e= .returned (.tuple #[.int .i64 (qu (gs.map GW.gr) key),.bool (YH (gs.map GW.gr) key)])/\Grows (λ_=>False) W w':=by
 have hs:=aeK (gs.map GW.gp) key (by rw[bK];exact hl);rw[(aoD gs key).1,(aoD gs key).2]at hs
 let r:Nat ->Prop:=λb=>E b\/v.ownBlock=some b
 have hK:zP W W E r:=λb i=>⟨.inl i,rfl⟩
 refine asl hs W r [v,kv,.func (.func 198) #[] #[]] ⟨λb i=>?_,hA.mono (λb i=>.inl (h.dA b i)) (λ_ _=>rfl)⟩ ⟨?_,ck hK _ _ o,?_,trivial⟩
 ·rcases i with i|i
  ·exact h.dlt b i
  exact(h.own.lt b i).2
 ·simp only[WR,CR,RD];have U:=h.own;rcases U.2 with⟨rfl,hn⟩|⟨g,cap,ac,rfl,ad,hg,R,J,ae,aa⟩
  ·have:gs=[]:=bC hn;subst this;exact⟨none,0,0,rfl,rfl,bE _,aZ _,.inl rfl⟩
  refine⟨_,_,_,rfl,by rw[aok,bK],R,J,.inr ⟨g,0,2,rfl,.inr rfl,af6 _ _ λj e l=>?_⟩⟩;simp only[gpD,List.map_map,am.getElem?_map,cd]at l;obtain⟨x,l,rfl⟩:=l;refine⟨rfl,?_⟩;obtain⟨P,ab⟩:=am.getElem?_eq_some_iff.1 l;have hx:=bW l;have I:=VN P;rw[ab]at I;show RDc W r g (0+j*2) [.sl (rowD x.key),.lit x.rv];simp only[RDc];have p:x.rv.oneCell'=true:=by
   rcases(h.rows x hx).1.2 with⟨e,_⟩|⟨_,_,_,e,_⟩<;>rw[e]<;>rfl
  refine⟨⟨x.kv,?_,ck hK _ _ (h.keys x hx)⟩,⟨x.rv,?_,?_⟩,trivial⟩
  ·rw[show 0+j*2=2*j by omega,U.cellAt (2*j) (by omega)];exact I.1
  ·rw[show 0+j*2+1=2*j+1 by omega,U.cellAt (2*j+1) (by omega)];exact I.2
  simp only[RD];exact⟨trivial,p⟩
 simp only[WR,CR,RD,RDf];exact⟨[],rfl,rfl⟩
theorem awz {w:aN}{ok:Nat ->Prop}{l:am (am D)}{v:Value}(h:RD w ok (.sl l) v):v.oneCell'=true:=by
 simp only[RD]at h;obtain⟨a,n,c,rfl,_⟩:=h;rfl
theorem GInv.ones (h:GInv A B W v gs E): ∀u∈cellsG gs,u.oneCell'=true:=by
 intro u g;simp only[cellsG,List.mem_flatMap]at g;obtain⟨x,i,g⟩:=g;simp only[bT,List.not_mem_nil,or_false]at g;rcases g with rfl|rfl
 ·exact awz (h.keys x i)
 rcases(h.rows x i).1.2 with⟨e,_⟩|⟨_,_,_,e,_⟩<;>rw[e]<;>rfl
end
end Go.Proofs.YtkdijaiaplkliaaGreatDoor
