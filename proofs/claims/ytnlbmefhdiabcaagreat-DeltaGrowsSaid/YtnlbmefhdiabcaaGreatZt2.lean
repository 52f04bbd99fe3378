import Derived.Orders
import Derived.Scope
import Derived.Test.YtnlbmefhdiabcaaGreatZt1
set_option linter.unusedSimpArgs false
set_option linter.unusedVariables false
set_option maxRecDepth 100000
set_option maxHeartbeats 4000000
open _root_ renaming List->am,Array->aB,Option->aI,cond_true->aJ,cond_false->aO,if_pos->bD
open Bool renaming and_eq_true->aA,not_eq_true'->aN,false_or->bK,or_eq_true->bS
open Option renaming map_eq_some_iff->aC
open Go.AM.ACode renaming erase->aD
open Array renaming getD_eq_getD_getElem?->aE,mem_toList_iff->aV,replicate->bT
open Go.Act renaming put_comm->aF
open Option.some renaming injEq->aG
open Go.Region renaming ready->aH,wanted->aU,binds->aY
open List renaming mem_cons->aK,mem_cons_self->aZ,mem_cons_of_mem->bE
open Nat renaming le_of_ble_eq_true->aL,eq_of_beq_eq_true->aM,beq->aP,lt_of_lt_of_le->aQ,le_refl->aW,le_trans->bM,zero_add->bN,zero_le->bQ
open Go renaming mem_ready->aR,execOp_put->aX,wpOp->bA,wanted_put->bF,wp_mono->bG,results->bH,execOp->bJ,Operand->bO,ready_mono->bR,yielded->bW,wp_region_any->bX
open Go.AM.AI renaming erase->aS
open Go.Result renaming andThen_ok->aT
open Go.Sem renaming run_bind->bB,run_pure->bC
open Go.Oper renaming upon->bI
open Go.AM.Pl renaming live_kill->bL
open Go.AM.ATr renaming erase->bP
open Go.Ending renaming returned->bU
open Go.AM.Grows renaming refl->bV
namespace Go.AM
section
variable {P:Program}{F:Fr}{N:Nat}{B:Nat->Gh}{s:S}{a:Act}{w:World}{o:Oper}{K:S->Prop}
def Cw(x:AOp)(w w'):=x.reads=true->u9 w w'
theorem zN.weak{C g:World->Prop}(h:zN P F N o a w C K)(p:∀w',g w'->C w'):zN P F N o a w g K:=
 let⟨v,ι',I,i,j,l⟩:=h
 ⟨v,ι',I,λw' r=>i w' (p w' r),j,l⟩
theorem awu(hr:Rel F N B s a w)(r:∀k,o.dst=some k->k<N){x}(j:cOp P o.op o.type=some x)(J:x.quiet=true)(h:yg P o.dst x s K):zN P F N o a w (Cw x w) K:=by
 unfold cOp at j;split at j
 .rename_i y p;cases j;exact(aar hr r (.inl p) h).weak λ_ _=>trivial
 .rename_i y p;cases j;exact(aar hr r (.inr p) h).weak λ_ _=>trivial
 .rename_i c y z p;cases j;exact(aly hr r p h).weak λ_ _=>trivial
 .cases j;cases J
 .cases j;cases J
 .rename_i t parts p;split at j
  .rename_i fs l hu hl;obtain⟨I,rfl⟩:=y7 j;rw[aA]at I;exact(ahP hr r p hu hl I.1 I.2 h).weak λ_ _=>trivial
  cases j
 .split at j
  .obtain⟨_,rfl⟩:=y7 j;cases J
  cases j
 .rename_i t y p;split at j
  .rename_i g ht;cases j;exact(atz hr r p ht h).weak λ_ I=>I rfl
  cases j
 .obtain⟨_,rfl⟩:=y7 j;cases J
 .rename_i y p;cases j;exact(atC hr r p h).weak λ_ _=>trivial
 .rename_i aa dst y p;cases U:wO P aa false&&wO P dst true
  .rw[U]at j;cases h2:wO P aa true&&wO P dst false
   .rw[h2]at j;simp only[aO]at j;cases R:UT P aa dst y with
    |none=>simp only[R]at j;cases j;exact(uf hr r (by rw[p];rfl) h).weak λ_ _=>trivial
    |some z=>simp only[R]at j;cases j;exact(alw hr r p R h).2.weak λ_ _=>trivial
   rw[h2]at j;cases j;cases J
  rw[U]at j;cases j;rw[aA]at U;exact(aoG hr r p U.1 U.2 h).weak λ_ I=>I rfl
 .obtain⟨_,rfl⟩:=y7 j;cases J
 .split at j
  .split at j
   .obtain⟨_,rfl⟩:=y7 j;cases J
   cases j
  cases j
 .rename_i t y lo hi mx p;split at j
  .rename_i hu;cases j;exact(aoS hr r p hu h).weak λ_ _=>trivial
  .rename_i e hu;obtain⟨I,rfl⟩:=y7 j;obtain⟨i,ac⟩:=Qw I;exact(aoR hr r p hu ac h).weak λ_ _=>trivial
  cases j
 .rename_i t y f p;split at j
  .rename_i off ft ht;obtain⟨I,rfl⟩:=y7 j;exact(atx hr r p ht I h).weak λ_ _=>trivial
  cases j
 .rename_i t y f p;split at j
  .rename_i off ft ht;split at j
   .rename_i g hg;cases j;exact(aoM hr r p ht hg h).weak λ_ _=>trivial
   cases j
  cases j
 .rename_i t y i p;split at j
  .rename_i e ht;obtain⟨I,rfl⟩:=y7 j;exact(aty hr r p ht I h).weak λ_ _=>trivial
  cases j
 .rename_i t y i p;split at j
  .rename_i hu;cases j;exact(aoQ hr r p hu h).weak λ_ _=>trivial
  cases j
 .rename_i y i p;cases j;exact(aoL hr r p h).weak λ_ _=>trivial
 .rename_i args ts p;split at j
  .rename_i y t T ab;split at j
   .rename_i e ht;cases j;exact(aoO hr r p T ab ht h).weak λ_ _=>trivial
   cases R:gU P t y with
   |none=>simp only[R]at j;cases j;exact(uf hr r (by rw[p];rfl) h).weak λ_ _=>trivial
   |some z=>simp only[R]at j;cases j;exact(alz hr r p T ab R h).2.weak λ_ _=>trivial
  cases j
 .split at j
  .split at j
   .obtain⟨_,rfl⟩:=y7 j;cases J
   .split at j
    .obtain⟨_,rfl⟩:=y7 j;cases J
    cases j
   .obtain⟨_,rfl⟩:=y7 j;cases J
   cases j
  cases j
 .cases j;cases J
 .cases j;cases J
 .rename_i b args ts U h2 p;cases hm:aft b args.toList with
  |some y=>simp only[hm]at j;cases j;exact(atB hr r p hm h).weak λ_ _=>trivial
  |none=>
   simp only[hm]at j;cases hb:J6 P b args.toList ts.toList with
   |some y=>grind[ah6]
   |none=>simp only[hb]at j;cases j;exact(uf hr r (by rw[p];rfl) h).weak λ_ _=>trivial
 .rename_i b t y z u p;cases hn:ab2 P b t z with
  |some neg=>simp only[hn]at j;cases j;exact(aoN hr r p hn h).weak λ_ _=>trivial
  |none=>
  simp only[hn]at j;cases R:gv P b t y z with
  |some q=>simp only[R]at j;cases j;exact(aoK hr r p R h).2.weak λ_ _=>trivial
  |none=>
  simp only[R]at j;cases h4:J3 P b t y z with
  |some q=>simp only[h4]at j;cases j;exact(aoH hr r p h4 h).2.weak λ_ _=>trivial
  |none=>
  simp only[h4]at j;cases U:adg b&&agx P t
  .rw[U]at j;cases j;exact(uf hr r (by rw[p];rfl) h).weak λ_ _=>trivial
  rw[U]at j;cases j;exact(aoI hr r p h).weak λ_ _=>trivial
 .rename_i u t y p;cases h4:aas P u t y with
  |some q=>simp only[h4]at j;cases j;exact(atD hr r p h4 h).2.weak λ_ _=>trivial
  |none=>simp only[h4]at j;cases j;exact(uf hr r (by rw[p];rfl) h).weak λ_ _=>trivial
 .cases j
 cases j;cases J
theorem aBG{b}{t}{x y}{z}(h:J3 P b t x y=some z):Xj z=false:=by unfold J3 at h;(repeat' split at h)<;>cases h<;>rfl
theorem aFZ{b}{t}{x}{z}(h:aas P b t x=some z):Xj z=false:=by unfold aas at h;(repeat' split at h)<;>cases h<;>rfl
theorem azk{s t}{x}{z}(h:UT P s t x=some z):Xj z=false:=by unfold UT at h;(repeat' split at h)<;>cases h<;>rfl
theorem aCu{t}{x}{z}(h:gU P t x=some z):Xj z=false:=by unfold gU at h;(repeat' split at h)<;>cases h<;>rfl
theorem aB5{b}{t}{x y}{z}(h:gv P b t x y=some z):Xj z=false:=by unfold gv at h;(repeat' split at h)<;>cases h<;>rfl
theorem jT{a:Type}{c}{p q r:a}(h:(bif c then p else q)=r):p=r\/q=r:=ek
theorem awv(hr:Rel F N B s a w)(hd:∀k,o.dst=some k->k<N){x}(g:cOp P o.op o.type=some x)(j:Xj x=true)(h:yg P o.dst x s K):uS P F N o a w K:=by
 unfold cOp at g;split at g
 case h_22=>grind[alu]
 case h_23=>grind[alv]
 case h_24=>
  rename_i b args ts i l J;cases I:aft b args.toList with
  |some y=>
   simp only[I]at g;cases g;obtain⟨x1,y1,_,⟨_,rfl⟩|⟨_,rfl⟩⟩:=afu I<;>cases j
  |none=>
   simp only[I]at g;cases p:J6 P b args.toList ts.toList with
   |some y=>simp only[p]at g;cases g;rw[(ah6 p).2.1]at j;cases j
   |none=>simp only[p]at g;cases g;cases j
 case h_5=>grind[atw]
 case h_7=>
  rename_i t n parts J;split at g
  .rename_i e T;obtain⟨r,rfl⟩:=y7 g;simp only[aA]at r
   grind[alx]
  cases g
 case h_13=>
  rename_i t n c J;split at g
  .rename_i e T;split at g
   .rename_i z U hz;obtain⟨r,rfl⟩:=y7 g;rw[aA]at r
    grind[atA]
   cases g
  cases g
 case h_11=>
  rename_i R dst y J;rcases jT g with i|i
  .cases i;cases j
  cases l:wO P R true&&wO P dst false
  case true=>
   rw[l]at i;cases i;rw[aA]at l
   grind[aoP]
  case false=>
   rw[l]at i;simp only[aO]at i;split at i
   .grind[azk]
   cases i;cases j
 case h_20=>
  (repeat' split at g)
  .cases g;cases j
  .grind[aCu]
  .cases g;cases j
  cases g
 case h_25=>
  (repeat' split at g)
  .cases g;cases j
  .grind[aB5]
  .grind[aBG]
  rcases jT g with i|i<;>(cases i;cases j)
 case h_26=>
  (repeat' split at g)
  .grind[aFZ]
  cases g;cases j
 all_goals first
  |(cases g;done)
  |(rcases jT g with i|i<;>(cases i;cases j);done)
  |(split at g<;>first|(cases g;cases j;done)|(rcases jT g with i|i<;>(cases i;cases j);done))
  |(cases g;cases j;done)
  |(obtain⟨_,rfl⟩:=y7 g;cases j;done)
  |(exfalso;repeat' split at g)<;>first|(cases g;done)|(cases g;cases j;done)|(obtain⟨_,rfl⟩:=y7 g;cases j;done)|skip
end
section
variable {P:Program}{hs:am Nat}{ops:aB Oper}{Q:Exit->Act->World->Prop}
def YI(P:Program)(hs:am Nat)(ops:aB Oper)(Q:Exit->Act->World->Prop):Nat->aB Bool->Act->World->Prop
 |0,g,a,w=>aH .any ops g=[]/\Q .normal a w
 |j+1,g,a,w=>(aH .any ops g=[]->Q .normal a w)/\
  ∀i∈aH .any ops g,bA P ops Q i (λl w'=>(1<=clsAt P hs ops i->u9 w w')/\YI P hs ops Q j (g.setIfInBounds i true) l w') a w
theorem Kr:∀(g) (j:aB Bool) (a:Act) (w:World),YI P hs ops Q g j a w->wpAny P .any ops Q g j a w
 |0,_,_,_,h=>h
 |g+1,_,_,_,h=>⟨h.1,λi o=>wpOp_mono (λ_ _ l=>Kr g _ _ _ l.2) (h.2 i o)⟩
def YC(P:Program)(ops:aB Oper)(C:World->Prop)(o:Oper)(v:Value)(a:Act):=
 (aU o (bW ops a.tmps)=true/\∀w,C w->(bJ a.eval o).run P w=.ok (.value v) w)\/
 (aU o (bW ops a.tmps)=false/\v=undef)
theorem YC.wpOp{C:World->Prop}{i}{o}{v}{a}(g:ops[i]?=some o)(l:YC P ops C o v a){K:Act->World->Prop}{w}(hC:C w)(h:K (a.put o.dst v) w):bA P ops Q i K a w:=by unfold Go.wpOp;simp only[g];rcases l with⟨j,p⟩|⟨j,rfl⟩<;>simp_all[Oper.wp,bI]
theorem YC.of_same{C:World->Prop}{o}{v}{a g}(l:YC P ops C o v a)(i:bJ g.eval o=bJ a.eval o)(j:aU o (bW ops g.tmps)=aU o (bW ops a.tmps)):YC P ops C o v g:=by grind[YC]
structure Apart(ops:aB Oper)(x y:Oper):Prop where
 h1:∀d,x.dst=some d->d∉y.looksAt ops
 h2:∀d,x.dst=some d->y.dst≠some d
 h3:∀d,y.dst=some d->d∉x.looksAt ops
theorem ayJ{C:World->Prop}{j}{g l}{v}(hj:ops[j]?=some l)(J:Apart ops g l)(R:∀cs b,g.op≠ .select cs b)(p:∀cs b,l.op≠ .select cs b)
 (hQ:∀c a w,¬Q (.panic c) a w) {K:Act->World->Prop}{a}{w}(T:YC P ops C g v a) (h:bA P ops Q j K (a.put g.dst v) w):
 bA P ops Q j (λa' w'=>YC P ops C g v a'/\K (a'.put g.dst v) w') a w:=by
 obtain⟨I,h2,h3⟩:=J;have aa:∀(a:Act),YC P ops C g v a->∀u,YC P ops C g v (a.put l.dst u):=λa T u=>
  T.of_same (aX g R a l.dst u h3) (bF g a l.dst u h3)
 have U:∀d,YC P ops C g v {a with defers:=d::a.defers}:=λd=>T.of_same rfl rfl
 unfold bA at*;simp only[hj]at*;rw[bF l a g.dst v I]at h;split
 .rename_i hw;simp only[hw,if_true]at h;rcases h with h|⟨i,o⟩
  case inr=>exact .inr ⟨by unfold Oper.asks at*;rw[aX l p a g.dst v I]at i;exact i,o⟩
  refine .inl ?_;unfold Oper.wp at*;rw[aX l p a g.dst v I]at h;generalize(bJ a.eval l).run P w=r at*;cases r with
  |ok n w'=>
   cases n<;>simp only[bI]at h⊢
   case value u=>grind[aF]
   case skip=>grind[aF]
   case defer d=>
    grind[aF,_root_.Go.Act.put_defers]
   case enter f args=>
    grind[aF]
   grind[aF]
  |halt x w'=>
   cases x<;>grind[bI]
 grind[aF]
theorem auU{j d:Nat}{g}{v}(T:ops[j]?=some g)(p:d∉g.looksAt ops)(J:g.dst≠some d)(o:∀cs b,g.op≠ .select cs b)
 (hQ:∀c a w,¬Q (.panic c) a w) {K:Act->World->Prop}{a}{w}(h:bA P ops Q j (λI w'=>K (I.put (some d) v) w') a w):bA P ops Q j K (a.put (some d) v) w:=by
 have p:∀e,some d=some e->e∉g.looksAt ops:=λe R=>ek
 have J:∀e,some d=some e->g.dst≠some e:=λe R=>ek
 unfold bA at*;simp only[T]at*;rw[bF g a (some d) v p];split
 .rename_i U;simp only[U,if_true]at h;rcases h with h|⟨i,l⟩
  case inr=>exact .inr ⟨by unfold Oper.asks at*;rw[aX g o a (some d) v p];exact i,l⟩
  refine .inl ?_;unfold Oper.wp at*;rw[aX g o a (some d) v p];generalize(bJ a.eval g).run P w=r at*;cases r with
  |ok n w'=>
   cases n<;>simp only[bI]at h⊢
   case value u=>grind[aF]
   case skip=>grind[aF]
   case defer e=>
    grind[_root_.Go.Act.put_defers,aF]
   case enter f args=>
    grind[aF]
   grind[aF]
  |halt x w'=>
   cases x<;>grind[bI]
 grind[aF]
theorem kP{C:World->Prop}{i}{oi}{v}(hi:ops[i]?=some oi)(J:∀(j:Nat) (o:Oper) cs b,ops[j]?=some o->o.op≠ .select cs b)
 (hQ:∀c a w,¬Q (.panic c) a w) (hC:∀w w',C w->u9 w w'->C w')
 (T:am Nat) (hT:∀j∈T,∀R,ops[j]?=some R->∃e∈R.after,aY .any e=true/\(e.on=i\/e.on∈T)):
 ∀(l) (g:aB Bool) (a:Act) (w:World),C w->(∀j∈T,g.getD j false=false)->
  (∀j R,ops[j]?=some R->j≠i->g.getD j true=false->j∉T->Apart ops oi R/\((∀w,C w)\/1<=clsAt P hs ops j))->
  i∈aH .any ops g->YC P ops C oi v a->
  YI P hs ops Q l (g.setIfInBounds i true) (a.put oi.dst v) w->YI P hs ops Q (l+1) g a w:=by
 intro l;induction l with
 |zero=>
  intro g a w hw _ _ hr hy H;refine⟨λh=> ek,λj hj=>?_⟩;by_cases p:j=i
  .subst p;exact hy.wpOp hi hw ⟨λ_=>u9.refl w,H⟩
  have:=bR hj p;rw[H.1]at this;cases this
 |succ l ih=>
  intro g a w hw ak r hr hy H;refine⟨λh=> ek,λj hj=>?_⟩;by_cases p:j=i
  .subst p;exact hy.wpOp hi hw ⟨λ_=>u9.refl w,H⟩
  have h1:=H.2 j (bR hj p);obtain⟨ac,R,aa,ai⟩:=aR.1 hj;have aj:g.getD i false=false:=by have h0:=(aR.1 hr).1<;>grind
  have U:j∉T:=λU=>ek
  obtain⟨ae,al⟩:=r j R aa p ac U;have h2:=ayJ aa ae (λcs b=>J i oi cs b hi) (λcs b=>J j R cs b aa) hQ hy h1;have I:∀k ok,ops[k]?=some ok->k≠i->(g.setIfInBounds j true).getD k true=false->k∉T->Apart ops oi ok/\((∀w,C w)\/1<=clsAt P hs ops k):=λk ok hk ag ad ah=>by
   refine r k ok hk ag ?_ ah;by_cases af:j=k
   .grind
   rw[getD_set_ne true af]at ad;exact ad
  have ab:∀k∈T,(g.setIfInBounds j true).getD k false=false:=λk hk=>by rw[getD_set_ne false (λe=>U ek)];grind
  refine wpOp_mono (λa' w' h3=>⟨h3.2.1,ih (g.setIfInBounds j true) a' w' ?_ ab I (bR hr (Ne.symm p)) h3.1 ?_⟩) h2
  .grind
  grind[Array.setIfInBounds_comm]
end
section
variable {P:Program}{F F':Fr}{N:Nat}{B:Nat->Gh}{s:S}{a:Act}{w:World}
structure Under(F F':Fr)(b:Nat):Prop where
 A:∀x,F'.A x->(F.A x\/F.M x\/F.w0.heap.size<=x)/\x≠b
 M:∀x,F'.M x->(F.M x\/F.w0.heap.size<=x)/\x≠b
 g:Grows F.M F.w0 F'.w0
 h:F'.h=F.h
 b1:F.w0.heap.size<=b
 b2:b<F'.w0.heap.size
theorem Rel.hide(hr:Rel F N B s a w){J}(I:Grows (λ_=>False) w J)(hb:w.heap.size<J.heap.size):
 ∃F',Under F F' w.heap.size/\F'.w0=J/\Rel F' N B s a J:=by
 have l:=hr.grown I
 let F':Fr:=⟨J,λx=>F.ok B s.pl J x/\x≠w.heap.size,Owns B s.pl,F.h⟩
 have g:zP w J (F.ok B s.pl w) (F'.ok B s.pl J):=λx i=>
  ⟨⟨.inl ⟨⟨i.1,aQ i.2.1 I.size,i.2.2⟩,by have:=i.2.1;omega⟩,aQ i.2.1 I.size,i.2.2⟩,I.block x i.2.1 (λh=>h)⟩
 have aa:=yx.of_grows I;refine⟨F',⟨λx i=>⟨i.1.1,i.2⟩,λx i=>⟨(hr.mine x i).1,by have:=(hr.mine x i).2;omega⟩,l.grows,rfl,hr.grows.size,hb⟩,rfl,?_⟩;refine⟨hr.room,λk v hv=>?_,λp x i=>?_,hr.inj,λx i=>⟨.inl i,(l.mine x i).2⟩,hr.defers,bV _ _,λx i=>⟨i.1.2.1,i.1.2.2⟩,⟨λx i=>(l.mine x i).2,λk hk=>⟨⟨(l.glb k hk).1,λe=>Nat.lt_irrefl _ (e▸(hr.glb k hk).1.2.1)⟩,(l.glb k hk).2⟩⟩,hr.few,hr.hdom,hr.hkeep⟩
 .obtain⟨x,e1,r⟩:=hr.slots k v hv<;>grind[VR.keep]
 have h:=hr.places p x i;cases x with
 |fbox ds=>obtain⟨b,e1,r,P⟩:=h;exact⟨b,e1,(g b r).1,RDc.keep g b r _ _ P⟩
 |gone=>exact h.elim
 |box cs=>obtain⟨b,o,e1,⟨t,r⟩,P⟩:=h;exact⟨b,o,e1,⟨t,by rw[I.block b (RowAt.lt ⟨t,r⟩) (λh=>h)];exact r⟩,CRs.keep g aa _ _ P⟩
 |arr sz U fz=>
  obtain⟨h0,hn,h|⟨b,e1,r,P,e4⟩⟩:=h
  .exact⟨h0,hn,.inl h⟩
  have R:b<w.heap.size:=by
   cases fz
   .obtain⟨o,T,_⟩:=e4 rfl;exact T.lt
   exact(P rfl).2.1
  refine⟨h0,hn,.inr ⟨b,e1,RDs.keep' g b sz U 0 (λj _ _=>qH (I.block b R (λh=>h)) j) r,λhf=>(g b (P hf)).1,λhf=>?_⟩⟩;obtain⟨o,⟨t,T⟩,e6⟩:=e4 hf;exact⟨o,⟨t,by rw[I.block b R (λh=>h)];exact T⟩,e6⟩
theorem Rel.unhide{b}(hr:Rel F' N B s a w)(l:Under F F' b)(hf:∀x,F.A x->x<F.w0.heap.size/\¬F.M x)(hh:(∀x,F.M x->x<F.w0.heap.size)/\Glb F.A F.w0){R}(af:RowAt F'.w0 b R)
 {cs}(ah:∀B w ok,CRs B w ok cs R.toList) {d}(hd:d<N):
 Rel F N (jA B d ⟨some b,0⟩) ((s.place d (.box cs)).put (some d) (cV (.ptr d 0))) (a.put (some d) (.pointer (some ⟨b,0,none⟩))) w:=by
 let ι':=jA B d ⟨some b,0⟩
 have ad:¬F'.M b:=λh=>(l.M b h).2 rfl
 have ac:RowAt w b R:=by obtain⟨t,h⟩:=af;exact⟨t,by rw[hr.grows.block b l.b2 ad];exact h⟩
 have al:∀x,F'.ok B s.pl w x->x≠b:=by
  intro x j he;subst he;rcases j.1 with h|h|h
  .exact(l.A _ h).2 rfl
  .grind
  have:=l.b2;omega
 have P:¬Owns B s.pl b:=by
  intro h;rcases(hr.mine b h).1 with h|h
  .exact ad h
  have:=l.b2;omega
 have U:ι' d=⟨some b,0⟩:=yh _ _ _;have r:∀p,isin p [d]=false->ι' p=B p:=λp J=>Zo B _ (ais J)
 have o:∀p x,aget (s.place d (.box cs)).pl p=some x->(p=d/\x=.box cs)\/(p≠d/\∃y,aget s.pl p=some y/\x=y.kill [d]):=by
  intro p x j;unfold S.place at j;rw[S.redo_pl]at j;simp only[yY]at j;by_cases ai:d=p
  .simp_all
  rw[if_neg ai]at j;simp only[aget]at j;split at j
  .cases J:aget s.pl p<;>grind
  cases j
 have i:∀p,p≠d->isin p [d]=false:=λp J=>by grind[yw]
 have aa:∀x,Owns ι' (s.place d (.box cs)).pl x->x=b\/Owns B s.pl x:=by
  rintro x ⟨p,y,h1,h2,h3⟩;rcases o p y h1 with⟨rfl,rfl⟩|⟨J,z,hz,rfl⟩
  .grind
  rw[r p (i p J)]at h3;rw[bL]at h2;exact .inr ⟨p,z,hz,h2,h3⟩
 have ab:zP w w (F'.ok B s.pl w) (F.ok ι' (s.place d (.box cs)).pl w):=by
  intro x j;refine⟨⟨?_,j.2.1,λho=>?_⟩,rfl⟩
  .rcases j.1 with h|h|h
   .exact(l.A x h).1
   .exact(l.M x h).1.elim (λh=>.inr (.inl h)) (λh=>.inr (.inr h))
   exact .inr (.inr (bM l.g.size h))
  rcases aa x ho with h|h
  .grind
  exact j.2.2 h
 have hrel:Rel F N ι' (s.place d (.box cs)) a w:=by
  refine⟨by rw[<-l.h];exact hr.room,λk v hv=>?_,λp x j=>?_,?_,?_,hr.defers,?_,hf,hh,hr.few,by rw[<-l.h];exact hr.hdom,λp x g j hg=>?_⟩
  rotate_left 5
  .rw[<-l.h]at hg;rcases o p x j with⟨rfl,_⟩|⟨J,z,hz,_⟩
   .rw[hr.h_slot hd]at hg;cases hg
   rw[r p (i p J)];exact hr.hkeep p z g hz hg
  .unfold S.place at hv;rw[S.redo_sl]at hv;cases hk:aget s.sl k with
   |none=>grind
   |some u=>
    rw[hk]at hv;simp at hv;subst hv;obtain⟨x,e1,e2⟩:=hr.slots k u hk<;>grind[VR.kill,yx.refl]
  .rcases o p x j with⟨rfl,rfl⟩|⟨J,z,hz,rfl⟩
   .exact⟨b,R,by rw[U],ac,ah _ _ _⟩
   exact PR.kill ab (yx.refl w) r p (i p J) z (λ_ _ _=>rfl) (hr.places p z hz)
  .intro p q x y b' j hy aj hl I hq;rcases o p x j with⟨rfl,rfl⟩|⟨J,z,hz,rfl⟩<;>rcases o q y hy with⟨rfl,rfl⟩|⟨ae,u,T,rfl⟩
   .grind
   .rw[U]at I;cases I;rw[r q (i q ae)]at hq;have h:=hr.places q u T;cases u with
    |box cs=>exact P ⟨q,_,T,rfl,hq⟩
    |fbox ds=>obtain⟨ag,e1,e2,_⟩:=h;grind
    |gone=>exact h.elim
    |arr z ak fz=>cases fz with
     |false=>exact P ⟨q,_,T,rfl,hq⟩
     |true=>
      obtain⟨_,_,h|⟨ag,e1,_,e3,_⟩⟩:=h
      .grind
      grind
   .rw[U]at hq;cases hq;rw[r p (i p J)]at I;rw[bL]at hl;exact P ⟨p,z,hz,hl,I⟩
   rw[r p (i p J)]at I;rw[r q (i q ae)]at hq;rw[bL]at hl;exact hr.inj p q z u b' hz T aj hl I hq
  .intro x j;rcases aa x j with rfl|h
   .exact⟨.inr l.b1,aQ l.b2 hr.grows.size⟩
   refine⟨?_,(hr.mine x h).2⟩;rcases(hr.mine x h).1 with h|h
   .exact(l.M x h).1
   exact .inr (bM l.g.size h)
  refine⟨hr.grows.os.trans l.g.os,hr.grows.tape.trans l.g.tape,hr.grows.output.trans l.g.output,bM l.g.size hr.grows.size,λx j hm=>?_,λc t m h=>hr.grows.shapes c t m (l.g.shapes c t m h)⟩;rw[hr.grows.block x (aQ j l.g.size) (λh=>(l.M x h).1.elim hm (λh=>ej))];exact l.g.block x j hm
 exact hrel.put (some d) (λk hk=>ek) _ _ ⟨b,by rw[U],rfl⟩
theorem aqO{o:Oper}{cs}(g:cOp P o.op o.type=some (.alloc cs)):∃t,o.op=.alloc t/\cs=(uh P t).cells:=by
 unfold cOp at g;split at g
 case h_4=>grind
 case h_24=>
  rename_i b args r i I J;cases p:aft b args.toList with
  |some y=>
   grind[afu]
  |none=>
   simp only[p]at g;cases l:J6 P b args.toList r.toList with
   |some y=>simp only[l]at g;cases g;exact absurd rfl ((ah6 l).2.2 cs)
   |none=>grind
 case h_11=>
  rcases jT g with i|i
  .cases i
  rcases jT i with i|i
  .cases i
  grind[UT]
 case h_20=>
  grind[gU]
 case h_25=>
  (repeat' split at g)
  .cases g
  .grind[gv]
  .rename_i j;cases g;unfold J3 at j;grind
  rcases jT g with i|i<;>simp_all
 case h_26=>
  (repeat' split at g)
  .rename_i j;cases g;unfold aas at j;grind
  cases g
 all_goals first
  |(cases g;done)
  |(rcases jT g with i|i<;>(cases i;done);done)
  |(split at g<;>first|(cases g;done)|(rcases jT g with i|i<;>(cases i;done);done))
  |(obtain⟨_,h⟩:=y7 g;cases h;done)
  |((repeat' split at g)<;>first|(cases g;done)|(obtain⟨_,h⟩:=y7 g;cases h;done))
theorem ay1{o}{cs}(p:cOp P o.op o.type=some (.alloc cs))(hs:solid cs=true):
 ∃t g,(∀B w ok,CRs B w ok cs (g:aB Value).toList)/\∀(a:Act) (w:World),(bJ a.eval o).run P w=.ok (.value (.pointer (some ⟨w.heap.size,0,none⟩))) (w.alloc (.cells g t)):=by
 obtain⟨t,r,rfl⟩:=aqO p;unfold uh at hs⊢;cases j:P.info? t with
 |none=>simp only[j]at hs;cases hs
 |some i=>
  simp only[j]at hs⊢;cases l:i.zero with
  |none=>simp only[l]at hs;cases hs
  |some v=>
   simp only[l]at hs⊢;rw[QN hs];exact⟨t,v.cells,λB w ok=>XH B w ok v.cells.toList,λa w=>by simp_all[bJ,Instr.alloc,zeroValue,typeInfo,newVar,newRow]⟩
theorem Grows.alloc(w)(g:aB Value)(t):Grows (λ_=>False) w (w.alloc (.cells g t)):=by have h:=NewRow.alloc w g t;exact⟨h.os,h.tape,h.output,eu,λb i _=>h.old i,h.shapes⟩
end
theorem acs{α}{f:α->Bool}:∀{l:am α},alQ f l=true↔ ∃x∈l,f x=true
 |[]=>by simp[alQ]
 |x::r=>by
  simp only[alQ,aK];cases h:f x
  .rw[aO,acs];constructor
   .rintro⟨y,i,g⟩;exact⟨y,.inr i,g⟩
   rintro⟨y,rfl|i,g⟩
   .rw[h]at g;cases g
   exact⟨y,i,g⟩
  rw[aJ];exact⟨λ_=>⟨x,.inl rfl,h⟩,λ_=>rfl⟩
theorem uJ{α}{f:α->Bool}:∀{l:am α},YQ f l=true↔ ∀x∈l,f x=true
 |[]=>by simp[YQ]
 |x::r=>by
  simp only[YQ,aK];cases h:f x
  .rw[aO];exact⟨λg=>(by cases g),λg=>(by have j:=g x (.inl rfl);rw[h]at j;cases j)⟩
  rw[aJ,uJ];constructor
  .rintro g y (rfl|i)
   .exact h
   exact g y i
  exact λg y i=>g y (.inr i)
theorem ae6{j i}{r}(h:j≠i):isin j (i::r)=isin j r:=by grind[yw]
theorem uU{n}{l}:isin n l=false↔n∉l:=by grind[yw]
section
variable {P:Program}{hs:am Nat}{ops:aB Oper}
theorem awG{o}{x}(g:cOp P o.op o.type=some x)(h:K3 P o=1\/K3 P o=2):x.quiet=true/\(K3 P o=1->x.reads=false):=by grind[K3]
theorem azc{o}{x}(g:cOp P o.op o.type=some x)(h:K3 P o=3):Xj x=true:=by grind[K3]
theorem aj0{o}(h:K3 P o=4):∃cs d,cOp P o.op o.type=some (.alloc cs)/\solid cs=true/\o.guard=none/\o.dst=some d:=by
 unfold K3 at h;cases T:cOp P o.op o.type with
 |none=>grind
 |some x=>
  rw[T]at h;simp only at h;cases R:x.quiet<;>rw[R]at h
  .cases r:Xj x<;>rw[r]at h
   .cases i:ae4 o x<;>rw[i]at h
    .cases h
    unfold ae4 at i;split at i
    .rename_i cs;simp only[aA,aN]at i;obtain⟨⟨l,j⟩,p⟩:=i;obtain⟨d,I⟩:=Qw p;refine⟨cs,d,rfl,l,?_,I⟩;cases J:o.guard with
     |none=>rfl
     |some g=>rw[J]at j;cases j
    cases i
   cases h
  grind
theorem aEP(o):K3 P o<=4:=by grind[K3]
theorem Qv{i}{o}(j:ops[i]?=some o):(isin i hs=true/\clsAt P hs ops i=0)\/(isin i hs=false/\clsAt P hs ops i=K3 P o)\/(isin i hs=false/\clsAt P hs ops i=3/\K3 P o=4):=by
 unfold clsAt;cases isin i hs
 .cases g:(aP (K3 P o) 4&&isin 999999 hs)
  .grind
  simp_all
 grind
theorem jX{i}{o}(p:ops[i]?=some o){x}(j:WT P (isin i hs) o.op o.type=some x)(h:clsAt P hs ops i=1\/clsAt P hs ops i=2):
 cOp P o.op o.type=some x/\x.quiet=true/\(clsAt P hs ops i=1->x.reads=false):=by
 rcases Qv (P:=P) (hs:=hs) p with⟨_,g⟩|⟨g,l⟩|⟨_,g,_⟩
 .grind
 .rw[g]at j;rw[l]at h⊢;exact⟨j,awG j h⟩
 grind
theorem aBM{i}{o}(p:ops[i]?=some o){x}(g:WT P (isin i hs) o.op o.type=some x)(h:clsAt P hs ops i=3):cOp P o.op o.type=some x/\(Xj x=true\/∃cs,x=.alloc cs):=by
 rcases Qv (P:=P) (hs:=hs) p with⟨_,j⟩|⟨j,l⟩|⟨j,_,l⟩
 .grind
 .rw[j]at g;rw[l]at h;exact⟨g,.inl (azc g h)⟩
 rw[j]at g;obtain⟨cs,d,r,_⟩:=aj0 l;have g:cOp P o.op o.type=some x:=g
 grind
theorem azb{i}{o}(j:ops[i]?=some o)(h:clsAt P hs ops i=4):∃cs d,cOp P o.op o.type=some (.alloc cs)/\solid cs=true/\o.guard=none/\o.dst=some d:=by
 rcases Qv (P:=P) (hs:=hs) j with⟨_,g⟩|⟨_,l⟩|⟨_,g,_⟩
 .grind
 .grind[aj0]
 grind
theorem aj1{i}{o}(j:ops[i]?=some o):clsAt P hs ops i<=4:=by
 rcases Qv (P:=P) (hs:=hs) j with⟨_,g⟩|⟨_,l⟩|⟨_,g,_⟩
 .simp_all
 .grind[aEP]
 grind
theorem Wk{N}{gs}{i}{l}{xs}(j:Qa P N hs ops.toList gs (i::l)=some (xs.map aS)):
 ∃o x g drop rest,xs=.mk o.dst g (isin i gs) x drop::rest/\ops[i]?=some o/\(∀k,o.dst=some k->k<N)/\WT P (isin i hs) o.op o.type=some x/\Y9 ops.toList o.guard=some g/\
  Qa P N hs ops.toList gs l=some (rest.map aS):=by
 simp only[Qa]at j;split at j
 case h_2=>cases j
 rename_i o ho;have I:ops[i]?=some o:=ek
 cases r:aqk N o.dst with
 |false=>grind
 |true=>
  rw[r]at j;simp only[aJ]at j;split at j
  case h_2=>cases j
  rename_i x g ys J hg R;cases xs with
  |nil=>grind
  |cons y rest=>
   cases y with
   |mk U g1 p T drop=>
    simp only[aG,List.map_cons,aS,List.cons.injEq,AI.mk.injEq,and_true]at j;obtain⟨⟨rfl,rfl,rfl,rfl⟩,rfl⟩:=j
    grind[azq]
theorem ah8{N}{gs}:∀{l:am Nat}{xs:am AI},Qa P N hs ops.toList gs l=some (xs.map aS)->∀i∈l,∃o x,ops[i]?=some o/\WT P (isin i hs) o.op o.type=some x
 |[],_,_,i,p=>by cases p
 |j::l,xs,h,i,p=>by
  obtain⟨o,x,g,drop,rest,rfl,r,R,I,T,J⟩:=Wk h;rcases aK.1 p with rfl|p
  .exact⟨o,x,r,I⟩
  exact ah8 J i p
def ZP(ops:aB Oper)(g:aB Bool)(rest)(hid:Nat->Bool):=
 g.size=ops.size/\∀j,j<ops.size->g[j]?=some (!isin j rest||hid j)
theorem ZP.step{g}{i}{r}{hid:Nat->Bool}(h:ZP ops g (i::r) hid)(o:i∉r):ZP ops (g.setIfInBounds i true) r hid:=by
 refine⟨by simp[h.1],λj l=>?_⟩;rw[aB.getElem?_setIfInBounds];split
 .rename_i e;subst e;rw[bD (by rw[h.1];exact l),uU.2 o];rfl
 rename_i p;rw[h.2 j l];simp_all[ae6,Ne.symm]
theorem ZP.hide{g:aB Bool}{k}{rest:am Nat}(h:ZP ops g rest (λ_=>false)):ZP ops (g.setIfInBounds k true) rest (λj=>aP j k):=by
 refine⟨by simp[h.1],λj i=>?_⟩;rw[aB.getElem?_setIfInBounds];split
 .rename_i e;subst e;rw[bD (by rw[h.1];exact i)];simp
 rename_i l;rw[h.2 j i];simp_all[Ne.symm]
theorem ZP.show{g:aB Bool}{k}{r:am Nat}(h:ZP ops g (k::r) (λj=>aP j k))(hk:k∉r):ZP ops g r (λ_=>false):=by
 refine⟨h.1,λj l=>?_⟩;rw[h.2 j l];by_cases i:j=k
 .subst i;rw[uU.2 hk];simp
 grind[qO,ae6]
theorem ZP.ready_in{g}{rest}{hid:Nat->Bool}(h:ZP ops g rest hid){j}(l:j∈aH .any ops g):j∈rest/\hid j=false:=by obtain⟨h0,o,p,_⟩:=aR.1 l;have i:j<ops.size:=(aB.getElem?_eq_some_iff.1 p).1;have:=h.2 j i<;>simp_all[yw]
theorem ZP.unlisted{g}{rest}{hid:Nat->Bool}(h:ZP ops g rest hid){j}(l:g.getD j false=true)(hr:j∈rest):hid j=true:=by
 rw[aE]at l;cases o:g[j]? with
 |none=>grind
 |some b=>
  have i:j<ops.size:=by rw[<-h.1];grind
  rw[h.2 j i,(yw _ _).2 hr]at l
  grind
theorem aaV{g}{j}(r:j∈aH .any ops g){f:Nat->Bool}(i:waitsFor ops j f=true):∃n,f n=true/\g.getD n false=true:=by
 obtain⟨_,o,I,l⟩:=aR.1 r;unfold waitsFor at i;rw[I]at i;obtain⟨e,J,p⟩:=acs.1 i;rw[aA]at p
 grind
theorem art(i):∀(r T),∀j∈depsL P hs ops i r T,j∈T\/(j∈r/\clsAt P hs ops j≠4)
 |[],_,_,g=>.inl g
 |m::r,T,j,g=>by
  simp only[depsL]at g;rcases art i r _ j g with h|h
  .cases l:(!Nat.beq (clsAt P hs ops m) 4&&waitsFor ops m (λn=>aP n i||isin n T))with
   |false=>grind
   |true=>
    rw[l]at h;rw[aA]at l;rcases aK.1 h with rfl|h
    .exact .inr ⟨aZ,λe=>eu⟩
    grind
  grind
theorem acJ(i):∀(r T),(∀j∈T,∃f:Nat->Bool,waitsFor ops j f=true/\∀n,f n=true->n=i\/n∈T)->∀j∈depsL P hs ops i r T,∃f:Nat->Bool,waitsFor ops j f=true/\∀n,f n=true->n=i\/n∈depsL P hs ops i r T
 |[],_,h,j,g=>h j g
 |m::r,T,h,j,g=>by
  simp only[depsL]at g⊢;cases l:(!Nat.beq (clsAt P hs ops m) 4&&waitsFor ops m (λn=>aP n i||isin n T))with
  |false=>rw[l]at g;exact acJ i r T h j g
  |true=>
   rw[l]at g;refine acJ i r (m::T) ?_ j g;intro k hk;rcases aK.1 hk with rfl|hk
   .rw[aA]at l;refine⟨_,l.2,λn o=>?_⟩;rw[bS]at o
    grind[aM,yw]
   grind
theorem ayH{j}{i}(g:ops[j]?=some i){f:Nat->Bool}(h:waitsFor ops j f=true):∃e∈i.after,aY .any e=true/\f e.on=true:=by
 unfold waitsFor at h;rw[g]at h;obtain⟨e,o,l⟩:=acs.1 h;rw[aA]at l
 grind
theorem aeT(i)(r):∀j∈depsL P hs ops i r [],∀g,ops[j]?=some g->∃e∈g.after,aY .any e=true/\(e.on=i\/e.on∈depsL P hs ops i r []):=by grind[acJ,ayH]
structure Front(P:Program)(hs:am Nat)(ops:aB Oper)(o:Oper)(i:Nat)(r:am Nat):Prop where
 nin:i∉r
 pre:∀e∈o.after,aY .any e=true->e.on<ops.size/\e.on∉i::r
 sep:∀j∈r,clsAt P hs ops j=4->∀d,dstOf ops j=some d->d∉o.looksAt ops/\o.dst≠some d
 quiet:(clsAt P hs ops i=1\/clsAt P hs ops i=2)->∀j∈r,j∈depsL P hs ops i r []\/∀oj,ops[j]?=some oj->Apart ops o oj/\(clsAt P hs ops i=1\/1<=clsAt P hs ops j)
 heavy:¬(clsAt P hs ops i=1\/clsAt P hs ops i=2)->∀j∈r,clsAt P hs ops j=4\/waitsFor ops j (λn=>isin n (i::r)&&(aP n i||!Nat.beq (clsAt P hs ops n) 4))=true
theorem af3{d}{o}(h:ayh ops (some d) o=true):d∉o.looksAt ops/\o.dst≠some d:=by
 simp only[ayh,aA,aN]at h;refine⟨uU.1 h.1,λg=>?_⟩
 grind[uL]
theorem atY{x y}(h:aqS ops x y=true):Apart ops x y:=by
 unfold aqS at h;rw[aA]at h;refine⟨λd g=>?_,λd g=>?_,λd g=>?_⟩
 .grind[af3]
 .rw[g]at h;exact(af3 h.1).2
 rw[g]at h;simpa using uU.1 ek
theorem akm{i}{r}{o}(U:ops[i]?=some o)(h:gF P hs ops i r=true):Front P hs ops o i r:=by
 unfold gF at h;rw[U]at h;simp only[aA,aN]at h;obtain⟨⟨⟨I,J⟩,R⟩,p⟩:=h;refine⟨uU.1 I,λe T g=>?_,λj l hc d hd=>?_,λhq j l=>?_,λhq j l=>?_⟩
 .have:=uJ.1 J e (aV.2 T);rw[g]at this;simp only[Bool.not_true,bK,aA,aN]at this;exact⟨aL this.1,uU.1 this.2⟩
 .have:=uJ.1 R j l<;>grind[uL,af3]
 .have g:(aP (clsAt P hs ops i) 1||aP (clsAt P hs ops i) 2)=true:=eu
  rw[g,aJ]at p;have:=uJ.1 p j l;rw[bS]at this;refine this.imp (yw _ _).1 λh5 oj aa=>?_
  simp_all[au3,atY]
 have g:(aP (clsAt P hs ops i) 1||aP (clsAt P hs ops i) 2)=false:=by grind[qO]
 rw[g,aO]at p;have:=uJ.1 p j l<;>simp_all
theorem axF{i}{r}(h:ac9 P hs ops (i::r)=true):gF P hs ops i r=true/\ac9 P hs ops r=true:=by grind[ac9]
theorem aik:∀{l:am Nat},UU P hs ops l=true->∀j k,j∈l->k∈l->clsAt P hs ops j=4->clsAt P hs ops k=4->j=k
 |[],_,j,k,g,_,_,_=>by cases g
 |i::r,h,j,k,g,hk,p,I=>by
  simp only[UU]at h;cases J:aP (clsAt P hs ops i) 4 with
  |true=>
   rw[J,aJ]at h;have none:∀m∈r,clsAt P hs ops m≠4:=λm T R=>by have:=uJ.1 h m T<;>simp_all
   grind
  |false=>
   rw[J,aO]at h;have o:clsAt P hs ops i≠4:=λR=>eu
   rcases aK.1 g with rfl|g
   .exact absurd p o
   rcases aK.1 hk with rfl|hk
   .exact absurd I o
   exact aik h j k g hk p I
end
section
variable {P:Program}{hs:am Nat}{ops:aB Oper}{N:Nat}{gs:am Nat}{Q:Exit->Act->World->Prop}{K:S->Prop}
theorem Kk{F}{B:Nat->Gh}{s}{a}{w}(hr:Rel F N B s a w){o:Oper}(j:∀k,o.dst=some k->k<N){x}(hx:cOp P o.op o.type=some x)(hq:x.quiet=true)
 {g}(hg:Y9 ops.toList o.guard=some g) {p}{drop}{rest}(h:yp P (.mk o.dst g p x drop::rest) s K):
 ∃v ι' r,YC P ops (Cw x w) o v a/\Rel F N ι' r (a.put o.dst v) w/\yp P rest r K:=by
 rcases adu hr hg h with⟨l,i⟩|⟨l,i⟩
 .obtain⟨v,ι',s1,I,J,R⟩:=awu hr j hx hq i;obtain⟨s2,T,U⟩:=QC J j R;exact⟨v,ι',_,.inl ⟨l,I⟩,T.drop drop,U⟩
 exact⟨undef,B,_,.inr ⟨l,rfl⟩,(hr.put o.dst j wQ undef (ahZ _ _ _)).drop drop,i⟩
theorem Kb{F}{B:Nat->Gh}{s}{a}{w}(hr:Rel F N B s a w){i}{o:Oper}(ho:ops[i]?=some o)(r:∀k,o.dst=some k->k<N){x}(hx:WT P (isin i hs) o.op o.type=some x)
 (p:clsAt P hs ops i=0\/clsAt P hs ops i=3) {g}(hg:Y9 ops.toList o.guard=some g) {l}{drop}{rest}(h:yp P (.mk o.dst g l x drop::rest) s K)
 {next:Act->World->Prop}(U:∀B s' a' w',Rel F N B s' a' w'->yp P rest s' K->(1<=clsAt P hs ops i->u9 w w')->next a' w'):bA P ops Q i next a w:=by
 unfold bA;simp only[ho];rcases adu hr hg h with⟨hw,J⟩|⟨hw,J⟩
 .rw[bD hw];refine .inl ?_;rcases p with p|p
  .refine anQ hr r ⟨_,hx⟩ J _ _ λι1 s1 I w1 j hk=>?_
   obtain⟨s2,R,T⟩:=QC j r hk;exact U ι1 _ I w1 (R.drop drop) T (λh=>ek)
  obtain⟨aa,ab⟩:=aBM ho hx p;have hX:uS P F N o a w (λs1=>split l o.dst s1 λs2=>yp P rest (s2.drop drop) K):=by grind[awv,aqO,ahO]
  refine hX _ _ λι1 s1 I w1 j hk he=>?_
  obtain⟨s2,R,T⟩:=QC j r hk;exact U ι1 _ I w1 (R.drop drop) T (λ_=>he)
 rw[if_neg ek];exact U B _ _ w ((hr.put o.dst r wQ undef (ahZ _ _ _)).drop drop) J (λ_=>u9.refl w)
structure Hid(P:Program)(hs:am Nat)(ops:aB Oper)(F F':Fr)(k d b:Nat):Prop where
 cl:clsAt P hs ops k=4
 dst:dstOf ops k=some d
 under:Under F F' b
 row:∃o cs cur,ops[k]?=some o/\o.guard=none/\cOp P o.op o.type=some (.alloc cs)/\solid cs=true/\RowAt F'.w0 b cur/\∀B w ok,CRs B w ok cs (cur:aB Value).toList
def asB(b:Nat):Value:=.pointer (some ⟨b,0,none⟩)
theorem aaG{g}{i}{r}{hid:Nat->Bool}{o}(l:ZP ops g (i::r) hid)(p:ops[i]?=some o)(U:Front P hs ops o i r)(hh:hid i=false):i∈aH .any ops g:=by
 have j:i<ops.size:=(aB.getElem?_eq_some_iff.1 p).1;refine aR.2 ⟨?_,o,p,λe T R=>?_⟩
 .rw[aE,l.2 i j,(yw _ _).2 (aZ),hh];rfl
 obtain⟨I,J⟩:=U.pre e T R;rw[aE,l.2 e.on I,uU.2 J];rfl
theorem adh{g}{i}{r}{hid:Nat->Bool}{o}{x}{w}(hl:ZP ops g (i::r) hid)(ho:ops[i]?=some o)(hx:WT P (isin i hs) o.op o.type=some x)(hf:Front P hs ops o i r)(T:clsAt P hs ops i=1\/clsAt P hs ops i=2):
 ∀j p,ops[j]?=some p->j≠i->g.getD j true=false->j∉depsL P hs ops i r []->Apart ops o p/\((∀w',Cw x w w')\/1<=clsAt P hs ops j):=by
 intro j p l aa R ab;have J:j<ops.size:=(aB.getElem?_eq_some_iff.1 l).1;have I:j∈r:=by
  rw[aE,hl.2 j J]at R
  grind[yw]
 rcases hf.quiet T j I with h|h
 .grind
 obtain⟨U,h2⟩:=h p l;refine⟨U,h2.imp (λh w' hr=>?_) id⟩;rw[(jX ho hx T).2.2 h]at hr;cases hr
theorem Jo{g}{i}{r}{hid:Nat->Bool}(I:ZP ops g (i::r) hid)(R:∀j,j∈r->clsAt P hs ops j≠4->hid j=false):∀j∈depsL P hs ops i r [],g.getD j false=false:=by
 intro j p;rcases art i r [] j p with h|⟨l,J⟩
 .cases h
 cases o:g.getD j false with
 |false=>rfl
 |true=>
  have:=I.unlisted o (bE _ l)
  grind
theorem Cw.ext(x)(w):∀w' g,Cw x w w'->u9 w' g->Cw x w g:=λ_ _ h k hr=>(h hr).trans k
theorem Cw.refl(x)(w):Cw x w w:=λ_=>u9.refl w
theorem anR{F:Fr}(hf:∀x,F.A x->x<F.w0.heap.size/\¬F.M x)(hh:(∀x,F.M x->x<F.w0.heap.size)/\Glb F.A F.w0)
 (a3:∀B s a w,Rel F N B s a w->K s->Q .normal a w) (al:∀c a w,¬Q (.panic c) a w) (ac:∀(j:Nat) (o:Oper) cs b,ops[j]?=some o->o.op≠ .select cs b)
 (a2:am Nat) (ai:∀j k,j∈a2->k∈a2->clsAt P hs ops j=4->clsAt P hs ops k=4->j=k):
 ∀(rest:am Nat),(∀j∈rest,j∈a2)->ac9 P hs ops rest=true->∀xs,Qa P N hs ops.toList gs rest=some (xs.map aS)->
  (∀(k d b) (F':Fr) (p:Nat) (l:aB Bool) (B:Nat->Gh) (s:S) (a:Act) (w:World),k∈rest->Hid P hs ops F F' k d b->ZP ops l rest (λj=>aP j k)->rest.length<=p+1->
   Rel F' N B s a w->yp P xs s K->YI P hs ops Q p l (a.put (some d) (asB b)) w)/\
  (∀(p) (l:aB Bool) (B:Nat->Gh) (s:S) (a:Act) (w:World),ZP ops l rest (λ_=>false)->rest.length<=p->
   Rel F N B s a w->yp P xs s K->YI P hs ops Q p l a w):=by
 intro rest;induction rest with
 |nil=>
  intro _ _ xs bc;cases xs with
  |cons x r=>grind[Qa]
  |nil=>
   refine⟨λk d b F' p l B s a w hk=>(by cases hk),λp l B s a w T _ hr h=>?_⟩;have bi:aH .any ops l=[]:=by
    cases bt:aH .any ops l with
    |nil=>rfl
    |cons j js=>have:=(T.ready_in (j:=j) ek).1;cases this
   cases p with
   |zero=>exact⟨bi,a3 B s a w hr h⟩
   |succ p=>exact⟨λ_=>a3 B s a w hr h,λi hi=>ek⟩
 |cons i r ih=>
  intro aa bj xs bc;obtain⟨be,a8⟩:=axF bj;obtain⟨o,x,g,drop,rest,rfl,J,hd,hx,hg,a0⟩:=Wk bc;have hF:=akm J be;obtain⟨bu,bp⟩:=ih (λj hj=>aa j (bE _ hj)) a8 rest a0
  have P2:∀(k d b:Nat) (F':Fr) (p:Nat) (l:aB Bool) (B:Nat->Gh) (s:S) (a:Act) (w:World),k∈i::r->Hid P hs ops F F' k d b->ZP ops l (i::r) (λj=>aP j k)->(i::r).length<=p+1->
   Rel F' N B s a w->yp P (.mk o.dst g (isin i gs) x drop::rest) s K->YI P hs ops Q p l (a.put (some d) (asB b)) w:=by
   intro k d b F' p l B s a w hk I T af hr h;by_cases ag:i=k
   ·
    subst ag;obtain⟨o',cs,aj,a7,ao,R,ad,a9,an⟩:=I.row;rw[J]at a7;cases a7;have bn:cOp P o.op o.type=some x:=by
     rcases Qv (P:=P) (hs:=hs) J with⟨_,h1⟩|⟨h1,_⟩|⟨_,h1,_⟩
     .rw[I.cl]at h1;cases h1
     .rw[h1]at hx;exact hx
     rw[I.cl]at h1;cases h1
    rw[bn]at R;cases R;rw[ao]at hg;simp only[Y9,aG]at hg;subst hg;have ab:o.dst=some d:=by have:=I.dst;grind[dstOf]
    rw[ab]at h;simp only[yp,yg,ad,aJ]at h;obtain⟨s2,h5,h6⟩:=QC (hr.unhide I.under hf hh a9 an (hd d ab)) (λk hk=>ek) h;rw[xY]at h6;exact bp p l _ _ _ w (T.show hF.nin) ek (h5.drop drop) h6
   have a5:k∈r:=(aK.1 hk).resolve_left (λh=>ag h.symm);have bd:dstOf ops k=some d:=I.dst;obtain⟨bb,bl⟩:=hF.sep k a5 I.cl d bd;have ar:i∈aH .any ops l:=aaG T J hF (qO ag);have bq:1<=r.length:=List.length_pos_of_mem a5;obtain⟨f,rfl⟩:∃f,p=f+1:=⟨p-1,ek⟩;have bf:=T.step hF.nin;have ak:r.length<=f+1:=ek
   by_cases hc:clsAt P hs ops i=1\/clsAt P hs ops i=2
   .obtain⟨v,ι',s',hy,az,h'⟩:=Kk hr hd (jX J hx hc).1 (jX J hx hc).2.1 hg h;have bo:YC P ops (Cw x w) o v (a.put (some d) (asB b)):=
     hy.of_same (aX o (λcs b=>ac i o cs b J) a (some d) (asB b) (λe he=>by cases he;exact bb)) (bF o a (some d) (asB b) (λe he=>ek))
    refine kP J ac al (Cw.ext x w) (depsL P hs ops i r []) (aeT i r) f l _ w (Cw.refl x w) (Jo T (λj _ h4=>qO (λe=>h4 (by rw[e];exact I.cl)))) (adh T J hx hF hc) ar bo ?_
    grind[aF]
   have bs:clsAt P hs ops i≠4:=λe=>ag (ai i k (aa i aZ) (aa k hk) e I.cl)
   have ae:clsAt P hs ops i=0\/clsAt P hs ops i=3:=by grind[aj1]
   refine⟨λhe=> ek,λj hj=>?_⟩;obtain⟨ah,a4⟩:=T.ready_in hj;have av:j=i:=by
    rcases aK.1 ah with h|aw
    .exact h
    rcases hF.heavy hc j aw with h4|hw
    .have:=ai j k (aa j ah) (aa k hk) h4 I.cl;subst this;simp at a4
    obtain⟨n,U,ax⟩:=aaV hj hw;rw[aA]at U;have bh:=aM (T.unlisted ax ((yw _ _).1 U.1));subst bh;rw[I.cl]at U;have bg:n≠i:=λe=>ag e.symm
    rw[qO bg]at U;cases U.2
   subst av;refine auU J bb bl (λcs b=>ac j o cs b J) al ?_;refine Kb hr J hd hx ae hg h λι1 s1 a1 w1 bk h1 he=>⟨he,?_⟩
   grind
  refine⟨P2,λp l B s a w T af hr h=>?_⟩;have ar:i∈aH .any ops l:=aaG T J hF rfl;obtain⟨f,rfl⟩:∃f,p=f+1:=⟨p-1,ek⟩;have bf:=T.step hF.nin;have ak:r.length<=f:=ek
  by_cases hc:clsAt P hs ops i=1\/clsAt P hs ops i=2
  .obtain⟨v,ι',s',hy,az,h'⟩:=Kk hr hd (jX J hx hc).1 (jX J hx hc).2.1 hg h;refine kP J ac al (Cw.ext x w) (depsL P hs ops i r []) (aeT i r) f l _ w (Cw.refl x w) (Jo T (λ_ _ _=>rfl)) (adh T J hx hF hc) ar hy ?_
   grind
  refine⟨λhe=> ek,λj hj=>?_⟩;obtain⟨ah,a4⟩:=T.ready_in hj;by_cases au:clsAt P hs ops j=4
  ·
   obtain⟨_,oj,ay,_⟩:=aR.1 hj;obtain⟨cs,d,R,ad,ao,ab⟩:=azb ay au;obtain⟨t,aj,an,ba⟩:=ay1 R ad;have a6:=NewRow.alloc w aj t;have aq:=Grows.alloc w aj t;obtain⟨F',hu,bm,az⟩:=hr.hide aq (by rw[a6.size];omega);unfold bA;simp only[ay];rw[bD (by grind[aU])];refine .inl ?_;unfold Oper.wp;rw[ba a w,Oper.upon_value,ab];refine⟨λ_=>⟨aq.size,λb hb=>aq.block b hb (λh=>h)⟩,?_⟩;exact P2 j d w.heap.size F' f _ B s a _ ah ⟨au,by grind[dstOf],hu,oj,cs,aj,ay,ao,R,ad,by rw[bm];exact⟨t,a6.new⟩,an⟩ T.hide af az h
  have av:j=i:=by
   rcases aK.1 ah with h|aw
   .exact h
   rcases hF.heavy hc j aw with h4|hw
   .exact absurd h4 au
   obtain⟨n,U,ax⟩:=aaV hj hw;rw[aA]at U;have:=T.unlisted ax ((yw _ _).1 U.1);cases this
  subst av;have ae:clsAt P hs ops j=0\/clsAt P hs ops j=3:=by have:=aj1 (P:=P) (hs:=hs) J;omega
  refine Kb hr J hd hx ae hg h λι1 s1 a1 w1 bk h1 he=>⟨he,?_⟩
  grind
theorem adP{g}(h:afw P hs ops g=true):P.follows .mixedOrders=true/\(∀i,i<ops.size->i∈g)/\g.length<=ops.size/\UU P hs ops g=true/\ac9 P hs ops g=true:=by
 unfold afw at h;simp only[aA]at h;obtain⟨⟨⟨⟨j,l⟩,o⟩,p⟩,r⟩:=h;refine⟨j,λi I=>?_,aL o,p,r⟩;have:=uJ.1 l i (by grind[Jf])
 grind[yw]
theorem awY{F}{ords}{id}{xs}(g:Xa P N ords id ops true=some (.reg (xs.map aS))){QE:E->S->Prop}{B:Nat->Gh}{s}{a}{w}
 (hr:Rel F N B s a w) (h:X7 P (.reg xs) QE s):(Code.region id ops true).wp P (up F N QE) a w:=by
 simp only[Xa]at g;split at g
 .split at g
  .rcases jT g with h|h<;>simp_all
  cases g
 split at g
 case h_2=>cases g
 rename_i i _;cases r:afw P (wV ords id) ops i with
 |false=>grind
 |true=>
  rw[r]at g;simp only[aJ,aC,ACode.reg.injEq]at g;obtain⟨ys,l,rfl⟩:=g;obtain⟨h1,h2,h3,h4,h5⟩:=adP r;refine bX h1 (Kr (hs:=wV ords id) _ _ _ _ ?_);have I:∀(j:Nat) (o:Oper) cs b,ops[j]?=some o->o.op≠ .select cs b:=by intro j o cs b U he;have J:j<ops.size:=(aB.getElem?_eq_some_iff.1 U).1;obtain⟨o',x,p,T⟩:=ah8 l j (h2 j J);rw[U]at p;cases p;rw[he]at T;cases hb:isin j (wV ords id)<;>rw[hb]at T<;>cases T
  have R:Rel F N B s a {w with drawn:=w.drawn+1}:=hr.grown ⟨rfl,rfl,⟨rfl,Nat.le_succ _⟩,aW _,λ_ _ _=>rfl,λ_ _ _ h=>h⟩;refine(anR (F:=F) (hs:=wV ords id) (K:=QE .normal) (Q:=up F N QE) (gs:=u4 ops.toList) hr.foreign hr.handed (λB s a w hr hk=>⟨B,s,hr,hk⟩) (λc a w h=>h) I i (aik h4) i (λ_ h=>h) h5 xs l).2 ops.size _ B s a _ ?_ h3 R h;refine⟨ep,λj hj=>?_⟩
  grind[yw]
end
section
variable {P:Program}{hs:am Nat}{ops:aB Oper}{N:Nat}{gs:am Nat}{Q:Exit->Act->World->Prop}
theorem Xl{i j}:∀{l:am Nat},isin j (QB i l)=(isin j l&&!Nat.beq j i)
 |[]=>rfl
 |x::r=>by
  have o:=Xl (i:=i) (j:=j) (l:=r);have p:∀a b:Nat,(aP a b=true)=(a=b):=λa b=>propext ⟨aM,λh=>by grind[uL]⟩
  by_cases g:x=i
  .subst g;simp only[QB,uL,aJ,o,isin]
   grind
  simp only[QB,qO g,aO,isin,o];by_cases I:x=j<;>simp_all[qO]
theorem amS{i}:∀{l:am Nat},(QB i l).length<=l.length/\(isin i l=true->(QB i l).length<l.length)
 |[]=>⟨aW _,λh=>by cases h⟩
 |x::r=>by
  have j:=amS (i:=i) (l:=r);by_cases g:x=i
  .subst g;simp only[QB,uL,aJ,List.length_cons]
   grind
  simp_all[QB,qO,isin]
theorem ZP.congr{g}{r i}{hid:Nat->Bool}(h:ZP ops g r hid)(e:∀j,isin j r=isin j i):ZP ops g i hid:=
 ⟨h.1,λj l=>by rw[<-e j];exact h.2 j l⟩
theorem Jr{i}{rest}(h:isin i rest=true)(j):isin j rest=isin j (i::QB i rest):=by grind[isin,Xl,qO]
def awi(P:Program)(hs:am Nat)(ops:aB Oper)(Q:Exit->Act->World->Prop)(F:Fr)(N:Nat)(rest:am Nat)(K:S->Prop):=
 ∀(i:Nat) (g:aB Bool) (B:Nat->Gh) (s:S) (a:Act) (w:World),ZP ops g rest (λ_=>false)->rest.length<=i->Rel F N B s a w->K s->YI P hs ops Q i g a w
theorem aw7{F}(aa:∀c a w,¬Q (.panic c) a w)(U:∀(j:Nat) (o:Oper) cs b,ops[j]?=some o->o.op≠ .select cs b)
 {i}{r:am Nat}(ab:gF P hs ops i r=true) (ag:∀j∈i::r,clsAt P hs ops j≠4) {o}(p:ops[i]?=some o) (hd:∀k,o.dst=some k->k<N) {x}(hx:WT P (isin i hs) o.op o.type=some x)
 {g:aI (Nat×Bool)}(hg:Y9 ops.toList o.guard=some g) {ai}{drop:am Nat}{rest:am AI}{K:S->Prop}
 {f}{l:aB Bool}{B:Nat->Gh}{s}{a}{w}(R:ZP ops l (i::r) (λ_=>false)) (hr:Rel F N B s a w) (h:yp P (.mk o.dst g ai x drop::rest) s K)
 (hn:∀ι' s' a' w',Rel F N ι' s' a' w'->yp P rest s' K->YI P hs ops Q f (l.setIfInBounds i true) a' w'):YI P hs ops Q (f+1) l a w:=by
 have hF:=akm p ab;have ac:i∈aH .any ops l:=aaG R p hF rfl;by_cases hc:clsAt P hs ops i=1\/clsAt P hs ops i=2
 .obtain⟨v,ι',s',hy,al,h'⟩:=Kk hr hd (jX p hx hc).1 (jX p hx hc).2.1 hg h;refine kP p U aa (Cw.ext x w) (depsL P hs ops i r []) (aeT i r) f l _ w (Cw.refl x w) (Jo R (λ_ _ _=>rfl)) (adh R p hx hF hc) ac hy ?_
  grind
 refine⟨λhe=> ek,λj hj=>?_⟩;obtain⟨J,aj⟩:=R.ready_in hj;have ak:=ag j J;have ad:j=i:=by
  rcases aK.1 J with h|ae
  .exact h
  rcases hF.heavy hc j ae with h4|hw
  .grind
  obtain⟨n,T,af⟩:=aaV hj hw;rw[aA]at T;have:=R.unlisted af ((yw _ _).1 T.1);cases this
 subst ad;have I:clsAt P hs ops j=0\/clsAt P hs ops j=3:=by grind[aj1]
 exact Kb hr p hd hx I hg h λι1 s1 a1 w1 ah h1 he=>⟨he,hn ι1 s1 a1 w1 ah h1⟩
theorem aBw{F}{i}(aa:clsAt P hs ops i≠4){o}(p:ops[i]?=some o)(hd:∀k,o.dst=some k->k<N){x}(R:WT P (isin i hs) o.op o.type=some x)
 {g}(hg:Y9 ops.toList o.guard=some g) {T}{drop}{rest}{K:S->Prop}
 {B:Nat->Gh}{s}{a}{w}(hr:Rel F N B s a w) (h:yp P (.mk o.dst g T x drop::rest) s K) {next:Act->World->Prop}
 (hn:∀ι' r l w',Rel F N ι' r l w'->yp P rest r K->next l w'):bA P ops Q i (λl w'=>(1<=clsAt P hs ops i->u9 w w')/\next l w') a w:=by
 by_cases U:clsAt P hs ops i=1\/clsAt P hs ops i=2
 .obtain⟨v,ι',r,hy,I,h'⟩:=Kk hr hd (jX p R U).1 (jX p R U).2.1 hg h;exact hy.wpOp p (Cw.refl x w) ⟨λ_=>u9.refl w,hn ι' r _ w I h'⟩
 have j:clsAt P hs ops i=0\/clsAt P hs ops i=3:=by grind[aj1]
 exact Kb hr p hd R j hg h λι1 s1 a1 w1 J h1 he=>⟨he,hn ι1 s1 a1 w1 J h1⟩
theorem asS{F}(ae:∀c a w,¬Q (.panic c) a w)(ab:∀(j:Nat) (o:Oper) cs b,ops[j]?=some o->o.op≠ .select cs b)(ak:∀j,isin j (yj 0 ops.size)=true->clsAt P hs ops j≠4){K:S->Prop}{f:am Nat->Bool}
 (hf:∀rest,f rest=true->(∀j,isin j rest=true->clsAt P hs ops j≠4)->awi P hs ops Q F N rest K):
 ∀(l rest),ada P hs ops l rest f=true->(∀j,isin j rest=true->clsAt P hs ops j≠4)->∀xs,Qa P N hs ops.toList gs l=some (xs.map aS)->awi P hs ops Q F N rest (λs=>yp P xs s K):=by
 intro l;induction l with
 |nil=>
  intro rest p I xs ac;cases xs with
  |cons x r=>grind[Qa]
  |nil=>exact hf rest p I
 |cons i l ih=>
  intro rest p I xs ac J ad B s a w hl aj hr h;simp only[ada]at p;cases hb:(isin i rest&&gF P hs ops i (QB i rest))with
  |false=>grind
  |true=>
   rw[hb,aJ]at p;rw[aA]at hb;obtain⟨U,af⟩:=hb;obtain⟨o,x,g,drop,T,rfl,ho,hd,hx,hg,R⟩:=Wk ac;have aa:=hl.congr (Jr U);have ai:=(amS (i:=i) (l:=rest)).2 U;obtain⟨f',rfl⟩:∃f',J=f'+1:=⟨J-1,ej⟩;have ag:i∉QB i rest:=uU.1 (by grind[Xl,uL]);refine aw7 ae ab af (λj hj=>I j (by grind[Jr,yw])) ho hd hx hg aa hr h λι' s' a' w' ah h'=>?_
   exact ih (QB i rest) p (λj hj=>I j (by simp_all[Xl])) T R f' _ ι' s' a' w' (aa.step ag) ej ah h'
theorem akY{g:aB Bool}{rest:am Nat}(r:ZP ops g rest (λ_=>false)){j}(hj:isin j rest=true):afJ ops rest j=true↔j∈aH .any ops g:=by
 constructor
 .intro h;unfold afJ at h;cases R:ops[j]? with
  |none=>grind
  |some o=>
   rw[R]at h;have p:j<ops.size:=(aB.getElem?_eq_some_iff.1 R).1;refine aR.2 ⟨?_,o,R,λe J hb=>?_⟩
   .rw[aE,r.2 j p,hj];rfl
   have:=uJ.1 h e (aV.2 J);rw[hb]at this;simp only[Bool.not_true,bK,aA,aN]at this;rw[aE,r.2 e.on (aL this.1),this.2];rfl
 intro h;obtain⟨_,oj,T,i⟩:=aR.1 h;unfold afJ;rw[T];refine uJ.2 λe J=>?_
 cases I:aY .any e with
 |false=>rfl
 |true=>
  have l:=i e (aV.1 J) I;have p:e.on<ops.size:=by
   rw[aE]at l;cases hx:g[e.on]? with
   |none=>grind
   |some b=>rw[<-r.1];grind
  have U:isin e.on rest=false:=by
   cases P:isin e.on rest with
   |false=>rfl
   |true=>have:=r.unlisted l ((yw _ _).1 P);cases this
  grind[Nat.blt,Nat.ble_eq_true_of_le]
theorem aA7{F}(ai:∀c a w,¬Q (.panic c) a w)(ad:∀(j:Nat) (o:Oper) cs b,ops[j]?=some o->o.op≠ .select cs b)(aj:∀j,isin j (yj 0 ops.size)=true->clsAt P hs ops j≠4){K:S->Prop}
 (ah:∀B s a w,Rel F N B s a w->K s->Q .normal a w):
 ∀(t) (rest:am Nat) (x:ATr),UC P N hs ops.toList gs t=some x.erase->(∀j,isin j rest=true->clsAt P hs ops j≠4)->
  (Qg P hs ops false t rest=true->awi P hs ops Q F N rest (λs=>atr P x s K))/\
  (Qg P hs ops true t rest=true->∀(f) (p:aB Bool) (B:Nat->Gh) (s:S) (a:Act) (w:World),ZP ops p rest (λ_=>false)->rest.length<=f+1->Rel F N B s a w->atr P x s K->
   ∀j,isin j (UD t)=true->isin j rest=true->bA P ops Q j (λa' w'=>(1<=clsAt P hs ops j->u9 w w')/\YI P hs ops Q f (p.setIfInBounds j true) a' w') a w):=by
 intro t;induction t with
 |fin=>
  intro rest x R J;cases x with
  |fin=>
   refine⟨λI U p B s a w hl T hr h=>?_,λI f p B s a w hl T hr h j hj _=>by cases hj⟩;cases rest with
   |cons y r=>cases I
   |nil=>
    have ak:aH .any ops p=[]:=by
     cases a3:aH .any ops p with
     |nil=>rfl
     |cons j js=>have:=(hl.ready_in (j:=j) ek).1;cases this
    cases U with
    |zero=>exact⟨ak,ah B s a w hr h⟩
    |succ U=>exact⟨λ_=>ah B s a w hr h,λi hi=>ek⟩
  |run _ _=>cases R
  |br _ _=>cases R
 |run l t ih=>
  intro rest x R J;simp only[UC]at R;split at R
  case h_2=>cases R
  rename_i xo xt al ay;cases x with
  |fin=>cases R
  |br _ _=>cases R
  |run xs an=>
   simp only[bP,aG,ATr.run.injEq]at R;obtain⟨rfl,rfl⟩:=R;have aa:∀rest,Qg P hs ops false t rest=true->(∀j,isin j rest=true->clsAt P hs ops j≠4)->awi P hs ops Q F N rest (λs=>atr P an s K):=λrest I J=>(ih rest an ay J).1 I
   refine⟨λI=>?_,λI f p B s a w hl T hr h j hj ab=>?_⟩
   .exact asS ai ad aj aa l rest I J xs al
   cases l with
   |nil=>cases I
   |cons i l=>
    have ao:j=i:=by grind[UD,isin,aM]
    subst ao;simp only[Qg,aA]at I;obtain⟨ae,I⟩:=I;obtain⟨o,y,g,drop,ag,rfl,ho,hd,hy,hg,af⟩:=Wk al;have ar:=hl.congr (Jr ae);have a1:=(amS (i:=j) (l:=rest)).2 ae;have au:j∉QB j rest:=uU.1 (by grind[Xl,uL]);refine aBw (J j ae) ho hd hy hg hr h λι' s' a' w' av h'=>?_
    exact asS ai ad aj aa l (QB j rest) I (λk hk=>J k (by simp_all[Xl])) ag af f _ ι' s' a' w' (ar.step au) ej av h'
 |br t1 t2 az a0=>
  intro rest x R J;simp only[UC]at R;split at R
  case h_2=>cases R
  rename_i x1 x2 aw ax;cases x with
  |fin=>cases R
  |run _ _=>cases R
  |br y1 y2=>
   simp only[bP,aG,ATr.br.injEq]at R;obtain⟨rfl,rfl⟩:=R
   have hB:Qg P hs ops true t1 rest=true->Qg P hs ops true t2 rest=true->∀(f:Nat) (p:aB Bool) (B:Nat->Gh) (s:S) (a:Act) (w:World),ZP ops p rest (λ_=>false)->rest.length<=f+1->Rel F N B s a w->atr P (.br y1 y2) s K->
    ∀j,isin j (UD t1++UD t2)=true->isin j rest=true->bA P ops Q j (λa' w'=>(1<=clsAt P hs ops j->u9 w w')/\YI P hs ops Q f (p.setIfInBounds j true) a' w') a w:=by
    intro h1 h2 f p B s a w hl T hr h j hj ab;rcases List.mem_append.1 ((yw _ _).1 hj)with hj|hj
    .exact(az rest y1 aw J).2 h1 f p B s a w hl T hr h.1 j ((yw _ _).2 hj) ab
    exact(a0 rest y2 ax J).2 h2 f p B s a w hl T hr h.2 j ((yw _ _).2 hj) ab
   refine⟨λI U p B s a w hl T hr h=>?_,λI=>?_⟩
   .simp only[Qg,aA,bK]at I;obtain⟨⟨h1,h2⟩,h4,h3⟩:=I;have ac:∀j,j∈aH .any ops p->isin j rest=true/\isin j (UD t1++UD t2)=true:=λj hj=>by have ab:=(hl.ready_in hj).1;have:=uJ.1 h3 j ab<;>grind[akY,yw]
    obtain⟨k,hk,aq⟩:=acs.1 h4;have a2:=(akY hl ((yw _ _).2 hk)).1 aq;cases U with
    |zero=>
     grind
    |succ f=>exact⟨λhe=> ek,λj hj=>hB h1 h2 f p B s a w hl T hr h j (ac j hj).2 (ac j hj).1⟩
   simp only[Qg,aA,Bool.true_or]at I;exact hB I.1.1 I.1.2
theorem avW{f:am Nat->Bool}(T:∀rest,f rest=true->∀j∈rest,∃o y,ops[j]?=some o/\WT P (isin j hs) o.op o.type=some y):∀(l rest),ada P hs ops l rest f=true->∀xs:am AI,Qa P N hs ops.toList gs l=some (xs.map aS)->
 ∀j∈rest,∃o y,ops[j]?=some o/\WT P (isin j hs) o.op o.type=some y:=by
 intro l;induction l with
 |nil=>intro rest p _ _;exact T rest p
 |cons i l ih=>
  intro rest p xs J j hj;simp only[ada]at p;cases R:(isin i rest&&gF P hs ops i (QB i rest))with
  |false=>grind
  |true=>
   rw[R,aJ]at p;obtain⟨o,x,g,drop,I,rfl,ho,hd,hx,hg,r⟩:=Wk J;by_cases U:j=i
   .grind
   exact ih (QB i rest) p I r j ((yw _ _).1 (by grind[Xl,yw,qO]))
theorem aD4:∀(t) (b:Bool) (rest:am Nat) (x:ATr),Qg P hs ops b t rest=true->UC P N hs ops.toList gs t=some x.erase->∀j∈rest,∃o y,ops[j]?=some o/\WT P (isin j hs) o.op o.type=some y:=by
 intro t;induction t with
 |fin=>
  intro b rest x p I j hj;cases b with
  |true=>cases p
  |false=>cases rest with
   |nil=>cases hj
   |cons y r=>cases p
 |run l t ih=>
  intro b rest x p I;simp only[UC]at I;split at I
  case h_2=>cases I
  rename_i xo xt T U;cases x with
  |fin=>cases I
  |br _ _=>cases I
  |run xs aa=>
   simp only[bP,aG,ATr.run.injEq]at I;obtain⟨rfl,rfl⟩:=I;cases b with
   |false=>exact avW (λrest p=>ih false rest aa p U) l rest p xs T
   |true=>
    cases l with
    |nil=>cases p
    |cons i l=>
     simp only[Qg,aA]at p;obtain⟨ab,p⟩:=p;obtain⟨o,y,g,drop,R,rfl,ho,hd,hy,hg,J⟩:=Wk T;intro j hj;by_cases ac:j=i
     .grind
     exact avW (λrest p=>ih false rest aa p U) l (QB i rest) p R J j ((yw _ _).1 (by grind[Xl,yw,qO]))
 |br t1 t2 af ag=>
  intro b rest x p I;simp only[UC]at I;split at I
  case h_2=>cases I
  rename_i x1 x2 ad ae;cases x with
  |fin=>cases I
  |run _ _=>cases I
  |br y1 y2=>
   simp only[bP,aG,ATr.br.injEq]at I;obtain⟨rfl,rfl⟩:=I;simp only[Qg,aA]at p
   grind
theorem ayC{F}{ords}{id}{x}(g:Xa P N ords id ops true=some (.tree x.erase)){QE:E->S->Prop}{B:Nat->Gh}{s}{a}{w}
 (hr:Rel F N B s a w) (h:X7 P (.tree x) QE s):(Code.region id ops true).wp P (up F N QE) a w:=by
 simp only[Xa]at g;split at g
 .rename_i l _;split at g
  .rename_i t _ _;cases i:amJ P (wV ords id) ops t with
   |false=>grind
   |true=>
    rw[i]at g;simp only[aJ,aC,ACode.tree.injEq]at g;obtain⟨y,r,rfl⟩:=g;unfold amJ at i;simp only[aA]at i;obtain⟨⟨h1,h2⟩,h3⟩:=i;have I:∀j,isin j (yj 0 ops.size)=true->clsAt P (wV ords id) ops j≠4:=λj T e=>by have:=uJ.1 h2 j ((yw _ _).1 T);simp_all
    refine bX h1 (Kr (hs:=wV ords id) _ _ _ _ ?_);have R:∀(j:Nat) (o:Oper) cs b,ops[j]?=some o->o.op≠ .select cs b:=by intro j o cs b ho he;have aa:j<ops.size:=(aB.getElem?_eq_some_iff.1 ho).1;obtain⟨o',x',J,p⟩:=aD4 t false (yj 0 ops.size) x h3 r j (by grind[Jf]);rw[ho]at J;cases J;rw[he]at p;cases hb:isin j (wV ords id)<;>rw[hb]at p<;>cases p
    have U:Rel F N B s a {w with drawn:=w.drawn+1}:=hr.grown ⟨rfl,rfl,⟨rfl,Nat.le_succ _⟩,aW _,λ_ _ _=>rfl,λ_ _ _ h=>h⟩;refine((aA7 (F:=F) (hs:=wV ords id) (K:=QE .normal) (Q:=up F N QE) (gs:=u4 ops.toList) (λc a w h=>h) R I (λB s a w hr hk=>⟨B,s,hr,hk⟩) t (yj 0 ops.size) x r (λj T=>I j T)).1 h3) ops.size _ B s a _ ?_ (by grind[Jf]) U h;refine⟨ep,λj T=>?_⟩
    grind[yw,Jf]
  cases g
 split at g
 .rcases jT g with h|h<;>simp_all
 cases g
end
theorem Zt{P}{N}{ords}{id}{ops}{d}{y}(h:Xa P N ords id ops d=some y):(∃xs,y=.reg xs)\/∃t,y=.tree t:=by
 cases d
 .grind[Xa,aC]
 simp only[Xa]at h;split at h
 .split at h
  .rcases jT h with h|h
   .grind[aC]
   cases h
  cases h
 split at h
 .rcases jT h with h|h
  .grind[aC]
  cases h
 cases h
section
variable {P:Program}{F:Fr}{N:Nat}{ords:am (Nat×am Nat)}
theorem kZ:∀(x) (c:Code),qJ P N ords c=some x.erase->∀(Q:E->S->Prop) (B:Nat->Gh) (s:S) (a:Act) (w:World),Rel F N B s a w->X7 P x Q s->c.wp P (up F N Q) a w:=by
 intro x;induction x with
 |skip=>
  intro c g Q B s a w hr h;cases c with
  |skip=>exact wp_skip ⟨B,s,hr,h⟩
  |label l=>exact wp_label ⟨B,s,hr,h⟩
  |region id ops d=>rcases Zt g with⟨xs,h⟩|⟨xs,h⟩<;>simp[aD]at h
  |_=>(simp only[qJ]at g;(repeat' split at g)<;>simp_all[aD])
 |reg xs=>
  intro c g Q B s a w hr h;cases c with
  |region id ops d=>
   cases d with
   |true=>exact awY (g:Xa P N ords id ops true=some (.reg (xs.map aS))) hr h
   |false=>
    have g:Xa P N ords id ops false=some (.reg (xs.map aS)):=g;simp only[Xa,aC,ACode.reg.injEq]at g;obtain⟨ys,r,rfl⟩:=g;refine wp_region ?_;have:=aqY (F:=F) (K:=Q .normal) (Q:=up F N Q) (λB s a w hr hk=>⟨B,s,hr,hk⟩) _ xs r B s a w hr h
    grind[Jf,List.range_eq_range']
  |_=>(simp only[qJ]at g;(repeat' split at g)<;>simp_all[aD])
 |seq x y aa ab=>
  intro c g Q B s a w hr h;cases c with
  |seq c d=>
   simp only[qJ,aD]at g;split at g
   .rename_i x' y' hx hy;simp only[aG,ACode.seq.injEq]at g;obtain⟨rfl,rfl⟩:=g;refine wp_seq (bG (aa c hx _ B s a w hr h) ?_);intro e U w' p;cases e with
    |normal=>obtain⟨ι1,T,R,r⟩:=p;exact ab d hy Q ι1 T U w' R r
    |exit i=>exact p
    |ret=>exact p
    |_=>exact p.elim
   cases g
  |region id ops d=>rcases Zt g with⟨xs,h⟩|⟨xs,h⟩<;>simp[aD]at h
  |_=>(simp only[qJ]at g;(repeat' split at g)<;>simp_all[aD])
 |cond o x y aa ab=>
  intro c g Q B s a w hr h;cases c with
  |cond q c d=>
   simp only[qJ,aD]at g;split at g
   .rename_i x' y' hx hy;simp only[aG,ACode.cond.injEq]at g;obtain⟨rfl,rfl,rfl⟩:=g;simp only[X7]at h;split at h
    .rename_i t ht;have hv:=jI hr q;rw[ahF ht]at hv;have hq:a.eval q=.bool t:=hv.1<;>grind[wp_cond]
    grind
   cases g
  |region id ops d=>rcases Zt g with⟨xs,h⟩|⟨xs,h⟩<;>simp[aD]at h
  |_=>(simp only[qJ]at g;(repeat' split at g)<;>simp_all[aD])
 |block i x ih=>
  intro c g Q B s a w hr h;cases c with
  |block j c=>
   simp only[qJ,aC,aD,ACode.block.injEq]at g;obtain⟨y,r,rfl,rfl⟩:=g;refine wp_block (bG (ih c r _ B s a w hr h) ?_);intro e U w' p;cases e with
   |normal=>exact p
   |exit k=>
    obtain⟨ι1,T,R,r⟩:=p;simp only[Exit.inBlock];by_cases hk:k=j
    .subst hk;rw[bD rfl];simp only[uL,aJ]at r;exact⟨ι1,T,R,r⟩
    rw[if_neg hk];simp only[qO hk,aO]at r;exact⟨ι1,T,R,r⟩
   |ret=>exact p
   |_=>exact p.elim
  |region id ops d=>rcases Zt g with⟨xs,h⟩|⟨xs,h⟩<;>simp[aD]at h
  |_=>(simp only[qJ]at g;(repeat' split at g)<;>simp_all[aD])
 |loop J x ih=>
  intro c g Q B s a w hr h;cases c with
  |loop c=>
   simp only[qJ,aC,aD,ACode.loop.injEq,true_and]at g;obtain⟨y,r,rfl⟩:=g;obtain⟨I,μ,h2,h3⟩:=h;obtain⟨t,ht,h2⟩:=h2;rw[We]at h2;obtain⟨ιt,ae⟩:=ht F N B a w hr;refine ayL (σ:=S) (λs a w=>(∃B,Rel F N B s a w)/\I s) μ (t.norm J) ⟨⟨ιt,ae.norm J⟩,h2⟩ ?_;rintro T a1 w1 ⟨⟨ι1,R⟩,hi⟩;refine bG (ih c r _ ι1 T a1 w1 R (h3 T hi)) ?_;intro e U w' p;cases e with
   |normal=>
    obtain⟨ι2,s2,ac,h4⟩:=p;obtain⟨t2,af,h4⟩:=h4;simp only[We]at h4;obtain⟨ι3,ad⟩:=af F N ι2 U w' ac;exact⟨t2.norm J,⟨⟨ι3,ad.norm J⟩,h4.1⟩,h4.2⟩
   |exit k=>exact p
   |ret=>exact p
   |_=>exact p.elim
  |region id ops d=>rcases Zt g with⟨xs,h⟩|⟨xs,h⟩<;>simp[aD]at h
  |_=>(simp only[qJ]at g;(repeat' split at g)<;>simp_all[aD])
 |scope x ih=>
  intro c g Q B s a w hr h;cases c with
  |scope c=>
   simp only[qJ,aC,aD,ACode.scope.injEq]at g;obtain⟨y,r,rfl⟩:=g;refine wp_scope_straight (bG (ih c r _ B s a w hr h) ?_);intro e U w' p;cases e with
   |normal=>exact p
   |exit k=>exact p
   |ret=>exact p
   |_=>exact p.elim
  |region id ops d=>rcases Zt g with⟨xs,h⟩|⟨xs,h⟩<;>simp[aD]at h
  |_=>(simp only[qJ]at g;(repeat' split at g)<;>simp_all[aD])
 |exit i=>
  intro c g Q B s a w hr h;cases c with
  |exit j=>simp only[qJ,aD,aG,ACode.exit.injEq]at g;subst g;exact wp_exit ⟨B,s,hr,h⟩
  |region id ops d=>rcases Zt g with⟨xs,h⟩|⟨xs,h⟩<;>simp[aD]at h
  |_=>(simp only[qJ]at g;(repeat' split at g)<;>simp_all[aD])
 |ret=>
  intro c g Q B s a w hr h;cases c with
  |ret=>exact wp_ret ⟨B,s,hr,h⟩
  |region id ops d=>rcases Zt g with⟨xs,h⟩|⟨xs,h⟩<;>simp[aD]at h
  |_=>(simp only[qJ]at g;(repeat' split at g)<;>simp_all[aD])
 |tree x=>
  intro c g Q B s a w hr h;cases c with
  |region id ops d=>
   cases d with
   |true=>exact ayC (g:Xa P N ords id ops true=some (.tree x.erase)) hr h
   |false=>
    have g:Xa P N ords id ops false=some (.tree x.erase):=g
    grind[Xa,aC]
  |_=>(simp only[qJ]at g;(repeat' split at g)<;>simp_all[aD])
end
section
variable {P:Program}{F:Fr}{N:Nat}{B:Nat->Gh}{s:S}{a:Act}{w:World}
theorem Yr{pl}:∀(l U),∃r,wT pl U l=U++r
 |[],U=>⟨[],by simp[wT]⟩
 |p::r,U=>by
  have step:∃g,(bif isin p U then wT pl U r else wT pl (U++[p]) r)=U++g:=by
   cases isin p U
   .obtain⟨g,h⟩:=Yr (pl:=pl) r (U++[p]);simp_all
   simp_all[Yr]
  unfold wT;split<;>simp_all[Yr]
theorem kC{pl}:∀(n i) (U:am Nat),∃r,Kl pl n i U=U++r
 |0,_,U=>⟨[],by simp[Kl]⟩
 |n+1,i,U=>by
  unfold Kl;split
  .split
   .rename_i cs _;obtain⟨l,g⟩:=Yr (pl:=pl) (ab7 cs) U;obtain⟨o,j⟩:=kC (pl:=pl) n (i+1) (wT pl U (ab7 cs))
    grind
   simp_all[kC]
  simp_all
theorem amR{pl}(U l):∃r,u7 pl U l=U++r:=by
 obtain⟨j,g⟩:=Yr (pl:=pl) l U;obtain⟨o,i⟩:=kC (pl:=pl) 40 0 (wT pl U l)
 grind[u7]
theorem ahI(hr:Rel F N B s a w){U0}{ι0:Nat->Gh}(h0:∀i p x,U0[i]?=some p->aget s.pl p=some x->B p=ι0 i){x}{v}(h:VR B w (F.ok B s.pl w) x v):aqx F ι0 U0.length w (axK s.pl U0 x) v:=by
 let U:=u7 s.pl U0 x.refs
 obtain⟨ur,hU⟩:∃r,U=U0++r:=amR U0 x.refs
 let ι':Nat->Gh:=λk=>B (U.getD k 0)
 have T:∀k p,U[k]?=some p->ι' k=B p:=λk p hp=>ek
 let I:=xD (yj 0 (ZO s.pl U 0 U).length) (ZO s.pl U 0 U)
 have hz:∀q y,aget I q=some y->∃p,U[q]?=some p/\y=aaT s.pl U q p/\y.isGone=false:=λq y l=>by
  obtain⟨q',g1,g2,g3⟩:=WD _ _ _ _ l;rw[ui]at g1;split at g1
  .cases g1;rw[bN];rw[aab,bN]at g2
   grind
  cases g1
 have ab:zP w w (F.ok B s.pl w) (F.ok B s.pl w):=λb o=>⟨o,rfl⟩
 have J:zP w w (F.ok B s.pl w) (F.ok ι' I w):=λb o=>⟨⟨o.1,o.2.1,λ⟨q,y,h1,h2,h3⟩=>by obtain⟨p,e1,e2,P⟩:=hz q y h1;subst e2;obtain⟨_,⟨z,R,e5⟩,_,_⟩:=afE hr ab T e1 P;rw[T q p e1]at h3;exact o.2.2 ⟨p,z,R,e5,h3⟩⟩,rfl⟩
 have j:∀q y,aget I q=some y->∃p z,U[q]?=some p/\idx p U=some q/\aget s.pl p=some z/\z.live=true/\PR ι' w (F.ok ι' I w) q y/\y.live=true:=λq y l=>by grind[afE]
 refine⟨?_,ι',aHj hr J T h,?_,?_,?_,?_,?_⟩
 .show U0.length<=(ZO s.pl U 0 U).length
  grind[afF]
 .intro q y l;obtain⟨p,z,_,_,_,_,g,_⟩:=j q y l;exact g
 .intro q q' y y' b l ad ac o aa;obtain⟨p,z,e1,e2,P,R,_,_⟩:=j q y l;obtain⟨p',z',e5,e6,e7,e8,_,_⟩:=j q' y' ad;rw[T q p e1]at o;rw[T q' p' e5]at aa;refine hr.inj p p' z z' b P e7 (λe=>ac ?_) R o aa
  grind
 .intro q y b l o;obtain⟨p,z,e1,e2,P,R,_,_⟩:=j q y l;rw[T q p e1]at o;exact(hr.mine b ⟨p,z,P,R,o⟩).1
 .intro q y l;obtain⟨p,z,_,_,_,_,_,g⟩:=j q y l;exact g
 intro q y hq l;obtain⟨p,z,e1,e2,P,R,_,_⟩:=j q y l
 grind
def asG(tmps:aB Value):ResultVar->Sem Value
 |.tmp t=>pure (tmps.getD t undef)
 |.cell x t=>do loadVar t (<-asAddr (tmps.getD x undef))
theorem axU(fn)(tmps:aB Value):bH fn tmps=(do
 let vs<-fn.results.mapM (asG tmps)
 pure (if h:vs.size=1 then vs[0]else .tuple vs)):=by unfold bH;congr 2
theorem aaX(hr:Rel F N B s a w):∀{U:am ResultVar}{xs:am ARes},aey P U=some xs->∀{ws:am W},agK s xs=some ws->
 ∃vs,(U.mapM (asG a.tmps)).run P w=.ok vs w/\qN B w (F.ok B s.pl w) ws vs
 |[],xs,r,ws,h=>by cases r;cases h;exact⟨[],ep,trivial⟩
 |.tmp t::U,xs,r,ws,h=>by
   simp only[aey,aC]at r;obtain⟨ys,h1,rfl⟩:=r;simp only[agK]at h;split at h
   .rename_i u l o hl;cases h;obtain⟨vs,h2,T⟩:=aaX hr h1 hl;simp only[aC7]at o;split at o
    .rename_i u' aa;cases o;have i:=ayU hr t;rw[aa]at i;refine⟨a.tmps.getD t undef::vs,?_,i,T⟩
     grind[asG,bB,bC,aT]
    cases o
   cases h
 |.cell x t::U,xs,r,ws,h=>by
   simp only[aey]at r;split at r
   .rename_i g ys hg h1;cases r;simp only[agK]at h;split at h
    .rename_i u l o hl;cases h;obtain⟨vs,h2,T⟩:=aaX hr h1 hl;simp only[aC7]at o;split at o
     .rename_i p off hp;split at o
      .rename_i cs I;have i:=qZ hr (.tmp x);have i:CR B w (F.ok B s.pl w) (cOf (s.tmp x)) (a.tmps.getD x undef):=i;rw[hp]at i;obtain⟨b,e1,e2⟩:=i;obtain⟨b',ab,R,e4,J⟩:=hr.places p _ I;rw[e1]at R;cases R;obtain⟨v,i,hw⟩:=XR (b:=b) (off:=off) hg (CRs.drop off J) (λj v i=>by rw[e4.cell];grind) o
       refine⟨v::vs,?_,hw,T⟩<;>grind[asG,asAddr,bB,bC,aT,u9.refl]
      .rename_i ds I;have i:=qZ hr (.tmp x);have i:CR B w (F.ok B s.pl w) (cOf (s.tmp x)) (a.tmps.getD x undef):=i;rw[hp]at i;obtain⟨b,e1,e2⟩:=i;obtain⟨b',R,e4,J⟩:=hr.places p _ I;rw[e1]at R;cases R;have J:=RDc.drop off J;rw[bN]at J;obtain⟨us,h4,h5⟩:=RDc.vals (B:=B) J;obtain⟨v,i,hw⟩:=XR (b:=b) (off:=off) hg h4 h5 o;refine⟨v::vs,?_,hw,T⟩<;>grind[asG,asAddr,bB,bC,aT,u9.refl]
      cases o
     cases o
    cases h
   cases r
theorem ad4(hr:Rel F N B s a w){fn}{xs}(p:aey P fn.results.toList=some xs){v}(h:aC6 s xs=some v):
 ∃x,(bH fn a.tmps).run P w=.ok x w/\VR B w (F.ok B s.pl w) v x:=by
 unfold aC6 at h;have key:∀ws,agK s xs=some ws->∃vs:am Value,qN B w (F.ok B s.pl w) ws vs/\(bH fn a.tmps).run P w=.ok (if h:vs.toArray.size=1 then vs.toArray[0]else .tuple vs.toArray) w:=by
  intro ws i;obtain⟨vs,g,j⟩:=aaX hr p i;refine⟨vs,j,?_⟩;rw[axU,<-Array.toArray_toList (xs:=fn.results),List.mapM_toArray]
  grind[bB,map_eq_pure_bind,bC,aT]
 split at h
 .rename_i u o;obtain⟨vs,g,j⟩:=key _ o;cases h;cases vs with
  |nil=>exact g.elim
  |cons v vs=>cases vs with
   |nil=>exact⟨v,ek,g.1⟩
   |cons _ _=>exact g.2.elim
 .rename_i ws l i;obtain⟨vs,g,j⟩:=key _ i;cases h;refine⟨.tuple vs.toArray,?_,vs,rfl,g⟩;rw[j];rw[dif_neg];intro hs;cases vs with
  |nil=>grind
  |cons v vs=>cases vs with
   |nil=>cases ws with
    |nil=>exact g.elim
    |cons u r=>cases r with
     |nil=>grind
     |cons _ _=>exact g.2.elim
   |cons _ _=>grind
 cases h
theorem acV:∀(l) (i k:Nat) (v:V),aget (j6 i l) k=some v->∃x,v=.w x/\i<=k/\l[k-i]?=some x:=by
 intro l;induction l with
 |nil=>intro i k v h;cases h
 |cons x r g=>
  intro i k v h;simp only[j6,yY]at h;split at h
  .simp_all
  grind
theorem qN.get{ok:Nat->Prop}:∀{cs:am W}{vs:am Value}{i:Nat}{c:W},qN B w ok cs vs->cs[i]?=some c->∃v,vs[i]?=some v/\WR B w ok c v
 |[],_,i,_,_,h=>by simp at h
 |_::_,[],_,_,h,_=>h.elim
 |c::cs,v::vs,0,_,h,g=>by simp at g;subst g;exact⟨v,rfl,h.1⟩
 |c::cs,v::vs,i+1,_,h,g=>by simpa using qN.get h.2 (by simpa using g)
end
theorem ajD{n0}(ao:100000<=n0)(aq:n0+1000<=599999){P}{ords}{k}{A}(U:cFun P ords k=some A.erase)(J:qT P k=true){args}{hs}(au:hs.length<=1000){Q:Res->Prop}(h:agj n0 P A args hs Q):zH P k args hs Q:=by
 refine⟨J,λw ok ι0 T aa ⟨af,ae⟩ ai an ab=>?_⟩;unfold cFun at U;split at U
 case h_2=>cases U
 rename_i fn hf;split at U
 case h_2=>cases U
 rename_i c ac;split at U
 case h_2=>cases U
 rename_i x r hx hr;cases hN:Nat.ble fn.ntmps 5000 with
 |false=>grind
 |true=>
 rw[hN]at U;have hN:=aL hN;simp only[aJ,AFun.erase,aG,AFun.mk.injEq]at U;obtain⟨rfl,rfl⟩:=U;unfold agj at h;rw[xY]at h
 let ls:am (aI Nat):=(j5 n0 hs).map some
 have ak:∀q p,ut ls q=some p->q<hs.length/\p=n0+q:=by
  have gen:∀(n i q p:Nat),ut ((yj i n).map some) q=some p->q<n/\p=i+q:=by
   intro n;induction n with
   |zero=>grind[yj,ut]
   |succ n ih=>
    intro i q p h;cases q<;>grind[yj,ut]
  exact gen hs.length n0
 let ιc:Nat->Gh:=λp=>if n0<=p then ι0 (p-n0)else⟨none,0⟩
 have ah:∀q p,ut ls q=some p->ιc p=ι0 q:=λq p I=>by obtain⟨_,rfl⟩:=ak q p I;simp only[ιc,bD (by omega:n0<=n0+q)];congr 1;omega
 let F:Fr:=⟨w,ok,Handed ι0 hs,λp=>if n0<=p/\p<n0+hs.length then some (ι0 (p-n0))else none⟩
 let ad:=Ym n0 (hs.map (Pl.ren ls))
 have j:∀p y,aget ad p=some y->∃q x,p=n0+q/\hs[q]?=some x/\y=x.ren ls/\ιc p=ι0 q:=λp y o=>by
  have o:aget (Ym n0 (hs.map (Pl.ren ls))) p=some y:=o;rw[ao3]at o;split at o
  .rename_i aj;rw[am.getElem?_map]at o;cases I:hs[p-n0]? with
   |none=>grind
   |some x=>
    rw[I]at o;simp at o;subst o;exact⟨p-n0,x,ej,I,rfl,by simp only[ιc,bD aj]⟩
  cases o
 have R:zP w w ok (F.ok ιc ad w):=λb J=>⟨⟨.inl J,(aa b J).1,λ⟨p,y,h1,h2,h3⟩=>by obtain⟨q,x,rfl,e1,rfl,e2⟩:=j p y h1;rw[e2]at h3;exact(aa b J).2 ⟨q,x,e1,h3⟩⟩,rfl⟩
 have hrel:Rel F fn.ntmps ιc ⟨j6 0 (args.map (W.ren ls)),ad⟩ {tmps:=T.toArray++bT (fn.ntmps-T.toArray.size) undef,defers:=[]} w:=by
  refine⟨⟨ew,λg hg=>by simp only[F]at hg;rw[if_neg ej]at hg;cases hg⟩,λi v hv=>?_,λp y o=>?_,λp q y z b o hz ar hl J=>?_,λb ⟨p,y,h1,h2,h3⟩=>?_,rfl,bV _ _,λb J=>⟨(aa b J).1,(aa b J).2⟩,⟨λb J=>af b J,ae⟩,hN,λp g hg=>?_,λp y g o hg=>?_⟩
  .obtain⟨x,rfl,_,h1⟩:=acV (args.map (W.ren ls)) 0 i v hv;obtain⟨y,h2,h3⟩:=qN.get (alO R ah ab) h1;simp only[Nat.sub_zero]at h2;have al:i<T.length:=(am.getElem?_eq_some_iff.1 h2).1;exact⟨y,ek,h3⟩
  .obtain⟨q,x,rfl,e1,rfl,e2⟩:=j p y o;exact ayQ R ah e2 (ai q x e1).1
  .obtain⟨q1,x1,rfl,e1,rfl,e2⟩:=j p y o;obtain⟨q2,x2,rfl,e3,rfl,e4⟩:=j q z hz
   grind
  .obtain⟨q,x,rfl,e1,rfl,e2⟩:=j p y h1;rw[e2]at h3;exact⟨.inl ⟨q,x,e1,h3⟩,af b ⟨q,x,e1,h3⟩⟩
  .grind
  obtain⟨q,x,rfl,e1,rfl,e2⟩:=j p y o;simp only[F]at hg;split at hg
  .cases hg;rw[e2];congr 1;omega
  cases hg
 refine calls_of_wp hf ac (bG (kZ A.code c hx _ _ _ _ _ hrel h) ?_);have fin:∀B s a' w',Rel F fn.ntmps B s a' w'->aaW A.res (j5 n0 hs) Q s->a'.defers=[]/\∃v,(bH fn a'.tmps).run P w'=.ok v w'/\∃v' r,bU v=.returned v'/\Q r/\aqx ⟨w,ok,Handed ι0 hs,λ_=>none⟩ ι0 hs.length w' r v'/\Grows (Handed ι0 hs) w w':=by
  intro B s a' w' l I;unfold aaW at I;split at I
  .rename_i v hv;obtain⟨x,h1,h2⟩:=ad4 l hr hv;have hp:=ahI l (U0:=j5 n0 hs) (ι0:=ι0) (λi p y hi o=>by
    have hi:(yj n0 hs.length)[i]?=some p:=hi;rw[ui]at hi;split at hi
    .rename_i al;cases hi;refine l.hkeep _ y _ o ?_;simp only[F];rw[bD ⟨ej,ej⟩];congr 2;omega
    cases hi) h2
   have ag:(j5 n0 hs).length=hs.length:=alG _ _;rw[ag]at hp;exact⟨l.defers,x,h1,x,_,rfl,I,hp,l.grows⟩
  grind
 intro e a' w' he;cases e with
 |normal=>obtain⟨B,s,l,I⟩:=he;exact fin B s a' w' l I
 |ret=>obtain⟨B,s,l,I⟩:=he;exact fin B s a' w' l I
 |exit i=>obtain⟨_,_,_,I⟩:=he;grind
 |_=>exact he.elim
theorem ao1{P}{ords}{k}{A}(j:cFun P ords k=some A.erase)(i:qT P k=true){args}{hs}(g:hs.length<=1000){Q:Res->Prop}(h:aEf P A args hs Q):zH P k args hs Q:=
 ajD (n0:=100000) (aW _) (aL rfl) j i g h
theorem atV{P}{ords}{k}{A}(I:cFun P ords k=some A.erase)(J:qT P k=true){args}{Q:Res->Prop}(h:aBE P A args Q):Sat P k args Q:=by
 refine⟨J,λw ok o ⟨ac,ab⟩ U=>?_⟩;unfold cFun at I;split at I
 case h_2=>cases I
 rename_i fn hf;split at I
 case h_2=>cases I
 rename_i c aa;split at I
 case h_2=>cases I
 rename_i x r l hr;cases hN:Nat.ble fn.ntmps 5000 with
 |false=>grind
 |true=>
 rw[hN]at I;have hN:=aL hN;simp only[aJ,AFun.erase,aG,AFun.mk.injEq]at I;obtain⟨rfl,rfl⟩:=I;unfold aBE at h;rw[xY]at h
 let F:Fr:=⟨w,ok,λ_=>False,λ_=>none⟩
 have hrel:Rel F fn.ntmps (λ_=>⟨none,0⟩) ⟨j6 0 args,[]⟩ {tmps:=o.toArray++bT (fn.ntmps-o.toArray.size) undef,defers:=[]} w:=by refine⟨⟨ew,λg hg=>by cases hg⟩,λi v hv=>?_,λp x l=>(by cases l),λp q x y b l=>(by cases l),λb ⟨p,x,l,_⟩=>(by cases l),rfl,bV _ _,λb J=>⟨ac b J,λh=>h⟩,⟨λb J=>J.elim,ab⟩,hN,λp g hg=>(by cases hg),λp x g l=>(by cases l)⟩;obtain⟨x,rfl,_,h1⟩:=acV args 0 i v hv;obtain⟨y,h2,h3⟩:=qN.get U h1;simp only[Nat.sub_zero]at h2;have ad:i<o.length:=(am.getElem?_eq_some_iff.1 h2).1;refine⟨y,ek,?_⟩;exact WR.keep (λb J=>⟨⟨.inl J,ac b J,λ⟨p,x,l,_⟩=>by cases l⟩,rfl⟩) (yx.refl w) x y h3
 refine calls_of_wp hf aa (bG (kZ A.code c l _ _ _ _ _ hrel h) ?_);have fin:∀B s T w',Rel F fn.ntmps B s T w'->aaW A.res [] Q s->T.defers=[]/\∃v,(bH fn T.tmps).run P w'=.ok v w'/\∃v' r,bU v=.returned v'/\Q r/\acp F w' r v'/\Grows (λ_=>False) w w':=by
  intro B s T w' j R;unfold aaW at R;split at R
  .rename_i v hv;obtain⟨x,h1,h2⟩:=ad4 j hr hv;exact⟨j.defers,x,h1,x,_,rfl,R,ahI j (U0:=[]) (λi p y hi=>ek) h2,j.grows⟩
  grind
 intro e T w' he;cases e with
 |normal=>obtain⟨B,s,j,R⟩:=he;exact fin B s T w' j R
 |ret=>obtain⟨B,s,j,R⟩:=he;exact fin B s T w' j R
 |exit i=>obtain⟨_,_,_,R⟩:=he;grind
 |_=>exact he.elim
def C.asData(pl:am Pl):C->C
 |.own q _ n=>match pl[q]? with
   |some (.arr _ g _)=>.d (.sl (g.take n))
   |_=>.dead
 |.nil=>.d (.sl [])
 |.sub _ _ _ _=>.dead
 |x=>x
def W.asData(pl:am Pl):W->W|.c x=>.c (x.asData pl)|.agg cs=>.agg (cs.map (C.asData pl))
def V.asData(pl:am Pl):V->V|.w x=>.w (x.asData pl)|.tup xs=>.tup (xs.map (W.asData pl))
def Res.asData(r:Res):Res:=⟨r.v.asData r.pl,[]⟩
section
variable {F:Fr}{w:World}{B:Nat->Gh}{pl:am Pl}
theorem aHi(pl)(q)(x):aget (xD (yj 0 pl.length) pl) q=some x↔pl[q]?=some x/\x.isGone=false:=by
 constructor
 .intro h;obtain⟨l,g1,g2,g3⟩:=WD _ _ _ _ h;simp_all[ui]
 rintro⟨g1,g2⟩;have i:q<pl.length:=(am.getElem?_eq_some_iff.1 g1).1;have g:(yj 0 pl.length)[q]?=some q:=by simp_all[ui]
 have:=aau _ _ q q x g g1 g2;cases j:aget (xD (yj 0 pl.length) pl) q with
 |none=>grind
 |some y=>
  obtain⟨l,g3,o,p⟩:=WD _ _ _ _ j;simp_all[ui]
theorem ayN(U:∀p x,aget (xD (yj 0 pl.length) pl) p=some x->PR B w (F.ok B (xD (yj 0 pl.length) pl) w) p x)(T:∀p x b,aget (xD (yj 0 pl.length) pl) p=some x->(B p).b=some b->F.M b\/F.w0.heap.size<=b)
 (ab:∀p x,aget (xD (yj 0 pl.length) pl) p=some x->x.live=true) (ι':Nat->Gh) {c}{v}(h:CR B w (F.ok B (xD (yj 0 pl.length) pl) w) c v) (hd:∀p o,c≠ .ptr p o) (he:∀p z i k,c≠ .eptr p z i k) (ad:∀f p ps,c≠ .clo f (p::ps)):
 CR ι' w (F.ok ι' [] w) (c.asData pl) v:=by
 have hk:zP w w (F.ok B (xD (yj 0 pl.length) pl) w) (F.ok ι' [] w):=λb hb=>⟨⟨hb.1,hb.2.1,λ⟨_,_,h,_⟩=>by cases h⟩,rfl⟩
 cases c with
 |d x=>exact RD.keep hk _ _ h
 |nil=>
  have h:v=.slice none 0 0:=h;simp only[C.asData,CR,RD];exact⟨none,0,0,h,rfl,aW _,bQ _,.inl trivial⟩
 |own q sz n=>
  simp only[C.asData];split
  .rename_i z r I hq;have g:aget (xD (yj 0 pl.length) pl) q=some (.arr z r I):=(aHi pl q _).2 ⟨hq,rfl⟩;obtain⟨h0,hn,aa⟩:=U q _ g;simp only[CR,RD];rcases h with⟨J,h2,P⟩|⟨b,cap,t,J,h2,P,h4,h5,h6⟩
   .subst h2;exact⟨none,0,0,P,ep,aW _,bQ _,.inl ep⟩
   rcases aa with⟨e,_⟩|⟨b',e1,e2,e3,e4⟩
   .grind
   rw[J]at e1;cases e1;have R:I=false:=by
    have:=ab q _ g;cases I
    .rfl
    cases this
   subst R;obtain⟨ac,e5,_⟩:=e4 rfl;refine⟨_,n,cap,P,ek,h4,h5,.inr ⟨b,0,z,rfl,⟨.inr (T q _ b g J),e5.lt,λ⟨_,_,h,_⟩=>by cases h⟩,?_⟩⟩
   grind[RDs.take,RDs.keep']
  trivial
 |dead=>trivial
 |sub _ _ _ _=>trivial
 |fp l=>
  exact CR.keep (B:=ι') hk (yx.refl w) (.fp l) v h
 |clo f j=>cases j with
  |nil=>exact h
  |cons p ps=>grind
 |ptr p o=>grind
 |eptr p z i k=>grind
def C.plain:C->Bool|.ptr _ _=>false|.eptr _ _ _ _=>false|.clo _ (_::_)=>false|_=>true
def W.plain:W->Bool|.c x=>x.plain|.agg cs=>cs.all C.plain
def V.plain:V->Bool|.w x=>x.plain|.tup xs=>xs.all W.plain
theorem acp.asData{r}{v}(h:acp F w r v)(g:r.v.plain=true):acp F w r.asData v:=by
 obtain⟨_,B,J,T,h3,U,h5,_⟩:=h;have hC:∀{c:C}{v:Value},CR B w (F.ok B (xD (yj 0 r.pl.length) r.pl) w) c v->c.plain=true->CR B w (F.ok B [] w) (c.asData r.pl) v:=fun{c v} hc g=>
  ayN T U h5 B hc (λp o e=>by rw[e]at g;cases g) (λp z i k e=>by rw[e]at g;cases g) (λf p ps e=>by rw[e]at g;cases g)
 have j:∀(cs:am C) (vs:am Value),CRs B w (F.ok B (xD (yj 0 r.pl.length) r.pl) w) cs vs->cs.all C.plain=true->CRs B w (F.ok B [] w) (cs.map (C.asData r.pl)) vs:=by
  intro cs;induction cs with
  |nil=>intro vs h _;cases vs with|nil=>trivial|cons _ _=>exact h.elim
  |cons c cs I=>
   intro vs h g;cases vs with
   |nil=>exact h.elim
   |cons v vs=>
    rw[List.all_cons,aA]at g;exact⟨hC h.1 g.1,I vs h.2 g.2⟩
 have P:∀{x:W}{v:Value},WR B w (F.ok B (xD (yj 0 r.pl.length) r.pl) w) x v->x.plain=true->WR B w (F.ok B [] w) (x.asData r.pl) v:=fun{x v} R g=>by
  cases x with
  |c c=>exact hC R g
  |agg cs=>obtain⟨vs,e,h⟩:=R;exact⟨vs,e,j cs vs h g⟩
 have l:∀(cs:am W) (vs:am Value),qN B w (F.ok B (xD (yj 0 r.pl.length) r.pl) w) cs vs->cs.all W.plain=true->qN B w (F.ok B [] w) (cs.map (W.asData r.pl)) vs:=by
  intro cs;induction cs with
  |nil=>intro vs h _;cases vs with|nil=>trivial|cons _ _=>exact h.elim
  |cons c cs I=>
   intro vs h g;cases vs with
   |nil=>exact h.elim
   |cons v vs=>
    rw[List.all_cons,aA]at g;exact⟨P h.1 g.1,I vs h.2 g.2⟩
 refine⟨bQ _,B,?_,λp x h=>(by cases h),λp q x y b h=>(by cases h),λp x b h=>(by cases h),λp x h=>(by cases h),λp x h=>(by cases h)⟩;obtain⟨v',aa⟩:=r;cases v' with
 |w x=>exact P J g
 |tup xs=>obtain⟨vs,e,h⟩:=J;exact⟨vs,e,l xs vs h g⟩
end
theorem Sat.data{P}{k}{args}{Q i:Res->Prop}(h:Sat P k args Q)(l:∀r,Q r->r.v.plain=true/\i r.asData):Sat P k args i:=
 ⟨h.1,λw A g o p=>(h.2 w A g o p).mono λ_ _ ⟨v,r,R,j,I,J⟩=>⟨v,r.asData,R,(l r j).2,I.asData (l r j).1,J⟩⟩
theorem zt{b}{X Y:Prop}(g:b=true->X)(i:b=false->Y):cond b X Y:=ek
structure Tab(P:Program) where
 f:FuncId->am W->aI W
 ok:∀k args w,f k args=some w->Sat P k args (λr=>r=⟨.w w,[]⟩)
def Zs:am Prop->Prop->Prop
 |[],K=>K
 |p::r,K=>p/\Zs r K
theorem WO{l}{K}(h:Zs l K):Zs l True/\K:=by
 induction l with
 |nil=>exact⟨trivial,h⟩
 |cons p r g=>exact⟨⟨h.1,(g h.2).1⟩,(g h.2).2⟩
theorem aEE{l}{K}(h:Zs l True)(k:K):Zs l K:=ek
theorem ah4{l m}(h:Zs (l++m) True):Zs l True/\Zs m True:=by
 induction l with
 |nil=>exact⟨trivial,h⟩
 |cons p r g=>exact⟨⟨h.1,(g h.2).1⟩,(g h.2).2⟩
def aAd(s:S)(args:am W):aI (am W):=match ady s.pl args with|some (g,_)=>some g|none=>none
def alS(f:FuncId->am W->aI W)(op:AOp)(s:S):aI (am Prop×V):=
 match op with
 |.mov x=>some ([],s.o x)
 |.pick c a b=>match xe (s.o c),xe (s.o a),xe (s.o b)with
   |some t,some x,some y=>some ([],yf (cond t x y))
   |_,_,_=>none
 |.ld g sz x=>match s.oc x with
   |.ptr p off=>match aget s.pl p with
     |some (.box cs)=>match gX g sz (cs.drop off)with|some w=>some ([],.w w)|none=>none
     |some (.fbox j)=>match gX g sz ((j.drop off).map .d)with|some w=>some ([],.w w)|none=>none
     |_=>none
   |.fp cells=>match gX g sz (cells.map .d)with|some w=>some ([],.w w)|none=>none
   |_=>none
 |.nc x=>match s.oc x with
   |.ptr p k=>some ([],cV (.ptr p k))
   |.eptr p z i k=>some ([],cV (.eptr p z i k))
   |.fp l=>some ([],cV (.fp l))
   |_=>none
 |.slen x=>match s.oc x with
   |.d (.lit (.string b))=>some ([],zh b.size)
   |_=>none
 |.bnot x=>match xe (s.o x)with
   |some b=>some ([],yf (!b))
   |none=>none
 |.ineg x=>match s.oc x with
   |.d (.lit (.int k n))=>some ([],cV (.d (.lit (.int k (k.wrap (0-n))))))
   |_=>none
 |.beq neg x y=>match xe (s.o x),xe (s.o y)with
   |some a,some b=>some ([],yf (bif neg then a !=b else a==b))
   |_,_=>none
 |.conv k x=>match s.oc x with
   |.d (.lit (.int _ n))=>some ([],cV (.d (.lit (.int k (k.wrap n)))))
   |_=>none
 |.eqa neg I x y=>match s.o x,s.o y with
   |.w (.agg xs),.w (.agg ys)=>match XN I xs ys with
     |some b=>some ([],yf (bif neg then !b else b))
     |none=>none
   |_,_=>none
 |.fa off x=>match s.oc x with
   |.ptr p o=>some ([],cV (.ptr p (o+off)))
   |.eptr p z i k=>some ([],cV (.eptr p z i (k+off)))
   |.fp cells=>some ([],cV (.fp (cells.drop off)))
   |_=>none
 |.fld g sz off x=>match s.o x with
   |.w (.agg cs)=>match gX g sz (cs.drop off)with
     |some w=>some ([],.w w)
     |none=>none
   |_=>none
 |.six x i=>match s.oc x,Qy (s.o i)with
   |.d (.lit (.string b)),some n=>some ([0<=n/\n<b.size],cV (.d (.lit (.int .u8 (b.data.toList.getD n.toNat 0).toNat))))
   |_,_=>none
 |.ext x i=>match s.o x with
   |.tup xs=>match xs[i]? with
     |some w=>some ([],.w w)
     |none=>none
   |_=>none
 |.len x=>match s.oc x with
   |.d (.sl l)=>some ([],zh l.length)
   |.nil=>some ([],zh 0)
   |.own _ _ n=>some ([],zh n)
   |_=>none
 |.bin b x y=>match s.oc x,s.oc y with
   |.d (.lit (.int k m)),.d (.lit (.int r n))=>bif Z4 k r then
    match alU b k m n with
    |some v=>some ([],cV (.d (.lit v)))
    |none=>none
     else none
   |.d (.lit (.string m)),.d (.lit (.string n))=>match alV b m n with
     |some v=>some ([],cV (.d (.lit v)))
     |none=>none
   |_,_=>none
 |.mm J x y=>match s.oc x,s.oc y with
   |.d (.lit (.int k m)),.d (.lit (.int r n))=>bif Z4 k r then some ([],cV (.d (.lit (.int k (yL J m n)))))else none
   |_,_=>none
 |.call k args=>match aAd s (args.map s.ow)with
   |some j=>match f k j with
    |some w=>bif w.scalar then some ([],.w w)else none
    |none=>none
   |none=>none
 |_=>none
theorem Kg{v}{b}(h:xe v=some b):v=yf b:=by
 unfold xe at h;split at h
 .cases h;rfl
 cases h
theorem abe{P}{T:Tab P}{op}{s}{I}{v}{dst:aI Nat}{K:S->Prop}(h:alS T.f op s=some (I,v))(p:Zs I True)(hk:K (s.put dst v))(R:isSome dst=true):
 yg P dst op s K:=by
 unfold alS at h;split at h
 .cases h;exact hk
 .simp only[yg]
  grind[Kg]
 .simp only[yg,aLd]
  grind
 .simp only[yg];grind
 .simp only[yg];grind
 .simp only[yg];grind
 .simp only[yg];grind
 .simp only[yg];grind
 .simp only[yg];grind
 .simp only[yg]
  grind
 .simp only[yg];grind
 .simp only[yg]
  grind
 .simp only[yg];split at h
  .cases h;rename_i i g;rw[i,g];exact⟨p.1.1,p.1.2,hk⟩
  cases h
 .simp only[yg]
  grind
 .simp only[yg];grind
 .simp only[yg,awn];split at h
  .rename_i k m l n i g;rw[i,g];cases j:Z4 k l<;>rw[j]at h
   .cases h
   simp only[aJ]at h⊢;rw[j];split at h<;>simp_all
  .grind
  cases h
 .simp only[yg,aMm];split at h
  .rename_i k m l n i g;rw[i,g];cases j:Z4 k l<;>simp_all
  cases h
 .rename_i k args;simp only[yg,acq];unfold aAd at h;cases i:ady s.pl (args.map s.ow)with
  |none=>grind
  |some x=>
   obtain⟨o,U⟩:=x;simp only[i]at h;cases g:T.f k o with
   |none=>grind
   |some w=>
    simp only[g]at h;cases J:w.scalar<;>rw[J]at h
    .cases h
    cases h;refine Sat.mono (T.ok k o w g) ?_;rintro r rfl;cases dst with
    |none=>cases R
    |some d=>simp_all[axR,V.scalar]
 cases h
end Go.AM
