import Derived.Orders
import Derived.Scope
import Derived.Test.YtnlbmefhdiabcaaGreatZu1
set_option linter.unusedSimpArgs false
set_option linter.unusedVariables false
set_option maxRecDepth 100000
set_option maxHeartbeats 4000000
namespace Go.AM
section
variable {P:Program}{F:Fr}{N:Nat}{ι:Nat ->Gh}{s:S}{a:Act}{w:World}{o:Oper}{K:S ->Prop}
def Cw (x:AOp)(w w':World):Prop:=x.reads=true ->uN w w'
theorem zH.weak {C g:World ->Prop}(h:zH P F N o a w C K)(p: ∀w',g w' ->C w'):zH P F N o a w g K:=
 let⟨v,ι',I,i,j,l⟩:=h
 ⟨v,ι',I,λw' r=>i w' (p w' r),j,l⟩
theorem ar6 (hr:Rel F N ι s a w)(r: ∀k,o.dst=some k ->k<N){x:AOp}(j:cOp P o.op o.type=some x)(J:x.quiet=true)(h:z8 P o.dst x s K):zH P F N o a w (Cw x w) K:=by
 unfold cOp at j;split at j
 ·rename_i y p;cases j;exact(K4 hr r (.inl p) h).weak λ_ _=>trivial
 ·rename_i y p;cases j;exact(K4 hr r (.inr p) h).weak λ_ _=>trivial
 ·rename_i c y z p;cases j;exact(aiC hr r p h).weak λ_ _=>trivial
 ·cases j;cases J
 ·cases j;cases J
 ·rename_i t parts p;split at j
  ·rename_i fs l hu hl;obtain⟨I,rfl⟩:=yV j;rw[Bool.and_eq_true]at I;exact(afk hr r p hu hl I.1 I.2 h).weak λ_ _=>trivial
  ·cases j
 ·split at j
  ·obtain⟨_,rfl⟩:=yV j;cases J
  ·cases j
 ·rename_i t y p;split at j
  ·rename_i g ht;cases j;exact(apE hr r p ht h).weak λ_ I=>I rfl
  ·cases j
 ·obtain⟨_,rfl⟩:=yV j;cases J
 ·rename_i y p;cases j;exact(apH hr r p h).weak λ_ _=>trivial
 ·rename_i aa dst y p;cases U:wo P aa false&&wo P dst true
  ·rw[U]at j;cases h2:wo P aa true&&wo P dst false
   ·rw[h2]at j;simp only[cond_false]at j;cases R:Vz P aa dst y with
    |none=>simp only[R]at j;cases j;exact(vN hr r (by rw[p];rfl) h).weak λ_ _=>trivial
    |some z=>simp only[R]at j;cases j;exact(aiA hr r p R h).2.weak λ_ _=>trivial
   ·rw[h2]at j;cases j;cases J
  ·rw[U]at j;cases j;rw[Bool.and_eq_true]at U;exact(alf hr r p U.1 U.2 h).weak λ_ I=>I rfl
 ·obtain⟨_,rfl⟩:=yV j;cases J
 ·split at j
  ·split at j
   ·obtain⟨_,rfl⟩:=yV j;cases J
   ·cases j
  ·cases j
 ·rename_i t y lo hi mx p;split at j
  ·rename_i hu;cases j;exact(als hr r p hu h).weak λ_ _=>trivial
  ·rename_i e hu;obtain⟨I,rfl⟩:=yV j;obtain⟨i,ac⟩:=XF I;exact(alr hr r p hu ac h).weak λ_ _=>trivial
  ·cases j
 ·rename_i t y f p;split at j
  ·rename_i off ft ht;obtain⟨I,rfl⟩:=yV j;exact(apC hr r p ht I h).weak λ_ _=>trivial
  ·cases j
 ·rename_i t y f p;split at j
  ·rename_i off ft ht;split at j
   ·rename_i g hg;cases j;exact(alm hr r p ht hg h).weak λ_ _=>trivial
   ·cases j
  ·cases j
 ·rename_i t y i p;split at j
  ·rename_i e ht;obtain⟨I,rfl⟩:=yV j;exact(apD hr r p ht I h).weak λ_ _=>trivial
  ·cases j
 ·rename_i t y i p;split at j
  ·rename_i hu;cases j;exact(alq hr r p hu h).weak λ_ _=>trivial
  ·cases j
 ·rename_i y i p;cases j;exact(alk hr r p h).weak λ_ _=>trivial
 ·rename_i args ts p;split at j
  ·rename_i y t T ab;split at j
   ·rename_i e ht;cases j;exact(alo hr r p T ab ht h).weak λ_ _=>trivial
   ·cases R:KD P t y with
    |none=>simp only[R]at j;cases j;exact(vN hr r (by rw[p];rfl) h).weak λ_ _=>trivial
    |some z=>simp only[R]at j;cases j;exact(aiD hr r p T ab R h).2.weak λ_ _=>trivial
  ·cases j
 ·split at j
  ·split at j
   ·obtain⟨_,rfl⟩:=yV j;cases J
   ·split at j
    ·obtain⟨_,rfl⟩:=yV j;cases J
    ·cases j
   ·obtain⟨_,rfl⟩:=yV j;cases J
   ·cases j
  ·cases j
 ·cases j;cases J
 ·cases j;cases J
 ·rename_i b args ts U h2 p;cases hm:acT b args.toList with
  |some y=>simp only[hm]at j;cases j;exact(apG hr r p hm h).weak λ_ _=>trivial
  |none=>
   simp only[hm]at j;cases hb:UJ P b args.toList ts.toList with
   |some y=>grind[afy]
   |none=>simp only[hb]at j;cases j;exact(vN hr r (by rw[p];rfl) h).weak λ_ _=>trivial
 ·rename_i b t y z u p;cases hn:gO P b t z with
  |some neg=>simp only[hn]at j;cases j;exact(aln hr r p hn h).weak λ_ _=>trivial
  |none=>
  simp only[hn]at j;cases R:Kl P b t y z with
  |some q=>simp only[R]at j;cases j;exact(alj hr r p R h).2.weak λ_ _=>trivial
  |none=>
  simp only[R]at j;cases h4:UG P b t y z with
  |some q=>simp only[h4]at j;cases j;exact(alg hr r p h4 h).2.weak λ_ _=>trivial
  |none=>
  simp only[h4]at j;cases U:aa4 b&&adZ P t
  ·rw[U]at j;cases j;exact(vN hr r (by rw[p];rfl) h).weak λ_ _=>trivial
  ·rw[U]at j;cases j;exact(alh hr r p h).weak λ_ _=>trivial
 ·rename_i u t y p;cases h4:K5 P u t y with
  |some q=>simp only[h4]at j;cases j;exact(apI hr r p h4 h).2.weak λ_ _=>trivial
  |none=>simp only[h4]at j;cases j;exact(vN hr r (by rw[p];rfl) h).weak λ_ _=>trivial
 ·cases j
 ·cases j;cases J
theorem awO {b:BinOp}{t:TypeId}{x y:Operand}{z:AOp}(h:UG P b t x y=some z):YA z=false:=by
 unfold UG at h;(repeat' split at h)<;>cases h<;>rfl
theorem aBd {b:UnOp}{t:TypeId}{x:Operand}{z:AOp}(h:K5 P b t x=some z):YA z=false:=by
 unfold K5 at h;(repeat' split at h)<;>cases h<;>rfl
theorem auF {s t:TypeId}{x:Operand}{z:AOp}(h:Vz P s t x=some z):YA z=false:=by
 unfold Vz at h;(repeat' split at h)<;>cases h<;>rfl
theorem axY {t:TypeId}{x:Operand}{z:AOp}(h:KD P t x=some z):YA z=false:=by
 unfold KD at h;(repeat' split at h)<;>cases h<;>rfl
theorem axf {b:BinOp}{t:TypeId}{x y:Operand}{z:AOp}(h:Kl P b t x y=some z):YA z=false:=by
 unfold Kl at h;(repeat' split at h)<;>cases h<;>rfl
theorem jp {α:Type}{c:Bool}{p q r:α}(h:(bif c then p else q)=r):p=r\/q=r:=by
 grind
theorem ar7 (hr:Rel F N ι s a w)(hd: ∀k,o.dst=some k ->k<N){x:AOp}(g:cOp P o.op o.type=some x)(j:YA x=true)(h:z8 P o.dst x s K):uy P F N o a w K:=by
 unfold cOp at g;split at g
 case h_22=>grind[aiy]
 case h_23=>grind[aiz]
 case h_24=>
  rename_i b args ts i l J;cases I:acT b args.toList with
  |some y=>
   simp only[I]at g;cases g;obtain⟨x1,y1,_,⟨_,rfl⟩|⟨_,rfl⟩⟩:=acU I<;>cases j
  |none=>
   simp only[I]at g;cases p:UJ P b args.toList ts.toList with
   |some y=>simp only[p]at g;cases g;rw[(afy p).2.1]at j;cases j
   |none=>simp only[p]at g;cases g;cases j
 case h_5=>grind[apB]
 case h_7=>
  rename_i t n parts J;split at g
  ·rename_i e T;obtain⟨r,rfl⟩:=yV g;simp only[Bool.and_eq_true]at r
   grind[aiB]
  ·cases g
 case h_13=>
  rename_i t n c J;split at g
  ·rename_i e T;split at g
   ·rename_i z U hz;obtain⟨r,rfl⟩:=yV g;rw[Bool.and_eq_true]at r
    grind[apF]
   ·cases g
  ·cases g
 case h_11=>
  rename_i R dst y J;rcases jp g with i|i
  ·cases i;cases j
  ·cases l:wo P R true&&wo P dst false
   case true=>
    rw[l]at i;cases i;rw[Bool.and_eq_true]at l
    grind[alp]
   case false=>
    rw[l]at i;simp only[cond_false]at i;split at i
    ·grind[auF]
    ·cases i;cases j
 case h_20=>
  (repeat' split at g)
  ·cases g;cases j
  ·grind[axY]
  ·cases g;cases j
  ·cases g
 case h_25=>
  (repeat' split at g)
  ·cases g;cases j
  ·grind[axf]
  ·grind[awO]
  ·rcases jp g with i|i<;>(cases i;cases j)
 case h_26=>
  (repeat' split at g)
  ·grind[aBd]
  ·cases g;cases j
 all_goals first
  |(cases g;done)
  |(rcases jp g with i|i<;>(cases i;cases j);done)
  |(split at g<;>first|(cases g;cases j;done)|(rcases jp g with i|i<;>(cases i;cases j);done))
  |(cases g;cases j;done)
  |(obtain⟨_,rfl⟩:=yV g;cases j;done)
  |(exfalso;repeat' split at g)<;>first|(cases g;done)|(cases g;cases j;done)|(obtain⟨_,rfl⟩:=yV g;cases j;done)|skip
end
section
variable {P:Program}{hs:List Nat}{ops:Array Oper}{Q:Exit ->Act ->World ->Prop}
def Z3 (P:Program)(hs:List Nat)(ops:Array Oper)(Q:Exit ->Act ->World ->Prop):Nat ->Array Bool ->Act ->World ->Prop
 |0,g,a,w=>Region.ready .any ops g=[]/\Q .normal a w
 |j+1,g,a,w=>(Region.ready .any ops g=[] ->Q .normal a w)/\
  ∀i∈Region.ready .any ops g,wpOp P ops Q i (λl w'=>(1<=clsAt P hs ops i ->uN w w')/\Z3 P hs ops Q j (g.setIfInBounds i true) l w') a w
theorem U1: ∀(g:Nat) (j:Array Bool) (a:Act) (w:World),Z3 P hs ops Q g j a w ->wpAny P .any ops Q g j a w
 |0,_,_,_,h=>h
 |g+1,_,_,_,h=>⟨h.1,λi o=>wpOp_mono (λ_ _ l=>U1 g _ _ _ l.2) (h.2 i o)⟩
def YC (P:Program)(ops:Array Oper)(C:World ->Prop)(o:Oper)(v:Value)(a:Act):Prop:=
 (Region.wanted o (yielded ops a.tmps)=true /\ ∀w,C w ->(execOp a.eval o).run P w= .ok (.value v) w)\/
 (Region.wanted o (yielded ops a.tmps)=false /\v=undef)
theorem YC.wpOp {C:World ->Prop}{i:Nat}{o:Oper}{v:Value}{a:Act}(g:ops[i]? =some o)(l:YC P ops C o v a){K:Act ->World ->Prop}{w:World}(hC:C w)(h:K (a.put o.dst v) w):wpOp P ops Q i K a w:=by
 unfold Go.wpOp;simp only[g];rcases l with⟨j,p⟩|⟨j,rfl⟩<;>simp_all[Oper.wp,Oper.upon]
theorem YC.of_same {C:World ->Prop}{o:Oper}{v:Value}{a g:Act}(l:YC P ops C o v a)(i:execOp g.eval o=execOp a.eval o)(j:Region.wanted o (yielded ops g.tmps)=Region.wanted o (yielded ops a.tmps)):YC P ops C o v g:=by
 grind[YC]
structure Apart (ops:Array Oper)(x y:Oper):Prop where
 h1: ∀d,x.dst=some d ->d∉y.looksAt ops
 h2: ∀d,x.dst=some d ->y.dst≠some d
 h3: ∀d,y.dst=some d ->d∉x.looksAt ops
theorem atY {C:World ->Prop}{j:Nat}{g l:Oper}{v:Value}(hj:ops[j]? =some l)(J:Apart ops g l)(R: ∀cs b,g.op≠ .select cs b)(p: ∀cs b,l.op≠ .select cs b)
 (hQ: ∀c a w,¬Q (.panic c) a w) {K:Act ->World ->Prop}{a:Act}{w:World}(T:YC P ops C g v a) (h:wpOp P ops Q j K (a.put g.dst v) w):
 wpOp P ops Q j (λa' w'=>YC P ops C g v a' /\K (a'.put g.dst v) w') a w:=by
 obtain⟨I,h2,h3⟩:=J;have aa: ∀(a:Act),YC P ops C g v a -> ∀u,YC P ops C g v (a.put l.dst u):=λa T u=>
  T.of_same (execOp_put g R a l.dst u h3) (wanted_put g a l.dst u h3)
 have U: ∀d,YC P ops C g v {a with defers:=d::a.defers}:=λd=>T.of_same rfl rfl
 unfold wpOp at*;simp only[hj]at*;rw[wanted_put l a g.dst v I]at h;split
 ·rename_i hw;simp only[hw,if_true]at h;rcases h with h|⟨i,o⟩
  case inr=>exact .inr ⟨by unfold Oper.asks at*;rw[execOp_put l p a g.dst v I]at i;exact i,o⟩
  refine .inl ?_;unfold Oper.wp at*;rw[execOp_put l p a g.dst v I]at h;generalize(execOp a.eval l).run P w=r at*;cases r with
  |ok n w'=>
   cases n<;>simp only[Oper.upon]at h⊢
   case value u=>grind[Go.Act.put_comm]
   case skip=>grind[Go.Act.put_comm]
   case defer d=>
    grind[Go.Act.put_comm,_root_.Go.Act.put_defers]
   case enter f args=>
    grind[Go.Act.put_comm]
   grind[Go.Act.put_comm]
  |halt x w'=>
   cases x<;>grind[Oper.upon]
 grind[Go.Act.put_comm]
theorem aqN {j d:Nat}{g:Oper}{v:Value}(T:ops[j]? =some g)(p:d∉g.looksAt ops)(J:g.dst≠some d)(o: ∀cs b,g.op≠ .select cs b)
 (hQ: ∀c a w,¬Q (.panic c) a w) {K:Act ->World ->Prop}{a:Act}{w:World}(h:wpOp P ops Q j (λI w'=>K (I.put (some d) v) w') a w):wpOp P ops Q j K (a.put (some d) v) w:=by
 have p: ∀e,some d=some e ->e∉g.looksAt ops:=λe R=>by grind
 have J: ∀e,some d=some e ->g.dst≠some e:=λe R=>by grind
 unfold wpOp at*;simp only[T]at*;rw[wanted_put g a (some d) v p];split
 ·rename_i U;simp only[U,if_true]at h;rcases h with h|⟨i,l⟩
  case inr=>exact .inr ⟨by unfold Oper.asks at*;rw[execOp_put g o a (some d) v p];exact i,l⟩
  refine .inl ?_;unfold Oper.wp at*;rw[execOp_put g o a (some d) v p];generalize(execOp a.eval g).run P w=r at*;cases r with
  |ok n w'=>
   cases n<;>simp only[Oper.upon]at h⊢
   case value u=>grind[Go.Act.put_comm]
   case skip=>grind[Go.Act.put_comm]
   case defer e=>
    grind[_root_.Go.Act.put_defers,Go.Act.put_comm]
   case enter f args=>
    grind[Go.Act.put_comm]
   grind[Go.Act.put_comm]
  |halt x w'=>
   cases x<;>grind[Oper.upon]
 grind[Go.Act.put_comm]
theorem JZ {C:World ->Prop}{i:Nat}{oi:Oper}{v:Value}(hi:ops[i]? =some oi)(J: ∀(j:Nat) (o:Oper) cs b,ops[j]? =some o ->o.op≠ .select cs b)
 (hQ: ∀c a w,¬Q (.panic c) a w) (hC: ∀w w',C w ->uN w w' ->C w')
 (T:List Nat) (hT: ∀j∈T,∀R,ops[j]? =some R -> ∃e∈R.after,Region.binds .any e=true /\(e.on=i\/e.on∈T)):
 ∀(l:Nat) (g:Array Bool) (a:Act) (w:World),C w ->(∀j∈T,g.getD j false=false) ->
  (∀j R,ops[j]? =some R ->j≠i ->g.getD j true=false ->j∉T ->Apart ops oi R /\((∀w,C w)\/1<=clsAt P hs ops j)) ->
  i∈Region.ready .any ops g ->YC P ops C oi v a ->
  Z3 P hs ops Q l (g.setIfInBounds i true) (a.put oi.dst v) w ->Z3 P hs ops Q (l+1) g a w:=by
 intro l;induction l with
 |zero=>
  intro g a w hw _ _ hr hy H;refine⟨λh=>(by grind),λj hj=>?_⟩;by_cases p:j=i
  ·subst p;exact hy.wpOp hi hw ⟨λ_=>uN.refl w,H⟩
  ·have:=ready_mono hj p;rw[H.1]at this;cases this
 |succ l ih=>
  intro g a w hw ak r hr hy H;refine⟨λh=>(by grind),λj hj=>?_⟩;by_cases p:j=i
  ·subst p;exact hy.wpOp hi hw ⟨λ_=>uN.refl w,H⟩
  ·have h1:=H.2 j (ready_mono hj p);obtain⟨ac,R,aa,ai⟩:=mem_ready.1 hj;have aj:g.getD i false=false:=by
    have h0:=(mem_ready.1 hr).1<;>grind
   have U:j∉T:=λU=>by
    grind
   obtain⟨ae,al⟩:=r j R aa p ac U;have h2:=atY aa ae (λcs b=>J i oi cs b hi) (λcs b=>J j R cs b aa) hQ hy h1;have I: ∀k ok,ops[k]? =some ok ->k≠i ->(g.setIfInBounds j true).getD k true=false ->k∉T ->Apart ops oi ok /\((∀w,C w)\/1<=clsAt P hs ops k):=λk ok hk ag ad ah=>by
    refine r k ok hk ag ?_ ah;by_cases af:j=k
    ·grind
    ·rw[getD_set_ne true af]at ad;exact ad
   have ab: ∀k∈T,(g.setIfInBounds j true).getD k false=false:=λk hk=>by
    rw[getD_set_ne false (λe=>U (by grind))];grind
   refine wpOp_mono (λa' w' h3=>⟨h3.2.1,ih (g.setIfInBounds j true) a' w' ?_ ab I (ready_mono hr (Ne.symm p)) h3.1 ?_⟩) h2
   ·grind
   grind[Array.setIfInBounds_comm]
end
section
variable {P:Program}{F F':Fr}{N:Nat}{ι:Nat ->Gh}{s:S}{a:Act}{w:World}
structure Under (F F':Fr)(b:Nat):Prop where
 A: ∀x,F'.A x ->(F.A x\/F.M x\/F.w0.heap.size<=x)/\x≠b
 M: ∀x,F'.M x ->(F.M x\/F.w0.heap.size<=x)/\x≠b
 g:Grows F.M F.w0 F'.w0
 h:F'.h=F.h
 b1:F.w0.heap.size<=b
 b2:b<F'.w0.heap.size
theorem Rel.hide (hr:Rel F N ι s a w){J:World}(I:Grows (λ_=>False) w J)(hb:w.heap.size<J.heap.size):
 ∃F',Under F F' w.heap.size /\F'.w0=J /\Rel F' N ι s a J:=by
 have l:=hr.grown I
 let F':Fr:=⟨J,λx=>F.ok ι s.pl J x /\x≠w.heap.size,Owns ι s.pl,F.h⟩
 have g:zR w J (F.ok ι s.pl w) (F'.ok ι s.pl J):=λx i=>
  ⟨⟨.inl ⟨⟨i.1,Nat.lt_of_lt_of_le i.2.1 I.size,i.2.2⟩,by have:=i.2.1;omega⟩,Nat.lt_of_lt_of_le i.2.1 I.size,i.2.2⟩,I.block x i.2.1 (λh=>h)⟩
 have ab:=yp.of_grows I;refine⟨F',⟨λx i=>⟨i.1.1,i.2⟩,λx i=>⟨(hr.mine x i).1,by have:=(hr.mine x i).2;omega⟩,l.grows,rfl,hr.grows.size,hb⟩,rfl,?_⟩;refine⟨hr.room,λk v hv=>?_,λp x i=>?_,hr.inj,λx i=>⟨.inl i,(l.mine x i).2⟩,hr.defers,Grows.refl _ _,λx i=>⟨i.1.2.1,i.1.2.2⟩,⟨λx i=>(l.mine x i).2,λk hk=>⟨⟨(l.glb k hk).1,λe=>Nat.lt_irrefl _ (e▸(hr.glb k hk).1.2.1)⟩,(l.glb k hk).2⟩⟩,hr.few,hr.hdom,hr.hkeep⟩
 ·obtain⟨x,P,r⟩:=hr.slots k v hv<;>grind[VR.keep]
 ·have h:=hr.places p x i;cases x with
  |fbox ds=>obtain⟨b,P,r,R⟩:=h;exact⟨b,P,(g b r).1,RDc.keep g b r _ _ R⟩
  |gone=>exact h.elim
  |box cs=>obtain⟨b,o,P,⟨t,r⟩,R⟩:=h;exact⟨b,o,P,⟨t,by rw[I.block b (RowAt.lt ⟨t,r⟩) (λh=>h)];exact r⟩,CRs.keep g ab _ _ R⟩
  |arr sz aa fz=>
   obtain⟨h0,hn,h|⟨b,P,r,R,e4⟩⟩:=h
   ·exact⟨h0,hn,.inl h⟩
   ·have T:b<w.heap.size:=by
     cases fz
     ·obtain⟨o,U,_⟩:=e4 rfl;exact U.lt
     ·exact(R rfl).2.1
    refine⟨h0,hn,.inr ⟨b,P,RDs.keep' g b sz aa 0 (λj _ _=>qv (I.block b T (λh=>h)) j) r,λhf=>(g b (R hf)).1,λhf=>?_⟩⟩;obtain⟨o,⟨t,U⟩,e6⟩:=e4 hf;exact⟨o,⟨t,by rw[I.block b T (λh=>h)];exact U⟩,e6⟩
theorem Rel.unhide {b:Nat}(hr:Rel F' N ι s a w)(l:Under F F' b)(hf: ∀x,F.A x ->x<F.w0.heap.size /\ ¬F.M x)(hh:(∀x,F.M x ->x<F.w0.heap.size)/\Glb F.A F.w0){R:Array Value}(af:RowAt F'.w0 b R)
 {cs:List C}(ah: ∀ι w ok,CRs ι w ok cs R.toList) {d:Nat}(hd:d<N):
 Rel F N (u4 ι d ⟨some b,0⟩) ((s.place d (.box cs)).put (some d) (cV (.ptr d 0))) (a.put (some d) (.pointer (some ⟨b,0,none⟩))) w:=by
 let ι':=u4 ι d ⟨some b,0⟩
 have ad: ¬F'.M b:=λh=>(l.M b h).2 rfl
 have ac:RowAt w b R:=by
  obtain⟨t,h⟩:=af;exact⟨t,by rw[hr.grows.block b l.b2 ad];exact h⟩
 have al: ∀x,F'.ok ι s.pl w x ->x≠b:=by
  intro x j he;subst he;rcases j.1 with h|h|h
  ·exact(l.A _ h).2 rfl
  ·grind
  ·have:=l.b2;omega
 have P: ¬Owns ι s.pl b:=by
  intro h;rcases(hr.mine b h).1 with h|h
  ·exact ad h
  ·have:=l.b2;omega
 have U:ι' d=⟨some b,0⟩:=ya _ _ _;have r: ∀p,isin p [d]=false ->ι' p=ι p:=λp J=>jM ι _ (afN J)
 have o: ∀p x,aget (s.place d (.box cs)).pl p=some x ->(p=d /\x= .box cs)\/(p≠d /\ ∃y,aget s.pl p=some y /\x=y.kill [d]):=by
  intro p x j;unfold S.place at j;rw[S.redo_pl]at j;simp only[yR]at j;by_cases ai:d=p
  ·simp_all
  ·rw[if_neg ai]at j;simp only[aget]at j;split at j
   ·cases J:aget s.pl p<;>grind
   ·cases j
 have i: ∀p,p≠d ->isin p [d]=false:=λp J=>by
  grind[yk]
 have aa: ∀x,Owns ι' (s.place d (.box cs)).pl x ->x=b\/Owns ι s.pl x:=by
  rintro x ⟨p,y,h1,h2,h3⟩;rcases o p y h1 with⟨rfl,rfl⟩|⟨J,z,hz,rfl⟩
  ·grind
  ·rw[r p (i p J)]at h3;rw[Pl.live_kill]at h2;exact .inr ⟨p,z,hz,h2,h3⟩
 have ab:zR w w (F'.ok ι s.pl w) (F.ok ι' (s.place d (.box cs)).pl w):=by
  intro x j;refine⟨⟨?_,j.2.1,λho=>?_⟩,rfl⟩
  ·rcases j.1 with h|h|h
   ·exact(l.A x h).1
   ·exact(l.M x h).1.elim (λh=>.inr (.inl h)) (λh=>.inr (.inr h))
   ·exact .inr (.inr (Nat.le_trans l.g.size h))
  ·rcases aa x ho with h|h
   ·grind
   ·exact j.2.2 h
 have hrel:Rel F N ι' (s.place d (.box cs)) a w:=by
  refine⟨by rw[<- l.h];exact hr.room,λk v hv=>?_,λp x j=>?_,?_,?_,hr.defers,?_,hf,hh,hr.few,by rw[<- l.h];exact hr.hdom,λp x g j hg=>?_⟩
  rotate_left 5
  ·rw[<- l.h]at hg;rcases o p x j with⟨rfl,_⟩|⟨J,z,hz,_⟩
   ·rw[hr.h_slot hd]at hg;cases hg
   ·rw[r p (i p J)];exact hr.hkeep p z g hz hg
  ·unfold S.place at hv;rw[S.redo_sl]at hv;cases hk:aget s.sl k with
   |none=>grind
   |some u=>
    rw[hk]at hv;simp at hv;subst hv;obtain⟨x,e1,e2⟩:=hr.slots k u hk<;>grind[VR.kill,yp.refl]
  ·rcases o p x j with⟨rfl,rfl⟩|⟨J,z,hz,rfl⟩
   ·exact⟨b,R,by rw[U],ac,ah _ _ _⟩
   ·exact PR.kill ab (yp.refl w) r p (i p J) z (λ_ _ _=>rfl) (hr.places p z hz)
  ·intro p q x y b' j hy aj hl I hq;rcases o p x j with⟨rfl,rfl⟩|⟨J,z,hz,rfl⟩<;>rcases o q y hy with⟨rfl,rfl⟩|⟨ae,u,T,rfl⟩
   ·grind
   ·rw[U]at I;cases I;rw[r q (i q ae)]at hq;have h:=hr.places q u T;cases u with
    |box cs=>exact P ⟨q,_,T,rfl,hq⟩
    |fbox ds=>obtain⟨ag,e1,e2,_⟩:=h;grind
    |gone=>exact h.elim
    |arr z ak fz=>cases fz with
     |false=>exact P ⟨q,_,T,rfl,hq⟩
     |true=>
      obtain⟨_,_,h|⟨ag,e1,_,e3,_⟩⟩:=h
      ·grind
      grind
   ·rw[U]at hq;cases hq;rw[r p (i p J)]at I;rw[Pl.live_kill]at hl;exact P ⟨p,z,hz,hl,I⟩
   ·rw[r p (i p J)]at I;rw[r q (i q ae)]at hq;rw[Pl.live_kill]at hl;exact hr.inj p q z u b' hz T aj hl I hq
  ·intro x j;rcases aa x j with rfl|h
   ·exact⟨.inr l.b1,Nat.lt_of_lt_of_le l.b2 hr.grows.size⟩
   ·refine⟨?_,(hr.mine x h).2⟩;rcases(hr.mine x h).1 with h|h
    ·exact(l.M x h).1
    ·exact .inr (Nat.le_trans l.g.size h)
  ·refine⟨hr.grows.os.trans l.g.os,hr.grows.tape.trans l.g.tape,hr.grows.output.trans l.g.output,Nat.le_trans l.g.size hr.grows.size,λx j hm=>?_,λc t m h=>hr.grows.shapes c t m (l.g.shapes c t m h)⟩;rw[hr.grows.block x (Nat.lt_of_lt_of_le j l.g.size) (λh=>(l.M x h).1.elim hm (λh=>by omega))];exact l.g.block x j hm
 exact hrel.put (some d) (λk hk=>by grind) _ _ ⟨b,by rw[U],rfl⟩
theorem anc {o:Oper}{cs:List C}(g:cOp P o.op o.type=some (.alloc cs)): ∃t,o.op= .alloc t /\cs=(vP P t).cells:=by
 unfold cOp at g;split at g
 case h_4=>grind
 case h_24=>
  rename_i b args r i I J;cases p:acT b args.toList with
  |some y=>
   grind[acU]
  |none=>
   simp only[p]at g;cases l:UJ P b args.toList r.toList with
   |some y=>simp only[l]at g;cases g;exact absurd rfl ((afy l).2.2 cs)
   |none=>grind
 case h_11=>
  rcases jp g with i|i
  ·cases i
  ·rcases jp i with i|i
   ·cases i
   grind[Vz]
 case h_20=>
  grind[KD]
 case h_25=>
  (repeat' split at g)
  ·cases g
  ·grind[Kl]
  ·rename_i j;cases g;unfold UG at j;grind
  ·rcases jp g with i|i<;>simp_all
 case h_26=>
  (repeat' split at g)
  ·rename_i j;cases g;unfold K5 at j;grind
  ·cases g
 all_goals first
  |(cases g;done)
  |(rcases jp g with i|i<;>(cases i;done);done)
  |(split at g<;>first|(cases g;done)|(rcases jp g with i|i<;>(cases i;done);done))
  |(obtain⟨_,h⟩:=yV g;cases h;done)
  |((repeat' split at g)<;>first|(cases g;done)|(obtain⟨_,h⟩:=yV g;cases h;done))
theorem auj {o:Oper}{cs:List C}(p:cOp P o.op o.type=some (.alloc cs))(hs:solid cs=true):
 ∃t g,(∀ι w ok,CRs ι w ok cs (g:Array Value).toList)/\ ∀(a:Act) (w:World),(execOp a.eval o).run P w= .ok (.value (.pointer (some ⟨w.heap.size,0,none⟩))) (w.alloc (.cells g t)):=by
 obtain⟨t,r,rfl⟩:=anc p;unfold vP at hs⊢;cases j:P.info? t with
 |none=>simp only[j]at hs;cases hs
 |some i=>
  simp only[j]at hs⊢;cases l:i.zero with
  |none=>simp only[l]at hs;cases hs
  |some v=>
   simp only[l]at hs⊢;rw[XV hs];exact⟨t,v.cells,λι w ok=>YX ι w ok v.cells.toList,λa w=>by simp_all[execOp,Instr.alloc,zeroValue,typeInfo,newVar,newRow]⟩
theorem Grows.alloc (w:World)(g:Array Value)(t:TypeId):Grows (λ_=>False) w (w.alloc (.cells g t)):=by
 have h:=NewRow.alloc w g t;exact⟨h.os,h.tape,h.output,by simp_all,λb i _=>h.old i,h.shapes⟩
end
theorem aaq {α:Type}{f:α ->Bool}: ∀{l:List α},aiT f l=true↔ ∃x∈l,f x=true
 | []=>by simp[aiT]
 |x::r=>by
  simp only[aiT,List.mem_cons];cases h:f x
  ·rw[cond_false,aaq];constructor
   ·rintro⟨y,i,g⟩;exact⟨y,.inr i,g⟩
   ·rintro⟨y,rfl|i,g⟩
    ·rw[h]at g;cases g
    ·exact⟨y,i,g⟩
  ·rw[cond_true];exact⟨λ_=>⟨x,.inl rfl,h⟩,λ_=>rfl⟩
theorem un {α:Type}{f:α ->Bool}: ∀{l:List α},Yb f l=true↔ ∀x∈l,f x=true
 | []=>by simp[Yb]
 |x::r=>by
  simp only[Yb,List.mem_cons];cases h:f x
  ·rw[cond_false];exact⟨λg=>(by cases g),λg=>(by have j:=g x (.inl rfl);rw[h]at j;cases j)⟩
  ·rw[cond_true,un];constructor
   ·rintro g y (rfl|i)
    ·exact h
    ·exact g y i
   ·exact λg y i=>g y (.inr i)
theorem acC {j i:Nat}{r:List Nat}(h:j≠i):isin j (i::r)=isin j r:=by
 grind[yk]
theorem uC {n:Nat}{l:List Nat}:isin n l=false↔n∉l:=by
 grind[yk]
section
variable {P:Program}{hs:List Nat}{ops:Array Oper}
theorem asi {o:Oper}{x:AOp}(g:cOp P o.op o.type=some x)(h:Jy P o=1\/Jy P o=2):x.quiet=true /\(Jy P o=1 ->x.reads=false):=by
 grind[Jy]
theorem auy {o:Oper}{x:AOp}(g:cOp P o.op o.type=some x)(h:Jy P o=3):YA x=true:=by
 grind[Jy]
theorem ahf {o:Oper}(h:Jy P o=4): ∃cs d,cOp P o.op o.type=some (.alloc cs)/\solid cs=true /\o.guard=none /\o.dst=some d:=by
 unfold Jy at h;cases T:cOp P o.op o.type with
 |none=>grind
 |some x=>
  rw[T]at h;simp only at h;cases R:x.quiet<;>rw[R]at h
  ·cases r:YA x<;>rw[r]at h
   ·cases i:acA o x<;>rw[i]at h
    ·cases h
    ·unfold acA at i;split at i
     ·rename_i cs;simp only[Bool.and_eq_true,Bool.not_eq_true']at i;obtain⟨⟨l,j⟩,p⟩:=i;obtain⟨d,I⟩:=XF p;refine⟨cs,d,rfl,l,?_,I⟩;cases J:o.guard with
      |none=>rfl
      |some g=>rw[J]at j;cases j
     ·cases i
   ·cases h
  grind
theorem aAb (o:Oper):Jy P o<=4:=by
 grind[Jy]
theorem XE {i:Nat}{o:Oper}(j:ops[i]? =some o):(isin i hs=true /\clsAt P hs ops i=0)\/(isin i hs=false /\clsAt P hs ops i=Jy P o)\/(isin i hs=false /\clsAt P hs ops i=3 /\Jy P o=4):=by
 unfold clsAt;cases isin i hs
 ·cases g:(Nat.beq (Jy P o) 4&&isin 999999 hs)
  ·grind
  simp_all
 grind
theorem jv {i:Nat}{o:Oper}(p:ops[i]? =some o){x:AOp}(j:QR P (isin i hs) o.op o.type=some x)(h:clsAt P hs ops i=1\/clsAt P hs ops i=2):
 cOp P o.op o.type=some x /\x.quiet=true /\(clsAt P hs ops i=1 ->x.reads=false):=by
 rcases XE (P:=P) (hs:=hs) p with⟨_,g⟩|⟨g,l⟩|⟨_,g,_⟩
 ·grind
 ·rw[g]at j;rw[l]at h⊢;exact⟨j,asi j h⟩
 grind
theorem awX {i:Nat}{o:Oper}(p:ops[i]? =some o){x:AOp}(g:QR P (isin i hs) o.op o.type=some x)(h:clsAt P hs ops i=3):cOp P o.op o.type=some x /\(YA x=true\/ ∃cs,x= .alloc cs):=by
 rcases XE (P:=P) (hs:=hs) p with⟨_,j⟩|⟨j,l⟩|⟨j,_,l⟩
 ·grind
 ·rw[j]at g;rw[l]at h;exact⟨g,.inl (auy g h)⟩
 ·rw[j]at g;obtain⟨cs,d,r,_⟩:=ahf l;have g:cOp P o.op o.type=some x:=g
  grind
theorem aux {i:Nat}{o:Oper}(j:ops[i]? =some o)(h:clsAt P hs ops i=4): ∃cs d,cOp P o.op o.type=some (.alloc cs)/\solid cs=true /\o.guard=none /\o.dst=some d:=by
 rcases XE (P:=P) (hs:=hs) j with⟨_,g⟩|⟨_,l⟩|⟨_,g,_⟩
 ·grind
 ·grind[ahf]
 grind
theorem ahg {i:Nat}{o:Oper}(j:ops[i]? =some o):clsAt P hs ops i<=4:=by
 rcases XE (P:=P) (hs:=hs) j with⟨_,g⟩|⟨_,l⟩|⟨_,g,_⟩
 ·simp_all
 ·grind[aAb]
 grind
theorem Qn {N:Nat}{gs:List Nat}{i:Nat}{l:List Nat}{xs:List AI}(j:Xk P N hs ops.toList gs (i::l)=some (xs.map AI.erase)):
 ∃o x g drop rest,xs= .mk o.dst g (isin i gs) x drop::rest /\ops[i]? =some o /\(∀k,o.dst=some k ->k<N)/\QR P (isin i hs) o.op o.type=some x /\Yt ops.toList o.guard=some g /\
  Xk P N hs ops.toList gs l=some (rest.map AI.erase):=by
 simp only[Xk]at j;split at j
 case h_2=>cases j
 rename_i o ho;have I:ops[i]? =some o:=by grind
 cases r:amM N o.dst with
 |false=>grind
 |true=>
  rw[r]at j;simp only[cond_true]at j;split at j
  case h_2=>cases j
  rename_i x g ys J hg R;cases xs with
  |nil=>grind
  |cons y rest=>
   cases y with
   |mk U g1 p T drop=>
    simp only[Option.some.injEq,List.map_cons,AI.erase,List.cons.injEq,AI.mk.injEq,and_true]at j;obtain⟨⟨rfl,rfl,rfl,rfl⟩,rfl⟩:=j
    grind[auI]
theorem afA {N:Nat}{gs:List Nat}: ∀{l:List Nat}{xs:List AI},Xk P N hs ops.toList gs l=some (xs.map AI.erase) -> ∀i∈l,∃o x,ops[i]? =some o /\QR P (isin i hs) o.op o.type=some x
 | [],_,_,i,p=>by cases p
 |j::l,xs,h,i,p=>by
  obtain⟨o,x,g,drop,rest,rfl,r,R,I,T,J⟩:=Qn h;rcases List.mem_cons.1 p with rfl|p
  ·exact⟨o,x,r,I⟩
  ·exact afA J i p
def Zi (ops:Array Oper)(g:Array Bool)(rest:List Nat)(hid:Nat ->Bool):Prop:=
 g.size=ops.size /\ ∀j,j<ops.size ->g[j]? =some (!isin j rest||hid j)
theorem Zi.step {g:Array Bool}{i:Nat}{r:List Nat}{hid:Nat ->Bool}(h:Zi ops g (i::r) hid)(o:i∉r):Zi ops (g.setIfInBounds i true) r hid:=by
 refine⟨by simp[h.1],λj l=>?_⟩;rw[Array.getElem?_setIfInBounds];split
 ·rename_i e;subst e;rw[if_pos (by rw[h.1];exact l),uC.2 o];rfl
 ·rename_i p;rw[h.2 j l];simp_all[acC,Ne.symm]
theorem Zi.hide {g:Array Bool}{k:Nat}{rest:List Nat}(h:Zi ops g rest (λ_=>false)):Zi ops (g.setIfInBounds k true) rest (λj=>Nat.beq j k):=by
 refine⟨by simp[h.1],λj i=>?_⟩;rw[Array.getElem?_setIfInBounds];split
 ·rename_i e;subst e;rw[if_pos (by rw[h.1];exact i)];simp
 ·rename_i l;rw[h.2 j i];simp_all[Ne.symm]
theorem Zi.show {g:Array Bool}{k:Nat}{r:List Nat}(h:Zi ops g (k::r) (λj=>Nat.beq j k))(hk:k∉r):Zi ops g r (λ_=>false):=by
 refine⟨h.1,λj l=>?_⟩;rw[h.2 j l];by_cases i:j=k
 ·subst i;rw[uC.2 hk];simp
 grind[qD,acC]
theorem Zi.ready_in {g:Array Bool}{rest:List Nat}{hid:Nat ->Bool}(h:Zi ops g rest hid){j:Nat}(l:j∈Region.ready .any ops g):j∈rest /\hid j=false:=by
 obtain⟨h0,o,p,_⟩:=mem_ready.1 l;have i:j<ops.size:=(Array.getElem?_eq_some_iff.1 p).1;have:=h.2 j i<;>simp_all[yk]
theorem Zi.unlisted {g:Array Bool}{rest:List Nat}{hid:Nat ->Bool}(h:Zi ops g rest hid){j:Nat}(l:g.getD j false=true)(hr:j∈rest):hid j=true:=by
 rw[Array.getD_eq_getD_getElem?]at l;cases o:g[j]? with
 |none=>grind
 |some b=>
  have i:j<ops.size:=by rw[<- h.1];grind
  rw[h.2 j i,(yk _ _).2 hr]at l
  grind
theorem kB {g:Array Bool}{j:Nat}(r:j∈Region.ready .any ops g){f:Nat ->Bool}(i:waitsFor ops j f=true): ∃n,f n=true /\g.getD n false=true:=by
 obtain⟨_,o,I,l⟩:=mem_ready.1 r;unfold waitsFor at i;rw[I]at i;obtain⟨e,J,p⟩:=aaq.1 i;rw[Bool.and_eq_true]at p
 grind
theorem anR (i:Nat): ∀(r T:List Nat),∀j∈depsL P hs ops i r T,j∈T\/(j∈r /\clsAt P hs ops j≠4)
 | [],_,_,g=>.inl g
 |m::r,T,j,g=>by
  simp only[depsL]at g;rcases anR i r _ j g with h|h
  ·cases l:(!Nat.beq (clsAt P hs ops m) 4&&waitsFor ops m (λn=>Nat.beq n i||isin n T))with
   |false=>grind
   |true=>
    rw[l]at h;rw[Bool.and_eq_true]at l;rcases List.mem_cons.1 h with rfl|h
    ·exact .inr ⟨List.mem_cons_self,λe=>by simp_all⟩
    grind
  grind
theorem aaA (i:Nat): ∀(r T:List Nat),(∀j∈T,∃f:Nat ->Bool,waitsFor ops j f=true /\ ∀n,f n=true ->n=i\/n∈T) -> ∀j∈depsL P hs ops i r T,∃f:Nat ->Bool,waitsFor ops j f=true /\ ∀n,f n=true ->n=i\/n∈depsL P hs ops i r T
 | [],_,h,j,g=>h j g
 |m::r,T,h,j,g=>by
  simp only[depsL]at g⊢;cases l:(!Nat.beq (clsAt P hs ops m) 4&&waitsFor ops m (λn=>Nat.beq n i||isin n T))with
  |false=>rw[l]at g;exact aaA i r T h j g
  |true=>
   rw[l]at g;refine aaA i r (m::T) ?_ j g;intro k hk;rcases List.mem_cons.1 hk with rfl|hk
   ·rw[Bool.and_eq_true]at l;refine⟨_,l.2,λn o=>?_⟩;rw[Bool.or_eq_true]at o
    grind[Nat.eq_of_beq_eq_true,yk]
   grind
theorem atW {j:Nat}{i:Oper}(g:ops[j]? =some i){f:Nat ->Bool}(h:waitsFor ops j f=true): ∃e∈i.after,Region.binds .any e=true /\f e.on=true:=by
 unfold waitsFor at h;rw[g]at h;obtain⟨e,o,l⟩:=aaq.1 h;rw[Bool.and_eq_true]at l
 grind
theorem acr (i:Nat)(r:List Nat): ∀j∈depsL P hs ops i r [],∀g,ops[j]? =some g -> ∃e∈g.after,Region.binds .any e=true /\(e.on=i\/e.on∈depsL P hs ops i r []):=by
 grind[aaA,atW]
structure Front (P:Program)(hs:List Nat)(ops:Array Oper)(o:Oper)(i:Nat)(r:List Nat):Prop where
 nin:i∉r
 pre: ∀e∈o.after,Region.binds .any e=true ->e.on<ops.size /\e.on∉i::r
 sep: ∀j∈r,clsAt P hs ops j=4 -> ∀d,dstOf ops j=some d ->d∉o.looksAt ops /\o.dst≠some d
 quiet:(clsAt P hs ops i=1\/clsAt P hs ops i=2) -> ∀j∈r,j∈depsL P hs ops i r []\/ ∀oj,ops[j]? =some oj ->Apart ops o oj /\(clsAt P hs ops i=1\/1<=clsAt P hs ops j)
 heavy: ¬(clsAt P hs ops i=1\/clsAt P hs ops i=2) -> ∀j∈r,clsAt P hs ops j=4\/waitsFor ops j (λn=>isin n (i::r)&&(Nat.beq n i|| !Nat.beq (clsAt P hs ops n) 4))=true
theorem adw {d:Tmp}{o:Oper}(h:aty ops (some d) o=true):d∉o.looksAt ops /\o.dst≠some d:=by
 simp only[aty,Bool.and_eq_true,Bool.not_eq_true']at h;refine⟨uC.1 h.1,λg=>?_⟩
 grind[uq]
theorem ap0 {x y:Oper}(h:ang ops x y=true):Apart ops x y:=by
 unfold ang at h;rw[Bool.and_eq_true]at h;refine⟨λd g=>?_,λd g=>?_,λd g=>?_⟩
 ·grind[adw]
 ·rw[g]at h;exact(adw h.1).2
 ·rw[g]at h;simpa using uC.1 (by grind)
theorem ahx {i:Nat}{r:List Nat}{o:Oper}(U:ops[i]? =some o)(h:Kp P hs ops i r=true):Front P hs ops o i r:=by
 unfold Kp at h;rw[U]at h;simp only[Bool.and_eq_true,Bool.not_eq_true']at h;obtain⟨⟨⟨I,J⟩,R⟩,p⟩:=h;refine⟨uC.1 I,λe T g=>?_,λj l hc d hd=>?_,λhq j l=>?_,λhq j l=>?_⟩
 ·have:=un.1 J e (Array.mem_toList_iff.2 T);rw[g]at this;simp only[Bool.not_true,Bool.false_or,Bool.and_eq_true,Bool.not_eq_true']at this;exact⟨Nat.le_of_ble_eq_true this.1,uC.1 this.2⟩
 ·have:=un.1 R j l<;>grind[uq,adw]
 ·have g:(Nat.beq (clsAt P hs ops i) 1||Nat.beq (clsAt P hs ops i) 2)=true:=by
   simp_all
  rw[g,cond_true]at p;have:=un.1 p j l;rw[Bool.or_eq_true]at this;refine this.imp (yk _ _).1 λh5 oj aa=>?_
  simp_all[aqW,ap0]
 ·have g:(Nat.beq (clsAt P hs ops i) 1||Nat.beq (clsAt P hs ops i) 2)=false:=by
   grind[qD]
  rw[g,cond_false]at p;have:=un.1 p j l<;>simp_all
theorem as2 {i:Nat}{r:List Nat}(h:aaX P hs ops (i::r)=true):Kp P hs ops i r=true /\aaX P hs ops r=true:=by
 grind[aaX]
theorem afH: ∀{l:List Nat},VA P hs ops l=true -> ∀j k,j∈l ->k∈l ->clsAt P hs ops j=4 ->clsAt P hs ops k=4 ->j=k
 | [],_,j,k,g,_,_,_=>by cases g
 |i::r,h,j,k,g,hk,p,I=>by
  simp only[VA]at h;cases J:Nat.beq (clsAt P hs ops i) 4 with
  |true=>
   rw[J,cond_true]at h;have none: ∀m∈r,clsAt P hs ops m≠4:=λm T R=>by
    have:=un.1 h m T<;>simp_all
   grind
  |false=>
   rw[J,cond_false]at h;have o:clsAt P hs ops i≠4:=λR=>by simp_all
   rcases List.mem_cons.1 g with rfl|g
   ·exact absurd p o
   ·rcases List.mem_cons.1 hk with rfl|hk
    ·exact absurd I o
    ·exact afH h j k g hk p I
end
section
variable {P:Program}{hs:List Nat}{ops:Array Oper}{N:Nat}{gs:List Nat}{Q:Exit ->Act ->World ->Prop}{K:S ->Prop}
theorem UU {F:Fr}{ι:Nat ->Gh}{s:S}{a:Act}{w:World}(hr:Rel F N ι s a w){o:Oper}(j: ∀k,o.dst=some k ->k<N){x:AOp}(hx:cOp P o.op o.type=some x)(hq:x.quiet=true)
 {g:Option (Nat×Bool)}(hg:Yt ops.toList o.guard=some g) {p:Bool}{drop:List Nat}{rest:List AI}(h:yh P (.mk o.dst g p x drop::rest) s K):
 ∃v ι' r,YC P ops (Cw x w) o v a /\Rel F N ι' r (a.put o.dst v) w /\yh P rest r K:=by
 rcases abg hr hg h with⟨l,i⟩|⟨l,i⟩
 ·obtain⟨v,ι',s1,I,J,R⟩:=ar6 hr j hx hq i;obtain⟨s2,T,U⟩:=XM J j R;exact⟨v,ι',_,.inl ⟨l,I⟩,T.drop drop,U⟩
 ·exact⟨undef,ι,_,.inr ⟨l,rfl⟩,(hr.put o.dst j wx undef (afu _ _ _)).drop drop,i⟩
theorem UO {F:Fr}{ι:Nat ->Gh}{s:S}{a:Act}{w:World}(hr:Rel F N ι s a w){i:Nat}{o:Oper}(ho:ops[i]? =some o)(r: ∀k,o.dst=some k ->k<N){x:AOp}(hx:QR P (isin i hs) o.op o.type=some x)
 (p:clsAt P hs ops i=0\/clsAt P hs ops i=3) {g:Option (Nat×Bool)}(hg:Yt ops.toList o.guard=some g) {l:Bool}{drop:List Nat}{rest:List AI}(h:yh P (.mk o.dst g l x drop::rest) s K)
 {next:Act ->World ->Prop}(U: ∀ι s' a' w',Rel F N ι s' a' w' ->yh P rest s' K ->(1<=clsAt P hs ops i ->uN w w') ->next a' w'):wpOp P ops Q i next a w:=by
 unfold wpOp;simp only[ho];rcases abg hr hg h with⟨hw,J⟩|⟨hw,J⟩
 ·rw[if_pos hw];refine .inl ?_;rcases p with p|p
  ·refine akt hr r ⟨_,hx⟩ J _ _ λι1 s1 I w1 j hk=>?_
   obtain⟨s2,R,T⟩:=XM j r hk;exact U ι1 _ I w1 (R.drop drop) T (λh=>by grind)
  ·obtain⟨aa,ab⟩:=awX ho hx p;have hX:uy P F N o a w (λs1=>split l o.dst s1 λs2=>yh P rest (s2.drop drop) K):=by
    grind[ar7,anc,afj]
   refine hX _ _ λι1 s1 I w1 j hk he=>?_
   obtain⟨s2,R,T⟩:=XM j r hk;exact U ι1 _ I w1 (R.drop drop) T (λ_=>he)
 ·rw[if_neg (by grind)];exact U ι _ _ w ((hr.put o.dst r wx undef (afu _ _ _)).drop drop) J (λ_=>uN.refl w)
structure Hid (P:Program)(hs:List Nat)(ops:Array Oper)(F F':Fr)(k d b:Nat):Prop where
 cl:clsAt P hs ops k=4
 dst:dstOf ops k=some d
 under:Under F F' b
 row: ∃o cs cur,ops[k]? =some o /\o.guard=none /\cOp P o.op o.type=some (.alloc cs)/\solid cs=true /\RowAt F'.w0 b cur /\ ∀ι w ok,CRs ι w ok cs (cur:Array Value).toList
def aoQ (b:Nat):Value:=.pointer (some ⟨b,0,none⟩)
theorem kl {g:Array Bool}{i:Nat}{r:List Nat}{hid:Nat ->Bool}{o:Oper}(l:Zi ops g (i::r) hid)(p:ops[i]? =some o)(U:Front P hs ops o i r)(hh:hid i=false):i∈Region.ready .any ops g:=by
 have j:i<ops.size:=(Array.getElem?_eq_some_iff.1 p).1;refine mem_ready.2 ⟨?_,o,p,λe T R=>?_⟩
 ·rw[Array.getD_eq_getD_getElem?,l.2 i j,(yk _ _).2 (List.mem_cons_self),hh];rfl
 ·obtain⟨I,J⟩:=U.pre e T R;rw[Array.getD_eq_getD_getElem?,l.2 e.on I,uC.2 J];rfl
theorem aa5 {g:Array Bool}{i:Nat}{r:List Nat}{hid:Nat ->Bool}{o:Oper}{x:AOp}{w:World}(hl:Zi ops g (i::r) hid)(ho:ops[i]? =some o)(hx:QR P (isin i hs) o.op o.type=some x)(hf:Front P hs ops o i r)(T:clsAt P hs ops i=1\/clsAt P hs ops i=2):
 ∀j p,ops[j]? =some p ->j≠i ->g.getD j true=false ->j∉depsL P hs ops i r [] ->Apart ops o p /\((∀w',Cw x w w')\/1<=clsAt P hs ops j):=by
 intro j p l aa R ab;have J:j<ops.size:=(Array.getElem?_eq_some_iff.1 l).1;have I:j∈r:=by
  rw[Array.getD_eq_getD_getElem?,hl.2 j J]at R
  grind[yk]
 rcases hf.quiet T j I with h|h
 ·grind
 ·obtain⟨U,h2⟩:=h p l;refine⟨U,h2.imp (λh w' hr=>?_) id⟩;rw[(jv ho hx T).2.2 h]at hr;cases hr
theorem V4 {g:Array Bool}{i:Nat}{r:List Nat}{hid:Nat ->Bool}(I:Zi ops g (i::r) hid)(R: ∀j,j∈r ->clsAt P hs ops j≠4 ->hid j=false): ∀j∈depsL P hs ops i r [],g.getD j false=false:=by
 intro j p;rcases anR i r [] j p with h|⟨l,J⟩
 ·cases h
 ·cases o:g.getD j false with
  |false=>rfl
  |true=>
   have:=I.unlisted o (List.mem_cons_of_mem _ l)
   grind
theorem Cw.ext (x:AOp)(w:World): ∀w' g,Cw x w w' ->uN w' g ->Cw x w g:=λ_ _ h k hr=>(h hr).trans k
theorem Cw.refl (x:AOp)(w:World):Cw x w w:=λ_=>uN.refl w
theorem aku {F:Fr}(hf: ∀x,F.A x ->x<F.w0.heap.size /\ ¬F.M x)(hh:(∀x,F.M x ->x<F.w0.heap.size)/\Glb F.A F.w0)
 (a3: ∀ι s a w,Rel F N ι s a w ->K s ->Q .normal a w) (al: ∀c a w,¬Q (.panic c) a w) (ac: ∀(j:Nat) (o:Oper) cs b,ops[j]? =some o ->o.op≠ .select cs b)
 (a2:List Nat) (ai: ∀j k,j∈a2 ->k∈a2 ->clsAt P hs ops j=4 ->clsAt P hs ops k=4 ->j=k):
 ∀(rest:List Nat),(∀j∈rest,j∈a2) ->aaX P hs ops rest=true -> ∀xs,Xk P N hs ops.toList gs rest=some (xs.map AI.erase) ->
  (∀(k d b:Nat) (F':Fr) (p:Nat) (l:Array Bool) (ι:Nat ->Gh) (s:S) (a:Act) (w:World),k∈rest ->Hid P hs ops F F' k d b ->Zi ops l rest (λj=>Nat.beq j k) ->rest.length<=p+1 ->
   Rel F' N ι s a w ->yh P xs s K ->Z3 P hs ops Q p l (a.put (some d) (aoQ b)) w)/\
  (∀(p:Nat) (l:Array Bool) (ι:Nat ->Gh) (s:S) (a:Act) (w:World),Zi ops l rest (λ_=>false) ->rest.length<=p ->
   Rel F N ι s a w ->yh P xs s K ->Z3 P hs ops Q p l a w):=by
 intro rest;induction rest with
 |nil=>
  intro _ _ xs bc;cases xs with
  |cons x r=>grind[Xk]
  |nil=>
   refine⟨λk d b F' p l ι s a w hk=>(by cases hk),λp l ι s a w T _ hr h=>?_⟩;have bi:Region.ready .any ops l=[]:=by
    cases bt:Region.ready .any ops l with
    |nil=>rfl
    |cons j js=>have:=(T.ready_in (j:=j) (by grind)).1;cases this
   cases p with
   |zero=>exact⟨bi,a3 ι s a w hr h⟩
   |succ p=>exact⟨λ_=>a3 ι s a w hr h,λi hi=>by grind⟩
 |cons i r ih=>
  intro aa bj xs bc;obtain⟨be,a8⟩:=as2 bj;obtain⟨o,x,g,drop,rest,rfl,J,hd,hx,hg,a0⟩:=Qn bc;have hF:=ahx J be;obtain⟨bu,bp⟩:=ih (λj hj=>aa j (List.mem_cons_of_mem _ hj)) a8 rest a0
  have P2: ∀(k d b:Nat) (F':Fr) (p:Nat) (l:Array Bool) (ι:Nat ->Gh) (s:S) (a:Act) (w:World),k∈i::r ->Hid P hs ops F F' k d b ->Zi ops l (i::r) (λj=>Nat.beq j k) ->(i::r).length<=p+1 ->
   Rel F' N ι s a w ->yh P (.mk o.dst g (isin i gs) x drop::rest) s K ->Z3 P hs ops Q p l (a.put (some d) (aoQ b)) w:=by
   intro k d b F' p l ι s a w hk I T af hr h;by_cases ag:i=k
   ·
    subst ag;obtain⟨o',cs,aj,a7,ao,R,ad,a9,an⟩:=I.row;rw[J]at a7;cases a7;have bn:cOp P o.op o.type=some x:=by
     rcases XE (P:=P) (hs:=hs) J with⟨_,h1⟩|⟨h1,_⟩|⟨_,h1,_⟩
     ·rw[I.cl]at h1;cases h1
     ·rw[h1]at hx;exact hx
     ·rw[I.cl]at h1;cases h1
    rw[bn]at R;cases R;rw[ao]at hg;simp only[Yt,Option.some.injEq]at hg;subst hg;have ab:o.dst=some d:=by have:=I.dst;grind[dstOf]
    rw[ab]at h;simp only[yh,z8,ad,cond_true]at h;obtain⟨s2,h5,h6⟩:=XM (hr.unhide I.under hf hh a9 an (hd d ab)) (λk hk=>by grind) h;rw[xJ]at h6;exact bp p l _ _ _ w (T.show hF.nin) (by grind) (h5.drop drop) h6
   ·have a5:k∈r:=(List.mem_cons.1 hk).resolve_left (λh=>ag h.symm);have bd:dstOf ops k=some d:=I.dst;obtain⟨bb,bl⟩:=hF.sep k a5 I.cl d bd;have ar:i∈Region.ready .any ops l:=kl T J hF (qD ag);have bq:1<=r.length:=List.length_pos_of_mem a5;obtain⟨f,rfl⟩: ∃f,p=f+1:=⟨p - 1,by grind⟩;have bf:=T.step hF.nin;have ak:r.length<=f+1:=by grind
    by_cases hc:clsAt P hs ops i=1\/clsAt P hs ops i=2
    ·obtain⟨v,ι',s',hy,az,h'⟩:=UU hr hd (jv J hx hc).1 (jv J hx hc).2.1 hg h;have bo:YC P ops (Cw x w) o v (a.put (some d) (aoQ b)):=
      hy.of_same (execOp_put o (λcs b=>ac i o cs b J) a (some d) (aoQ b) (λe he=>by cases he;exact bb)) (wanted_put o a (some d) (aoQ b) (λe he=>by grind))
     refine JZ J ac al (Cw.ext x w) (depsL P hs ops i r []) (acr i r) f l _ w (Cw.refl x w) (V4 T (λj _ h4=>qD (λe=>h4 (by rw[e];exact I.cl)))) (aa5 T J hx hF hc) ar bo ?_
     grind[Go.Act.put_comm]
    ·have bs:clsAt P hs ops i≠4:=λe=>ag (ai i k (aa i List.mem_cons_self) (aa k hk) e I.cl)
     have ae:clsAt P hs ops i=0\/clsAt P hs ops i=3:=by grind[ahg]
     refine⟨λhe=>(by grind),λj hj=>?_⟩;obtain⟨ah,a4⟩:=T.ready_in hj;have av:j=i:=by
      rcases List.mem_cons.1 ah with h|aw
      ·exact h
      ·rcases hF.heavy hc j aw with h4|hw
       ·have:=ai j k (aa j ah) (aa k hk) h4 I.cl;subst this;simp at a4
       ·obtain⟨n,U,ax⟩:=kB hj hw;rw[Bool.and_eq_true]at U;have bh:=Nat.eq_of_beq_eq_true (T.unlisted ax ((yk _ _).1 U.1));subst bh;rw[I.cl]at U;have bg:n≠i:=λe=>ag e.symm
        rw[qD bg]at U;cases U.2
     subst av;refine aqN J bb bl (λcs b=>ac j o cs b J) al ?_;refine UO hr J hd hx ae hg h λι1 s1 a1 w1 bk h1 he=>⟨he,?_⟩
     grind
  refine⟨P2,λp l ι s a w T af hr h=>?_⟩;have ar:i∈Region.ready .any ops l:=kl T J hF rfl;obtain⟨f,rfl⟩: ∃f,p=f+1:=⟨p - 1,by grind⟩;have bf:=T.step hF.nin;have ak:r.length<=f:=by grind
  by_cases hc:clsAt P hs ops i=1\/clsAt P hs ops i=2
  ·obtain⟨v,ι',s',hy,az,h'⟩:=UU hr hd (jv J hx hc).1 (jv J hx hc).2.1 hg h;refine JZ J ac al (Cw.ext x w) (depsL P hs ops i r []) (acr i r) f l _ w (Cw.refl x w) (V4 T (λ_ _ _=>rfl)) (aa5 T J hx hF hc) ar hy ?_
   grind
  ·refine⟨λhe=>(by grind),λj hj=>?_⟩;obtain⟨ah,a4⟩:=T.ready_in hj;by_cases au:clsAt P hs ops j=4
   ·
    obtain⟨_,oj,ay,_⟩:=mem_ready.1 hj;obtain⟨cs,d,R,ad,ao,ab⟩:=aux ay au;obtain⟨t,aj,an,ba⟩:=auj R ad;have a6:=NewRow.alloc w aj t;have aq:=Grows.alloc w aj t;obtain⟨F',hu,bm,az⟩:=hr.hide aq (by rw[a6.size];omega);unfold wpOp;simp only[ay];rw[if_pos (by grind[Region.wanted])];refine .inl ?_;unfold Oper.wp;rw[ba a w,Oper.upon_value,ab];refine⟨λ_=>⟨aq.size,λb hb=>aq.block b hb (λh=>h)⟩,?_⟩;exact P2 j d w.heap.size F' f _ ι s a _ ah ⟨au,by grind[dstOf],hu,oj,cs,aj,ay,ao,R,ad,by rw[bm];exact⟨t,a6.new⟩,an⟩ T.hide af az h
   ·have av:j=i:=by
     rcases List.mem_cons.1 ah with h|aw
     ·exact h
     ·rcases hF.heavy hc j aw with h4|hw
      ·exact absurd h4 au
      ·obtain⟨n,U,ax⟩:=kB hj hw;rw[Bool.and_eq_true]at U;have:=T.unlisted ax ((yk _ _).1 U.1);cases this
    subst av;have ae:clsAt P hs ops j=0\/clsAt P hs ops j=3:=by have:=ahg (P:=P) (hs:=hs) J;omega
    refine UO hr J hd hx ae hg h λι1 s1 a1 w1 bk h1 he=>⟨he,?_⟩
    grind
theorem abz {g:List Nat}(h:acW P hs ops g=true):P.follows .mixedOrders=true /\(∀i,i<ops.size ->i∈g)/\g.length<=ops.size /\VA P hs ops g=true /\aaX P hs ops g=true:=by
 unfold acW at h;simp only[Bool.and_eq_true]at h;obtain⟨⟨⟨⟨j,l⟩,o⟩,p⟩,r⟩:=h;refine⟨j,λi I=>?_,Nat.le_of_ble_eq_true o,p,r⟩;have:=un.1 l i (by grind[VT])
 grind[yk]
theorem asw {F:Fr}{ords:List (Nat×List Nat)}{id:Nat}{xs:List AI}(g:Yu P N ords id ops true=some (.reg (xs.map AI.erase))){QE:E ->S ->Prop}{ι:Nat ->Gh}{s:S}{a:Act}{w:World}
 (hr:Rel F N ι s a w) (h:Xh P (.reg xs) QE s):(Code.region id ops true).wp P (up F N QE) a w:=by
 simp only[Yu]at g;split at g
 ·split at g
  ·rcases jp g with h|h<;>simp_all
  ·cases g
 split at g
 case h_2=>cases g
 rename_i i _;cases r:acW P (wE ords id) ops i with
 |false=>grind
 |true=>
  rw[r]at g;simp only[cond_true,Option.map_eq_some_iff,ACode.reg.injEq]at g;obtain⟨ys,l,rfl⟩:=g;obtain⟨h1,h2,h3,h4,h5⟩:=abz r;refine wp_region_any h1 (U1 (hs:=wE ords id) _ _ _ _ ?_);have I: ∀(j:Nat) (o:Oper) cs b,ops[j]? =some o ->o.op≠ .select cs b:=by
   intro j o cs b U he;have J:j<ops.size:=(Array.getElem?_eq_some_iff.1 U).1;obtain⟨o',x,p,T⟩:=afA l j (h2 j J);rw[U]at p;cases p;rw[he]at T;cases hb:isin j (wE ords id)<;>rw[hb]at T<;>cases T
  have R:Rel F N ι s a {w with drawn:=w.drawn+1}:=hr.grown ⟨rfl,rfl,⟨rfl,Nat.le_succ _⟩,Nat.le_refl _,λ_ _ _=>rfl,λ_ _ _ h=>h⟩;refine(aku (F:=F) (hs:=wE ords id) (K:=QE .normal) (Q:=up F N QE) (gs:=uJ ops.toList) hr.foreign hr.handed (λι s a w hr hk=>⟨ι,s,hr,hk⟩) (λc a w h=>h) I i (afH h4) i (λ_ h=>h) h5 xs l).2 ops.size _ ι s a _ ?_ h3 R h;refine⟨by simp,λj hj=>?_⟩
  grind[yk]
end
section
variable {P:Program}{hs:List Nat}{ops:Array Oper}{N:Nat}{gs:List Nat}{Q:Exit ->Act ->World ->Prop}
theorem YD {i j:Nat}: ∀{l:List Nat},isin j (XL i l)=(isin j l&& !Nat.beq j i)
 | []=>rfl
 |x::r=>by
  have o:=YD (i:=i) (j:=j) (l:=r);have p: ∀a b:Nat,(Nat.beq a b=true)=(a=b):=λa b=>propext ⟨Nat.eq_of_beq_eq_true,λh=>by grind[uq]⟩
  by_cases g:x=i
  ·subst g;simp only[XL,uq,cond_true,o,isin]
   grind
  ·simp only[XL,qD g,cond_false,isin,o];by_cases I:x=j<;>simp_all[qD]
theorem ajN {i:Nat}: ∀{l:List Nat},(XL i l).length<=l.length /\(isin i l=true ->(XL i l).length<l.length)
 | []=>⟨Nat.le_refl _,λh=>by cases h⟩
 |x::r=>by
  have j:=ajN (i:=i) (l:=r);by_cases g:x=i
  ·subst g;simp only[XL,uq,cond_true,List.length_cons]
   grind
  simp_all[XL,qD,isin]
theorem Zi.congr {g:Array Bool}{r i:List Nat}{hid:Nat ->Bool}(h:Zi ops g r hid)(e: ∀j,isin j r=isin j i):Zi ops g i hid:=
 ⟨h.1,λj l=>by rw[<- e j];exact h.2 j l⟩
theorem V8 {i:Nat}{rest:List Nat}(h:isin i rest=true)(j:Nat):isin j rest=isin j (i::XL i rest):=by
 grind[isin,YD,qD]
def arW (P:Program)(hs:List Nat)(ops:Array Oper)(Q:Exit ->Act ->World ->Prop)(F:Fr)(N:Nat)(rest:List Nat)(K:S ->Prop):Prop:=
 ∀(i:Nat) (g:Array Bool) (ι:Nat ->Gh) (s:S) (a:Act) (w:World),Zi ops g rest (λ_=>false) ->rest.length<=i ->Rel F N ι s a w ->K s ->Z3 P hs ops Q i g a w
theorem asC {F:Fr}(aa: ∀c a w,¬Q (.panic c) a w)(U: ∀(j:Nat) (o:Oper) cs b,ops[j]? =some o ->o.op≠ .select cs b)
 {i:Nat}{r:List Nat}(ab:Kp P hs ops i r=true) (ag: ∀j∈i::r,clsAt P hs ops j≠4) {o:Oper}(p:ops[i]? =some o) (hd: ∀k,o.dst=some k ->k<N) {x:AOp}(hx:QR P (isin i hs) o.op o.type=some x)
 {g:Option (Nat×Bool)}(hg:Yt ops.toList o.guard=some g) {ai:Bool}{drop:List Nat}{rest:List AI}{K:S ->Prop}
 {f:Nat}{l:Array Bool}{ι:Nat ->Gh}{s:S}{a:Act}{w:World}(R:Zi ops l (i::r) (λ_=>false)) (hr:Rel F N ι s a w) (h:yh P (.mk o.dst g ai x drop::rest) s K)
 (hn: ∀ι' s' a' w',Rel F N ι' s' a' w' ->yh P rest s' K ->Z3 P hs ops Q f (l.setIfInBounds i true) a' w'):Z3 P hs ops Q (f+1) l a w:=by
 have hF:=ahx p ab;have ac:i∈Region.ready .any ops l:=kl R p hF rfl;by_cases hc:clsAt P hs ops i=1\/clsAt P hs ops i=2
 ·obtain⟨v,ι',s',hy,al,h'⟩:=UU hr hd (jv p hx hc).1 (jv p hx hc).2.1 hg h;refine JZ p U aa (Cw.ext x w) (depsL P hs ops i r []) (acr i r) f l _ w (Cw.refl x w) (V4 R (λ_ _ _=>rfl)) (aa5 R p hx hF hc) ac hy ?_
  grind
 ·refine⟨λhe=>(by grind),λj hj=>?_⟩;obtain⟨J,aj⟩:=R.ready_in hj;have ak:=ag j J;have ad:j=i:=by
   rcases List.mem_cons.1 J with h|ae
   ·exact h
   ·rcases hF.heavy hc j ae with h4|hw
    ·grind
    ·obtain⟨n,T,af⟩:=kB hj hw;rw[Bool.and_eq_true]at T;have:=R.unlisted af ((yk _ _).1 T.1);cases this
  subst ad;have I:clsAt P hs ops j=0\/clsAt P hs ops j=3:=by grind[ahg]
  exact UO hr p hd hx I hg h λι1 s1 a1 w1 ah h1 he=>⟨he,hn ι1 s1 a1 w1 ah h1⟩
theorem awC {F:Fr}{i:Nat}(aa:clsAt P hs ops i≠4){o:Oper}(p:ops[i]? =some o)(hd: ∀k,o.dst=some k ->k<N){x:AOp}(R:QR P (isin i hs) o.op o.type=some x)
 {g:Option (Nat×Bool)}(hg:Yt ops.toList o.guard=some g) {T:Bool}{drop:List Nat}{rest:List AI}{K:S ->Prop}
 {ι:Nat ->Gh}{s:S}{a:Act}{w:World}(hr:Rel F N ι s a w) (h:yh P (.mk o.dst g T x drop::rest) s K) {next:Act ->World ->Prop}
 (hn: ∀ι' r l w',Rel F N ι' r l w' ->yh P rest r K ->next l w'):wpOp P ops Q i (λl w'=>(1<=clsAt P hs ops i ->uN w w')/\next l w') a w:=by
 by_cases U:clsAt P hs ops i=1\/clsAt P hs ops i=2
 ·obtain⟨v,ι',r,hy,I,h'⟩:=UU hr hd (jv p R U).1 (jv p R U).2.1 hg h;exact hy.wpOp p (Cw.refl x w) ⟨λ_=>uN.refl w,hn ι' r _ w I h'⟩
 ·have j:clsAt P hs ops i=0\/clsAt P hs ops i=3:=by grind[ahg]
  exact UO hr p hd R j hg h λι1 s1 a1 w1 J h1 he=>⟨he,hn ι1 s1 a1 w1 J h1⟩
theorem ao5 {F:Fr}(ae: ∀c a w,¬Q (.panic c) a w)(ab: ∀(j:Nat) (o:Oper) cs b,ops[j]? =some o ->o.op≠ .select cs b)(ak: ∀j,isin j (yg 0 ops.size)=true ->clsAt P hs ops j≠4){K:S ->Prop}{f:List Nat ->Bool}
 (hf: ∀rest,f rest=true ->(∀j,isin j rest=true ->clsAt P hs ops j≠4) ->arW P hs ops Q F N rest K):
 ∀(l rest:List Nat),aaY P hs ops l rest f=true ->(∀j,isin j rest=true ->clsAt P hs ops j≠4) -> ∀xs,Xk P N hs ops.toList gs l=some (xs.map AI.erase) ->arW P hs ops Q F N rest (λs=>yh P xs s K):=by
 intro l;induction l with
 |nil=>
  intro rest p I xs ac;cases xs with
  |cons x r=>grind[Xk]
  |nil=>exact hf rest p I
 |cons i l ih=>
  intro rest p I xs ac J ad ι s a w hl aj hr h;simp only[aaY]at p;cases hb:(isin i rest&&Kp P hs ops i (XL i rest))with
  |false=>grind
  |true=>
   rw[hb,cond_true]at p;rw[Bool.and_eq_true]at hb;obtain⟨U,af⟩:=hb;obtain⟨o,x,g,drop,T,rfl,ho,hd,hx,hg,R⟩:=Qn ac;have aa:=hl.congr (V8 U);have ai:=(ajN (i:=i) (l:=rest)).2 U;obtain⟨f',rfl⟩: ∃f',J=f'+1:=⟨J - 1,by omega⟩;have ag:i∉XL i rest:=uC.1 (by grind[YD,uq]);refine asC ae ab af (λj hj=>I j (by grind[V8,yk])) ho hd hx hg aa hr h λι' s' a' w' ah h'=>?_
   exact ih (XL i rest) p (λj hj=>I j (by simp_all[YD])) T R f' _ ι' s' a' w' (aa.step ag) (by omega) ah h'
theorem ah9 {g:Array Bool}{rest:List Nat}(r:Zi ops g rest (λ_=>false)){j:Nat}(hj:isin j rest=true):ac9 ops rest j=true↔j∈Region.ready .any ops g:=by
 constructor
 ·intro h;unfold ac9 at h;cases R:ops[j]? with
  |none=>grind
  |some o=>
   rw[R]at h;have p:j<ops.size:=(Array.getElem?_eq_some_iff.1 R).1;refine mem_ready.2 ⟨?_,o,R,λe J hb=>?_⟩
   ·rw[Array.getD_eq_getD_getElem?,r.2 j p,hj];rfl
   ·have:=un.1 h e (Array.mem_toList_iff.2 J);rw[hb]at this;simp only[Bool.not_true,Bool.false_or,Bool.and_eq_true,Bool.not_eq_true']at this;rw[Array.getD_eq_getD_getElem?,r.2 e.on (Nat.le_of_ble_eq_true this.1),this.2];rfl
 ·intro h;obtain⟨_,oj,T,i⟩:=mem_ready.1 h;unfold ac9;rw[T];refine un.2 λe J=>?_
  cases I:Region.binds .any e with
  |false=>rfl
  |true=>
   have l:=i e (Array.mem_toList_iff.1 J) I;have p:e.on<ops.size:=by
    rw[Array.getD_eq_getD_getElem?]at l;cases hx:g[e.on]? with
    |none=>grind
    |some b=>rw[<- r.1];grind
   have U:isin e.on rest=false:=by
    cases P:isin e.on rest with
    |false=>rfl
    |true=>have:=r.unlisted l ((yk _ _).1 P);cases this
   grind[Nat.blt,Nat.ble_eq_true_of_le]
theorem awf {F:Fr}(ai: ∀c a w,¬Q (.panic c) a w)(ad: ∀(j:Nat) (o:Oper) cs b,ops[j]? =some o ->o.op≠ .select cs b)(aj: ∀j,isin j (yg 0 ops.size)=true ->clsAt P hs ops j≠4){K:S ->Prop}
 (ah: ∀ι s a w,Rel F N ι s a w ->K s ->Q .normal a w):
 ∀(t:Tr) (rest:List Nat) (x:ATr),Vq P N hs ops.toList gs t=some x.erase ->(∀j,isin j rest=true ->clsAt P hs ops j≠4) ->
  (Xs P hs ops false t rest=true ->arW P hs ops Q F N rest (λs=>atr P x s K))/\
  (Xs P hs ops true t rest=true -> ∀(f:Nat) (p:Array Bool) (ι:Nat ->Gh) (s:S) (a:Act) (w:World),Zi ops p rest (λ_=>false) ->rest.length<=f+1 ->Rel F N ι s a w ->atr P x s K ->
   ∀j,isin j (Vr t)=true ->isin j rest=true ->wpOp P ops Q j (λa' w'=>(1<=clsAt P hs ops j ->uN w w')/\Z3 P hs ops Q f (p.setIfInBounds j true) a' w') a w):=by
 intro t;induction t with
 |fin=>
  intro rest x R J;cases x with
  |fin=>
   refine⟨λI U p ι s a w hl T hr h=>?_,λI f p ι s a w hl T hr h j hj _=>by cases hj⟩;cases rest with
   |cons y r=>cases I
   |nil=>
    have ak:Region.ready .any ops p=[]:=by
     cases a3:Region.ready .any ops p with
     |nil=>rfl
     |cons j js=>have:=(hl.ready_in (j:=j) (by grind)).1;cases this
    cases U with
    |zero=>exact⟨ak,ah ι s a w hr h⟩
    |succ U=>exact⟨λ_=>ah ι s a w hr h,λi hi=>by grind⟩
  |run _ _=>cases R
  |br _ _=>cases R
 |run l t ih=>
  intro rest x R J;simp only[Vq]at R;split at R
  case h_2=>cases R
  rename_i xo xt al ay;cases x with
  |fin=>cases R
  |br _ _=>cases R
  |run xs an=>
   simp only[ATr.erase,Option.some.injEq,ATr.run.injEq]at R;obtain⟨rfl,rfl⟩:=R;have aa: ∀rest,Xs P hs ops false t rest=true ->(∀j,isin j rest=true ->clsAt P hs ops j≠4) ->arW P hs ops Q F N rest (λs=>atr P an s K):=λrest I J=>(ih rest an ay J).1 I
   refine⟨λI=>?_,λI f p ι s a w hl T hr h j hj ab=>?_⟩
   ·exact ao5 ai ad aj aa l rest I J xs al
   ·cases l with
    |nil=>cases I
    |cons i l=>
     have ao:j=i:=by
      grind[Vr,isin,Nat.eq_of_beq_eq_true]
     subst ao;simp only[Xs,Bool.and_eq_true]at I;obtain⟨ae,I⟩:=I;obtain⟨o,y,g,drop,ag,rfl,ho,hd,hy,hg,af⟩:=Qn al;have ar:=hl.congr (V8 ae);have a1:=(ajN (i:=j) (l:=rest)).2 ae;have au:j∉XL j rest:=uC.1 (by grind[YD,uq]);refine awC (J j ae) ho hd hy hg hr h λι' s' a' w' av h'=>?_
     exact ao5 ai ad aj aa l (XL j rest) I (λk hk=>J k (by simp_all[YD])) ag af f _ ι' s' a' w' (ar.step au) (by omega) av h'
 |br t1 t2 az a0=>
  intro rest x R J;simp only[Vq]at R;split at R
  case h_2=>cases R
  rename_i x1 x2 aw ax;cases x with
  |fin=>cases R
  |run _ _=>cases R
  |br y1 y2=>
   simp only[ATr.erase,Option.some.injEq,ATr.br.injEq]at R;obtain⟨rfl,rfl⟩:=R
   have hB:Xs P hs ops true t1 rest=true ->Xs P hs ops true t2 rest=true -> ∀(f:Nat) (p:Array Bool) (ι:Nat ->Gh) (s:S) (a:Act) (w:World),Zi ops p rest (λ_=>false) ->rest.length<=f+1 ->Rel F N ι s a w ->atr P (.br y1 y2) s K ->
    ∀j,isin j (Vr t1++Vr t2)=true ->isin j rest=true ->wpOp P ops Q j (λa' w'=>(1<=clsAt P hs ops j ->uN w w')/\Z3 P hs ops Q f (p.setIfInBounds j true) a' w') a w:=by
    intro h1 h2 f p ι s a w hl T hr h j hj ab;rcases List.mem_append.1 ((yk _ _).1 hj)with hj|hj
    ·exact(az rest y1 aw J).2 h1 f p ι s a w hl T hr h.1 j ((yk _ _).2 hj) ab
    ·exact(a0 rest y2 ax J).2 h2 f p ι s a w hl T hr h.2 j ((yk _ _).2 hj) ab
   refine⟨λI U p ι s a w hl T hr h=>?_,λI=>?_⟩
   ·simp only[Xs,Bool.and_eq_true,Bool.false_or]at I;obtain⟨⟨h1,h2⟩,h4,h3⟩:=I;have ac: ∀j,j∈Region.ready .any ops p ->isin j rest=true /\isin j (Vr t1++Vr t2)=true:=λj hj=>by
     have ab:=(hl.ready_in hj).1;have:=un.1 h3 j ab<;>grind[ah9,yk]
    obtain⟨k,hk,aq⟩:=aaq.1 h4;have a2:=(ah9 hl ((yk _ _).2 hk)).1 aq;cases U with
    |zero=>
     grind
    |succ f=>exact⟨λhe=>(by grind),λj hj=>hB h1 h2 f p ι s a w hl T hr h j (ac j hj).2 (ac j hj).1⟩
   ·simp only[Xs,Bool.and_eq_true,Bool.true_or]at I;exact hB I.1.1 I.1.2
theorem arD {f:List Nat ->Bool}(T: ∀rest,f rest=true -> ∀j∈rest,∃o y,ops[j]? =some o /\QR P (isin j hs) o.op o.type=some y): ∀(l rest:List Nat),aaY P hs ops l rest f=true -> ∀xs:List AI,Xk P N hs ops.toList gs l=some (xs.map AI.erase) ->
 ∀j∈rest,∃o y,ops[j]? =some o /\QR P (isin j hs) o.op o.type=some y:=by
 intro l;induction l with
 |nil=>intro rest p _ _;exact T rest p
 |cons i l ih=>
  intro rest p xs J j hj;simp only[aaY]at p;cases R:(isin i rest&&Kp P hs ops i (XL i rest))with
  |false=>grind
  |true=>
   rw[R,cond_true]at p;obtain⟨o,x,g,drop,I,rfl,ho,hd,hx,hg,r⟩:=Qn J;by_cases U:j=i
   ·grind
   ·exact ih (XL i rest) p I r j ((yk _ _).1 (by grind[YD,yk,qD]))
theorem azr: ∀(t:Tr) (b:Bool) (rest:List Nat) (x:ATr),Xs P hs ops b t rest=true ->Vq P N hs ops.toList gs t=some x.erase -> ∀j∈rest,∃o y,ops[j]? =some o /\QR P (isin j hs) o.op o.type=some y:=by
 intro t;induction t with
 |fin=>
  intro b rest x p I j hj;cases b with
  |true=>cases p
  |false=>cases rest with
   |nil=>cases hj
   |cons y r=>cases p
 |run l t ih=>
  intro b rest x p I;simp only[Vq]at I;split at I
  case h_2=>cases I
  rename_i xo xt T U;cases x with
  |fin=>cases I
  |br _ _=>cases I
  |run xs aa=>
   simp only[ATr.erase,Option.some.injEq,ATr.run.injEq]at I;obtain⟨rfl,rfl⟩:=I;cases b with
   |false=>exact arD (λrest p=>ih false rest aa p U) l rest p xs T
   |true=>
    cases l with
    |nil=>cases p
    |cons i l=>
     simp only[Xs,Bool.and_eq_true]at p;obtain⟨ab,p⟩:=p;obtain⟨o,y,g,drop,R,rfl,ho,hd,hy,hg,J⟩:=Qn T;intro j hj;by_cases ac:j=i
     ·grind
     ·exact arD (λrest p=>ih false rest aa p U) l (XL i rest) p R J j ((yk _ _).1 (by grind[YD,yk,qD]))
 |br t1 t2 af ag=>
  intro b rest x p I;simp only[Vq]at I;split at I
  case h_2=>cases I
  rename_i x1 x2 ad ae;cases x with
  |fin=>cases I
  |run _ _=>cases I
  |br y1 y2=>
   simp only[ATr.erase,Option.some.injEq,ATr.br.injEq]at I;obtain⟨rfl,rfl⟩:=I;simp only[Xs,Bool.and_eq_true]at p
   grind
theorem atR {F:Fr}{ords:List (Nat×List Nat)}{id:Nat}{x:ATr}(g:Yu P N ords id ops true=some (.tree x.erase)){QE:E ->S ->Prop}{ι:Nat ->Gh}{s:S}{a:Act}{w:World}
 (hr:Rel F N ι s a w) (h:Xh P (.tree x) QE s):(Code.region id ops true).wp P (up F N QE) a w:=by
 simp only[Yu]at g;split at g
 ·rename_i l _;split at g
  ·rename_i t _ _;cases i:ajF P (wE ords id) ops t with
   |false=>grind
   |true=>
    rw[i]at g;simp only[cond_true,Option.map_eq_some_iff,ACode.tree.injEq]at g;obtain⟨y,r,rfl⟩:=g;unfold ajF at i;simp only[Bool.and_eq_true]at i;obtain⟨⟨h1,h2⟩,h3⟩:=i;have I: ∀j,isin j (yg 0 ops.size)=true ->clsAt P (wE ords id) ops j≠4:=λj T e=>by
     have:=un.1 h2 j ((yk _ _).1 T);simp_all
    refine wp_region_any h1 (U1 (hs:=wE ords id) _ _ _ _ ?_);have R: ∀(j:Nat) (o:Oper) cs b,ops[j]? =some o ->o.op≠ .select cs b:=by
     intro j o cs b ho he;have aa:j<ops.size:=(Array.getElem?_eq_some_iff.1 ho).1;obtain⟨o',x',J,p⟩:=azr t false (yg 0 ops.size) x h3 r j (by grind[VT]);rw[ho]at J;cases J;rw[he]at p;cases hb:isin j (wE ords id)<;>rw[hb]at p<;>cases p
    have U:Rel F N ι s a {w with drawn:=w.drawn+1}:=hr.grown ⟨rfl,rfl,⟨rfl,Nat.le_succ _⟩,Nat.le_refl _,λ_ _ _=>rfl,λ_ _ _ h=>h⟩;refine((awf (F:=F) (hs:=wE ords id) (K:=QE .normal) (Q:=up F N QE) (gs:=uJ ops.toList) (λc a w h=>h) R I (λι s a w hr hk=>⟨ι,s,hr,hk⟩) t (yg 0 ops.size) x r (λj T=>I j T)).1 h3) ops.size _ ι s a _ ?_ (by grind[VT]) U h;refine⟨by simp,λj T=>?_⟩
    grind[yk,VT]
  ·cases g
 ·split at g
  ·rcases jp g with h|h<;>simp_all
  ·cases g
end
theorem jR {P:Program}{N:Nat}{ords:List (Nat×List Nat)}{id:Nat}{ops:Array Oper}{d:Bool}{y:ACode}(h:Yu P N ords id ops d=some y):(∃xs,y= .reg xs)\/ ∃t,y= .tree t:=by
 cases d
 ·grind[Yu,Option.map_eq_some_iff]
 ·simp only[Yu]at h;split at h
  ·split at h
   ·rcases jp h with h|h
    ·grind[Option.map_eq_some_iff]
    ·cases h
   ·cases h
  ·split at h
   ·rcases jp h with h|h
    ·grind[Option.map_eq_some_iff]
    ·cases h
   ·cases h
section
variable {P:Program}{F:Fr}{N:Nat}{ords:List (Nat×List Nat)}
theorem J9: ∀(x:ACode) (c:Code),qz P N ords c=some x.erase -> ∀(Q:E ->S ->Prop) (ι:Nat ->Gh) (s:S) (a:Act) (w:World),Rel F N ι s a w ->Xh P x Q s ->c.wp P (up F N Q) a w:=by
 intro x;induction x with
 |skip=>
  intro c g Q ι s a w hr h;cases c with
  |skip=>exact wp_skip ⟨ι,s,hr,h⟩
  |label l=>exact wp_label ⟨ι,s,hr,h⟩
  |region id ops d=>rcases jR g with⟨xs,h⟩|⟨xs,h⟩<;>simp[ACode.erase]at h
  |_=>(simp only[qz]at g;(repeat' split at g)<;>simp_all[ACode.erase])
 |reg xs=>
  intro c g Q ι s a w hr h;cases c with
  |region id ops d=>
   cases d with
   |true=>exact asw (g:Yu P N ords id ops true=some (.reg (xs.map AI.erase))) hr h
   |false=>
    have g:Yu P N ords id ops false=some (.reg (xs.map AI.erase)):=g;simp only[Yu,Option.map_eq_some_iff,ACode.reg.injEq]at g;obtain⟨ys,r,rfl⟩:=g;refine wp_region ?_;have:=ano (F:=F) (K:=Q .normal) (Q:=up F N Q) (λι s a w hr hk=>⟨ι,s,hr,hk⟩) _ xs r ι s a w hr h
    grind[VT,List.range_eq_range']
  |_=>(simp only[qz]at g;(repeat' split at g)<;>simp_all[ACode.erase])
 |seq x y aa ab=>
  intro c g Q ι s a w hr h;cases c with
  |seq c d=>
   simp only[qz,ACode.erase]at g;split at g
   ·rename_i x' y' hx hy;simp only[Option.some.injEq,ACode.seq.injEq]at g;obtain⟨rfl,rfl⟩:=g;refine wp_seq (wp_mono (aa c hx _ ι s a w hr h) ?_);intro e U w' p;cases e with
    |normal=>obtain⟨ι1,T,R,r⟩:=p;exact ab d hy Q ι1 T U w' R r
    |exit i=>exact p
    |ret=>exact p
    |_=>exact p.elim
   ·cases g
  |region id ops d=>rcases jR g with⟨xs,h⟩|⟨xs,h⟩<;>simp[ACode.erase]at h
  |_=>(simp only[qz]at g;(repeat' split at g)<;>simp_all[ACode.erase])
 |cond o x y aa ab=>
  intro c g Q ι s a w hr h;cases c with
  |cond q c d=>
   simp only[qz,ACode.erase]at g;split at g
   ·rename_i x' y' hx hy;simp only[Option.some.injEq,ACode.cond.injEq]at g;obtain⟨rfl,rfl,rfl⟩:=g;simp only[Xh]at h;split at h
    ·rename_i t ht;have hv:=jg hr q;rw[ae6 ht]at hv;have hq:a.eval q= .bool t:=hv.1<;>grind[wp_cond]
    grind
   ·cases g
  |region id ops d=>rcases jR g with⟨xs,h⟩|⟨xs,h⟩<;>simp[ACode.erase]at h
  |_=>(simp only[qz]at g;(repeat' split at g)<;>simp_all[ACode.erase])
 |block i x ih=>
  intro c g Q ι s a w hr h;cases c with
  |block j c=>
   simp only[qz,Option.map_eq_some_iff,ACode.erase,ACode.block.injEq]at g;obtain⟨y,r,rfl,rfl⟩:=g;refine wp_block (wp_mono (ih c r _ ι s a w hr h) ?_);intro e U w' p;cases e with
   |normal=>exact p
   |exit k=>
    obtain⟨ι1,T,R,r⟩:=p;simp only[Exit.inBlock];by_cases hk:k=j
    ·subst hk;rw[if_pos rfl];simp only[uq,cond_true]at r;exact⟨ι1,T,R,r⟩
    ·rw[if_neg hk];simp only[qD hk,cond_false]at r;exact⟨ι1,T,R,r⟩
   |ret=>exact p
   |_=>exact p.elim
  |region id ops d=>rcases jR g with⟨xs,h⟩|⟨xs,h⟩<;>simp[ACode.erase]at h
  |_=>(simp only[qz]at g;(repeat' split at g)<;>simp_all[ACode.erase])
 |loop J x ih=>
  intro c g Q ι s a w hr h;cases c with
  |loop c=>
   simp only[qz,Option.map_eq_some_iff,ACode.erase,ACode.loop.injEq,true_and]at g;obtain⟨y,r,rfl⟩:=g;obtain⟨I,μ,h2,h3⟩:=h;obtain⟨t,ht,h2⟩:=h2;rw[Qj]at h2;obtain⟨ιt,ae⟩:=ht F N ι a w hr;refine at2 (σ:=S) (λs a w=>(∃ι,Rel F N ι s a w)/\I s) μ (t.norm J) ⟨⟨ιt,ae.norm J⟩,h2⟩ ?_;rintro T a1 w1 ⟨⟨ι1,R⟩,hi⟩;refine wp_mono (ih c r _ ι1 T a1 w1 R (h3 T hi)) ?_;intro e U w' p;cases e with
   |normal=>
    obtain⟨ι2,s2,ac,h4⟩:=p;obtain⟨t2,af,h4⟩:=h4;simp only[Qj]at h4;obtain⟨ι3,ad⟩:=af F N ι2 U w' ac;exact⟨t2.norm J,⟨⟨ι3,ad.norm J⟩,h4.1⟩,h4.2⟩
   |exit k=>exact p
   |ret=>exact p
   |_=>exact p.elim
  |region id ops d=>rcases jR g with⟨xs,h⟩|⟨xs,h⟩<;>simp[ACode.erase]at h
  |_=>(simp only[qz]at g;(repeat' split at g)<;>simp_all[ACode.erase])
 |scope x ih=>
  intro c g Q ι s a w hr h;cases c with
  |scope c=>
   simp only[qz,Option.map_eq_some_iff,ACode.erase,ACode.scope.injEq]at g;obtain⟨y,r,rfl⟩:=g;refine wp_scope_straight (wp_mono (ih c r _ ι s a w hr h) ?_);intro e U w' p;cases e with
   |normal=>exact p
   |exit k=>exact p
   |ret=>exact p
   |_=>exact p.elim
  |region id ops d=>rcases jR g with⟨xs,h⟩|⟨xs,h⟩<;>simp[ACode.erase]at h
  |_=>(simp only[qz]at g;(repeat' split at g)<;>simp_all[ACode.erase])
 |exit i=>
  intro c g Q ι s a w hr h;cases c with
  |exit j=>simp only[qz,ACode.erase,Option.some.injEq,ACode.exit.injEq]at g;subst g;exact wp_exit ⟨ι,s,hr,h⟩
  |region id ops d=>rcases jR g with⟨xs,h⟩|⟨xs,h⟩<;>simp[ACode.erase]at h
  |_=>(simp only[qz]at g;(repeat' split at g)<;>simp_all[ACode.erase])
 |ret=>
  intro c g Q ι s a w hr h;cases c with
  |ret=>exact wp_ret ⟨ι,s,hr,h⟩
  |region id ops d=>rcases jR g with⟨xs,h⟩|⟨xs,h⟩<;>simp[ACode.erase]at h
  |_=>(simp only[qz]at g;(repeat' split at g)<;>simp_all[ACode.erase])
 |tree x=>
  intro c g Q ι s a w hr h;cases c with
  |region id ops d=>
   cases d with
   |true=>exact atR (g:Yu P N ords id ops true=some (.tree x.erase)) hr h
   |false=>
    have g:Yu P N ords id ops false=some (.tree x.erase):=g
    grind[Yu,Option.map_eq_some_iff]
  |_=>(simp only[qz]at g;(repeat' split at g)<;>simp_all[ACode.erase])
end
section
variable {P:Program}{F:Fr}{N:Nat}{ι:Nat ->Gh}{s:S}{a:Act}{w:World}
theorem ZR {pl:List (Nat×Pl)}: ∀(l U:List Nat),∃r,wC pl U l=U++r
 | [],U=>⟨[],by simp[wC]⟩
 |p::r,U=>by
  have step: ∃g,(bif isin p U then wC pl U r else wC pl (U++[p]) r)=U++g:=by
   cases isin p U
   ·obtain⟨g,h⟩:=ZR (pl:=pl) r (U++[p]);simp_all
   simp_all[ZR]
  unfold wC;split<;>simp_all[ZR]
theorem JR {pl:List (Nat×Pl)}: ∀(n i:Nat) (U:List Nat),∃r,UV pl n i U=U++r
 |0,_,U=>⟨[],by simp[UV]⟩
 |n+1,i,U=>by
  unfold UV;split
  ·split
   ·rename_i cs _;obtain⟨l,g⟩:=ZR (pl:=pl) (gS cs) U;obtain⟨o,j⟩:=JR (pl:=pl) n (i+1) (wC pl U (gS cs))
    grind
   simp_all[JR]
  simp_all
theorem ajM {pl:List (Nat×Pl)}(U l:List Nat): ∃r,uM pl U l=U++r:=by
 obtain⟨j,g⟩:=ZR (pl:=pl) l U;obtain⟨o,i⟩:=JR (pl:=pl) 40 0 (wC pl U l)
 grind[uM]
theorem ae9 (hr:Rel F N ι s a w){U0:List Nat}{ι0:Nat ->Gh}(h0: ∀i p x,U0[i]? =some p ->aget s.pl p=some x ->ι p=ι0 i){x:V}{v:Value}(h:VR ι w (F.ok ι s.pl w) x v):amZ F ι0 U0.length w (azL s.pl U0 x) v:=by
 let U:=uM s.pl U0 x.refs
 obtain⟨ur,hU⟩: ∃r,U=U0++r:=ajM U0 x.refs
 let ι':Nat ->Gh:=λk=>ι (U.getD k 0)
 have hι: ∀k p,U[k]? =some p ->ι' k=ι p:=λk p hp=>by grind
 let I:=xy (yg 0 (Zg s.pl U 0 U).length) (Zg s.pl U 0 U)
 have hz: ∀q y,aget I q=some y -> ∃p,U[q]? =some p /\y=kA s.pl U q p /\y.isGone=false:=λq y l=>by
  obtain⟨q',g1,g2,g3⟩:=QD _ _ _ _ l;rw[vQ]at g1;split at g1
  ·cases g1;rw[Nat.zero_add];rw[KN,Nat.zero_add]at g2
   grind
  ·cases g1
 have ab:zR w w (F.ok ι s.pl w) (F.ok ι s.pl w):=λb o=>⟨o,rfl⟩
 have P:zR w w (F.ok ι s.pl w) (F.ok ι' I w):=λb o=>⟨⟨o.1,o.2.1,λ⟨q,y,h1,h2,h3⟩=>by
  obtain⟨p,J,e2,R⟩:=hz q y h1;subst e2;obtain⟨_,⟨z,T,e5⟩,_,_⟩:=ac3 hr ab hι J R;rw[hι q p J]at h3;exact o.2.2 ⟨p,z,T,e5,h3⟩⟩,rfl⟩
 have j: ∀q y,aget I q=some y -> ∃p z,U[q]? =some p /\idx p U=some q /\aget s.pl p=some z /\z.live=true /\PR ι' w (F.ok ι' I w) q y /\y.live=true:=λq y l=>by
  grind[ac3]
 refine⟨?_,ι',aCm hr P hι h,?_,?_,?_,?_,?_⟩
 ·show U0.length<=(Zg s.pl U 0 U).length
  grind[ac4]
 ·intro q y l;obtain⟨p,z,_,_,_,_,g,_⟩:=j q y l;exact g
 ·intro q q' y y' b l ad ac o aa;obtain⟨p,z,J,e2,R,T,_,_⟩:=j q y l;obtain⟨p',z',e5,e6,e7,e8,_,_⟩:=j q' y' ad;rw[hι q p J]at o;rw[hι q' p' e5]at aa;refine hr.inj p p' z z' b R e7 (λe=>ac ?_) T o aa
  grind
 ·intro q y b l o;obtain⟨p,z,J,e2,R,T,_,_⟩:=j q y l;rw[hι q p J]at o;exact(hr.mine b ⟨p,z,R,T,o⟩).1
 ·intro q y l;obtain⟨p,z,_,_,_,_,_,g⟩:=j q y l;exact g
 ·intro q y hq l;obtain⟨p,z,J,e2,R,T,_,_⟩:=j q y l
  grind
def aoU (tmps:Array Value):ResultVar ->Sem Value
 | .tmp t=>pure (tmps.getD t undef)
 | .cell x t=>do loadVar t (<- asAddr (tmps.getD x undef))
theorem atg (fn:Func)(tmps:Array Value):results fn tmps=(do
 let vs<- fn.results.mapM (aoU tmps)
 pure (if h:vs.size=1 then vs[0]else .tuple vs)):=by
 unfold results;congr 2
theorem kD (hr:Rel F N ι s a w): ∀{U:List ResultVar}{xs:List ARes},acb P U=some xs -> ∀{ws:List W},aed s xs=some ws ->
 ∃vs:List Value,(U.mapM (aoU a.tmps)).run P w= .ok vs w /\qK ι w (F.ok ι s.pl w) ws vs
 | [],xs,r,ws,h=>by
   cases r;cases h;exact⟨[],by simp,trivial⟩
 | .tmp t::U,xs,r,ws,h=>by
   simp only[acb,Option.map_eq_some_iff]at r;obtain⟨ys,h1,rfl⟩:=r;simp only[aed]at h;split at h
   ·rename_i u l o hl;cases h;obtain⟨vs,h2,T⟩:=kD hr h1 hl;simp only[ayy]at o;split at o
    ·rename_i u' aa;cases o;have i:=auc hr t;rw[aa]at i;refine⟨a.tmps.getD t undef::vs,?_,i,T⟩
     grind[aoU,Sem.run_bind,Sem.run_pure,Result.andThen_ok]
    ·cases o
   ·cases h
 | .cell x t::U,xs,r,ws,h=>by
   simp only[acb]at r;split at r
   ·rename_i g ys hg h1;cases r;simp only[aed]at h;split at h
    ·rename_i u l o hl;cases h;obtain⟨vs,h2,T⟩:=kD hr h1 hl;simp only[ayy]at o;split at o
     ·rename_i p off hp;split at o
      ·rename_i cs I;have i:=qJ hr (.tmp x);have i:CR ι w (F.ok ι s.pl w) (cOf (s.tmp x)) (a.tmps.getD x undef):=i;rw[hp]at i;obtain⟨b,e1,e2⟩:=i;obtain⟨b',ab,R,e4,J⟩:=hr.places p _ I;rw[e1]at R;cases R;obtain⟨v,i,hw⟩:=Y6 (b:=b) (off:=off) hg (CRs.drop off J) (λj v i=>by
        rw[e4.cell];grind) o
       refine⟨v::vs,?_,hw,T⟩<;>grind[aoU,asAddr,Sem.run_bind,Sem.run_pure,Result.andThen_ok,uN.refl]
      ·rename_i ds I;have i:=qJ hr (.tmp x);have i:CR ι w (F.ok ι s.pl w) (cOf (s.tmp x)) (a.tmps.getD x undef):=i;rw[hp]at i;obtain⟨b,e1,e2⟩:=i;obtain⟨b',R,e4,J⟩:=hr.places p _ I;rw[e1]at R;cases R;have J:=RDc.drop off J;rw[Nat.zero_add]at J;obtain⟨us,h4,h5⟩:=RDc.vals (ι:=ι) J;obtain⟨v,i,hw⟩:=Y6 (b:=b) (off:=off) hg h4 h5 o;refine⟨v::vs,?_,hw,T⟩<;>grind[aoU,asAddr,Sem.run_bind,Sem.run_pure,Result.andThen_ok,uN.refl]
      ·cases o
     ·cases o
    ·cases h
   ·cases r
theorem abM (hr:Rel F N ι s a w){fn:Func}{xs:List ARes}(p:acb P fn.results.toList=some xs){v:V}(h:ayx s xs=some v):
 ∃x,(results fn a.tmps).run P w= .ok x w /\VR ι w (F.ok ι s.pl w) v x:=by
 unfold ayx at h;have key: ∀ws,aed s xs=some ws -> ∃vs:List Value,qK ι w (F.ok ι s.pl w) ws vs /\(results fn a.tmps).run P w= .ok (if h:vs.toArray.size=1 then vs.toArray[0]else .tuple vs.toArray) w:=by
  intro ws i;obtain⟨vs,g,j⟩:=kD hr p i;refine⟨vs,j,?_⟩;rw[atg,<- Array.toArray_toList (xs:=fn.results),List.mapM_toArray]
  grind[Sem.run_bind,map_eq_pure_bind,Sem.run_pure,Result.andThen_ok]
 split at h
 ·rename_i u o;obtain⟨vs,g,j⟩:=key _ o;cases h;cases vs with
  |nil=>exact g.elim
  |cons v vs=>cases vs with
   |nil=>exact⟨v,by grind,g.1⟩
   |cons _ _=>exact g.2.elim
 ·rename_i ws l i;obtain⟨vs,g,j⟩:=key _ i;cases h;refine⟨.tuple vs.toArray,?_,vs,rfl,g⟩;rw[j];rw[dif_neg];intro hs;cases vs with
  |nil=>grind
  |cons v vs=>cases vs with
   |nil=>cases ws with
    |nil=>exact g.elim
    |cons u r=>cases r with
     |nil=>grind
     |cons _ _=>exact g.2.elim
   |cons _ _=>grind
 ·cases h
theorem aaN: ∀(l:List W) (i k:Nat) (v:V),aget (jz i l) k=some v -> ∃x,v= .w x /\i<=k /\l[k - i]? =some x:=by
 intro l;induction l with
 |nil=>intro i k v h;cases h
 |cons x r g=>
  intro i k v h;simp only[jz,yR]at h;split at h
  ·simp_all
  grind
theorem qK.get {ok:Nat ->Prop}: ∀{cs:List W}{vs:List Value}{i:Nat}{c:W},qK ι w ok cs vs ->cs[i]? =some c -> ∃v,vs[i]? =some v /\WR ι w ok c v
 | [],_,i,_,_,h=>by simp at h
 |_::_,[],_,_,h,_=>h.elim
 |c::cs,v::vs,0,_,h,g=>by simp at g;subst g;exact⟨v,rfl,h.1⟩
 |c::cs,v::vs,i+1,_,h,g=>by simpa using qK.get h.2 (by simpa using g)
end
theorem agT {n0:Nat}(ao:100000<=n0)(aq:n0+1000<=599999){P:Program}{ords:List (Nat×List Nat)}{k:Nat}{A:AFun}(U:cFun P ords k=some A.erase)(J:qQ P k=true){args:List W}{hs:List Pl}(au:hs.length<=1000){Q:Res ->Prop}(h:adM n0 P A args hs Q):zQ P k args hs Q:=by
 refine⟨J,λw ok ι0 T aa ⟨af,ae⟩ ai an ab=>?_⟩;unfold cFun at U;split at U
 case h_2=>cases U
 rename_i fn hf;split at U
 case h_2=>cases U
 rename_i c ac;split at U
 case h_2=>cases U
 rename_i x r hx hr;cases hN:Nat.ble fn.ntmps 5000 with
 |false=>grind
 |true=>
 rw[hN]at U;have hN:=Nat.le_of_ble_eq_true hN;simp only[cond_true,AFun.erase,Option.some.injEq,AFun.mk.injEq]at U;obtain⟨rfl,rfl⟩:=U;unfold adM at h;rw[xJ]at h
 let ls:List (Option Nat):=(jy n0 hs).map some
 have ak: ∀q p,vZ ls q=some p ->q<hs.length /\p=n0+q:=by
  have gen: ∀(n i q p:Nat),vZ ((yg i n).map some) q=some p ->q<n /\p=i+q:=by
   intro n;induction n with
   |zero=>grind[yg,vZ]
   |succ n ih=>
    intro i q p h;cases q<;>grind[yg,vZ]
  exact gen hs.length n0
 let ιc:Nat ->Gh:=λp=>if n0<=p then ι0 (p - n0)else⟨none,0⟩
 have ah: ∀q p,vZ ls q=some p ->ιc p=ι0 q:=λq p I=>by
  obtain⟨_,rfl⟩:=ak q p I;simp only[ιc,if_pos (by omega:n0<=n0+q)];congr 1;omega
 let F:Fr:=⟨w,ok,QK ι0 hs,λp=>if n0<=p /\p<n0+hs.length then some (ι0 (p - n0))else none⟩
 let ad:=ZK n0 (hs.map (Pl.ren ls))
 have j: ∀p y,aget ad p=some y -> ∃q x,p=n0+q /\hs[q]? =some x /\y=x.ren ls /\ιc p=ι0 q:=λp y o=>by
  have o:aget (ZK n0 (hs.map (Pl.ren ls))) p=some y:=o;rw[alC]at o;split at o
  ·rename_i aj;rw[List.getElem?_map]at o;cases I:hs[p - n0]? with
   |none=>grind
   |some x=>
    rw[I]at o;simp at o;subst o;exact⟨p - n0,x,by omega,I,rfl,by simp only[ιc,if_pos aj]⟩
  ·cases o
 have R:zR w w ok (F.ok ιc ad w):=λb J=>⟨⟨.inl J,(aa b J).1,λ⟨p,y,h1,h2,h3⟩=>by
  obtain⟨q,x,rfl,e1,rfl,e2⟩:=j p y h1;rw[e2]at h3;exact(aa b J).2 ⟨q,x,e1,h3⟩⟩,rfl⟩
 have hrel:Rel F fn.ntmps ιc ⟨jz 0 (args.map (W.ren ls)),ad⟩ {tmps:=T.toArray++Array.replicate (fn.ntmps - T.toArray.size) undef,defers:=[]} w:=by
  refine⟨⟨by simp;omega,λg hg=>by simp only[F]at hg;rw[if_neg (by omega)]at hg;cases hg⟩,λi v hv=>?_,λp y o=>?_,λp q y z b o hz ar hl J=>?_,λb ⟨p,y,h1,h2,h3⟩=>?_,rfl,Grows.refl _ _,λb J=>⟨(aa b J).1,(aa b J).2⟩,⟨λb J=>af b J,ae⟩,hN,λp g hg=>?_,λp y g o hg=>?_⟩
  ·obtain⟨x,rfl,_,h1⟩:=aaN (args.map (W.ren ls)) 0 i v hv;obtain⟨y,h2,h3⟩:=qK.get (aiR R ah ab) h1;simp only[Nat.sub_zero]at h2;have al:i<T.length:=(List.getElem?_eq_some_iff.1 h2).1;exact⟨y,by grind,h3⟩
  ·obtain⟨q,x,rfl,e1,rfl,e2⟩:=j p y o;exact at7 R ah e2 (ai q x e1).1
  ·obtain⟨q1,x1,rfl,e1,rfl,e2⟩:=j p y o;obtain⟨q2,x2,rfl,e3,rfl,e4⟩:=j q z hz
   grind
  ·obtain⟨q,x,rfl,e1,rfl,e2⟩:=j p y h1;rw[e2]at h3;exact⟨.inl ⟨q,x,e1,h3⟩,af b ⟨q,x,e1,h3⟩⟩
  ·grind
  ·obtain⟨q,x,rfl,e1,rfl,e2⟩:=j p y o;simp only[F]at hg;split at hg
   ·cases hg;rw[e2];congr 1;omega
   ·cases hg
 refine calls_of_wp hf ac (wp_mono (J9 A.code c hx _ _ _ _ _ hrel h) ?_);have fin: ∀ι s a' w',Rel F fn.ntmps ι s a' w' ->kC A.res (jy n0 hs) Q s ->a'.defers=[]/\ ∃v,(results fn a'.tmps).run P w'= .ok v w' /\ ∃v' r,Ending.returned v= .returned v' /\Q r /\amZ ⟨w,ok,QK ι0 hs,λ_=>none⟩ ι0 hs.length w' r v' /\Grows (QK ι0 hs) w w':=by
  intro ι s a' w' l I;unfold kC at I;split at I
  ·rename_i v hv;obtain⟨x,h1,h2⟩:=abM l hr hv;have hp:=ae9 l (U0:=jy n0 hs) (ι0:=ι0) (λi p y hi o=>by
    have hi:(yg n0 hs.length)[i]? =some p:=hi;rw[vQ]at hi;split at hi
    ·rename_i al;cases hi;refine l.hkeep _ y _ o ?_;simp only[F];rw[if_pos ⟨by omega,by omega⟩];congr 2;omega
    ·cases hi) h2
   have ag:(jy n0 hs).length=hs.length:=aiJ _ _;rw[ag]at hp;exact⟨l.defers,x,h1,x,_,rfl,I,hp,l.grows⟩
  grind
 intro e a' w' he;cases e with
 |normal=>obtain⟨ι,s,l,I⟩:=he;exact fin ι s a' w' l I
 |ret=>obtain⟨ι,s,l,I⟩:=he;exact fin ι s a' w' l I
 |exit i=>obtain⟨_,_,_,I⟩:=he;grind
 |_=>exact he.elim
theorem alA {P:Program}{ords:List (Nat×List Nat)}{k:Nat}{A:AFun}(j:cFun P ords k=some A.erase)(i:qQ P k=true){args:List W}{hs:List Pl}(g:hs.length<=1000){Q:Res ->Prop}(h:azC P A args hs Q):zQ P k args hs Q:=
 agT (n0:=100000) (Nat.le_refl _) (Nat.le_of_ble_eq_true rfl) j i g h
theorem apX {P:Program}{ords:List (Nat×List Nat)}{k:Nat}{A:AFun}(I:cFun P ords k=some A.erase)(J:qQ P k=true){args:List W}{Q:Res ->Prop}(h:awM P A args Q):Sat P k args Q:=by
 refine⟨J,λw ok o ⟨ac,ab⟩ U=>?_⟩;unfold cFun at I;split at I
 case h_2=>cases I
 rename_i fn hf;split at I
 case h_2=>cases I
 rename_i c aa;split at I
 case h_2=>cases I
 rename_i x r l hr;cases hN:Nat.ble fn.ntmps 5000 with
 |false=>grind
 |true=>
 rw[hN]at I;have hN:=Nat.le_of_ble_eq_true hN;simp only[cond_true,AFun.erase,Option.some.injEq,AFun.mk.injEq]at I;obtain⟨rfl,rfl⟩:=I;unfold awM at h;rw[xJ]at h
 let F:Fr:=⟨w,ok,λ_=>False,λ_=>none⟩
 have hrel:Rel F fn.ntmps (λ_=>⟨none,0⟩) ⟨jz 0 args,[]⟩ {tmps:=o.toArray++Array.replicate (fn.ntmps - o.toArray.size) undef,defers:=[]} w:=by
  refine⟨⟨by simp;omega,λg hg=>by cases hg⟩,λi v hv=>?_,λp x l=>(by cases l),λp q x y b l=>(by cases l),λb ⟨p,x,l,_⟩=>(by cases l),rfl,Grows.refl _ _,λb J=>⟨ac b J,λh=>h⟩,⟨λb J=>J.elim,ab⟩,hN,λp g hg=>(by cases hg),λp x g l=>(by cases l)⟩;obtain⟨x,rfl,_,h1⟩:=aaN args 0 i v hv;obtain⟨y,h2,h3⟩:=qK.get U h1;simp only[Nat.sub_zero]at h2;have ad:i<o.length:=(List.getElem?_eq_some_iff.1 h2).1;refine⟨y,by grind,?_⟩;exact WR.keep (λb J=>⟨⟨.inl J,ac b J,λ⟨p,x,l,_⟩=>by cases l⟩,rfl⟩) (yp.refl w) x y h3
 refine calls_of_wp hf aa (wp_mono (J9 A.code c l _ _ _ _ _ hrel h) ?_);have fin: ∀ι s T w',Rel F fn.ntmps ι s T w' ->kC A.res [] Q s ->T.defers=[]/\ ∃v,(results fn T.tmps).run P w'= .ok v w' /\ ∃v' r,Ending.returned v= .returned v' /\Q r /\aal F w' r v' /\Grows (λ_=>False) w w':=by
  intro ι s T w' j R;unfold kC at R;split at R
  ·rename_i v hv;obtain⟨x,h1,h2⟩:=abM j hr hv;exact⟨j.defers,x,h1,x,_,rfl,R,ae9 j (U0:=[]) (λi p y hi=>by grind) h2,j.grows⟩
  grind
 intro e T w' he;cases e with
 |normal=>obtain⟨ι,s,j,R⟩:=he;exact fin ι s T w' j R
 |ret=>obtain⟨ι,s,j,R⟩:=he;exact fin ι s T w' j R
 |exit i=>obtain⟨_,_,_,R⟩:=he;grind
 |_=>exact he.elim
def C.asData (pl:List Pl):C ->C
 | .own q _ n=>match pl[q]? with
   |some (.arr _ g _)=>.d (.sl (g.take n))
   |_=>.dead
 | .nil=>.d (.sl [])
 | .sub _ _ _ _=>.dead
 |x=>x
def W.asData (pl:List Pl):W ->W| .c x=>.c (x.asData pl)| .agg cs=>.agg (cs.map (C.asData pl))
def V.asData (pl:List Pl):V ->V| .w x=>.w (x.asData pl)| .tup xs=>.tup (xs.map (W.asData pl))
def Res.asData (r:Res):Res:=⟨r.v.asData r.pl,[]⟩
section
variable {F:Fr}{w:World}{ι:Nat ->Gh}{pl:List Pl}
theorem aCl (pl:List Pl)(q:Nat)(x:Pl):aget (xy (yg 0 pl.length) pl) q=some x↔pl[q]? =some x /\x.isGone=false:=by
 constructor
 ·intro h;obtain⟨l,g1,g2,g3⟩:=QD _ _ _ _ h;simp_all[vQ]
 ·rintro⟨g1,g2⟩;have i:q<pl.length:=(List.getElem?_eq_some_iff.1 g1).1;have g:(yg 0 pl.length)[q]? =some q:=by simp_all[vQ]
  have:=K8 _ _ q q x g g1 g2;cases j:aget (xy (yg 0 pl.length) pl) q with
  |none=>grind
  |some y=>
   obtain⟨l,g3,o,p⟩:=QD _ _ _ _ j;simp_all[vQ]
theorem at4 (U: ∀p x,aget (xy (yg 0 pl.length) pl) p=some x ->PR ι w (F.ok ι (xy (yg 0 pl.length) pl) w) p x)(T: ∀p x b,aget (xy (yg 0 pl.length) pl) p=some x ->(ι p).b=some b ->F.M b\/F.w0.heap.size<=b)
 (ab: ∀p x,aget (xy (yg 0 pl.length) pl) p=some x ->x.live=true) (ι':Nat ->Gh) {c:C}{v:Value}(h:CR ι w (F.ok ι (xy (yg 0 pl.length) pl) w) c v) (hd: ∀p o,c≠ .ptr p o) (he: ∀p z i k,c≠ .eptr p z i k) (ad: ∀f p ps,c≠ .clo f (p::ps)):
 CR ι' w (F.ok ι' [] w) (c.asData pl) v:=by
 have hk:zR w w (F.ok ι (xy (yg 0 pl.length) pl) w) (F.ok ι' [] w):=λb hb=>⟨⟨hb.1,hb.2.1,λ⟨_,_,h,_⟩=>by cases h⟩,rfl⟩
 cases c with
 |d x=>exact RD.keep hk _ _ h
 |nil=>
  have h:v= .slice none 0 0:=h;simp only[C.asData,CR,RD];exact⟨none,0,0,h,rfl,Nat.le_refl _,Nat.zero_le _,.inl trivial⟩
 |own q sz n=>
  simp only[C.asData];split
  ·rename_i z r I hq;have g:aget (xy (yg 0 pl.length) pl) q=some (.arr z r I):=(aCl pl q _).2 ⟨hq,rfl⟩;obtain⟨h0,hn,aa⟩:=U q _ g;simp only[CR,RD];rcases h with⟨J,h2,P⟩|⟨b,cap,t,J,h2,P,h4,h5,h6⟩
   ·subst h2;exact⟨none,0,0,P,by simp,Nat.le_refl _,Nat.zero_le _,.inl (by simp)⟩
   ·rcases aa with⟨e,_⟩|⟨b',e1,e2,e3,e4⟩
    ·grind
    ·rw[J]at e1;cases e1;have R:I=false:=by
      have:=ab q _ g;cases I
      ·rfl
      ·cases this
     subst R;obtain⟨ac,e5,_⟩:=e4 rfl;refine⟨_,n,cap,P,by grind,h4,h5,.inr ⟨b,0,z,rfl,⟨.inr (T q _ b g J),e5.lt,λ⟨_,_,h,_⟩=>by cases h⟩,?_⟩⟩
     grind[RDs.take,RDs.keep']
  ·trivial
 |dead=>trivial
 |sub _ _ _ _=>trivial
 |fp l=>
  exact CR.keep (ι:=ι') hk (yp.refl w) (.fp l) v h
 |clo f j=>cases j with
  |nil=>exact h
  |cons p ps=>grind
 |ptr p o=>grind
 |eptr p z i k=>grind
def C.plain:C ->Bool| .ptr _ _=>false| .eptr _ _ _ _=>false| .clo _ (_::_)=>false|_=>true
def W.plain:W ->Bool| .c x=>x.plain| .agg cs=>cs.all C.plain
def V.plain:V ->Bool| .w x=>x.plain| .tup xs=>xs.all W.plain
theorem aal.asData {r:Res}{v:Value}(h:aal F w r v)(g:r.v.plain=true):aal F w r.asData v:=by
 obtain⟨_,ι,J,T,h3,U,h5,_⟩:=h;have hC: ∀{c:C}{v:Value},CR ι w (F.ok ι (xy (yg 0 r.pl.length) r.pl) w) c v ->c.plain=true ->CR ι w (F.ok ι [] w) (c.asData r.pl) v:=fun{c v} hc g=>
  at4 T U h5 ι hc (λp o e=>by rw[e]at g;cases g) (λp z i k e=>by rw[e]at g;cases g) (λf p ps e=>by rw[e]at g;cases g)
 have j: ∀(cs:List C) (vs:List Value),CRs ι w (F.ok ι (xy (yg 0 r.pl.length) r.pl) w) cs vs ->cs.all C.plain=true ->CRs ι w (F.ok ι [] w) (cs.map (C.asData r.pl)) vs:=by
  intro cs;induction cs with
  |nil=>intro vs h _;cases vs with|nil=>trivial|cons _ _=>exact h.elim
  |cons c cs I=>
   intro vs h g;cases vs with
   |nil=>exact h.elim
   |cons v vs=>
    rw[List.all_cons,Bool.and_eq_true]at g;exact⟨hC h.1 g.1,I vs h.2 g.2⟩
 have P: ∀{x:W}{v:Value},WR ι w (F.ok ι (xy (yg 0 r.pl.length) r.pl) w) x v ->x.plain=true ->WR ι w (F.ok ι [] w) (x.asData r.pl) v:=fun{x v} R g=>by
  cases x with
  |c c=>exact hC R g
  |agg cs=>obtain⟨vs,e,h⟩:=R;exact⟨vs,e,j cs vs h g⟩
 have l: ∀(cs:List W) (vs:List Value),qK ι w (F.ok ι (xy (yg 0 r.pl.length) r.pl) w) cs vs ->cs.all W.plain=true ->qK ι w (F.ok ι [] w) (cs.map (W.asData r.pl)) vs:=by
  intro cs;induction cs with
  |nil=>intro vs h _;cases vs with|nil=>trivial|cons _ _=>exact h.elim
  |cons c cs I=>
   intro vs h g;cases vs with
   |nil=>exact h.elim
   |cons v vs=>
    rw[List.all_cons,Bool.and_eq_true]at g;exact⟨P h.1 g.1,I vs h.2 g.2⟩
 refine⟨Nat.zero_le _,ι,?_,λp x h=>(by cases h),λp q x y b h=>(by cases h),λp x b h=>(by cases h),λp x h=>(by cases h),λp x h=>(by cases h)⟩;obtain⟨v',aa⟩:=r;cases v' with
 |w x=>exact P J g
 |tup xs=>obtain⟨vs,e,h⟩:=J;exact⟨vs,e,l xs vs h g⟩
end
theorem Sat.data {P:Program}{k:Nat}{args:List W}{Q i:Res ->Prop}(h:Sat P k args Q)(l: ∀r,Q r ->r.v.plain=true /\i r.asData):Sat P k args i:=
 ⟨h.1,λw A g o p=>(h.2 w A g o p).mono λ_ _ ⟨v,r,R,j,I,J⟩=>⟨v,r.asData,R,(l r j).2,I.asData (l r j).1,J⟩⟩
theorem zp {b:Bool}{X Y:Prop}(g:b=true ->X)(i:b=false ->Y):cond b X Y:=by grind
structure Tab (P:Program) where
 f:FuncId ->List W ->Option W
 ok: ∀k args w,f k args=some w ->Sat P k args (λr=>r=⟨.w w,[]⟩)
def jQ:List Prop ->Prop ->Prop
 | [],K=>K
 |p::r,K=>p /\jQ r K
theorem QP {l:List Prop}{K:Prop}(h:jQ l K):jQ l True /\K:=by
 induction l with
 |nil=>exact⟨trivial,h⟩
 |cons p r g=>exact⟨⟨h.1,(g h.2).1⟩,(g h.2).2⟩
theorem az0 {l:List Prop}{K:Prop}(h:jQ l True)(k:K):jQ l K:=by
 grind
theorem afx {l m:List Prop}(h:jQ (l++m) True):jQ l True /\jQ m True:=by
 induction l with
 |nil=>exact⟨trivial,h⟩
 |cons p r g=>exact⟨⟨h.1,(g h.2).1⟩,(g h.2).2⟩
def avp (s:S)(args:List W):Option (List W):=match abk s.pl args with|some (g,_)=>some g|none=>none
def aiV (f:FuncId ->List W ->Option W)(op:AOp)(s:S):Option (List Prop×V):=
 match op with
 | .mov x=>some ([],s.o x)
 | .pick c a b=>match yY (s.o c),yY (s.o a),yY (s.o b)with
   |some t,some x,some y=>some ([],yd (cond t x y))
   |_,_,_=>none
 | .ld g sz x=>match s.oc x with
   | .ptr p off=>match aget s.pl p with
     |some (.box cs)=>match KH g sz (cs.drop off)with|some w=>some ([],.w w)|none=>none
     |some (.fbox j)=>match KH g sz ((j.drop off).map .d)with|some w=>some ([],.w w)|none=>none
     |_=>none
   | .fp cells=>match KH g sz (cells.map .d)with|some w=>some ([],.w w)|none=>none
   |_=>none
 | .nc x=>match s.oc x with
   | .ptr p k=>some ([],cV (.ptr p k))
   | .eptr p z i k=>some ([],cV (.eptr p z i k))
   | .fp l=>some ([],cV (.fp l))
   |_=>none
 | .slen x=>match s.oc x with
   | .d (.lit (.string b))=>some ([],zj b.size)
   |_=>none
 | .bnot x=>match yY (s.o x)with
   |some b=>some ([],yd (!b))
   |none=>none
 | .ineg x=>match s.oc x with
   | .d (.lit (.int k n))=>some ([],cV (.d (.lit (.int k (k.wrap (0 - n))))))
   |_=>none
 | .beq neg x y=>match yY (s.o x),yY (s.o y)with
   |some a,some b=>some ([],yd (bif neg then a !=b else a==b))
   |_,_=>none
 | .conv k x=>match s.oc x with
   | .d (.lit (.int _ n))=>some ([],cV (.d (.lit (.int k (k.wrap n)))))
   |_=>none
 | .eqa neg I x y=>match s.o x,s.o y with
   | .w (.agg xs),.w (.agg ys)=>match Y3 I xs ys with
     |some b=>some ([],yd (bif neg then !b else b))
     |none=>none
   |_,_=>none
 | .fa off x=>match s.oc x with
   | .ptr p o=>some ([],cV (.ptr p (o+off)))
   | .eptr p z i k=>some ([],cV (.eptr p z i (k+off)))
   | .fp cells=>some ([],cV (.fp (cells.drop off)))
   |_=>none
 | .fld g sz off x=>match s.o x with
   | .w (.agg cs)=>match KH g sz (cs.drop off)with
     |some w=>some ([],.w w)
     |none=>none
   |_=>none
 | .six x i=>match s.oc x,XH (s.o i)with
   | .d (.lit (.string b)),some n=>some ([0<=n /\n<b.size],cV (.d (.lit (.int .u8 (b.data.toList.getD n.toNat 0).toNat))))
   |_,_=>none
 | .ext x i=>match s.o x with
   | .tup xs=>match xs[i]? with
     |some w=>some ([],.w w)
     |none=>none
   |_=>none
 | .len x=>match s.oc x with
   | .d (.sl l)=>some ([],zj l.length)
   | .nil=>some ([],zj 0)
   | .own _ _ n=>some ([],zj n)
   |_=>none
 | .bin b x y=>match s.oc x,s.oc y with
   | .d (.lit (.int k m)),.d (.lit (.int r n))=>bif Zw k r then
    match aiX b k m n with
    |some v=>some ([],cV (.d (.lit v)))
    |none=>none
     else none
   | .d (.lit (.string m)),.d (.lit (.string n))=>match aiY b m n with
     |some v=>some ([],cV (.d (.lit v)))
     |none=>none
   |_,_=>none
 | .mm J x y=>match s.oc x,s.oc y with
   | .d (.lit (.int k m)),.d (.lit (.int r n))=>bif Zw k r then some ([],cV (.d (.lit (.int k (yH J m n)))))else none
   |_,_=>none
 | .call k args=>match avp s (args.map s.ow)with
   |some j=>match f k j with
    |some w=>bif w.scalar then some ([],.w w)else none
    |none=>none
   |none=>none
 |_=>none
theorem UQ {v:V}{b:Bool}(h:yY v=some b):v=yd b:=by
 unfold yY at h;split at h
 ·cases h;rfl
 ·cases h
theorem kP {P:Program}{T:Tab P}{op:AOp}{s:S}{I:List Prop}{v:V}{dst:Option Nat}{K:S ->Prop}(h:aiV T.f op s=some (I,v))(p:jQ I True)(hk:K (s.put dst v))(R:isSome dst=true):
 z8 P dst op s K:=by
 unfold aiV at h;split at h
 ·cases h;exact hk
 ·simp only[z8]
  grind[UQ]
 ·simp only[z8,aLd]
  grind
 ·simp only[z8];grind
 ·simp only[z8];grind
 ·simp only[z8];grind
 ·simp only[z8];grind
 ·simp only[z8];grind
 ·simp only[z8];grind
 ·simp only[z8]
  grind
 ·simp only[z8];grind
 ·simp only[z8]
  grind
 ·simp only[z8];split at h
  ·cases h;rename_i i g;rw[i,g];exact⟨p.1.1,p.1.2,hk⟩
  ·cases h
 ·simp only[z8]
  grind
 ·simp only[z8];grind
 ·simp only[z8,ar1];split at h
  ·rename_i k m l n i g;rw[i,g];cases j:Zw k l<;>rw[j]at h
   ·cases h
   ·simp only[cond_true]at h⊢;rw[j];split at h<;>simp_all
  ·grind
  ·cases h
 ·simp only[z8,aMm];split at h
  ·rename_i k m l n i g;rw[i,g];cases j:Zw k l<;>simp_all
  ·cases h
 ·rename_i k args;simp only[z8,aam];unfold avp at h;cases i:abk s.pl (args.map s.ow)with
  |none=>grind
  |some x=>
   obtain⟨o,U⟩:=x;simp only[i]at h;cases g:T.f k o with
   |none=>grind
   |some w=>
    simp only[g]at h;cases J:w.scalar<;>rw[J]at h
    ·cases h
    ·cases h;refine Sat.mono (T.ok k o w g) ?_;rintro r rfl;cases dst with
     |none=>cases R
     |some d=>simp_all[ate,V.scalar]
 ·cases h
end Go.AM
