import Derived.Test.YtnlbmefhdiabcaaGreatZt5
set_option linter.unusedSimpArgs false
set_option linter.unusedVariables false
set_option maxRecDepth 100000
set_option maxHeartbeats 4000000
open _root_ renaming List->am,Option->aA,cond_true->aC
open Go renaming FuncId->aB
open Nat renaming beq->aD
namespace Go.AM
def kY(f:aB->am W->aA W)(op:AOp)(s:S)(fail:Prop)(K:am Prop->V->Prop):Prop:=
 match alS f op s with
 |some (g,v)=>akj v λv=>K g v
 |none=>fail
def aqr(d:Nat):am Nat->am AI->(am AI->am AI->Prop)->Prop
 |_,[],K=>K [] []
 |U,.mk dst g i op drop::r,K=>match g with
  |some (e,w)=>bif aD e d||isin e U then aqr d (match dst with|some x=>x::U|none=>U) r λa b=>K (.mk dst (some (e,w)) i op drop::a) b
   else K [] (.mk dst (some (e,w)) i op drop::r)
  |none=>K [] (.mk dst none i op drop::r)
mutual
def aaO(f:aB->am W->aA W):Nat->Nat->Bool->am AI->S->Prop->(am Prop->S->Prop)->Prop
 |0,_,_,_,_,fail,_=>fail
 |n+1,d,i,ops,s,fail,K=>match ops with
  |[]=>K [] s
  |.mk dst g l op drop::r=>bif YK g (some (d,i))&&Xk (s.tmp d) i&&isSome dst then
   kY f op s fail λJ v=>bif l then qo (s.put dst v) λR=>scK f n (some (d,i)) dst drop r R fail λo p P=>aaO f n d i P p fail λj I=>K (J++(o++j)) I
    else qo ((s.put dst v).drop drop) λp=>aaO f n d i r p fail λj I=>K (J++([]++j)) I
    else fail
def scK(f:aB->am W->aA W):Nat->aA (Nat×Bool)->aA Nat->am Nat->am AI->S->Prop->(am Prop->S->am AI->Prop)->Prop
 |0,_,_,_,_,_,fail,_=>fail
 |n+1,J,dst,r,ops,s,fail,K=>match dst with
  |none=>fail
  |some d=>match xe (s.tmp d)with
   |none=>fail
   |some b=>aqr d [] ops λI rest=>match I,rest with
    |.mk j (some (e,w)) l p g::i,.mk (some U) g2 false (.pick (.t c) x y) drop::r2=>
      bif aD c d&&YK g2 J&&K9 drop J&&Uc (s.drop r) J&&J9 d w [] (.mk j (some (e,w)) l p g::i)&&vZ drop (.mk j (some (e,w)) l p g::i)&&isin d drop&&!isin d r&&sortedB s.sl then
       qo ((s.put (some d) (yf w)).drop r) λs1=>aaO f n d w (.mk j (some (e,w)) l p g::i) s1 fail λps P=>match xe (P.o (bif w then x else y)),(bif w then y else x)with
        |some R,.k v=>match xe v with
         |some T=>bif Xk (P.tmp d) w then qo (((s.drop r).put (some U) (scV w b R T)).drop drop) λs2=>K (axl (bif w then b else !b) ps) s2 r2 else fail
         |none=>fail
        |_,_=>fail
      else fail
    |_,_=>fail
end
theorem aju(d):∀(U) (ops:am AI) (K:am AI->am AI->Prop),aqr d U ops K=K (qK d U ops).1 (qK d U ops).2
 |_,[],K=>rfl
 |U,.mk dst g i op drop::r,K=>by
  unfold aqr qK;cases g with
  |none=>rfl
  |some x=>
   obtain⟨e,w⟩:=x;simp only;cases j:(aD e d||isin e U)
   .rfl
   simp only[aC];rw[aju d _ r];cases dst<;>rfl
theorem aqX{f:aB->am W->aA W}{op}{s}{fail}{K:am Prop->V->Prop}(h:kY f op s fail K):fail\/∃g v,alS f op s=some (g,v)/\K g v:=by grind[kY,aeZ]
def awj(f:aB->am W->aA W)(n):=∀d g ops s fail (K:am Prop->S->Prop),aaO f n d g ops s fail K->fail\/∃i j,aaN f n d g ops s=some (i,j)/\K i j
def aBj(f:aB->am W->aA W)(n):=∀i dst g ops s fail (K:am Prop->S->am AI->Prop),scK f n i dst g ops s fail K->fail\/∃j o l,scB f n i dst g ops s=some (j,o,l)/\K j o l
theorem aFg{f:aB->am W->aA W}{n}(o:awj f n)(hs:aBj f n):awj f (n+1):=by
 intro d j ops s fail K h;unfold aaO at h;unfold aaN;cases ops with
 |nil=>grind
 |cons i r=>
  obtain⟨dst,g,l,op,drop⟩:=i;simp only at h⊢;cases P:(YK g (some (d,j))&&Xk (s.tmp d) j&&isSome dst)<;>rw[P]at h
  .grind
  simp only[aC]at h⊢;rcases aqX h with h|⟨ps,v,J,h⟩
  .grind
  rw[J];simp only;cases l with
  |true=>
   simp only[aC,xY]at h⊢;rcases hs _ _ _ _ _ _ _ h with h|⟨U,s2,r2,p,h⟩
   .grind
   rw[p];simp only;rcases o _ _ _ _ _ _ h with h|⟨R,T,I,h⟩
   .grind
   grind
  |false=>
   simp only[cond_false,xY]at h⊢;rcases o _ _ _ _ _ _ h with h|⟨R,T,I,h⟩
   .grind
   grind
theorem aFD{f:aB->am W->aA W}{n}(R:awj f n):aBj f (n+1):=by
 intro p dst r ops s fail K h;unfold scK at h;unfold scB;cases dst with
 |none=>grind
 |some d=>
 simp only at h⊢;cases P:xe (s.tmp d)with
 |none=>grind
 |some b=>
 rw[P]at h;simp only[aju]at h⊢;generalize qK d [] ops=q at*;obtain⟨I,rest⟩:=q;simp only at h⊢;split at h
 .rename_i j e w l o g i T g2 c x y drop r2;simp only;generalize(aD c d&&YK g2 p&&K9 drop p&&Uc (s.drop r) p&&J9 d w [] (AI.mk j (some (e,w)) l o g::i)&&vZ drop (AI.mk j (some (e,w)) l o g::i)&&isin d drop&&!isin d r&&sortedB s.sl)=J at h⊢;cases J
  .grind
  simp only[aC,xY]at h⊢;rcases R _ _ _ _ _ _ h with h|⟨ps,sb,U,h⟩
  .grind
  grind
 grind
theorem aqn(f:aB->am W->aA W):∀n,awj f n/\aBj f n
 |0=>⟨(by intro d g ops s fail K h;grind[aaO]),(by intro j dst i ops s fail K h;grind[scK])⟩
 |n+1=>⟨aFg (aqn f n).1 (aqn f n).2,aFD (aqn f n).1⟩
theorem acI{b}{A B g i:Prop}(j:A->g)(l:B->i):cond b A B->cond b g i:=ek
theorem ajL{f:aB->am W->aA W}{op}{s}{fail g}{K i:am Prop->V->Prop}(l:fail->g)(hk:∀j v,K j v->i j v)(h:kY f op s fail K):kY f op s g i:=by grind[kY,aeZ]
def aqf(f:aB->am W->aA W)(n):=∀d i ops s (fail g:Prop) (K j:am Prop->S->Prop),(fail->g)->(∀l s,K l s->j l s)->aaO f n d i ops s fail K->aaO f n d i ops s g j
def awk(f:aB->am W->aA W)(n):=∀l dst j ops s (fail g:Prop) (K i:am Prop->S->am AI->Prop),(fail->g)->(∀o s r,K o s r->i o s r)->scK f n l dst j ops s fail K->scK f n l dst j ops s g i
theorem aFh{f:aB->am W->aA W}{n}(p:aqf f n)(hs:awk f n):aqf f (n+1):=by
 intro d I ops s fail l K J j hk h;unfold aaO at h⊢;cases ops with
 |nil=>grind
 |cons i r=>
  obtain⟨dst,g,o,op,drop⟩:=i;simp only at h⊢;refine acI (λh=>ajL j (λP v h=>?_) h) j h;cases o with
  |true=>
   simp only[aC,xY]at h⊢;exact hs _ _ _ _ _ _ _ _ _ j (λ_ _ _ h=>p _ _ _ _ _ _ _ _ j (λ_ _=>hk _ _) h) h
  |false=>
   simp only[cond_false,xY]at h⊢;exact p _ _ _ _ _ _ _ _ j (λ_ _=>hk _ _) h
theorem aFE{f:aB->am W->aA W}{n}(o:aqf f n):awk f (n+1):=by
 intro I dst r ops s fail i K p g hk h;unfold scK at h⊢;cases dst with
 |none=>exact g h
 |some d=>
 simp only at h⊢;cases l:xe (s.tmp d)with
 |none=>grind
 |some b=>
 rw[l]at h;simp only[aju]at h⊢;generalize qK d [] ops=q at*;obtain⟨j,rest⟩:=q;simp only at h⊢;split at h
 .refine acI (λh=>?_) g h;simp only[xY]at h⊢;refine o _ _ _ _ _ _ _ _ g (λJ P h=>?_) h;split at h
  .split at h
   .exact acI (hk _ _ _) g h
   grind
  grind
 grind
theorem ac5(f:aB->am W->aA W):∀n,aqf f n/\awk f n
 |0=>⟨(by intro d i ops s fail g K j l hk h;grind[aaO]),(by intro p dst o ops s fail g K j l hk h;grind[scK])⟩
 |n+1=>⟨aFh (ac5 f n).1 (ac5 f n).2,aFE (ac5 f n).1⟩
theorem aDG{f:aB->am W->aA W}{n}{l}{dst}{j}{ops}{s}{fail g}{K i:am Prop->S->am AI->Prop}(p:fail->g)(hk:∀o s r,K o s r->i o s r)
 (h:scK f n l dst j ops s fail K):scK f n l dst j ops s g i:=(ac5 f n).2 _ _ _ _ _ _ _ _ _ p hk h
end Go.AM
