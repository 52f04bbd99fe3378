import Derived.Test.YtkdijaiaplkliaaGreatDoorZp5
set_option linter.unusedSimpArgs false
set_option linter.unusedVariables false
set_option maxRecDepth 100000
set_option maxHeartbeats 4000000
open _root_ renaming List->am,Option->aA,cond_true->aB
open Nat renaming beq->aC
namespace Go.AM
def KO(f:FuncId->am W->aA W)(op:AOp)(s:S)(fail:Prop)(K:am Prop->V->Prop):Prop:=
 match ai5 f op s with
 |some (g,v)=>ahL v λv=>K g v
 |none=>fail
def amA(d:Nat):am Nat->am AI->(am AI->am AI->Prop)->Prop
 |_,[],K=>K [] []
 |U,.mk dst g i op drop::r,K=>match g with
  |some (e,w)=>bif aC e d||isin e U then amA d (match dst with|some x=>x::U|none=>U) r λa b=>K (.mk dst (some (e,w)) i op drop::a) b
   else K [] (.mk dst (some (e,w)) i op drop::r)
  |none=>K [] (.mk dst none i op drop::r)
mutual
def gh(f:FuncId->am W->aA W):Nat->Nat->Bool->am AI->S->Prop->(am Prop->S->Prop)->Prop
 |0,_,_,_,_,fail,_=>fail
 |n+1,d,i,ops,s,fail,K=>match ops with
  |[]=>K [] s
  |.mk dst g l op drop::r=>bif ZQ g (some (d,i))&&Yv (s.tmp d) i&&isSome dst then
   KO f op s fail λJ v=>bif l then xN (s.put dst v) λR=>scK f n (some (d,i)) dst drop r R fail λo p P=>gh f n d i P p fail λj I=>K (J++(o++j)) I
    else xN ((s.put dst v).drop drop) λp=>gh f n d i r p fail λj I=>K (J++([]++j)) I
    else fail
def scK(f:FuncId->am W->aA W):Nat->aA (Nat×Bool)->aA Nat->am Nat->am AI->S->Prop->(am Prop->S->am AI->Prop)->Prop
 |0,_,_,_,_,_,fail,_=>fail
 |n+1,J,dst,r,ops,s,fail,K=>match dst with
  |none=>fail
  |some d=>match yL (s.tmp d)with
   |none=>fail
   |some b=>amA d [] ops λI rest=>match I,rest with
    |.mk j (some (e,w)) l p g::i,.mk (some dp) g2 false (.pick (.t c) x y) drop::r2=>
      bif aC c d&&ZQ g2 J&&JT drop J&&Vd (s.drop r) J&&U8 d w [] (.mk j (some (e,w)) l p g::i)&&vJ drop (.mk j (some (e,w)) l p g::i)&&isin d drop&&!isin d r&&sortedB s.sl then
       xN ((s.put (some d) (zZ w)).drop r) λs1=>gh f n d w (.mk j (some (e,w)) l p g::i) s1 fail λps P=>match yL (P.o (bif w then x else y)),(bif w then y else x)with
        |some R,.k v=>match yL v with
         |some U=>bif Yv (P.tmp d) w then xN (((s.drop r).put (some dp) (scV w b R U)).drop drop) λs2=>K (asx (bif w then b else !b) ps) s2 r2 else fail
         |none=>fail
        |_,_=>fail
      else fail
    |_,_=>fail
end
theorem ag8(d:Nat):∀(U:am Nat) (ops:am AI) (K:am AI->am AI->Prop),amA d U ops K=K (xx d U ops).1 (xx d U ops).2
 |_,[],K=>rfl
 |U,.mk dst g i op drop::r,K=>by
  unfold amA xx;cases g with
  |none=>rfl
  |some x=>
   obtain⟨e,w⟩:=x;simp only;cases j:(aC e d||isin e U)
   .rfl
   simp only[aB];rw[ag8 d _ r];cases dst<;>rfl
theorem am4{f:FuncId->am W->aA W}{op:AOp}{s:S}{fail:Prop}{K:am Prop->V->Prop}(h:KO f op s fail K):fail\/∃g v,ai5 f op s=some (g,v)/\K g v:=by grind[KO,adg]
def arS(f:FuncId->am W->aA W)(n:Nat):Prop:=∀d g ops s fail (K:am Prop->S->Prop),gh f n d g ops s fail K->fail\/∃i j,gg f n d g ops s=some (i,j)/\K i j
def awe(f:FuncId->am W->aA W)(n:Nat):Prop:=∀i dst g ops s fail (K:am Prop->S->am AI->Prop),scK f n i dst g ops s fail K->fail\/∃j o l,scB f n i dst g ops s=some (j,o,l)/\K j o l
theorem az6{f:FuncId->am W->aA W}{n:Nat}(o:arS f n)(hs:awe f n):arS f (n+1):=by
 intro d j ops s fail K h;unfold gh at h;unfold gg;cases ops with
 |nil=>grind
 |cons i r=>
  obtain⟨dst,g,l,op,drop⟩:=i;simp only at h⊢;cases P:(ZQ g (some (d,j))&&Yv (s.tmp d) j&&isSome dst)<;>rw[P]at h
  .grind
  simp only[aB]at h⊢;rcases am4 h with h|⟨ps,v,J,h⟩
  .grind
  rw[J];simp only;cases l with
  |true=>
   simp only[aB,xu]at h⊢;rcases hs _ _ _ _ _ _ _ h with h|⟨p2,s2,r2,p,h⟩
   .grind
   rw[p];simp only;rcases o _ _ _ _ _ _ h with h|⟨R,U,I,h⟩
   .grind
   grind
  |false=>
   simp only[cond_false,xu]at h⊢;rcases o _ _ _ _ _ _ h with h|⟨R,U,I,h⟩
   .grind
   grind
theorem aAp{f:FuncId->am W->aA W}{n:Nat}(R:arS f n):awe f (n+1):=by
 intro p dst r ops s fail K h;unfold scK at h;unfold scB;cases dst with
 |none=>grind
 |some d=>
 simp only at h⊢;cases P:yL (s.tmp d)with
 |none=>grind
 |some b=>
 rw[P]at h;simp only[ag8]at h⊢;generalize xx d [] ops=q at*;obtain⟨I,rest⟩:=q;simp only at h⊢;split at h
 .rename_i j e w l o g i U g2 c x y drop r2;simp only;generalize(aC c d&&ZQ g2 p&&JT drop p&&Vd (s.drop r) p&&U8 d w [] (AI.mk j (some (e,w)) l o g::i)&&vJ drop (AI.mk j (some (e,w)) l o g::i)&&isin d drop&&!isin d r&&sortedB s.sl)=J at h⊢;cases J
  .grind
  simp only[aB,xu]at h⊢;rcases R _ _ _ _ _ _ h with h|⟨ps,sb,h3,h⟩
  .grind
  grind
 grind
theorem amw(f:FuncId->am W->aA W):∀n,arS f n/\awe f n
 |0=>⟨(by intro d g ops s fail K h;grind[gh]),(by intro j dst i ops s fail K h;grind[scK])⟩
 |n+1=>⟨az6 (amw f n).1 (amw f n).2,aAp (amw f n).1⟩
theorem abf{b:Bool}{A B g i:Prop}(j:A->g)(l:B->i):cond b A B->cond b g i:=d9
theorem aho{f:FuncId->am W->aA W}{op:AOp}{s:S}{fail g:Prop}{K i:am Prop->V->Prop}(l:fail->g)(hk:∀j v,K j v->i j v)(h:KO f op s fail K):KO f op s g i:=by grind[KO,adg]
def amo(f:FuncId->am W->aA W)(n:Nat):Prop:=∀d i ops s (fail g:Prop) (K j:am Prop->S->Prop),(fail->g)->(∀l s,K l s->j l s)->gh f n d i ops s fail K->gh f n d i ops s g j
def arT(f:FuncId->am W->aA W)(n:Nat):Prop:=∀l dst j ops s (fail g:Prop) (K i:am Prop->S->am AI->Prop),(fail->g)->(∀o s r,K o s r->i o s r)->scK f n l dst j ops s fail K->scK f n l dst j ops s g i
theorem az7{f:FuncId->am W->aA W}{n:Nat}(p:amo f n)(hs:arT f n):amo f (n+1):=by
 intro d I ops s fail l K J j hk h;unfold gh at h⊢;cases ops with
 |nil=>grind
 |cons i r=>
  obtain⟨dst,g,o,op,drop⟩:=i;simp only at h⊢;refine abf (λh=>aho j (λP v h=>?_) h) j h;cases o with
  |true=>
   simp only[aB,xu]at h⊢;exact hs _ _ _ _ _ _ _ _ _ j (λ_ _ _ h=>p _ _ _ _ _ _ _ _ j (λ_ _=>hk _ _) h) h
  |false=>
   simp only[cond_false,xu]at h⊢;exact p _ _ _ _ _ _ _ _ j (λ_ _=>hk _ _) h
theorem aAq{f:FuncId->am W->aA W}{n:Nat}(o:amo f n):arT f (n+1):=by
 intro I dst r ops s fail i K p g hk h;unfold scK at h⊢;cases dst with
 |none=>exact g h
 |some d=>
 simp only at h⊢;cases l:yL (s.tmp d)with
 |none=>grind
 |some b=>
 rw[l]at h;simp only[ag8]at h⊢;generalize xx d [] ops=q at*;obtain⟨j,rest⟩:=q;simp only at h⊢;split at h
 .refine abf (λh=>?_) g h;simp only[xu]at h⊢;refine o _ _ _ _ _ _ _ _ g (λJ P h=>?_) h;split at h
  .split at h
   .exact abf (hk _ _ _) g h
   grind
  grind
 grind
theorem abu(f:FuncId->am W->aA W):∀n,amo f n/\arT f n
 |0=>⟨(by intro d i ops s fail g K j l hk h;grind[gh]),(by intro p dst o ops s fail g K j l hk h;grind[scK])⟩
 |n+1=>⟨az7 (abu f n).1 (abu f n).2,aAq (abu f n).1⟩
theorem ayM{f:FuncId->am W->aA W}{n:Nat}{l:aA (Nat×Bool)}{dst:aA Nat}{j:am Nat}{ops:am AI}{s:S}{fail g:Prop}{K i:am Prop->S->am AI->Prop}(p:fail->g)(hk:∀o s r,K o s r->i o s r)
 (h:scK f n l dst j ops s fail K):scK f n l dst j ops s g i:=(abu f n).2 _ _ _ _ _ _ _ _ _ p hk h
end Go.AM
