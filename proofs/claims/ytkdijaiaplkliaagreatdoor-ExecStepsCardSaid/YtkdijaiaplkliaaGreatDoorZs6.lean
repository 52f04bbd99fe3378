import Derived.Test.YtkdijaiaplkliaaGreatDoorZs5
set_option linter.unusedSimpArgs false
set_option linter.unusedVariables false
set_option maxRecDepth 100000
set_option maxHeartbeats 4000000
open _root_ renaming List->am,Option->aA,cond_true->aB
open Nat renaming beq->aC
namespace Go.AM
def Jy (f:FuncId ->am W ->aA W)(op:AOp)(s:S)(fail:Prop)(K:am Prop ->V ->Prop):Prop:=
 match agX f op s with
 |some (g,v)=>afD v λv=>K g v
 |none=>fail
def ake (d:Nat):am Nat ->am AI ->(am AI ->am AI ->Prop) ->Prop
 |_,[],K=>K [] []
 |U,.mk dst g i op drop::r,K=>match g with
  |some (e,w)=>bif aC e d||isin e U then ake d (match dst with|some x=>x::U|none=>U) r λa b=>K (.mk dst (some (e,w)) i op drop::a) b
   else K [] (.mk dst (some (e,w)) i op drop::r)
  |none=>K [] (.mk dst none i op drop::r)
mutual
def KC (f:FuncId ->am W ->aA W):Nat ->Nat ->Bool ->am AI ->S ->Prop ->(am Prop ->S ->Prop) ->Prop
 |0,_,_,_,_,fail,_=>fail
 |n+1,d,i,ops,s,fail,K=>match ops with
  | []=>K [] s
  | .mk dst g l op drop::r=>bif Ze g (some (d,i))&&ZO (s.tmp d) i&&isSome dst then
   Jy f op s fail λJ v=>bif l then xG (s.put dst v) λR=>scK f n (some (d,i)) dst drop r R fail λo p P=>KC f n d i P p fail λj I=>K (J++(o++j)) I
    else xG ((s.put dst v).drop drop) λp=>KC f n d i r p fail λj I=>K (J++([]++j)) I
    else fail
def scK (f:FuncId ->am W ->aA W):Nat ->aA (Nat×Bool) ->aA Nat ->am Nat ->am AI ->S ->Prop ->(am Prop ->S ->am AI ->Prop) ->Prop
 |0,_,_,_,_,_,fail,_=>fail
 |n+1,J,dst,r,ops,s,fail,K=>match dst with
  |none=>fail
  |some d=>match yC (s.tmp d)with
   |none=>fail
   |some b=>ake d [] ops λI rest=>match I,rest with
    | .mk j (some (e,w)) l p g::i,.mk (some dp) g2 false (.pick (.t c) x y) drop::r2=>
      bif aC c d&&Ze g2 J&&UG drop J&&Q8 (s.drop r) J&&VP d w [] (.mk j (some (e,w)) l p g::i)&&w9 drop (.mk j (some (e,w)) l p g::i)&&isin d drop&& !isin d r&&sortedB s.sl then
       xG ((s.put (some d) (ya w)).drop r) λs1=>KC f n d w (.mk j (some (e,w)) l p g::i) s1 fail λps P=>match yC (P.o (bif w then x else y)),(bif w then y else x)with
        |some R,.k v=>match yC v with
         |some U=>bif ZO (P.tmp d) w then xG (((s.drop r).put (some dp) (scV w b R U)).drop drop) λs2=>K (apC (bif w then b else !b) ps) s2 r2 else fail
         |none=>fail
        |_,_=>fail
      else fail
    |_,_=>fail
end
theorem ae2 (d:Nat): ∀(U:am Nat) (ops:am AI) (K:am AI ->am AI ->Prop),ake d U ops K=K (xK d U ops).1 (xK d U ops).2
 |_,[],K=>rfl
 |U,.mk dst g i op drop::r,K=>by
  unfold ake xK;cases g with
  |none=>rfl
  |some x=>
   obtain⟨e,w⟩:=x;simp only;cases j:(aC e d||isin e U)
   ·rfl
   simp only[aB];rw[ae2 d _ r];cases dst<;>rfl
theorem akI {f:FuncId ->am W ->aA W}{op:AOp}{s:S}{fail:Prop}{K:am Prop ->V ->Prop}(h:Jy f op s fail K):fail\/ ∃g v,agX f op s=some (g,v)/\K g v:=by
 grind[Jy,abs]
def aoX (f:FuncId ->am W ->aA W)(n:Nat):Prop:= ∀d g ops s fail (K:am Prop ->S ->Prop),KC f n d g ops s fail K ->fail\/ ∃i j,KB f n d g ops s=some (i,j)/\K i j
def as7 (f:FuncId ->am W ->aA W)(n:Nat):Prop:= ∀i dst g ops s fail (K:am Prop ->S ->am AI ->Prop),scK f n i dst g ops s fail K ->fail\/ ∃j o l,scB f n i dst g ops s=some (j,o,l)/\K j o l
theorem awn {f:FuncId ->am W ->aA W}{n:Nat}(o:aoX f n)(hs:as7 f n):aoX f (n+1):=by
 intro d j ops s fail K h;unfold KC at h;unfold KB;cases ops with
 |nil=>grind
 |cons i r=>
  obtain⟨dst,g,l,op,drop⟩:=i;simp only at h⊢;cases P:(Ze g (some (d,j))&&ZO (s.tmp d) j&&isSome dst)<;>rw[P]at h
  ·grind
  simp only[aB]at h⊢;rcases akI h with h|⟨ps,v,J,h⟩
  ·grind
  rw[J];simp only;cases l with
  |true=>
   simp only[aB,xy]at h⊢;rcases hs _ _ _ _ _ _ _ h with h|⟨p2,s2,r2,p,h⟩
   ·grind
   rw[p];simp only;rcases o _ _ _ _ _ _ h with h|⟨R,U,I,h⟩
   ·grind
   grind
  |false=>
   simp only[cond_false,xy]at h⊢;rcases o _ _ _ _ _ _ h with h|⟨R,U,I,h⟩
   ·grind
   grind
theorem awH {f:FuncId ->am W ->aA W}{n:Nat}(R:aoX f n):as7 f (n+1):=by
 intro p dst r ops s fail K h;unfold scK at h;unfold scB;cases dst with
 |none=>grind
 |some d=>
 simp only at h⊢;cases P:yC (s.tmp d)with
 |none=>grind
 |some b=>
 rw[P]at h;simp only[ae2]at h⊢;generalize xK d [] ops=q at*;obtain⟨I,rest⟩:=q;simp only at h⊢;split at h
 ·rename_i j e w l o g i U g2 c x y drop r2;simp only;generalize(aC c d&&Ze g2 p&&UG drop p&&Q8 (s.drop r) p&&VP d w [] (AI.mk j (some (e,w)) l o g::i)&&w9 drop (AI.mk j (some (e,w)) l o g::i)&&isin d drop&& !isin d r&&sortedB s.sl)=J at h⊢;cases J
  ·grind
  simp only[aB,xy]at h⊢;rcases R _ _ _ _ _ _ h with h|⟨ps,sb,h3,h⟩
  ·grind
  grind
 grind
theorem aka (f:FuncId ->am W ->aA W): ∀n,aoX f n /\as7 f n
 |0=>⟨(by intro d g ops s fail K h;grind[KC]),(by intro j dst i ops s fail K h;grind[scK])⟩
 |n+1=>⟨awn (aka f n).1 (aka f n).2,awH (aka f n).1⟩
theorem gA {b:Bool}{A B g i:Prop}(j:A ->g)(l:B ->i):cond b A B ->cond b g i:=by grind
theorem aff {f:FuncId ->am W ->aA W}{op:AOp}{s:S}{fail g:Prop}{K i:am Prop ->V ->Prop}(l:fail ->g)(hk: ∀j v,K j v ->i j v)(h:Jy f op s fail K):Jy f op s g i:=by
 grind[Jy,abs]
def aj0 (f:FuncId ->am W ->aA W)(n:Nat):Prop:= ∀d i ops s (fail g:Prop) (K j:am Prop ->S ->Prop),(fail ->g) ->(∀l s,K l s ->j l s) ->KC f n d i ops s fail K ->KC f n d i ops s g j
def aoY (f:FuncId ->am W ->aA W)(n:Nat):Prop:= ∀l dst j ops s (fail g:Prop) (K i:am Prop ->S ->am AI ->Prop),(fail ->g) ->(∀o s r,K o s r ->i o s r) ->scK f n l dst j ops s fail K ->scK f n l dst j ops s g i
theorem awo {f:FuncId ->am W ->aA W}{n:Nat}(p:aj0 f n)(hs:aoY f n):aj0 f (n+1):=by
 intro d I ops s fail l K J j hk h;unfold KC at h⊢;cases ops with
 |nil=>grind
 |cons i r=>
  obtain⟨dst,g,o,op,drop⟩:=i;simp only at h⊢;refine gA (λh=>aff j (λP v h=>?_) h) j h;cases o with
  |true=>
   simp only[aB,xy]at h⊢;exact hs _ _ _ _ _ _ _ _ _ j (λ_ _ _ h=>p _ _ _ _ _ _ _ _ j (λ_ _=>hk _ _) h) h
  |false=>
   simp only[cond_false,xy]at h⊢;exact p _ _ _ _ _ _ _ _ j (λ_ _=>hk _ _) h
theorem awI {f:FuncId ->am W ->aA W}{n:Nat}(o:aj0 f n):aoY f (n+1):=by
 intro I dst r ops s fail i K p g hk h;unfold scK at h⊢;cases dst with
 |none=>exact g h
 |some d=>
 simp only at h⊢;cases l:yC (s.tmp d)with
 |none=>grind
 |some b=>
 rw[l]at h;simp only[ae2]at h⊢;generalize xK d [] ops=q at*;obtain⟨j,rest⟩:=q;simp only at h⊢;split at h
 ·refine gA (λh=>?_) g h;simp only[xy]at h⊢;refine o _ _ _ _ _ _ _ _ g (λJ P h=>?_) h;split at h
  ·split at h
   ·exact gA (hk _ _ _) g h
   grind
  grind
 grind
theorem gQ (f:FuncId ->am W ->aA W): ∀n,aj0 f n /\aoY f n
 |0=>⟨(by intro d i ops s fail g K j l hk h;grind[KC]),(by intro p dst o ops s fail g K j l hk h;grind[scK])⟩
 |n+1=>⟨awo (gQ f n).1 (gQ f n).2,awI (gQ f n).1⟩
theorem au3 {f:FuncId ->am W ->aA W}{n:Nat}{l:aA (Nat×Bool)}{dst:aA Nat}{j:am Nat}{ops:am AI}{s:S}{fail g:Prop}{K i:am Prop ->S ->am AI ->Prop}(p:fail ->g)(hk: ∀o s r,K o s r ->i o s r)
 (h:scK f n l dst j ops s fail K):scK f n l dst j ops s g i:=(gQ f n).2 _ _ _ _ _ _ _ _ _ p hk h
end Go.AM
