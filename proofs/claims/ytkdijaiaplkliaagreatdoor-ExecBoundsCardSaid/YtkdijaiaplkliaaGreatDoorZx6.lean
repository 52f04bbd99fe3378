import Derived.Test.YtkdijaiaplkliaaGreatDoorZx5
set_option linter.unusedSimpArgs false
set_option linter.unusedVariables false
set_option maxRecDepth 100000
set_option maxHeartbeats 4000000
namespace Go.AM
def WN (f:FuncId ->List W ->Option W)(op:AOp)(s:S)(fail:Prop)(K:List Prop ->V ->Prop):Prop:=
 match ace f op s with
 |some (g,v)=>aa7 v λv=>K g v
 |none=>fail
def ae7 (d:Nat):List Nat ->List AI ->(List AI ->List AI ->Prop) ->Prop
 |_,[],K=>K [] []
 |U,.mk dst g i op drop::r,K=>match g with
  |some (e,w)=>bif Nat.beq e d||isin e U then ae7 d (match dst with|some x=>x::U|none=>U) r λa b=>K (.mk dst (some (e,w)) i op drop::a) b
   else K [] (.mk dst (some (e,w)) i op drop::r)
  |none=>K [] (.mk dst none i op drop::r)
mutual
def VE (f:FuncId ->List W ->Option W):Nat ->Nat ->Bool ->List AI ->S ->Prop ->(List Prop ->S ->Prop) ->Prop
 |0,_,_,_,_,fail,_=>fail
 |n+1,d,i,ops,s,fail,K=>match ops with
  | []=>K [] s
  | .mk dst g l op drop::r=>bif uV g (some (d,i))&&jm (s.tmp d) i&&isSome dst then
   WN f op s fail λJ v=>bif l then y8 (s.put dst v) λR=>scK f n (some (d,i)) dst drop r R fail λo p P=>VE f n d i P p fail λj I=>K (J++(o++j)) I
    else y8 ((s.put dst v).drop drop) λp=>VE f n d i r p fail λj I=>K (J++([]++j)) I
    else fail
def scK (f:FuncId ->List W ->Option W):Nat ->Option (Nat×Bool) ->Option Nat ->List Nat ->List AI ->S ->Prop ->(List Prop ->S ->List AI ->Prop) ->Prop
 |0,_,_,_,_,_,fail,_=>fail
 |n+1,J,dst,r,ops,s,fail,K=>match dst with
  |none=>fail
  |some d=>match yi (s.tmp d)with
   |none=>fail
   |some b=>ae7 d [] ops λI rest=>match I,rest with
    | .mk j (some (e,w)) l p g::i,.mk (some U) g2 false (.pick (.t c) x y) drop::r2=>
      bif Nat.beq c d&&uV g2 J&&Wd drop J&&Xg (s.drop r) J&&Qz d w [] (.mk j (some (e,w)) l p g::i)&&qG drop (.mk j (some (e,w)) l p g::i)&&isin d drop&& !isin d r&&sortedB s.sl then
       y8 ((s.put (some d) (zZ w)).drop r) λs1=>VE f n d w (.mk j (some (e,w)) l p g::i) s1 fail λps P=>match yi (P.o (bif w then x else y)),(bif w then y else x)with
        |some R,.k v=>match yi v with
         |some T=>bif jm (P.tmp d) w then y8 (((s.drop r).put (some U) (scV w b R T)).drop drop) λs2=>K (ajC (bif w then b else !b) ps) s2 r2 else fail
         |none=>fail
        |_,_=>fail
      else fail
    |_,_=>fail
end
theorem aaC (d:Nat): ∀(U:List Nat) (ops:List AI) (K:List AI ->List AI ->Prop),ae7 d U ops K=K (wm d U ops).1 (wm d U ops).2
 |_,[],K=>rfl
 |U,.mk dst g i op drop::r,K=>by
  unfold ae7 wm;cases g with
  |none=>rfl
  |some x=>
   obtain⟨e,w⟩:=x;simp only;cases j:(Nat.beq e d||isin e U)
   ·rfl
   ·simp only[cond_true];rw[aaC d _ r];cases dst<;>rfl
theorem aft {f:FuncId ->List W ->Option W}{op:AOp}{s:S}{fail:Prop}{K:List Prop ->V ->Prop}(h:WN f op s fail K):fail\/ ∃g v,ace f op s=some (g,v)/\K g v:=by
 grind[WN,Kp]
def ai7 (f:FuncId ->List W ->Option W)(n:Nat):Prop:= ∀d g ops s fail (K:List Prop ->S ->Prop),VE f n d g ops s fail K ->fail\/ ∃i j,VD f n d g ops s=some (i,j)/\K i j
def ams (f:FuncId ->List W ->Option W)(n:Nat):Prop:= ∀i dst g ops s fail (K:List Prop ->S ->List AI ->Prop),scK f n i dst g ops s fail K ->fail\/ ∃j o l,scB f n i dst g ops s=some (j,o,l)/\K j o l
theorem aoZ {f:FuncId ->List W ->Option W}{n:Nat}(o:ai7 f n)(hs:ams f n):ai7 f (n+1):=by
 intro d j ops s fail K h;unfold VE at h;unfold VD;cases ops with
 |nil=>grind
 |cons i r=>
  obtain⟨dst,g,l,op,drop⟩:=i;simp only at h⊢;cases P:(uV g (some (d,j))&&jm (s.tmp d) j&&isSome dst)<;>rw[P]at h
  ·grind
  simp only[cond_true]at h⊢;rcases aft h with h|⟨ps,v,J,h⟩
  ·grind
  rw[J];simp only;cases l with
  |true=>
   simp only[cond_true,yU]at h⊢;rcases hs _ _ _ _ _ _ _ h with h|⟨U,s2,r2,p,h⟩
   ·grind
   rw[p];simp only;rcases o _ _ _ _ _ _ h with h|⟨R,T,I,h⟩
   ·grind
   grind
  |false=>
   simp only[cond_false,yU]at h⊢;rcases o _ _ _ _ _ _ h with h|⟨R,T,I,h⟩
   ·grind
   grind
theorem ape {f:FuncId ->List W ->Option W}{n:Nat}(R:ai7 f n):ams f (n+1):=by
 intro p dst r ops s fail K h;unfold scK at h;unfold scB;cases dst with
 |none=>grind
 |some d=>
 simp only at h⊢;cases P:yi (s.tmp d)with
 |none=>grind
 |some b=>
 rw[P]at h;simp only[aaC]at h⊢;generalize wm d [] ops=q at*;obtain⟨I,rest⟩:=q;simp only at h⊢;split at h
 ·rename_i j e w l o g i T g2 c x y drop r2;simp only;generalize(Nat.beq c d&&uV g2 p&&Wd drop p&&Xg (s.drop r) p&&Qz d w [] (AI.mk j (some (e,w)) l o g::i)&&qG drop (AI.mk j (some (e,w)) l o g::i)&&isin d drop&& !isin d r&&sortedB s.sl)=J at h⊢;cases J
  ·grind
  simp only[cond_true,yU]at h⊢;rcases R _ _ _ _ _ _ h with h|⟨ps,sb,U,h⟩
  ·grind
  grind
 grind
theorem ae3 (f:FuncId ->List W ->Option W): ∀n,ai7 f n /\ams f n
 |0=>⟨(by intro d g ops s fail K h;grind[VE]),(by intro j dst i ops s fail K h;grind[scK])⟩
 |n+1=>⟨aoZ (ae3 f n).1 (ae3 f n).2,ape (ae3 f n).1⟩
theorem UL {b:Bool}{A B g i:Prop}(j:A ->g)(l:B ->i):cond b A B ->cond b g i:=by grind
theorem aaO {f:FuncId ->List W ->Option W}{op:AOp}{s:S}{fail g:Prop}{K i:List Prop ->V ->Prop}(l:fail ->g)(hk: ∀j v,K j v ->i j v)(h:WN f op s fail K):WN f op s g i:=by
 grind[WN,Kp]
def aeV (f:FuncId ->List W ->Option W)(n:Nat):Prop:= ∀d i ops s (fail g:Prop) (K j:List Prop ->S ->Prop),(fail ->g) ->(∀l s,K l s ->j l s) ->VE f n d i ops s fail K ->VE f n d i ops s g j
def ai8 (f:FuncId ->List W ->Option W)(n:Nat):Prop:= ∀l dst j ops s (fail g:Prop) (K i:List Prop ->S ->List AI ->Prop),(fail ->g) ->(∀o s r,K o s r ->i o s r) ->scK f n l dst j ops s fail K ->scK f n l dst j ops s g i
theorem ao0 {f:FuncId ->List W ->Option W}{n:Nat}(p:aeV f n)(hs:ai8 f n):aeV f (n+1):=by
 intro d I ops s fail l K J j hk h;unfold VE at h⊢;cases ops with
 |nil=>grind
 |cons i r=>
  obtain⟨dst,g,o,op,drop⟩:=i;simp only at h⊢;refine UL (λh=>aaO j (λP v h=>?_) h) j h;cases o with
  |true=>
   simp only[cond_true,yU]at h⊢;exact hs _ _ _ _ _ _ _ _ _ j (λ_ _ _ h=>p _ _ _ _ _ _ _ _ j (λ_ _=>hk _ _) h) h
  |false=>
   simp only[cond_false,yU]at h⊢;exact p _ _ _ _ _ _ _ _ j (λ_ _=>hk _ _) h
theorem apf {f:FuncId ->List W ->Option W}{n:Nat}(o:aeV f n):ai8 f (n+1):=by
 intro I dst r ops s fail i K p g hk h;unfold scK at h⊢;cases dst with
 |none=>exact g h
 |some d=>
 simp only at h⊢;cases l:yi (s.tmp d)with
 |none=>grind
 |some b=>
 rw[l]at h;simp only[aaC]at h⊢;generalize wm d [] ops=q at*;obtain⟨j,rest⟩:=q;simp only at h⊢;split at h
 ·refine UL (λh=>?_) g h;simp only[yU]at h⊢;refine o _ _ _ _ _ _ _ _ g (λJ P h=>?_) h;split at h
  ·split at h
   ·exact UL (hk _ _ _) g h
   grind
  grind
 grind
theorem U1 (f:FuncId ->List W ->Option W): ∀n,aeV f n /\ai8 f n
 |0=>⟨(by intro d i ops s fail g K j l hk h;grind[VE]),(by intro p dst o ops s fail g K j l hk h;grind[scK])⟩
 |n+1=>⟨ao0 (U1 f n).1 (U1 f n).2,apf (U1 f n).1⟩
theorem anW {f:FuncId ->List W ->Option W}{n:Nat}{l:Option (Nat×Bool)}{dst:Option Nat}{j:List Nat}{ops:List AI}{s:S}{fail g:Prop}{K i:List Prop ->S ->List AI ->Prop}(p:fail ->g)(hk: ∀o s r,K o s r ->i o s r)
 (h:scK f n l dst j ops s fail K):scK f n l dst j ops s g i:=(U1 f n).2 _ _ _ _ _ _ _ _ _ p hk h
end Go.AM
