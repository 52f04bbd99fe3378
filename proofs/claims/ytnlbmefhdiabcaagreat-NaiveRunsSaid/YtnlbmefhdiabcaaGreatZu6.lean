import Derived.Test.YtnlbmefhdiabcaaGreatZu5
set_option linter.unusedSimpArgs false
set_option linter.unusedVariables false
set_option maxRecDepth 100000
set_option maxHeartbeats 4000000
namespace Go.AM
def J8 (f:FuncId ->List W ->Option W)(op:AOp)(s:S)(fail:Prop)(K:List Prop ->V ->Prop):Prop:=
 match aiV f op s with
 |some (g,v)=>ahu v λv=>K g v
 |none=>fail
def amS (d:Nat):List Nat ->List AI ->(List AI ->List AI ->Prop) ->Prop
 |_,[],K=>K [] []
 |U,.mk dst g i op drop::r,K=>match g with
  |some (e,w)=>bif Nat.beq e d||isin e U then amS d (match dst with|some x=>x::U|none=>U) r λa b=>K (.mk dst (some (e,w)) i op drop::a) b
   else K [] (.mk dst (some (e,w)) i op drop::r)
  |none=>K [] (.mk dst none i op drop::r)
mutual
def kt (f:FuncId ->List W ->Option W):Nat ->Nat ->Bool ->List AI ->S ->Prop ->(List Prop ->S ->Prop) ->Prop
 |0,_,_,_,_,fail,_=>fail
 |n+1,d,i,ops,s,fail,K=>match ops with
  | []=>K [] s
  | .mk dst g l op drop::r=>bif Z5 g (some (d,i))&&YB (s.tmp d) i&&isSome dst then
   J8 f op s fail λJ v=>bif l then qa (s.put dst v) λR=>scK f n (some (d,i)) dst drop r R fail λo p P=>kt f n d i P p fail λj I=>K (J++(o++j)) I
    else qa ((s.put dst v).drop drop) λp=>kt f n d i r p fail λj I=>K (J++([]++j)) I
    else fail
def scK (f:FuncId ->List W ->Option W):Nat ->Option (Nat×Bool) ->Option Nat ->List Nat ->List AI ->S ->Prop ->(List Prop ->S ->List AI ->Prop) ->Prop
 |0,_,_,_,_,_,fail,_=>fail
 |n+1,J,dst,r,ops,s,fail,K=>match dst with
  |none=>fail
  |some d=>match yY (s.tmp d)with
   |none=>fail
   |some b=>amS d [] ops λI rest=>match I,rest with
    | .mk j (some (e,w)) l p g::i,.mk (some U) g2 false (.pick (.t c) x y) drop::r2=>
      bif Nat.beq c d&&Z5 g2 J&&JE drop J&&WV (s.drop r) J&&UM d w [] (.mk j (some (e,w)) l p g::i)&&vJ drop (.mk j (some (e,w)) l p g::i)&&isin d drop&& !isin d r&&sortedB s.sl then
       qa ((s.put (some d) (yd w)).drop r) λs1=>kt f n d w (.mk j (some (e,w)) l p g::i) s1 fail λps P=>match yY (P.o (bif w then x else y)),(bif w then y else x)with
        |some R,.k v=>match yY v with
         |some T=>bif YB (P.tmp d) w then qa (((s.drop r).put (some U) (scV w b R T)).drop drop) λs2=>K (asJ (bif w then b else !b) ps) s2 r2 else fail
         |none=>fail
        |_,_=>fail
      else fail
    |_,_=>fail
end
theorem agK (d:Nat): ∀(U:List Nat) (ops:List AI) (K:List AI ->List AI ->Prop),amS d U ops K=K (qA d U ops).1 (qA d U ops).2
 |_,[],K=>rfl
 |U,.mk dst g i op drop::r,K=>by
  unfold amS qA;cases g with
  |none=>rfl
  |some x=>
   obtain⟨e,w⟩:=x;simp only;cases j:(Nat.beq e d||isin e U)
   ·rfl
   ·simp only[cond_true];rw[agK d _ r];cases dst<;>rfl
theorem ank {f:FuncId ->List W ->Option W}{op:AOp}{s:S}{fail:Prop}{K:List Prop ->V ->Prop}(h:J8 f op s fail K):fail\/ ∃g v,aiV f op s=some (g,v)/\K g v:=by
 grind[J8,acw]
def arX (f:FuncId ->List W ->Option W)(n:Nat):Prop:= ∀d g ops s fail (K:List Prop ->S ->Prop),kt f n d g ops s fail K ->fail\/ ∃i j,kr f n d g ops s=some (i,j)/\K i j
def awq (f:FuncId ->List W ->Option W)(n:Nat):Prop:= ∀i dst g ops s fail (K:List Prop ->S ->List AI ->Prop),scK f n i dst g ops s fail K ->fail\/ ∃j o l,scB f n i dst g ops s=some (j,o,l)/\K j o l
theorem aAy {f:FuncId ->List W ->Option W}{n:Nat}(o:arX f n)(hs:awq f n):arX f (n+1):=by
 intro d j ops s fail K h;unfold kt at h;unfold kr;cases ops with
 |nil=>grind
 |cons i r=>
  obtain⟨dst,g,l,op,drop⟩:=i;simp only at h⊢;cases P:(Z5 g (some (d,j))&&YB (s.tmp d) j&&isSome dst)<;>rw[P]at h
  ·grind
  simp only[cond_true]at h⊢;rcases ank h with h|⟨ps,v,J,h⟩
  ·grind
  rw[J];simp only;cases l with
  |true=>
   simp only[cond_true,xJ]at h⊢;rcases hs _ _ _ _ _ _ _ h with h|⟨U,s2,r2,p,h⟩
   ·grind
   rw[p];simp only;rcases o _ _ _ _ _ _ h with h|⟨R,T,I,h⟩
   ·grind
   grind
  |false=>
   simp only[cond_false,xJ]at h⊢;rcases o _ _ _ _ _ _ h with h|⟨R,T,I,h⟩
   ·grind
   grind
theorem aAS {f:FuncId ->List W ->Option W}{n:Nat}(R:arX f n):awq f (n+1):=by
 intro p dst r ops s fail K h;unfold scK at h;unfold scB;cases dst with
 |none=>grind
 |some d=>
 simp only at h⊢;cases P:yY (s.tmp d)with
 |none=>grind
 |some b=>
 rw[P]at h;simp only[agK]at h⊢;generalize qA d [] ops=q at*;obtain⟨I,rest⟩:=q;simp only at h⊢;split at h
 ·rename_i j e w l o g i T g2 c x y drop r2;simp only;generalize(Nat.beq c d&&Z5 g2 p&&JE drop p&&WV (s.drop r) p&&UM d w [] (AI.mk j (some (e,w)) l o g::i)&&vJ drop (AI.mk j (some (e,w)) l o g::i)&&isin d drop&& !isin d r&&sortedB s.sl)=J at h⊢;cases J
  ·grind
  simp only[cond_true,xJ]at h⊢;rcases R _ _ _ _ _ _ h with h|⟨ps,sb,U,h⟩
  ·grind
  grind
 grind
theorem amO (f:FuncId ->List W ->Option W): ∀n,arX f n /\awq f n
 |0=>⟨(by intro d g ops s fail K h;grind[kt]),(by intro j dst i ops s fail K h;grind[scK])⟩
 |n+1=>⟨aAy (amO f n).1 (amO f n).2,aAS (amO f n).1⟩
theorem aaz {b:Bool}{A B g i:Prop}(j:A ->g)(l:B ->i):cond b A B ->cond b g i:=by grind
theorem ag0 {f:FuncId ->List W ->Option W}{op:AOp}{s:S}{fail g:Prop}{K i:List Prop ->V ->Prop}(l:fail ->g)(hk: ∀j v,K j v ->i j v)(h:J8 f op s fail K):J8 f op s g i:=by
 grind[J8,acw]
def amH (f:FuncId ->List W ->Option W)(n:Nat):Prop:= ∀d i ops s (fail g:Prop) (K j:List Prop ->S ->Prop),(fail ->g) ->(∀l s,K l s ->j l s) ->kt f n d i ops s fail K ->kt f n d i ops s g j
def arY (f:FuncId ->List W ->Option W)(n:Nat):Prop:= ∀l dst j ops s (fail g:Prop) (K i:List Prop ->S ->List AI ->Prop),(fail ->g) ->(∀o s r,K o s r ->i o s r) ->scK f n l dst j ops s fail K ->scK f n l dst j ops s g i
theorem aAz {f:FuncId ->List W ->Option W}{n:Nat}(p:amH f n)(hs:arY f n):amH f (n+1):=by
 intro d I ops s fail l K J j hk h;unfold kt at h⊢;cases ops with
 |nil=>grind
 |cons i r=>
  obtain⟨dst,g,o,op,drop⟩:=i;simp only at h⊢;refine aaz (λh=>ag0 j (λP v h=>?_) h) j h;cases o with
  |true=>
   simp only[cond_true,xJ]at h⊢;exact hs _ _ _ _ _ _ _ _ _ j (λ_ _ _ h=>p _ _ _ _ _ _ _ _ j (λ_ _=>hk _ _) h) h
  |false=>
   simp only[cond_false,xJ]at h⊢;exact p _ _ _ _ _ _ _ _ j (λ_ _=>hk _ _) h
theorem aAT {f:FuncId ->List W ->Option W}{n:Nat}(o:amH f n):arY f (n+1):=by
 intro I dst r ops s fail i K p g hk h;unfold scK at h⊢;cases dst with
 |none=>exact g h
 |some d=>
 simp only at h⊢;cases l:yY (s.tmp d)with
 |none=>grind
 |some b=>
 rw[l]at h;simp only[agK]at h⊢;generalize qA d [] ops=q at*;obtain⟨j,rest⟩:=q;simp only at h⊢;split at h
 ·refine aaz (λh=>?_) g h;simp only[xJ]at h⊢;refine o _ _ _ _ _ _ _ _ g (λJ P h=>?_) h;split at h
  ·split at h
   ·exact aaz (hk _ _ _) g h
   grind
  grind
 grind
theorem aaU (f:FuncId ->List W ->Option W): ∀n,amH f n /\arY f n
 |0=>⟨(by intro d i ops s fail g K j l hk h;grind[kt]),(by intro p dst o ops s fail g K j l hk h;grind[scK])⟩
 |n+1=>⟨aAz (aaU f n).1 (aaU f n).2,aAT (aaU f n).1⟩
theorem ay5 {f:FuncId ->List W ->Option W}{n:Nat}{l:Option (Nat×Bool)}{dst:Option Nat}{j:List Nat}{ops:List AI}{s:S}{fail g:Prop}{K i:List Prop ->S ->List AI ->Prop}(p:fail ->g)(hk: ∀o s r,K o s r ->i o s r)
 (h:scK f n l dst j ops s fail K):scK f n l dst j ops s g i:=(aaU f n).2 _ _ _ _ _ _ _ _ _ p hk h
end Go.AM
