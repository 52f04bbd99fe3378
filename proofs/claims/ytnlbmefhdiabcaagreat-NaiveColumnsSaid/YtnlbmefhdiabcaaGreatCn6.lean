import Derived.Test.YtnlbmefhdiabcaaGreatCn5
set_option linter.unusedSimpArgs false
set_option linter.unusedVariables false
set_option maxRecDepth 100000
set_option maxHeartbeats 4000000
namespace Go.AM
def U6 (f:FuncId ->List W ->Option W)(op:AOp)(s:S)(fail:Prop)(K:List Prop ->V ->Prop):Prop:=
 match ahd f op s with
 |some (ps,v)=>afL v λv=>K ps v
 |none=>fail
def akS (d:Nat):List Nat ->List AI ->(List AI ->List AI ->Prop) ->Prop
 |_,[],K=>K [] []
 |U,.mk dst g isG op drop::r,K=>match g with
  |some (e,w)=>bif Nat.beq e d||isin e U then akS d (match dst with|some x=>x::U|none=>U) r λa b=>K (.mk dst (some (e,w)) isG op drop::a) b
   else K [] (.mk dst (some (e,w)) isG op drop::r)
  |none=>K [] (.mk dst none isG op drop::r)
mutual
def J7 (f:FuncId ->List W ->Option W):Nat ->Nat ->Bool ->List AI ->S ->Prop ->(List Prop ->S ->Prop) ->Prop
 |0,_,_,_,_,fail,_=>fail
 |n+1,d,want,ops,s,fail,K=>match ops with
  | []=>K [] s
  | .mk dst g isG op drop::r=>bif jO g (some (d,want))&&jv (s.tmp d) want&&isSome dst then
   U6 f op s fail λps v=>bif isG then yZ (s.put dst v) λs1=>scK f n (some (d,want)) dst drop r s1 fail λps2 s2 r2=>J7 f n d want r2 s2 fail λps3 s3=>K (ps++(ps2++ps3)) s3
    else yZ ((s.put dst v).drop drop) λs2=>J7 f n d want r s2 fail λps3 s3=>K (ps++([]++ps3)) s3
    else fail
def scK (f:FuncId ->List W ->Option W):Nat ->Option (Nat×Bool) ->Option Nat ->List Nat ->List AI ->S ->Prop ->(List Prop ->S ->List AI ->Prop) ->Prop
 |0,_,_,_,_,_,fail,_=>fail
 |n+1,gd,dst,dr,ops,s,fail,K=>match dst with
  |none=>fail
  |some d=>match yo (s.tmp d)with
   |none=>fail
   |some b=>akS d [] ops λblk rest=>match blk,rest with
    | .mk dst1 (some (e,w)) isG1 op1 drop1::blk',.mk (some dp) g2 false (.pick (.t c) x y) drop::r2=>
      bif Nat.beq c d&&jO g2 gd&&Us drop gd&&QV (s.drop dr) gd&&VA d w [] (.mk dst1 (some (e,w)) isG1 op1 drop1::blk')&&q7 drop (.mk dst1 (some (e,w)) isG1 op1 drop1::blk')&&isin d drop&& !isin d dr&&sortedB s.sl then
       yZ ((s.put (some d) (zD w)).drop dr) λs1=>J7 f n d w (.mk dst1 (some (e,w)) isG1 op1 drop1::blk') s1 fail λps sb=>match yo (sb.o (bif w then x else y)),(bif w then y else x)with
        |some bi,.k v=>match yo v with
         |some bo=>bif jv (sb.tmp d) w then yZ (((s.drop dr).put (some dp) (scV w b bi bo)).drop drop) λs2=>K (ap3 (bif w then b else !b) ps) s2 r2 else fail
         |none=>fail
        |_,_=>fail
      else fail
    |_,_=>fail
end
theorem aeZ (d:Nat): ∀(U:List Nat) (ops:List AI) (K:List AI ->List AI ->Prop),akS d U ops K=K (qm d U ops).1 (qm d U ops).2
 |_,[],K=>rfl
 |U,.mk dst g isG op drop::r,K=>by
  unfold akS qm;cases g with
  |none=>rfl
  |some x=>
   obtain⟨e,w⟩:=x;simp only;cases hc:(Nat.beq e d||isin e U)
   ·rfl
   ·simp only[cond_true];rw[aeZ d _ r];cases dst<;>rfl
theorem ala {f:FuncId ->List W ->Option W}{op:AOp}{s:S}{fail:Prop}{K:List Prop ->V ->Prop}(h:U6 f op s fail K):fail\/ ∃ps v,ahd f op s=some (ps,v)/\K ps v:=by
 unfold U6 at h;split at h
 ·rename_i ps v hv;rw[abf]at h;exact .inr ⟨ps,v,hv,h⟩
 ·exact .inl h
def apt (f:FuncId ->List W ->Option W)(n:Nat):Prop:= ∀d want ops s fail (K:List Prop ->S ->Prop),J7 f n d want ops s fail K ->fail\/ ∃ps s',J6 f n d want ops s=some (ps,s')/\K ps s'
def asW (f:FuncId ->List W ->Option W)(n:Nat):Prop:= ∀gd dst dr ops s fail (K:List Prop ->S ->List AI ->Prop),scK f n gd dst dr ops s fail K ->fail\/ ∃ps s' r2,scB f n gd dst dr ops s=some (ps,s',r2)/\K ps s' r2
theorem avt {f:FuncId ->List W ->Option W}{n:Nat}(hm:apt f n)(hs:asW f n):apt f (n+1):=by
 intro d want ops s fail K h;unfold J7 at h;unfold J6;cases ops with
 |nil=>exact .inr ⟨[],s,rfl,h⟩
 |cons i r=>
  obtain⟨dst,g,isG,op,drop⟩:=i;simp only at h⊢;cases hc:(jO g (some (d,want))&&jv (s.tmp d) want&&isSome dst)<;>rw[hc]at h
  ·exact .inl h
  simp only[cond_true]at h⊢;rcases ala h with h|⟨ps,v,ha,h⟩
  ·exact .inl h
  rw[ha];simp only;cases isG with
  |true=>
   simp only[cond_true,yM]at h⊢;rcases hs _ _ _ _ _ _ _ h with h|⟨p2,s2,r2,h2,h⟩
   ·exact .inl h
   rw[h2];simp only;rcases hm _ _ _ _ _ _ h with h|⟨p3,s3,h3,h⟩
   ·exact .inl h
   rw[h3];exact .inr ⟨_,_,rfl,h⟩
  |false=>
   simp only[cond_false,yM]at h⊢;rcases hm _ _ _ _ _ _ h with h|⟨p3,s3,h3,h⟩
   ·exact .inl h
   rw[h3];exact .inr ⟨_,_,rfl,h⟩
theorem avG {f:FuncId ->List W ->Option W}{n:Nat}(hm:apt f n):asW f (n+1):=by
 intro gd dst dr ops s fail K h;unfold scK at h;unfold scB;cases dst with
 |none=>exact .inl h
 |some d=>
 simp only at h⊢;cases hb:yo (s.tmp d)with
 |none=>rw[hb]at h;exact .inl h
 |some b=>
 rw[hb]at h;simp only[aeZ]at h⊢;generalize qm d [] ops=q at*;obtain⟨blk,rest⟩:=q;simp only at h⊢;split at h
 ·rename_i dst1 e w isG1 op1 drop1 blk' dp g2 c x y drop r2;simp only;generalize(Nat.beq c d&&jO g2 gd&&Us drop gd&&QV (s.drop dr) gd&&VA d w [] (AI.mk dst1 (some (e,w)) isG1 op1 drop1::blk')&&q7 drop (AI.mk dst1 (some (e,w)) isG1 op1 drop1::blk')&&isin d drop&& !isin d dr&&sortedB s.sl)=cc at h⊢;cases cc
  ·exact .inl h
  simp only[cond_true,yM]at h⊢;rcases hm _ _ _ _ _ _ h with h|⟨ps,sb,h3,h⟩
  ·exact .inl h
  rw[h3];simp only at h⊢;split at h
  ·rename_i bi v h4 h5;rw[h4,h5];simp only;split at h
   ·rename_i bo h6;rw[h6];simp only;cases h7:jv (sb.tmp d) w<;>rw[h7]at h
    ·exact .inl h
    ·exact .inr ⟨_,_,_,rfl,h⟩
   ·exact .inl h
  ·exact .inl h
 ·exact .inl h
theorem akN (f:FuncId ->List W ->Option W): ∀n,apt f n /\asW f n
 |0=>⟨(by intro d want ops s fail K h;unfold J7 at h;exact .inl h),(by intro gd dst dr ops s fail K h;unfold scK at h;exact .inl h)⟩
 |n+1=>⟨avt (akN f n).1 (akN f n).2,avG (akN f n).1⟩
theorem kY {b:Bool}{A B A' B':Prop}(h1:A ->A')(h2:B ->B'):cond b A B ->cond b A' B':=by cases b;exact h2;exact h1
theorem ae8 {f:FuncId ->List W ->Option W}{op:AOp}{s:S}{fail fail':Prop}{K K':List Prop ->V ->Prop}(hf:fail ->fail')(hk: ∀ps v,K ps v ->K' ps v)(h:U6 f op s fail K):U6 f op s fail' K':=by
 unfold U6 at h⊢;split at h
 ·rw[abf]at h⊢;exact hk _ _ h
 ·exact hf h
def akI (f:FuncId ->List W ->Option W)(n:Nat):Prop:= ∀d want ops s (fail fail':Prop) (K K':List Prop ->S ->Prop),(fail ->fail') ->(∀ps s,K ps s ->K' ps s) ->J7 f n d want ops s fail K ->J7 f n d want ops s fail' K'
def apu (f:FuncId ->List W ->Option W)(n:Nat):Prop:= ∀gd dst dr ops s (fail fail':Prop) (K K':List Prop ->S ->List AI ->Prop),(fail ->fail') ->(∀ps s r,K ps s r ->K' ps s r) ->scK f n gd dst dr ops s fail K ->scK f n gd dst dr ops s fail' K'
theorem avu {f:FuncId ->List W ->Option W}{n:Nat}(hm:akI f n)(hs:apu f n):akI f (n+1):=by
 intro d want ops s fail fail' K K' hf hk h;unfold J7 at h⊢;cases ops with
 |nil=>exact hk _ _ h
 |cons i r=>
  obtain⟨dst,g,isG,op,drop⟩:=i;simp only at h⊢;refine kY (λh=>ae8 hf (λps v h=>?_) h) hf h;cases isG with
  |true=>
   simp only[cond_true,yM]at h⊢;exact hs _ _ _ _ _ _ _ _ _ hf (λ_ _ _ h=>hm _ _ _ _ _ _ _ _ hf (λ_ _=>hk _ _) h) h
  |false=>
   simp only[cond_false,yM]at h⊢;exact hm _ _ _ _ _ _ _ _ hf (λ_ _=>hk _ _) h
theorem avH {f:FuncId ->List W ->Option W}{n:Nat}(hm:akI f n):apu f (n+1):=by
 intro gd dst dr ops s fail fail' K K' hf hk h;unfold scK at h⊢;cases dst with
 |none=>exact hf h
 |some d=>
 simp only at h⊢;cases hb:yo (s.tmp d)with
 |none=>rw[hb]at h;exact hf h
 |some b=>
 rw[hb]at h;simp only[aeZ]at h⊢;generalize qm d [] ops=q at*;obtain⟨blk,rest⟩:=q;simp only at h⊢;split at h
 ·refine kY (λh=>?_) hf h;simp only[yM]at h⊢;refine hm _ _ _ _ _ _ _ _ hf (λps sb h=>?_) h;split at h
  ·split at h
   ·exact kY (hk _ _ _) hf h
   ·exact hf h
  ·exact hf h
 ·exact hf h
theorem gv (f:FuncId ->List W ->Option W): ∀n,akI f n /\apu f n
 |0=>⟨(by intro d want ops s fail fail' K K' hf hk h;unfold J7 at h⊢;exact hf h),(by intro gd dst dr ops s fail fail' K K' hf hk h;unfold scK at h⊢;exact hf h)⟩
 |n+1=>⟨avu (gv f n).1 (gv f n).2,avH (gv f n).1⟩
theorem auv {f:FuncId ->List W ->Option W}{n:Nat}{gd:Option (Nat×Bool)}{dst:Option Nat}{dr:List Nat}{ops:List AI}{s:S}{fail fail':Prop}{K K':List Prop ->S ->List AI ->Prop}(hf:fail ->fail')(hk: ∀ps s r,K ps s r ->K' ps s r)
 (h:scK f n gd dst dr ops s fail K):scK f n gd dst dr ops s fail' K':=(gv f n).2 _ _ _ _ _ _ _ _ _ hf hk h
end Go.AM
