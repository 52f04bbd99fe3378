import Derived.Test.YtkdijaiaplkliaaGreatDoorZs6
set_option linter.unusedSimpArgs false
set_option linter.unusedVariables false
set_option maxRecDepth 100000
set_option maxHeartbeats 4000000
open _root_ renaming List->am,Option->aA
open Classical renaming choose->aB,choose_spec->aD
open List renaming append_nil->aC
open Go renaming IntKind->aE
namespace Go.AM
def qm (P:Program)(f:FuncId ->am W ->aA W):Nat ->am AI ->S ->(S ->Prop) ->Prop
 |0,_,_,_=>False
 |_+1,[],s,K=>K s
 |n+1,.mk dst g o op drop::r,s,K=>
  match g with
  |none=>match dst with
   |none=>zH P none op s λj=>xG (j.drop drop) λi=>qm P f n r i K
   |some d=>Jy f op s (zH P (some d) op s λj=>split o (some d) j λi=>xG (i.drop drop) λi=>qm P f n r i K) λp v=>
    bif o then
     xG (s.put (some d) v) λj=>scK f 100 none (some d) drop r j (je p (split true (some d) j λi=>xG (i.drop drop) λi=>qm P f n r i K)) λI i J=>
      je p (je I (qm P f n J i K))
    else je p (xG ((s.put (some d) v).drop drop) λi=>qm P f n r i K)
  |some (d,l)=>match s.tmp d with
   | .w (.c (.d (.lit (.bool b))))=>
     bif (bif b then l else !l)then zH P dst op s λj=>split o dst j λi=>xG (i.drop drop) λi=>qm P f n r i K
     else xG ((s.put dst qz).drop drop) λs=>qm P f n r s K
   | .tup []=>xG ((s.put dst qz).drop drop) λs=>qm P f n r s K
   |_=>False
def Vp (W:(E ->S ->Prop) ->S ->Prop)(Q:E ->S ->Prop):E ->S ->Prop
 | .normal,s=>W Q s
 | .exit i,s=>Q (.exit i) s
 | .ret,s=>Q .ret s
def j5 (id:Nat)(Q:E ->S ->Prop):E ->S ->Prop
 | .normal,s=>Q .normal s
 | .exit i,s=>bif Nat.beq i id then Q .normal s else Q (.exit i) s
 | .ret,s=>Q .ret s
def JQ (B:S ->Prop)(Q:E ->S ->Prop):E ->S ->Prop
 | .normal,s=>B s
 | .exit i,s=>Q (.exit i) s
 | .ret,s=>Q .ret s
def Qf (g:am ARes)(U:am Nat)(Q:Res ->Prop):E ->S ->Prop
 | .exit _,_=>False
 | .normal,s=>KH g U Q s
 | .ret,s=>KH g U Q s
def zY (W:(E ->S ->Prop) ->S ->Prop)(g:am Nat)(Q:E ->S ->Prop)(s:S):Prop:=
 ∃(I:S ->Prop) (μ:S ->Nat),yX s g I /\ ∀j,I j ->
  W (JQ (λi=>yX i g λi=>I i /\μ i<μ j) Q) j
def KE (P:Program)(f:FuncId ->am W ->aA W):ATr ->S ->(S ->Prop) ->Prop
 | .fin,s,K=>K s
 | .run ops t,s,K=>qm P f 1000 ops s λg=>KE P f t g K
 | .br a b,s,K=>KE P f a s K /\KE P f b s K
def j9 (P:Program)(f:FuncId ->am W ->aA W):ACode ->(E ->S ->Prop) ->S ->Prop
 | .skip,Q,s=>Q .normal s
 | .reg ops,Q,s=>qm P f 1000 ops s (Q .normal)
 | .seq a b,Q,s=>j9 P f a (Vp (λQ s=>j9 P f b Q s) Q) s
 | .cond c a b,Q,s=>match yC (s.o c)with
   |some t=>cond t (j9 P f a Q s) (j9 P f b Q s)
   |none=>False
 | .block id a,Q,s=>j9 P f a (j5 id Q) s
 | .loop g body,Q,s=>zY (λQ s=>j9 P f body Q s) g Q s
 | .scope a,Q,s=>j9 P f a Q s
 | .exit i,Q,s=>Q (.exit i) s
 | .ret,Q,s=>Q .ret s
 | .tree t,Q,s=>KE P f t s (Q .normal)
def aud (P:Program)(f:FuncId ->am W ->aA W)(F:AFun)(args:am W)(Q:Res ->Prop):Prop:=
 xG ⟨ZL 0 args,[]⟩ λs=>j9 P f F.code (Qf F.res [] Q) s
def apN (P:Program)(f:FuncId ->am W ->aA W)(F:AFun)(args:am W)(hs:am Pl)(Q:Res ->Prop):Prop:=
 xG ⟨ZL 0 (args.map (W.ren ((uS 100000 hs).map some))),jS 100000 (hs.map (Pl.ren ((uS 100000 hs).map some)))⟩ λs=>
  j9 P f F.code (Qf F.res (uS 100000 hs) Q) s
section
variable {P:Program}{T:Tab P}
theorem yQ {b:Bool}{A B g i:Prop}(j:A ->g)(l:B ->i):cond b A B ->cond b g i:=by cases b;exact l;exact j
theorem aqR {dst:aA Nat}{ok ag:Bool}{p:Nat}{t:AM.T}{j:Nat}{e:am AM.T}{s:S}{K g:S ->Prop}(hk: ∀s,K s ->g s):akq dst ok ag p t j e s K ->akq dst ok ag p t j e s g:=by
 unfold akq;split
 ·split
  ·exact yQ id (λ⟨l,i,o⟩=>⟨l,i,hk _ o⟩)
  exact id
 split
 ·refine yQ (hk _) ?_;split
  ·exact hk _
  exact id
 exact id
theorem aqT {dst:aA Nat}{ok ag:Bool}{I:aA aE}{z:W}{x i:C}{s:S}{K r:S ->Prop}(hk: ∀s,K s ->r s):akt dst ok ag I z x i s K ->akt dst ok ag I z x i s r:=by
 unfold akt;split
 ·refine And.imp id ?_;split
  ·split
   ·split
    ·exact λ⟨g,l,o,p⟩=>⟨g,l,λh=>hk _ (o h),λj e a b=>aqR hk (p j e a b)⟩
    exact id
   exact id
  ·refine λ⟨g,l,o,p⟩=>⟨g,l,λh=>hk _ (o h),λj e a b=>?_⟩
   have J:=p j e a b
   revert J
   refine yQ (hk _) ?_;split
   ·exact hk _
   exact id
  exact id
 exact id
theorem afc {l:aA aE}{ag:Bool}{p:Nat}{t:AM.T}{k:Value}{e:am AM.T}{g:am Nat}{s:S}{K i:S ->Prop}(hk: ∀s,K s ->i s):gg l ag p t k e g s K ->gg l ag p t k e g s i:=by
 unfold gg;refine yQ ?_ id;split
 ·refine λ⟨o,r,I,J⟩=>⟨o,r,λj h=>hk _ (I j h),λh=>?_⟩
  have P:=J h
  revert P
  split
  ·exact hk _
  exact id
 exact id
theorem aqU {ag:Bool}{j:aA aE}{x i:C}{v:W}{s:S}{K g:S ->Prop}(hk: ∀s,K s ->g s):aku ag j x i v s K ->aku ag j x i v s g:=by
 unfold aku;split
 ·refine And.imp id ?_;split
  ·split
   ·exact yQ (afc hk) id
   exact id
  split
  ·split
   ·exact yQ (afc hk) id
   exact id
  exact id
 exact id
theorem aqW {dst:aA Nat}{x:C}{s:S}{K g:S ->Prop}(hk: ∀s,K s ->g s):akw dst x s K ->akw dst x s g:=by
 unfold akw;split
 ·split
  ·exact yQ (hk _) id
  exact id
 exact id
theorem aqV {dst:aA Nat}{x:C}{s:S}{K g:S ->Prop}(hk: ∀s,K s ->g s):akv dst x s K ->akv dst x s g:=by
 unfold akv;split
 ·split
  ·exact yQ (λ⟨l,o⟩=>⟨λh=>hk _ (l h),λi h j=>hk _ (o i h j)⟩) id
  exact id
 exact id
theorem aqQ {dst:aA Nat}{ag:Bool}{p:Nat}{t:AM.T}{j:Nat}{e:am AM.T}{k:Value}{s:S}{K g:S ->Prop}(hk: ∀s,K s ->g s):akp dst ag p t j e k s K ->akp dst ag p t j e k s g:=by
 unfold akp;split
 ·split
  ·exact yQ id (λ⟨l,i,o⟩=>⟨l,i,hk _ o⟩)
  exact id
 split
 ·refine yQ (hk _) ?_;split
  ·exact hk _
  exact id
 exact id
theorem aqS {dst:aA Nat}{x:C}{s:S}{K g:S ->Prop}(hk: ∀s,K s ->g s):akr dst x s K ->akr dst x s g:=by
 unfold akr;split
 ·split
  ·exact λh k e i j=>⟨(h k e i j).1,aqQ hk (h k e i j).2⟩
  exact id
 exact id
theorem ZC {dst:aA Nat}{op:AOp}{s:S}{K l:S ->Prop}(hk: ∀s,K s ->l s):zH P dst op s K ->zH P dst op s l:=by
 cases op<;>simp only[zH,aLd,aSt,agT,atd,ate,Jw,afb,ao2,ao1,aMm,aMt,atc,atb,ata,atf]
 all_goals repeat' first|exact λh=>hk _ h|exact id|refine yQ ?_ id|refine yQ ?_ ?_|exact λh=>h.mono λ_=>hk _|split
 all_goals try exact λh=>⟨h.1,hk _ h.2⟩
 all_goals try exact λh=>⟨h.1,h.2.1,hk _ h.2.2⟩
 all_goals try exact λh=>⟨h.1,h.2.1,h.2.2.1,hk _ h.2.2.2⟩
 all_goals try exact λh=>⟨h.1,h.2.1,h.2.2.1,h.2.2.2.1,hk _ h.2.2.2.2⟩
 all_goals try exact λh=>⟨λe=>hk _ (h.1 e),hk _ h.2⟩
 all_goals try exact λh c i g=>hk _ (h c i g)
 all_goals try exact λ⟨y,i,g⟩=>⟨y,i,hk _ g⟩
 all_goals try exact λ⟨y,i,g,j⟩=>⟨y,i,g,hk _ j⟩
 all_goals try exact λ⟨h0,y,i,g,j⟩=>⟨h0,y,i,g,hk _ j⟩
 all_goals try exact λh=>zA.mono h λr=>yQ (hk _) id
 ·rintro⟨e,i,g⟩;refine⟨e,i,?_⟩;split at g
  ·exact hk _ g
  exact g.elim
 ·exact aqT hk
 ·exact aqU hk
 ·exact aqW hk
 ·exact aqV hk
 exact aqS hk
theorem u4 {g:Bool}{dst:aA Nat}{s:S}{K i:S ->Prop}(hk: ∀s,K s ->i s):split g dst s K ->split g dst s i:=by
 unfold split;refine yQ ?_ (hk _);split
 ·split
  ·exact yQ (hk _) (hk _)
  exact hk _
 exact hk _
theorem JS: ∀(n:Nat) (ops:am AI) (s:S) (K:S ->Prop),qm P T.f n ops s K ->z7 P ops s K
 |0,_,_,_,h=>h.elim
 |_+1,[],_,_,h=>h
 |n+1,.mk dst g p op drop::r,s,K,h=>by
  unfold qm at h;simp only[xy]at h;have i: ∀j,qm P T.f n r j K ->z7 P r j K:=λj h=>JS n r j K h
  cases g with
  |some x=>
   obtain⟨d,w⟩:=x;unfold z7;simp only[xy]at h⊢;split at h
   ·rename_i b J;rw[J];simp only;exact yQ (ZC λR=>u4 λj=>i _) (i _) h
   ·rename_i J;rw[J];exact i _ h
   exact h.elim
  |none=>
   simp only at h;refine Kj (g:=none) rfl ?_;cases dst with
   |none=>
    refine ZC (λR l=>?_) h;cases p<;>exact i _ l
   |some d=>
    simp only at h;rcases akI h with h|⟨ps,v,I,h⟩
    ·exact ZC (λR=>u4 λj=>i _) h
    cases p with
    |false=>
     obtain⟨l,o⟩:=X3 h;exact KW I l (i _ o) rfl
    |true=>
     simp only[cond_true]at h;rcases(aka T.f 100).2 _ _ _ _ _ _ _ h with h|⟨aa,j,r2,hs,h⟩
     ·obtain⟨l,o⟩:=X3 h;exact KW I l (u4 (λj=>i _) o) rfl
     obtain⟨l,o⟩:=X3 h;obtain⟨o,U⟩:=X3 o;refine KW I l ?_ rfl;obtain⟨_,_,hk⟩:=(afZ P T 100).2 _ _ _ _ _ _ _ _ hs;have:=hk [] K o (by rw[aC];exact JS n r2 j K U);rw[aC]at this;exact this
theorem Wt {K l:S ->Prop}(hk: ∀s,K s ->l s): ∀(ops:am AI) (s:S),z7 P ops s K ->z7 P ops s l
 | [],s,h=>hk s h
 | .mk dst g o op drop::r,s,h=>by
   have i: ∀j,z7 P r j K ->z7 P r j l:=λj h=>Wt hk r j h
   unfold z7 at h⊢;simp only[xy]at h⊢;cases g with
   |none=>exact ZC (λp=>u4 λj=>i _) h
   |some x=>
    obtain⟨d,w⟩:=x;simp only at h⊢;split at h
    ·exact yQ (ZC λp=>u4 λj=>i _) (i _) h
    ·exact i _ h
    exact h.elim
theorem apP {s:S}{g:am Nat}{K i:S ->Prop}(hk: ∀s,K s ->i s)(h:VX s g K):VX s g i:=by
 rw[Wi]at h⊢;exact hk _ h
theorem gq {K g:S ->Prop}(hk: ∀s,K s ->g s): ∀(t:ATr) (s:S),atr P t s K ->atr P t s g
 | .fin,s,h=>hk s h
 | .run ops t,s,h=>Wt (λi=>gq hk t i) ops s h
 | .br a b,s,h=>⟨gq hk a s h.1,gq hk b s h.2⟩
theorem vP: ∀(c:ACode) {Q Q':E ->S ->Prop}(_: ∀e s,Q e s ->Q' e s) (s:S),QK P c Q s ->QK P c Q' s
 | .skip,_,_,g,s,h=>g _ _ h
 | .reg ops,_,_,g,s,h=>Wt (λs=>g _ s) ops s h
 | .seq a b,_,_,g,s,h=>vP a (λe l j=>by
  cases e with
  |normal=>exact vP b g l j
  |exit i=>exact g _ _ j
  |ret=>exact g _ _ j) s h
 | .cond c a b,Q,Q',g,s,h=>by
   unfold QK at h⊢;split at h
   ·exact yQ (vP a g s) (vP b g s) h
   exact h.elim
 | .block id a,Q,Q',g,s,h=>vP a (λe l j=>by
  cases e with
  |normal=>exact g _ _ j
  |exit i=>exact yQ (g _ _) (g _ _) j
  |ret=>exact g _ _ j) s h
 | .loop p body,Q,Q',g,s,⟨I,μ,j,r⟩=>⟨I,μ,j,λl hs=>vP body (λe J o=>by
  cases e with
  |normal=>exact o
  |exit i=>exact g _ _ o
  |ret=>exact g _ _ o) l (r l hs)⟩
 | .scope a,_,_,g,s,h=>vP a g s h
 | .exit i,_,_,g,s,h=>g _ _ h
 | .ret,_,_,g,s,h=>g _ _ h
 | .tree t,_,_,g,s,h=>gq (λs=>g _ s) t s h
theorem KD {f:FuncId ->am W ->aA W}{K p:S ->Prop}(hk: ∀s,K s ->p s): ∀(n:Nat) (ops:am AI) (s:S),qm P f n ops s K ->qm P f n ops s p
 |0,_,_,h=>h.elim
 |_+1,[],s,h=>hk s h
 |n+1,.mk dst g I op drop::r,s,h=>by
  have i: ∀r o,qm P f n r o K ->qm P f n r o p:=λr o h=>KD hk n r o h
  have j: ∀{l:am Prop}{A B:Prop},(A ->B) ->je l A ->je l B:=λh R=>let⟨a,b⟩:=X3 R;avY a (h b)
  unfold qm at h⊢;simp only[xy]at h⊢;cases g with
  |some x=>
   obtain⟨d,w⟩:=x;simp only at h⊢;split at h
   ·exact yQ (ZC λJ=>u4 λo=>i _ _) (i _ _) h
   ·exact i _ _ h
   exact h.elim
  |none=>
   cases dst with
   |none=>exact ZC (λJ=>i _ _) h
   |some d=>
    simp only at h⊢;refine aff (λh=>ZC (λJ=>u4 λo=>i _ _) h) (λU v h=>?_) h;cases I with
    |false=>exact j (i _ _) h
    |true=>
     simp only[cond_true]at h⊢;exact au3 (j (u4 λo=>i _ _)) (λ_ _ _=>j (j (i _ _))) h
theorem JU {f:FuncId ->am W ->aA W}{K g:S ->Prop}(hk: ∀s,K s ->g s): ∀(t:ATr) (s:S),KE P f t s K ->KE P f t s g
 | .fin,s,h=>hk s h
 | .run ops t,s,h=>KD (λi=>JU hk t i) _ ops s h
 | .br a b,s,h=>⟨JU hk a s h.1,JU hk b s h.2⟩
theorem acZ {K:S ->Prop}: ∀(t:ATr) (s:S),KE P T.f t s K ->atr P t s K
 | .fin,s,h=>h
 | .run ops t,s,h=>Wt (λg=>acZ t g) ops s (JS _ _ _ _ h)
 | .br a b,s,h=>⟨acZ a s h.1,acZ b s h.2⟩
theorem ZV {f:FuncId ->am W ->aA W}: ∀(c:ACode) {Q Q':E ->S ->Prop}(_: ∀e s,Q e s ->Q' e s) (s:S),j9 P f c Q s ->j9 P f c Q' s
 | .skip,_,_,g,s,h=>g _ _ h
 | .reg ops,_,_,g,s,h=>KD (λs=>g _ s) _ ops s h
 | .seq a b,_,_,g,s,h=>ZV a (λe l j=>by
  cases e with
  |normal=>exact ZV b g l j
  |exit i=>exact g _ _ j
  |ret=>exact g _ _ j) s h
 | .cond c a b,Q,Q',g,s,h=>by
   unfold j9 at h⊢;split at h
   ·exact yQ (ZV a g s) (ZV b g s) h
   exact h.elim
 | .block id a,Q,Q',g,s,h=>ZV a (λe l j=>by
  cases e with
  |normal=>exact g _ _ j
  |exit i=>exact yQ (g _ _) (g _ _) j
  |ret=>exact g _ _ j) s h
 | .loop p body,Q,Q',g,s,⟨I,μ,j,r⟩=>⟨I,μ,j,λl hs=>ZV body (λe J o=>by
  cases e with
  |normal=>exact o
  |exit i=>exact g _ _ o
  |ret=>exact g _ _ o) l (r l hs)⟩
 | .scope a,_,_,g,s,h=>ZV a g s h
 | .exit i,_,_,g,s,h=>g _ _ h
 | .ret,_,_,g,s,h=>g _ _ h
 | .tree t,_,_,g,s,h=>JU (λs=>g _ s) t s h
theorem Qt: ∀(c:ACode) (Q:E ->S ->Prop) (s:S),j9 P T.f c Q s ->QK P c Q s
 | .skip,_,_,h=>h
 | .reg ops,Q,s,h=>JS _ _ _ _ h
 | .seq a b,Q,s,h=>vP a (λe j g=>by
  cases e with
  |normal=>exact Qt b Q j g
  |exit i=>exact g
  |ret=>exact g) s (Qt a _ s h)
 | .cond c a b,Q,s,h=>by
   unfold j9 at h;unfold QK;split at h
   ·rename_i t r;rw[r];exact yQ (Qt a Q s) (Qt b Q s) h
   exact h.elim
 | .block id a,Q,s,h=>vP a (λe j g=>by
  cases e with
  |normal=>exact g
  |exit i=>exact g
  |ret=>exact g) s (Qt a _ s h)
 | .loop o body,Q,s,⟨I,μ,g,p⟩=>⟨I,μ,g,λj hs=>vP body (λe J l=>by
  cases e with
  |normal=>exact l
  |exit i=>exact l
  |ret=>exact l) j (Qt body _ j (p j hs))⟩
 | .scope a,Q,s,h=>Qt a Q s h
 | .exit i,Q,s,h=>h
 | .ret,Q,s,h=>h
 | .tree t,Q,s,h=>acZ t s h
end
theorem am0 {P:Program}{k:Nat}{ords:am (Nat×am Nat)}{A:AFun}{args:am W}{Q:Res ->Prop}(T:Tab P)(g:cFun P ords k=some A.erase)(i:xT P k=true)(h:aud P T.f A args Q):Sat P k args Q:=by
 refine amZ g i ?_;unfold aud at h;unfold atl;rw[xy]at h⊢;exact vP _ (λe s h=>by cases e<;>exact h) _ (Qt _ _ _ h)
theorem ajb {P:Program}{k:Nat}{ords:am (Nat×am Nat)}{A:AFun}{args:am W}{hs:am Pl}{Q:Res ->Prop}(T:Tab P)(g:cFun P ords k=some A.erase)(i:xT P k=true)(j:hs.length<=1000)(h:apN P T.f A args hs Q):zA P k args hs Q:=by
 refine aja g i j ?_;unfold apN at h;unfold avz acJ;rw[xy]at h⊢;exact vP _ (λe s h=>by cases e<;>exact h) _ (Qt _ _ _ h)
theorem af1 {s:S}{g:am Nat}{K i:S ->Prop}(hk: ∀s,K s ->i s)(h:yX s g K):yX s g i:=let⟨t,j,l⟩:=h;⟨t,j,apP hk l⟩
theorem uT {p:Nat ->Prop}: ∀(n:Nat),p n -> ∃m,p m /\ ∀k,p k ->m<=k:=by
 intro n;induction n using Nat.strongRecOn with
 |_ n o=>
  intro l;by_cases h: ∃k,k<n /\p k
  ·obtain⟨k,i,j⟩:=h;exact o k i j
  exact⟨n,l,λk hk=>Nat.le_of_not_lt λg=>h ⟨k,g,hk⟩⟩
theorem at3 {W:(E ->S ->Prop) ->S ->Prop}(hW: ∀{Q Q':E ->S ->Prop}(_: ∀e s,Q e s ->Q' e s) (s:S),W Q s ->W Q' s){l:am Nat}{Q:E ->S ->Prop}{s:S}{ι:Type}(σ:ι ->S)(μ:ι ->Nat)(R:ι ->Prop)
 (h0: ∃i,R i /\yX s l (· =σ i))
 (hb: ∀i,R i ->W (JQ (λU=> ∃j,(R j /\μ j<μ i)/\yX U l (· =σ j)) Q) (σ i)):zY W l Q s:=by
 classical
 have g: ∀t,(∃i,R i /\t=σ i) -> ∃m,(∃i,R i /\t=σ i /\μ i=m)/\ ∀k,(∃i,R i /\t=σ i /\μ i=k) ->m<=k:=
  λt ⟨i,o,r⟩=>uT (p:=λk=> ∃i,R i /\t=σ i /\μ i=k) (μ i) ⟨i,o,r,rfl⟩
 let M:S ->Nat:=λt=>if h: ∃i,R i /\t=σ i then aB (g t h)else 0
 have P: ∀t (h: ∃i,R i /\t=σ i),(∃i,R i /\t=σ i /\μ i=M t)/\ ∀k,(∃i,R i /\t=σ i /\μ i=k) ->M t<=k:=λt h=>by
  have:=aD (g t h);have e:M t=aB (g t h):=dif_pos h;rw[e];exact this
 refine⟨λt=> ∃i,R i /\t=σ i,M,?_,?_⟩
 ·obtain⟨i,o,r⟩:=h0;exact af1 (λt I=>⟨i,o,I⟩) r
 intro t I;obtain⟨⟨i,o,r,h3⟩,_⟩:=P t I;subst r;refine hW (λe U h=>?_) _ (hb i o);cases e with
 |normal=>
  obtain⟨j,⟨J,h5⟩,h6⟩:=h;refine af1 (λt I=>?_) h6;subst I;refine⟨⟨j,J,rfl⟩,?_⟩;have:=(P (σ j) ⟨j,J,rfl⟩).2 (μ j) ⟨j,J,rfl,rfl⟩;omega
 |exit k=>exact h
 |ret=>exact h
end Go.AM
