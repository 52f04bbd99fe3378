import Derived.Test.YtnlbmefhdiabcaaGreatCn6
set_option linter.unusedSimpArgs false
set_option linter.unusedVariables false
set_option maxRecDepth 100000
set_option maxHeartbeats 4000000
namespace Go.AM
def xQ (P:Program)(f:FuncId ->List W ->Option W):Nat ->List AI ->S ->(S ->Prop) ->Prop
 |0,_,_,_=>False
 |_+1,[],s,K=>K s
 |n+1,.mk dst g isG op drop::r,s,K=>
  match g with
  |none=>match dst with
   |none=>zJ P none op s λs1=>yZ (s1.drop drop) λs2=>xQ P f n r s2 K
   |some d=>U6 f op s (zJ P (some d) op s λs1=>split isG (some d) s1 λs2=>yZ (s2.drop drop) λs2=>xQ P f n r s2 K) λps v=>
    bif isG then
     yZ (s.put (some d) v) λs1=>scK f 100 none (some d) drop r s1 (uB ps (split true (some d) s1 λs2=>yZ (s2.drop drop) λs2=>xQ P f n r s2 K)) λps2 s2 r2=>
      uB ps (uB ps2 (xQ P f n r2 s2 K))
    else uB ps (yZ ((s.put (some d) v).drop drop) λs2=>xQ P f n r s2 K)
  |some (d,want)=>match s.tmp d with
   | .w (.c (.d (.lit (.bool b))))=>
     bif (bif b then want else !want)then zJ P dst op s λs1=>split isG dst s1 λs2=>yZ (s2.drop drop) λs2=>xQ P f n r s2 K
     else yZ ((s.put dst x9).drop drop) λs=>xQ P f n r s K
   | .tup []=>yZ ((s.put dst x9).drop drop) λs=>xQ P f n r s K
   |_=>False
def gU (W:(E ->S ->Prop) ->S ->Prop)(Q:E ->S ->Prop):E ->S ->Prop
 | .normal,s=>W Q s
 | .exit i,s=>Q (.exit i) s
 | .ret,s=>Q .ret s
def XF (id:Nat)(Q:E ->S ->Prop):E ->S ->Prop
 | .normal,s=>Q .normal s
 | .exit i,s=>bif Nat.beq i id then Q .normal s else Q (.exit i) s
 | .ret,s=>Q .ret s
def Js (B:S ->Prop)(Q:E ->S ->Prop):E ->S ->Prop
 | .normal,s=>B s
 | .exit i,s=>Q (.exit i) s
 | .ret,s=>Q .ret s
def Uo (res:List ARes)(U:List Nat)(Q:Res ->Prop):E ->S ->Prop
 | .exit _,_=>False
 | .normal,s=>Kg res U Q s
 | .ret,s=>Kg res U Q s
def zS (W:(E ->S ->Prop) ->S ->Prop)(keep:List Nat)(Q:E ->S ->Prop)(s:S):Prop:=
 ∃(I:S ->Prop) (μ:S ->Nat),xD s keep I /\ ∀s1,I s1 ->
  W (Js (λs2=>xD s2 keep λs2=>I s2 /\μ s2<μ s1) Q) s1
def J9 (P:Program)(f:FuncId ->List W ->Option W):ATr ->S ->(S ->Prop) ->Prop
 | .fin,s,K=>K s
 | .run ops t,s,K=>xQ P f 1000 ops s λs1=>J9 P f t s1 K
 | .br a b,s,K=>J9 P f a s K /\J9 P f b s K
def jy (P:Program)(f:FuncId ->List W ->Option W):ACode ->(E ->S ->Prop) ->S ->Prop
 | .skip,Q,s=>Q .normal s
 | .reg ops,Q,s=>xQ P f 1000 ops s (Q .normal)
 | .seq a b,Q,s=>jy P f a (gU (λQ s=>jy P f b Q s) Q) s
 | .cond c a b,Q,s=>match yo (s.o c)with
   |some t=>cond t (jy P f a Q s) (jy P f b Q s)
   |none=>False
 | .block id a,Q,s=>jy P f a (XF id Q) s
 | .loop keep body,Q,s=>zS (λQ s=>jy P f body Q s) keep Q s
 | .scope a,Q,s=>jy P f a Q s
 | .exit i,Q,s=>Q (.exit i) s
 | .ret,Q,s=>Q .ret s
 | .tree t,Q,s=>J9 P f t s (Q .normal)
def atT (P:Program)(f:FuncId ->List W ->Option W)(F:AFun)(args:List W)(Q:Res ->Prop):Prop:=
 yZ ⟨Zu 0 args,[]⟩ λs=>jy P f F.code (Uo F.res [] Q) s
def aqe (P:Program)(f:FuncId ->List W ->Option W)(F:AFun)(args:List W)(hs:List Pl)(Q:Res ->Prop):Prop:=
 yZ ⟨Zu 0 (args.map (W.ren ((ul 100000 hs).map some))),ji 100000 (hs.map (Pl.ren ((ul 100000 hs).map some)))⟩ λs=>
  jy P f F.code (Uo F.res (ul 100000 hs) Q) s
section
variable {P:Program}{T:Tab P}
theorem qr {b:Bool}{A B A' B':Prop}(h1:A ->A')(h2:B ->B'):cond b A B ->cond b A' B':=by cases b;exact h2;exact h1
theorem Ze {dst:Option Nat}{op:AOp}{s:S}{K K':S ->Prop}(hk: ∀s,K s ->K' s):zJ P dst op s K ->zJ P dst op s K':=by
 cases op<;>simp only[zJ,aLd,aSt,ag9,as3,as4,kB,ae5,apz,apy,aMm,as2,as1,as0,as5]
 all_goals repeat' first|exact λh=>hk _ h|exact id|refine qr ?_ id|refine qr ?_ ?_|exact λh=>h.mono λ_=>hk _|split
 all_goals try exact λh=>⟨h.1,hk _ h.2⟩
 all_goals try exact λh=>⟨h.1,h.2.1,hk _ h.2.2⟩
 all_goals try exact λh=>⟨h.1,h.2.1,h.2.2.1,hk _ h.2.2.2⟩
 all_goals try exact λh=>⟨h.1,h.2.1,h.2.2.1,h.2.2.2.1,hk _ h.2.2.2.2⟩
 all_goals try exact λh=>⟨λe=>hk _ (h.1 e),hk _ h.2⟩
 all_goals try exact λh c h1 h2=>hk _ (h c h1 h2)
 all_goals try exact λ⟨y,h1,h2⟩=>⟨y,h1,hk _ h2⟩
 all_goals try exact λ⟨y,h1,h2,h3⟩=>⟨y,h1,h2,hk _ h3⟩
 all_goals try exact λ⟨h0,y,h1,h2,h3⟩=>⟨h0,y,h1,h2,hk _ h3⟩
 all_goals try exact λh=>zu.mono h λr=>qr (hk _) id
 ·rintro⟨e,h1,h2⟩;refine⟨e,h1,?_⟩;split at h2
  ·exact hk _ h2
  ·exact h2.elim
theorem uv {isG:Bool}{dst:Option Nat}{s:S}{K K':S ->Prop}(hk: ∀s,K s ->K' s):split isG dst s K ->split isG dst s K':=by
 unfold split;refine qr ?_ (hk _);split
 ·split
  ·exact qr (hk _) (hk _)
  ·exact hk _
 ·exact hk _
theorem Ju: ∀(n:Nat) (ops:List AI) (s:S) (K:S ->Prop),xQ P T.f n ops s K ->zR P ops s K
 |0,_,_,_,h=>h.elim
 |_+1,[],_,_,h=>h
 |n+1,.mk dst g isG op drop::r,s,K,h=>by
  unfold xQ at h;simp only[yM]at h;have hrec: ∀s2,xQ P T.f n r s2 K ->zR P r s2 K:=λs2 h=>Ju n r s2 K h
  cases g with
  |some x=>
   obtain⟨d,w⟩:=x;unfold zR;simp only[yM]at h⊢;split at h
   ·rename_i b hb;rw[hb];simp only;exact qr (Ze λs1=>uv λs2=>hrec _) (hrec _) h
   ·rename_i hb;rw[hb];exact hrec _ h
   ·exact h.elim
  |none=>
   simp only at h;refine JQ (g:=none) rfl ?_;cases dst with
   |none=>
    refine Ze (λs1 h1=>?_) h;cases isG<;>exact hrec _ h1
   |some d=>
    simp only at h;rcases ala h with h|⟨ps,v,ha,h⟩
    ·exact Ze (λs1=>uv λs2=>hrec _) h
    cases isG with
    |false=>
     obtain⟨h1,h2⟩:=XD h;exact Kt ha h1 (hrec _ h2) rfl
    |true=>
     simp only[cond_true]at h;rcases(akN T.f 100).2 _ _ _ _ _ _ _ h with h|⟨ps2,s2,r2,hs,h⟩
     ·obtain⟨h1,h2⟩:=XD h;exact Kt ha h1 (uv (λs2=>hrec _) h2) rfl
     ·obtain⟨h1,h2⟩:=XD h;obtain⟨h2,h3⟩:=XD h2;refine Kt ha h1 ?_ rfl;obtain⟨_,_,hk⟩:=(af7 P T 100).2 _ _ _ _ _ _ _ _ hs;have:=hk [] K h2 (by rw[List.append_nil];exact Ju n r2 s2 K h3);rw[List.append_nil]at this;exact this
theorem Wg {K K':S ->Prop}(hk: ∀s,K s ->K' s): ∀(ops:List AI) (s:S),zR P ops s K ->zR P ops s K'
 | [],s,h=>hk s h
 | .mk dst g isG op drop::r,s,h=>by
   have hrec: ∀s2,zR P r s2 K ->zR P r s2 K':=λs2 h=>Wg hk r s2 h
   unfold zR at h⊢;simp only[yM]at h⊢;cases g with
   |none=>exact Ze (λs1=>uv λs2=>hrec _) h
   |some x=>
    obtain⟨d,w⟩:=x;simp only at h⊢;split at h
    ·exact qr (Ze λs1=>uv λs2=>hrec _) (hrec _) h
    ·exact hrec _ h
    ·exact h.elim
theorem aqf {s:S}{keep:List Nat}{K K':S ->Prop}(hk: ∀s,K s ->K' s)(h:Jx s keep K):Jx s keep K':=by
 rw[Q3]at h⊢;exact hk _ h
theorem kF {K K':S ->Prop}(hk: ∀s,K s ->K' s): ∀(t:ATr) (s:S),atr P t s K ->atr P t s K'
 | .fin,s,h=>hk s h
 | .run ops t,s,h=>Wg (λs1=>kF hk t s1) ops s h
 | .br a b,s,h=>⟨kF hk a s h.1,kF hk b s h.2⟩
theorem wY: ∀(c:ACode) {Q Q':E ->S ->Prop}(_: ∀e s,Q e s ->Q' e s) (s:S),Qu P c Q s ->Qu P c Q' s
 | .skip,_,_,hq,s,h=>hq _ _ h
 | .reg ops,_,_,hq,s,h=>Wg (λs=>hq _ s) ops s h
 | .seq a b,_,_,hq,s,h=>wY a (λe s1 h1=>by
  cases e with
  |normal=>exact wY b hq s1 h1
  |exit i=>exact hq _ _ h1
  |ret=>exact hq _ _ h1) s h
 | .cond c a b,Q,Q',hq,s,h=>by
   unfold Qu at h⊢;split at h
   ·exact qr (wY a hq s) (wY b hq s) h
   ·exact h.elim
 | .block id a,Q,Q',hq,s,h=>wY a (λe s1 h1=>by
  cases e with
  |normal=>exact hq _ _ h1
  |exit i=>exact qr (hq _ _) (hq _ _) h1
  |ret=>exact hq _ _ h1) s h
 | .loop keep body,Q,Q',hq,s,⟨I,μ,h1,h2⟩=>⟨I,μ,h1,λs1 hs=>wY body (λe s2 h3=>by
  cases e with
  |normal=>exact h3
  |exit i=>exact hq _ _ h3
  |ret=>exact hq _ _ h3) s1 (h2 s1 hs)⟩
 | .scope a,_,_,hq,s,h=>wY a hq s h
 | .exit i,_,_,hq,s,h=>hq _ _ h
 | .ret,_,_,hq,s,h=>hq _ _ h
 | .tree t,_,_,hq,s,h=>kF (λs=>hq _ s) t s h
theorem J8 {f:FuncId ->List W ->Option W}{K K':S ->Prop}(hk: ∀s,K s ->K' s): ∀(n:Nat) (ops:List AI) (s:S),xQ P f n ops s K ->xQ P f n ops s K'
 |0,_,_,h=>h.elim
 |_+1,[],s,h=>hk s h
 |n+1,.mk dst g isG op drop::r,s,h=>by
  have hrec: ∀r s2,xQ P f n r s2 K ->xQ P f n r s2 K':=λr s2 h=>J8 hk n r s2 h
  have handL: ∀{l:List Prop}{A B:Prop},(A ->B) ->uB l A ->uB l B:=λh h'=>let⟨a,b⟩:=XD h';au4 a (h b)
  unfold xQ at h⊢;simp only[yM]at h⊢;cases g with
  |some x=>
   obtain⟨d,w⟩:=x;simp only at h⊢;split at h
   ·exact qr (Ze λs1=>uv λs2=>hrec _ _) (hrec _ _) h
   ·exact hrec _ _ h
   ·exact h.elim
  |none=>
   cases dst with
   |none=>exact Ze (λs1=>hrec _ _) h
   |some d=>
    simp only at h⊢;refine ae8 (λh=>Ze (λs1=>uv λs2=>hrec _ _) h) (λps v h=>?_) h;cases isG with
    |false=>exact handL (hrec _ _) h
    |true=>
     simp only[cond_true]at h⊢;exact auv (handL (uv λs2=>hrec _ _)) (λ_ _ _=>handL (handL (hrec _ _))) h
theorem Jv {f:FuncId ->List W ->Option W}{K K':S ->Prop}(hk: ∀s,K s ->K' s): ∀(t:ATr) (s:S),J9 P f t s K ->J9 P f t s K'
 | .fin,s,h=>hk s h
 | .run ops t,s,h=>J8 (λs1=>Jv hk t s1) _ ops s h
 | .br a b,s,h=>⟨Jv hk a s h.1,Jv hk b s h.2⟩
theorem aco {K:S ->Prop}: ∀(t:ATr) (s:S),J9 P T.f t s K ->atr P t s K
 | .fin,s,h=>h
 | .run ops t,s,h=>Wg (λs1=>aco t s1) ops s (Ju _ _ _ _ h)
 | .br a b,s,h=>⟨aco a s h.1,aco b s h.2⟩
theorem Zz {f:FuncId ->List W ->Option W}: ∀(c:ACode) {Q Q':E ->S ->Prop}(_: ∀e s,Q e s ->Q' e s) (s:S),jy P f c Q s ->jy P f c Q' s
 | .skip,_,_,hq,s,h=>hq _ _ h
 | .reg ops,_,_,hq,s,h=>J8 (λs=>hq _ s) _ ops s h
 | .seq a b,_,_,hq,s,h=>Zz a (λe s1 h1=>by
  cases e with
  |normal=>exact Zz b hq s1 h1
  |exit i=>exact hq _ _ h1
  |ret=>exact hq _ _ h1) s h
 | .cond c a b,Q,Q',hq,s,h=>by
   unfold jy at h⊢;split at h
   ·exact qr (Zz a hq s) (Zz b hq s) h
   ·exact h.elim
 | .block id a,Q,Q',hq,s,h=>Zz a (λe s1 h1=>by
  cases e with
  |normal=>exact hq _ _ h1
  |exit i=>exact qr (hq _ _) (hq _ _) h1
  |ret=>exact hq _ _ h1) s h
 | .loop keep body,Q,Q',hq,s,⟨I,μ,h1,h2⟩=>⟨I,μ,h1,λs1 hs=>Zz body (λe s2 h3=>by
  cases e with
  |normal=>exact h3
  |exit i=>exact hq _ _ h3
  |ret=>exact hq _ _ h3) s1 (h2 s1 hs)⟩
 | .scope a,_,_,hq,s,h=>Zz a hq s h
 | .exit i,_,_,hq,s,h=>hq _ _ h
 | .ret,_,_,hq,s,h=>hq _ _ h
 | .tree t,_,_,hq,s,h=>Jv (λs=>hq _ s) t s h
theorem X6: ∀(c:ACode) (Q:E ->S ->Prop) (s:S),jy P T.f c Q s ->Qu P c Q s
 | .skip,_,_,h=>h
 | .reg ops,Q,s,h=>Ju _ _ _ _ h
 | .seq a b,Q,s,h=>wY a (λe s1 h1=>by
  cases e with
  |normal=>exact X6 b Q s1 h1
  |exit i=>exact h1
  |ret=>exact h1) s (X6 a _ s h)
 | .cond c a b,Q,s,h=>by
   unfold jy at h;unfold Qu;split at h
   ·rename_i t ht;rw[ht];exact qr (X6 a Q s) (X6 b Q s) h
   ·exact h.elim
 | .block id a,Q,s,h=>wY a (λe s1 h1=>by
  cases e with
  |normal=>exact h1
  |exit i=>exact h1
  |ret=>exact h1) s (X6 a _ s h)
 | .loop keep body,Q,s,⟨I,μ,h1,h2⟩=>⟨I,μ,h1,λs1 hs=>wY body (λe s2 h3=>by
  cases e with
  |normal=>exact h3
  |exit i=>exact h3
  |ret=>exact h3) s1 (X6 body _ s1 (h2 s1 hs))⟩
 | .scope a,Q,s,h=>X6 a Q s h
 | .exit i,Q,s,h=>h
 | .ret,Q,s,h=>h
 | .tree t,Q,s,h=>aco t s h
end
theorem anu {P:Program}{k:Nat}{ords:List (Nat×List Nat)}{A:AFun}{args:List W}{Q:Res ->Prop}(T:Tab P)(h1:zt P ords k=some A.erase)(h2:qc P k=true)(h:atT P T.f A args Q):Sat P k args Q:=by
 refine ant h1 h2 ?_;unfold atT at h;unfold atf;rw[yM]at h⊢;exact wY _ (λe s h=>by cases e<;>exact h) _ (X6 _ _ _ h)
theorem ajA {P:Program}{k:Nat}{ords:List (Nat×List Nat)}{A:AFun}{args:List W}{hs:List Pl}{Q:Res ->Prop}(T:Tab P)(h1:zt P ords k=some A.erase)(h2:qc P k=true)(h3:hs.length<=1000)(h:aqe P T.f A args hs Q):zu P k args hs Q:=by
 refine ajz h1 h2 h3 ?_;unfold aqe at h;unfold auO acd;rw[yM]at h⊢;exact wY _ (λe s h=>by cases e<;>exact h) _ (X6 _ _ _ h)
theorem af9 {s:S}{keep:List Nat}{K K':S ->Prop}(hk: ∀s,K s ->K' s)(h:xD s keep K):xD s keep K':=let⟨t,h1,h2⟩:=h;⟨t,h1,aqf hk h2⟩
theorem vR {p:Nat ->Prop}: ∀(n:Nat),p n -> ∃m,p m /\ ∀k,p k ->m<=k:=by
 intro n;induction n using Nat.strongRecOn with
 |_ n ih=>
  intro hn;by_cases h: ∃k,k<n /\p k
  ·obtain⟨k,h1,h2⟩:=h;exact ih k h1 h2
  ·exact⟨n,hn,λk hk=>Nat.le_of_not_lt λhlt=>h ⟨k,hlt,hk⟩⟩
theorem atK {W:(E ->S ->Prop) ->S ->Prop}(hW: ∀{Q Q':E ->S ->Prop}(_: ∀e s,Q e s ->Q' e s) (s:S),W Q s ->W Q' s){keep:List Nat}{Q:E ->S ->Prop}{s:S}{ι:Type}(σ:ι ->S)(μ:ι ->Nat)(R:ι ->Prop)
 (h0: ∃i,R i /\xD s keep (· =σ i))
 (hb: ∀i,R i ->W (Js (λs2=> ∃j,(R j /\μ j<μ i)/\xD s2 keep (· =σ j)) Q) (σ i)):zS W keep Q s:=by
 classical
 have hmin: ∀t,(∃i,R i /\t=σ i) -> ∃m,(∃i,R i /\t=σ i /\μ i=m)/\ ∀k,(∃i,R i /\t=σ i /\μ i=k) ->m<=k:=
  λt ⟨i,h1,h2⟩=>vR (p:=λk=> ∃i,R i /\t=σ i /\μ i=k) (μ i) ⟨i,h1,h2,rfl⟩
 let M:S ->Nat:=λt=>if h: ∃i,R i /\t=σ i then Classical.choose (hmin t h)else 0
 have hM: ∀t (h: ∃i,R i /\t=σ i),(∃i,R i /\t=σ i /\μ i=M t)/\ ∀k,(∃i,R i /\t=σ i /\μ i=k) ->M t<=k:=λt h=>by
  have:=Classical.choose_spec (hmin t h);have e:M t=Classical.choose (hmin t h):=dif_pos h;rw[e];exact this
 refine⟨λt=> ∃i,R i /\t=σ i,M,?_,?_⟩
 ·obtain⟨i,h1,h2⟩:=h0;exact af9 (λt ht=>⟨i,h1,ht⟩) h2
 ·intro t ht;obtain⟨⟨i,h1,h2,h3⟩,_⟩:=hM t ht;subst h2;refine hW (λe s2 h=>?_) _ (hb i h1);cases e with
  |normal=>
   obtain⟨j,⟨h4,h5⟩,h6⟩:=h;refine af9 (λt ht=>?_) h6;subst ht;refine⟨⟨j,h4,rfl⟩,?_⟩;have:=(hM (σ j) ⟨j,h4,rfl⟩).2 (μ j) ⟨j,h4,rfl,rfl⟩;omega
  |exit k=>exact h
  |ret=>exact h
end Go.AM
