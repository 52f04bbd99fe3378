import Derived.Test.YtnlbmefhdiabcaaGreatZu6
set_option linter.unusedSimpArgs false
set_option linter.unusedVariables false
set_option maxRecDepth 100000
set_option maxHeartbeats 4000000
namespace Go.AM
def qR (P:Program)(f:FuncId ->List W ->Option W):Nat ->List AI ->S ->(S ->Prop) ->Prop
 |0,_,_,_=>False
 |_+1,[],s,K=>K s
 |n+1,.mk dst g o op drop::r,s,K=>
  match g with
  |none=>match dst with
   |none=>z8 P none op s λj=>qa (j.drop drop) λi=>qR P f n r i K
   |some d=>J8 f op s (z8 P (some d) op s λj=>split o (some d) j λi=>qa (i.drop drop) λi=>qR P f n r i K) λp v=>
    bif o then
     qa (s.put (some d) v) λj=>scK f 100 none (some d) drop r j (jQ p (split true (some d) j λi=>qa (i.drop drop) λi=>qR P f n r i K)) λI i J=>
      jQ p (jQ I (qR P f n J i K))
    else jQ p (qa ((s.put (some d) v).drop drop) λi=>qR P f n r i K)
  |some (d,l)=>match s.tmp d with
   | .w (.c (.d (.lit (.bool b))))=>
     bif (bif b then l else !l)then z8 P dst op s λj=>split o dst j λi=>qa (i.drop drop) λi=>qR P f n r i K
     else qa ((s.put dst wx).drop drop) λs=>qR P f n r s K
   | .tup []=>qa ((s.put dst wx).drop drop) λs=>qR P f n r s K
   |_=>False
def kG (W:(E ->S ->Prop) ->S ->Prop)(Q:E ->S ->Prop):E ->S ->Prop
 | .normal,s=>W Q s
 | .exit i,s=>Q (.exit i) s
 | .ret,s=>Q .ret s
def Xx (id:Nat)(Q:E ->S ->Prop):E ->S ->Prop
 | .normal,s=>Q .normal s
 | .exit i,s=>bif Nat.beq i id then Q .normal s else Q (.exit i) s
 | .ret,s=>Q .ret s
def KG (B:S ->Prop)(Q:E ->S ->Prop):E ->S ->Prop
 | .normal,s=>B s
 | .exit i,s=>Q (.exit i) s
 | .ret,s=>Q .ret s
def V6 (g:List ARes)(U:List Nat)(Q:Res ->Prop):E ->S ->Prop
 | .exit _,_=>False
 | .normal,s=>kC g U Q s
 | .ret,s=>kC g U Q s
def yv (W:(E ->S ->Prop) ->S ->Prop)(g:List Nat)(Q:E ->S ->Prop)(s:S):Prop:=
 ∃(I:S ->Prop) (μ:S ->Nat),xL s g I /\ ∀j,I j ->
  W (KG (λi=>xL i g λi=>I i /\μ i<μ j) Q) j
def kw (P:Program)(f:FuncId ->List W ->Option W):ATr ->S ->(S ->Prop) ->Prop
 | .fin,s,K=>K s
 | .run ops t,s,K=>qR P f 1000 ops s λg=>kw P f t g K
 | .br a b,s,K=>kw P f a s K /\kw P f b s K
def ZZ (P:Program)(f:FuncId ->List W ->Option W):ACode ->(E ->S ->Prop) ->S ->Prop
 | .skip,Q,s=>Q .normal s
 | .reg ops,Q,s=>qR P f 1000 ops s (Q .normal)
 | .seq a b,Q,s=>ZZ P f a (kG (λQ s=>ZZ P f b Q s) Q) s
 | .cond c a b,Q,s=>match yY (s.o c)with
   |some t=>cond t (ZZ P f a Q s) (ZZ P f b Q s)
   |none=>False
 | .block id a,Q,s=>ZZ P f a (Xx id Q) s
 | .loop g body,Q,s=>yv (λQ s=>ZZ P f body Q s) g Q s
 | .scope a,Q,s=>ZZ P f a Q s
 | .exit i,Q,s=>Q (.exit i) s
 | .ret,Q,s=>Q .ret s
 | .tree t,Q,s=>kw P f t s (Q .normal)
def ayf (P:Program)(f:FuncId ->List W ->Option W)(F:AFun)(args:List W)(Q:Res ->Prop):Prop:=
 qa ⟨jz 0 args,[]⟩ λs=>ZZ P f F.code (V6 F.res [] Q) s
def asY (P:Program)(f:FuncId ->List W ->Option W)(F:AFun)(args:List W)(hs:List Pl)(Q:Res ->Prop):Prop:=
 qa ⟨jz 0 (args.map (W.ren ((jy 100000 hs).map some))),ZK 100000 (hs.map (Pl.ren ((jy 100000 hs).map some)))⟩ λs=>
  ZZ P f F.code (V6 F.res (jy 100000 hs) Q) s
section
variable {P:Program}{T:Tab P}
theorem wT {b:Bool}{A B g i:Prop}(j:A ->g)(l:B ->i):cond b A B ->cond b g i:=by grind
theorem Ys {dst:Option Nat}{op:AOp}{s:S}{K l:S ->Prop}(hk: ∀s,K s ->l s):z8 P dst op s K ->z8 P dst op s l:=by
 cases op<;>simp only[z8,aLd,aSt,aiS,awx,awy,aam,agW,ar2,ar1,aMm,aww,awv,awu,awz]
 all_goals repeat' first|exact λh=>hk _ h|exact id|refine wT ?_ id|refine wT ?_ ?_|exact λh=>h.mono λ_=>hk _|split
 all_goals try exact λh=>⟨h.1,hk _ h.2⟩
 all_goals try exact λh=>⟨h.1,h.2.1,hk _ h.2.2⟩
 all_goals try exact λh=>⟨h.1,h.2.1,h.2.2.1,hk _ h.2.2.2⟩
 all_goals try exact λh=>⟨h.1,h.2.1,h.2.2.1,h.2.2.2.1,hk _ h.2.2.2.2⟩
 all_goals try exact λh=>⟨λe=>hk _ (h.1 e),hk _ h.2⟩
 all_goals try exact λh c g i=>hk _ (h c g i)
 all_goals try exact λ⟨y,g,i⟩=>⟨y,g,hk _ i⟩
 all_goals try exact λ⟨y,g,i,j⟩=>⟨y,g,i,hk _ j⟩
 all_goals try exact λ⟨h0,y,g,i,j⟩=>⟨h0,y,g,i,hk _ j⟩
 all_goals try exact λh=>zQ.mono h λr=>wT (hk _) id
 grind
theorem jL {g:Bool}{dst:Option Nat}{s:S}{K i:S ->Prop}(hk: ∀s,K s ->i s):split g dst s K ->split g dst s i:=by
 unfold split;refine wT ?_ (hk _);split
 ·split
  ·exact wT (hk _) (hk _)
  grind
 grind
theorem KJ: ∀(n:Nat) (ops:List AI) (s:S) (K:S ->Prop),qR P T.f n ops s K ->yh P ops s K
 |0,_,_,_,h=>h.elim
 |_+1,[],_,_,h=>h
 |n+1,.mk dst g p op drop::r,s,K,h=>by
  unfold qR at h;simp only[xJ]at h;have i: ∀j,qR P T.f n r j K ->yh P r j K:=λj h=>KJ n r j K h
  cases g with
  |some x=>
   obtain⟨d,w⟩:=x;unfold yh;simp only[xJ]at h⊢;split at h
   ·rename_i b R;rw[R];simp only;exact wT (Ys λs1=>jL λj=>i _) (i _) h
   ·grind
   grind
  |none=>
   simp only at h;refine ke (g:=none) rfl ?_;cases dst with
   |none=>
    refine Ys (λs1 l=>?_) h;cases p<;>exact i _ l
   |some d=>
    simp only at h;rcases ank h with h|⟨ps,v,I,h⟩
    ·grind[Ys,jL]
    cases p with
    |false=>
     obtain⟨l,o⟩:=QP h;exact kP I l (i _ o) rfl
    |true=>
     simp only[cond_true]at h;rcases(amO T.f 100).2 _ _ _ _ _ _ _ h with h|⟨U,j,r2,hs,h⟩
     ·obtain⟨l,o⟩:=QP h;exact kP I l (jL (λj=>i _) o) rfl
     ·obtain⟨l,o⟩:=QP h;obtain⟨o,J⟩:=QP o;refine kP I l ?_ rfl;obtain⟨_,_,hk⟩:=(ah0 P T 100).2 _ _ _ _ _ _ _ _ hs;have:=hk [] K o (by rw[List.append_nil];exact KJ n r2 j K J)
      grind
theorem Vo {K l:S ->Prop}(hk: ∀s,K s ->l s): ∀(ops:List AI) (s:S),yh P ops s K ->yh P ops s l
 | [],s,h=>hk s h
 | .mk dst g o op drop::r,s,h=>by
   have i: ∀j,yh P r j K ->yh P r j l:=λj h=>Vo hk r j h
   unfold yh at h⊢;simp only[xJ]at h⊢;cases g with
   |none=>grind[Ys,jL]
   |some x=>
    obtain⟨d,w⟩:=x;simp only at h⊢;split at h
    ·exact wT (Ys λp=>jL λj=>i _) (i _) h
    ·grind
    grind
theorem as0 {s:S}{g:List Nat}{K i:S ->Prop}(hk: ∀s,K s ->i s)(h:US s g K):US s g i:=by
 grind[Qj]
theorem aar {K g:S ->Prop}(hk: ∀s,K s ->g s): ∀(t:ATr) (s:S),atr P t s K ->atr P t s g
 | .fin,s,h=>hk s h
 | .run ops t,s,h=>Vo (λi=>aar hk t i) ops s h
 | .br a b,s,h=>⟨aar hk a s h.1,aar hk b s h.2⟩
theorem uo: ∀(c:ACode) {Q l:E ->S ->Prop}(_: ∀e s,Q e s ->l e s) (s:S),Xh P c Q s ->Xh P c l s
 | .skip,_,_,g,s,h=>g _ _ h
 | .reg ops,_,_,g,s,h=>Vo (λs=>g _ s) ops s h
 | .seq a b,_,_,g,s,h=>uo a (λe o j=>by
  cases e with
  |normal=>exact uo b g o j
  |exit i=>exact g _ _ j
  |ret=>exact g _ _ j) s h
 | .cond c a b,Q,l,g,s,h=>by
   unfold Xh at h⊢;split at h
   ·exact wT (uo a g s) (uo b g s) h
   grind
 | .block id a,Q,l,g,s,h=>uo a (λe o j=>by
  cases e with
  |normal=>grind
  |exit i=>exact wT (g _ _) (g _ _) j
  |ret=>grind) s h
 | .loop p body,Q,l,g,s,⟨I,μ,j,r⟩=>⟨I,μ,j,λo hs=>uo body (λe R J=>by
  grind) o (r o hs)⟩
 | .scope a,_,_,g,s,h=>uo a g s h
 | .exit i,_,_,g,s,h=>g _ _ h
 | .ret,_,_,g,s,h=>g _ _ h
 | .tree t,_,_,g,s,h=>aar (λs=>g _ s) t s h
theorem ku {f:FuncId ->List W ->Option W}{K p:S ->Prop}(hk: ∀s,K s ->p s): ∀(n:Nat) (ops:List AI) (s:S),qR P f n ops s K ->qR P f n ops s p
 |0,_,_,h=>h.elim
 |_+1,[],s,h=>hk s h
 |n+1,.mk dst g I op drop::r,s,h=>by
  have i: ∀r o,qR P f n r o K ->qR P f n r o p:=λr o h=>ku hk n r o h
  have j: ∀{l:List Prop}{A B:Prop},(A ->B) ->jQ l A ->jQ l B:=λh J=>let⟨a,b⟩:=QP J;az0 a (h b)
  unfold qR at h⊢;simp only[xJ]at h⊢;cases g with
  |some x=>
   obtain⟨d,w⟩:=x;simp only at h⊢;split at h
   ·exact wT (Ys λR=>jL λo=>i _ _) (i _ _) h
   ·grind
   grind
  |none=>
   cases dst with
   |none=>grind[Ys]
   |some d=>
    simp only at h⊢;refine ag0 (λh=>Ys (λR=>jL λo=>i _ _) h) (λT v h=>?_) h;cases I with
    |false=>grind
    |true=>
     simp only[cond_true]at h⊢;exact ay5 (j (jL λo=>i _ _)) (λ_ _ _=>j (j (i _ _))) h
theorem KK {f:FuncId ->List W ->Option W}{K g:S ->Prop}(hk: ∀s,K s ->g s): ∀(t:ATr) (s:S),kw P f t s K ->kw P f t s g
 | .fin,s,h=>hk s h
 | .run ops t,s,h=>ku (λi=>KK hk t i) _ ops s h
 | .br a b,s,h=>⟨KK hk a s h.1,KK hk b s h.2⟩
theorem ad5 {K:S ->Prop}: ∀(t:ATr) (s:S),kw P T.f t s K ->atr P t s K
 | .fin,s,h=>h
 | .run ops t,s,h=>Vo (λg=>ad5 t g) ops s (KJ _ _ _ _ h)
 | .br a b,s,h=>⟨ad5 a s h.1,ad5 b s h.2⟩
theorem YJ {f:FuncId ->List W ->Option W}: ∀(c:ACode) {Q l:E ->S ->Prop}(_: ∀e s,Q e s ->l e s) (s:S),ZZ P f c Q s ->ZZ P f c l s
 | .skip,_,_,g,s,h=>g _ _ h
 | .reg ops,_,_,g,s,h=>ku (λs=>g _ s) _ ops s h
 | .seq a b,_,_,g,s,h=>YJ a (λe o j=>by
  cases e with
  |normal=>exact YJ b g o j
  |exit i=>exact g _ _ j
  |ret=>exact g _ _ j) s h
 | .cond c a b,Q,l,g,s,h=>by
   unfold ZZ at h⊢;split at h
   ·exact wT (YJ a g s) (YJ b g s) h
   grind
 | .block id a,Q,l,g,s,h=>YJ a (λe o j=>by
  cases e with
  |normal=>exact g _ _ j
  |exit i=>exact wT (g _ _) (g _ _) j
  |ret=>exact g _ _ j) s h
 | .loop r body,Q,l,g,s,⟨I,μ,j,J⟩=>⟨I,μ,j,λo hs=>YJ body (λe R p=>by
  cases e with
  |normal=>exact p
  |exit i=>exact g _ _ p
  |ret=>exact g _ _ p) o (J o hs)⟩
 | .scope a,_,_,g,s,h=>YJ a g s h
 | .exit i,_,_,g,s,h=>g _ _ h
 | .ret,_,_,g,s,h=>g _ _ h
 | .tree t,_,_,g,s,h=>KK (λs=>g _ s) t s h
theorem YK: ∀(c:ACode) (Q:E ->S ->Prop) (s:S),ZZ P T.f c Q s ->Xh P c Q s
 | .skip,_,_,h=>h
 | .reg ops,Q,s,h=>KJ _ _ _ _ h
 | .seq a b,Q,s,h=>uo a (λe j g=>by
  cases e with
  |normal=>exact YK b Q j g
  |exit i=>exact g
  |ret=>exact g) s (YK a _ s h)
 | .cond c a b,Q,s,h=>by
   unfold ZZ at h;unfold Xh;split at h
   ·rename_i t r;rw[r];exact wT (YK a Q s) (YK b Q s) h
   grind
 | .block id a,Q,s,h=>uo a (λe j g=>by
  cases e with
  |normal=>exact g
  |exit i=>exact g
  |ret=>exact g) s (YK a _ s h)
 | .loop o body,Q,s,⟨I,μ,g,p⟩=>⟨I,μ,g,λj hs=>uo body (λe J l=>by
  cases e with
  |normal=>exact l
  |exit i=>exact l
  |ret=>exact l) j (YK body _ j (p j hs))⟩
 | .scope a,Q,s,h=>YK a Q s h
 | .exit i,Q,s,h=>h
 | .ret,Q,s,h=>h
 | .tree t,Q,s,h=>ad5 t s h
end
theorem apY {P:Program}{k:Nat}{ords:List (Nat×List Nat)}{A:AFun}{args:List W}{Q:Res ->Prop}(T:Tab P)(g:cFun P ords k=some A.erase)(i:qQ P k=true)(h:ayf P T.f A args Q):Sat P k args Q:=by
 refine apX g i ?_;unfold ayf at h;unfold awM;rw[xJ]at h⊢;exact uo _ (λe s h=>by cases e<;>exact h) _ (YK _ _ _ h)
theorem alB {P:Program}{k:Nat}{ords:List (Nat×List Nat)}{A:AFun}{args:List W}{hs:List Pl}{Q:Res ->Prop}(T:Tab P)(g:cFun P ords k=some A.erase)(i:qQ P k=true)(j:hs.length<=1000)(h:asY P T.f A args hs Q):zQ P k args hs Q:=by
 refine alA g i j ?_;unfold asY at h;unfold azC adM;rw[xJ]at h⊢;exact uo _ (λe s h=>by cases e<;>exact h) _ (YK _ _ _ h)
theorem ah5 {s:S}{g:List Nat}{K i:S ->Prop}(hk: ∀s,K s ->i s)(h:xL s g K):xL s g i:=let⟨t,j,l⟩:=h;⟨t,j,as0 hk l⟩
theorem jC {p:Nat ->Prop}: ∀(n:Nat),p n -> ∃m,p m /\ ∀k,p k ->m<=k:=by
 intro n;induction n using Nat.strongRecOn<;>grind
theorem ax4 {W:(E ->S ->Prop) ->S ->Prop}(hW: ∀{Q P:E ->S ->Prop}(_: ∀e s,Q e s ->P e s) (s:S),W Q s ->W P s){l:List Nat}{Q:E ->S ->Prop}{s:S}{ι:Type}(σ:ι ->S)(μ:ι ->Nat)(R:ι ->Prop)
 (h0: ∃i,R i /\xL s l (· =σ i))
 (hb: ∀i,R i ->W (KG (λU=> ∃j,(R j /\μ j<μ i)/\xL U l (· =σ j)) Q) (σ i)):yv W l Q s:=by
 classical
 have g: ∀t,(∃i,R i /\t=σ i) -> ∃m,(∃i,R i /\t=σ i /\μ i=m)/\ ∀k,(∃i,R i /\t=σ i /\μ i=k) ->m<=k:=
  λt ⟨i,o,r⟩=>jC (p:=λk=> ∃i,R i /\t=σ i /\μ i=k) (μ i) ⟨i,o,r,rfl⟩
 let M:S ->Nat:=λt=>if h: ∃i,R i /\t=σ i then Classical.choose (g t h)else 0
 have T: ∀t (h: ∃i,R i /\t=σ i),(∃i,R i /\t=σ i /\μ i=M t)/\ ∀k,(∃i,R i /\t=σ i /\μ i=k) ->M t<=k:=λt h=>by
  have:=Classical.choose_spec (g t h);have e:M t=Classical.choose (g t h):=dif_pos h
  grind
 refine⟨λt=> ∃i,R i /\t=σ i,M,?_,?_⟩
 ·grind[ah5]
 ·intro t J;obtain⟨⟨i,o,r,h3⟩,_⟩:=T t J;subst r;refine hW (λe U h=>?_) _ (hb i o);cases e with
  |normal=>
   obtain⟨j,⟨I,h5⟩,h6⟩:=h;refine ah5 (λt J=>?_) h6;subst J;refine⟨⟨j,I,rfl⟩,?_⟩;have:=(T (σ j) ⟨j,I,rfl⟩).2 (μ j) ⟨j,I,rfl,rfl⟩;omega
  |exit k=>exact h
  |ret=>exact h
end Go.AM
