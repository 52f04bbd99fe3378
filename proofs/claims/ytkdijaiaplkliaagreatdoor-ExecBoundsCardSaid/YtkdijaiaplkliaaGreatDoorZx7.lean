import Derived.Test.YtkdijaiaplkliaaGreatDoorZx6
set_option linter.unusedSimpArgs false
set_option linter.unusedVariables false
set_option maxRecDepth 100000
set_option maxHeartbeats 4000000
namespace Go.AM
def xH (P:Program)(f:FuncId ->List W ->Option W):Nat ->List AI ->S ->(S ->Prop) ->Prop
 |0,_,_,_=>False
 |_+1,[],s,K=>K s
 |n+1,.mk dst g o op drop::r,s,K=>
  match g with
  |none=>match dst with
   |none=>zF P none op s λj=>y8 (j.drop drop) λi=>xH P f n r i K
   |some d=>WN f op s (zF P (some d) op s λj=>split o (some d) j λi=>y8 (i.drop drop) λi=>xH P f n r i K) λp v=>
    bif o then
     y8 (s.put (some d) v) λj=>scK f 100 none (some d) drop r j (vO p (split true (some d) j λi=>y8 (i.drop drop) λi=>xH P f n r i K)) λI i J=>
      vO p (vO I (xH P f n J i K))
    else vO p (y8 ((s.put (some d) v).drop drop) λi=>xH P f n r i K)
  |some (d,l)=>match s.tmp d with
   | .w (.c (.d (.lit (.bool b))))=>
     bif (bif b then l else !l)then zF P dst op s λj=>split o dst j λi=>y8 (i.drop drop) λi=>xH P f n r i K
     else y8 ((s.put dst xS).drop drop) λs=>xH P f n r s K
   | .tup []=>y8 ((s.put dst xS).drop drop) λs=>xH P f n r s K
   |_=>False
def Jm (W:(E ->S ->Prop) ->S ->Prop)(Q:E ->S ->Prop):E ->S ->Prop
 | .normal,s=>W Q s
 | .exit i,s=>Q (.exit i) s
 | .ret,s=>Q .ret s
def Ym (id:Nat)(Q:E ->S ->Prop):E ->S ->Prop
 | .normal,s=>Q .normal s
 | .exit i,s=>bif Nat.beq i id then Q .normal s else Q (.exit i) s
 | .ret,s=>Q .ret s
def W8 (B:S ->Prop)(Q:E ->S ->Prop):E ->S ->Prop
 | .normal,s=>B s
 | .exit i,s=>Q (.exit i) s
 | .ret,s=>Q .ret s
def Wa (g:List ARes)(U:List Nat)(Q:Res ->Prop):E ->S ->Prop
 | .exit _,_=>False
 | .normal,s=>VJ g U Q s
 | .ret,s=>VJ g U Q s
def yk (W:(E ->S ->Prop) ->S ->Prop)(g:List Nat)(Q:E ->S ->Prop)(s:S):Prop:=
 ∃(I:S ->Prop) (μ:S ->Nat),xm s g I /\ ∀j,I j ->
  W (W8 (λi=>xm i g λi=>I i /\μ i<μ j) Q) j
def VG (P:Program)(f:FuncId ->List W ->Option W):ATr ->S ->(S ->Prop) ->Prop
 | .fin,s,K=>K s
 | .run ops t,s,K=>xH P f 1000 ops s λg=>VG P f t g K
 | .br a b,s,K=>VG P f a s K /\VG P f b s K
def uP (P:Program)(f:FuncId ->List W ->Option W):ACode ->(E ->S ->Prop) ->S ->Prop
 | .skip,Q,s=>Q .normal s
 | .reg ops,Q,s=>xH P f 1000 ops s (Q .normal)
 | .seq a b,Q,s=>uP P f a (Jm (λQ s=>uP P f b Q s) Q) s
 | .cond c a b,Q,s=>match yi (s.o c)with
   |some t=>cond t (uP P f a Q s) (uP P f b Q s)
   |none=>False
 | .block id a,Q,s=>uP P f a (Ym id Q) s
 | .loop g body,Q,s=>yk (λQ s=>uP P f body Q s) g Q s
 | .scope a,Q,s=>uP P f a Q s
 | .exit i,Q,s=>Q (.exit i) s
 | .ret,Q,s=>Q .ret s
 | .tree t,Q,s=>VG P f t s (Q .normal)
def ang (P:Program)(f:FuncId ->List W ->Option W)(F:AFun)(args:List W)(Q:Res ->Prop):Prop:=
 y8 ⟨jk 0 args,[]⟩ λs=>uP P f F.code (Wa F.res [] Q) s
def ajN (P:Program)(f:FuncId ->List W ->Option W)(F:AFun)(args:List W)(hs:List Pl)(Q:Res ->Prop):Prop:=
 y8 ⟨jk 0 (args.map (W.ren ((vz 100000 hs).map some))),uA 100000 (hs.map (Pl.ren ((vz 100000 hs).map some)))⟩ λs=>
  uP P f F.code (Wa F.res (vz 100000 hs) Q) s
section
variable {P:Program}{T:Tab P}
theorem qe {b:Bool}{A B g i:Prop}(j:A ->g)(l:B ->i):cond b A B ->cond b g i:=by grind
theorem jg {dst:Option Nat}{op:AOp}{s:S}{K l:S ->Prop}(hk: ∀s,K s ->l s):zF P dst op s K ->zF P dst op s l:=by
 cases op<;>simp only[zF,aLd,aSt,ab9,amy,amz,WL,aaK,ajc,ajb,aMm,amx,amw,amv,amA]
 all_goals repeat' first|exact λh=>hk _ h|exact id|refine qe ?_ id|refine qe ?_ ?_|exact λh=>h.mono λ_=>hk _|split
 all_goals try exact λh=>⟨h.1,hk _ h.2⟩
 all_goals try exact λh=>⟨h.1,h.2.1,hk _ h.2.2⟩
 all_goals try exact λh=>⟨h.1,h.2.1,h.2.2.1,hk _ h.2.2.2⟩
 all_goals try exact λh=>⟨h.1,h.2.1,h.2.2.1,h.2.2.2.1,hk _ h.2.2.2.2⟩
 all_goals try exact λh=>⟨λe=>hk _ (h.1 e),hk _ h.2⟩
 all_goals try exact λh c g i=>hk _ (h c g i)
 all_goals try exact λ⟨y,g,i⟩=>⟨y,g,hk _ i⟩
 all_goals try exact λ⟨y,g,i,j⟩=>⟨y,g,i,hk _ j⟩
 all_goals try exact λ⟨h0,y,g,i,j⟩=>⟨h0,y,g,i,hk _ j⟩
 all_goals try exact λh=>zD.mono h λr=>qe (hk _) id
 grind
theorem vI {g:Bool}{dst:Option Nat}{s:S}{K i:S ->Prop}(hk: ∀s,K s ->i s):split g dst s K ->split g dst s i:=by
 unfold split;refine qe ?_ (hk _);split
 ·split
  ·exact qe (hk _) (hk _)
  grind
 grind
theorem Va: ∀(n:Nat) (ops:List AI) (s:S) (K:S ->Prop),xH P T.f n ops s K ->zN P ops s K
 |0,_,_,_,h=>h.elim
 |_+1,[],_,_,h=>h
 |n+1,.mk dst g p op drop::r,s,K,h=>by
  unfold xH at h;simp only[yU]at h;have i: ∀j,xH P T.f n r j K ->zN P r j K:=λj h=>Va n r j K h
  cases g with
  |some x=>
   obtain⟨d,w⟩:=x;unfold zN;simp only[yU]at h⊢;split at h
   ·rename_i b R;rw[R];simp only;exact qe (jg λs1=>vI λj=>i _) (i _) h
   ·grind
   grind
  |none=>
   simp only at h;refine Vq (g:=none) rfl ?_;cases dst with
   |none=>
    refine jg (λs1 l=>?_) h;cases p<;>exact i _ l
   |some d=>
    simp only at h;rcases aft h with h|⟨ps,v,I,h⟩
    ·grind[jg,vI]
    cases p with
    |false=>
     obtain⟨l,o⟩:=Yl h;exact VX I l (i _ o) rfl
    |true=>
     simp only[cond_true]at h;rcases(ae3 T.f 100).2 _ _ _ _ _ _ _ h with h|⟨U,j,r2,hs,h⟩
     ·obtain⟨l,o⟩:=Yl h;exact VX I l (vI (λj=>i _) o) rfl
     ·obtain⟨l,o⟩:=Yl h;obtain⟨o,J⟩:=Yl o;refine VX I l ?_ rfl;obtain⟨_,_,hk⟩:=(abr P T 100).2 _ _ _ _ _ _ _ _ hs;have:=hk [] K o (by rw[List.append_nil];exact Va n r2 j K J)
      grind
theorem Xy {K l:S ->Prop}(hk: ∀s,K s ->l s): ∀(ops:List AI) (s:S),zN P ops s K ->zN P ops s l
 | [],s,h=>hk s h
 | .mk dst g o op drop::r,s,h=>by
   have i: ∀j,zN P r j K ->zN P r j l:=λj h=>Xy hk r j h
   unfold zN at h⊢;simp only[yU]at h⊢;cases g with
   |none=>grind[jg,vI]
   |some x=>
    obtain⟨d,w⟩:=x;simp only at h⊢;split at h
    ·exact qe (jg λp=>vI λj=>i _) (i _) h
    ·grind
    grind
theorem ajP {s:S}{g:List Nat}{K i:S ->Prop}(hk: ∀s,K s ->i s)(h:QD s g K):QD s g i:=by
 grind[Xn]
theorem UE {K g:S ->Prop}(hk: ∀s,K s ->g s): ∀(t:ATr) (s:S),J9 P t s K ->J9 P t s g
 | .fin,s,h=>hk s h
 | .run ops t,s,h=>Xy (λi=>UE hk t i) ops s h
 | .br a b,s,h=>⟨UE hk a s h.1,UE hk b s h.2⟩
theorem wu: ∀(c:ACode) {Q l:E ->S ->Prop}(_: ∀e s,Q e s ->l e s) (s:S),YY P c Q s ->YY P c l s
 | .skip,_,_,g,s,h=>g _ _ h
 | .reg ops,_,_,g,s,h=>Xy (λs=>g _ s) ops s h
 | .seq a b,_,_,g,s,h=>wu a (λe o j=>by
  cases e with
  |normal=>exact wu b g o j
  |exit i=>exact g _ _ j
  |ret=>exact g _ _ j) s h
 | .cond c a b,Q,l,g,s,h=>by
   unfold YY at h⊢;split at h
   ·exact qe (wu a g s) (wu b g s) h
   grind
 | .block id a,Q,l,g,s,h=>wu a (λe o j=>by
  cases e with
  |normal=>grind
  |exit i=>exact qe (g _ _) (g _ _) j
  |ret=>grind) s h
 | .loop p body,Q,l,g,s,⟨I,μ,j,r⟩=>⟨I,μ,j,λo hs=>wu body (λe R J=>by
  grind) o (r o hs)⟩
 | .scope a,_,_,g,s,h=>wu a g s h
 | .exit i,_,_,g,s,h=>g _ _ h
 | .ret,_,_,g,s,h=>g _ _ h
 | .tree t,_,_,g,s,h=>UE (λs=>g _ s) t s h
theorem VF {f:FuncId ->List W ->Option W}{K p:S ->Prop}(hk: ∀s,K s ->p s): ∀(n:Nat) (ops:List AI) (s:S),xH P f n ops s K ->xH P f n ops s p
 |0,_,_,h=>h.elim
 |_+1,[],s,h=>hk s h
 |n+1,.mk dst g I op drop::r,s,h=>by
  have i: ∀r o,xH P f n r o K ->xH P f n r o p:=λr o h=>VF hk n r o h
  have j: ∀{l:List Prop}{A B:Prop},(A ->B) ->vO l A ->vO l B:=λh J=>let⟨a,b⟩:=Yl J;aoC a (h b)
  unfold xH at h⊢;simp only[yU]at h⊢;cases g with
  |some x=>
   obtain⟨d,w⟩:=x;simp only at h⊢;split at h
   ·exact qe (jg λR=>vI λo=>i _ _) (i _ _) h
   ·grind
   grind
  |none=>
   cases dst with
   |none=>grind[jg]
   |some d=>
    simp only at h⊢;refine aaO (λh=>jg (λR=>vI λo=>i _ _) h) (λT v h=>?_) h;cases I with
    |false=>grind
    |true=>
     simp only[cond_true]at h⊢;exact anW (j (vI λo=>i _ _)) (λ_ _ _=>j (j (i _ _))) h
theorem Vb {f:FuncId ->List W ->Option W}{K g:S ->Prop}(hk: ∀s,K s ->g s): ∀(t:ATr) (s:S),VG P f t s K ->VG P f t s g
 | .fin,s,h=>hk s h
 | .run ops t,s,h=>VF (λi=>Vb hk t i) _ ops s h
 | .br a b,s,h=>⟨Vb hk a s h.1,Vb hk b s h.2⟩
theorem kD {K:S ->Prop}: ∀(t:ATr) (s:S),VG P T.f t s K ->J9 P t s K
 | .fin,s,h=>h
 | .run ops t,s,h=>Xy (λg=>kD t g) ops s (Va _ _ _ _ h)
 | .br a b,s,h=>⟨kD a s h.1,kD b s h.2⟩
theorem jx {f:FuncId ->List W ->Option W}: ∀(c:ACode) {Q l:E ->S ->Prop}(_: ∀e s,Q e s ->l e s) (s:S),uP P f c Q s ->uP P f c l s
 | .skip,_,_,g,s,h=>g _ _ h
 | .reg ops,_,_,g,s,h=>VF (λs=>g _ s) _ ops s h
 | .seq a b,_,_,g,s,h=>jx a (λe o j=>by
  cases e with
  |normal=>exact jx b g o j
  |exit i=>exact g _ _ j
  |ret=>exact g _ _ j) s h
 | .cond c a b,Q,l,g,s,h=>by
   unfold uP at h⊢;split at h
   ·exact qe (jx a g s) (jx b g s) h
   grind
 | .block id a,Q,l,g,s,h=>jx a (λe o j=>by
  cases e with
  |normal=>exact g _ _ j
  |exit i=>exact qe (g _ _) (g _ _) j
  |ret=>exact g _ _ j) s h
 | .loop r body,Q,l,g,s,⟨I,μ,j,J⟩=>⟨I,μ,j,λo hs=>jx body (λe R p=>by
  cases e with
  |normal=>exact p
  |exit i=>exact g _ _ p
  |ret=>exact g _ _ p) o (J o hs)⟩
 | .scope a,_,_,g,s,h=>jx a g s h
 | .exit i,_,_,g,s,h=>g _ _ h
 | .ret,_,_,g,s,h=>g _ _ h
 | .tree t,_,_,g,s,h=>Vb (λs=>g _ s) t s h
theorem YJ: ∀(c:ACode) (Q:E ->S ->Prop) (s:S),uP P T.f c Q s ->YY P c Q s
 | .skip,_,_,h=>h
 | .reg ops,Q,s,h=>Va _ _ _ _ h
 | .seq a b,Q,s,h=>wu a (λe j g=>by
  cases e with
  |normal=>exact YJ b Q j g
  |exit i=>exact g
  |ret=>exact g) s (YJ a _ s h)
 | .cond c a b,Q,s,h=>by
   unfold uP at h;unfold YY;split at h
   ·rename_i t r;rw[r];exact qe (YJ a Q s) (YJ b Q s) h
   grind
 | .block id a,Q,s,h=>wu a (λe j g=>by
  cases e with
  |normal=>exact g
  |exit i=>exact g
  |ret=>exact g) s (YJ a _ s h)
 | .loop o body,Q,s,⟨I,μ,g,p⟩=>⟨I,μ,g,λj hs=>wu body (λe J l=>by
  cases e with
  |normal=>exact l
  |exit i=>exact l
  |ret=>exact l) j (YJ body _ j (p j hs))⟩
 | .scope a,Q,s,h=>YJ a Q s h
 | .exit i,Q,s,h=>h
 | .ret,Q,s,h=>h
 | .tree t,Q,s,h=>kD t s h
end
theorem ahk {P:Program}{k:Nat}{ords:List (Nat×List Nat)}{A:AFun}{args:List W}{Q:Res ->Prop}(T:Tab P)(g:cFun P ords k=some A.erase)(i:xE P k=true)(h:ang P T.f A args Q):Sat P k args Q:=by
 refine ahj g i ?_;unfold ang at h;unfold amF;rw[yU]at h⊢;exact wu _ (λe s h=>by cases e<;>exact h) _ (YJ _ _ _ h)
theorem aeh {P:Program}{k:Nat}{ords:List (Nat×List Nat)}{A:AFun}{args:List W}{hs:List Pl}{Q:Res ->Prop}(T:Tab P)(g:cFun P ords k=some A.erase)(i:xE P k=true)(j:hs.length<=1000)(h:ajN P T.f A args hs Q):zD P k args hs Q:=by
 refine aeg g i j ?_;unfold ajN at h;unfold aoj ko;rw[yU]at h⊢;exact wu _ (λe s h=>by cases e<;>exact h) _ (YJ _ _ _ h)
theorem abs {s:S}{g:List Nat}{K i:S ->Prop}(hk: ∀s,K s ->i s)(h:xm s g K):xm s g i:=let⟨t,j,l⟩:=h;⟨t,j,ajP hk l⟩
theorem vB {p:Nat ->Prop}: ∀(n:Nat),p n -> ∃m,p m /\ ∀k,p k ->m<=k:=by
 intro n;induction n using Nat.strongRecOn<;>grind
theorem am9 {W:(E ->S ->Prop) ->S ->Prop}(hW: ∀{Q P:E ->S ->Prop}(_: ∀e s,Q e s ->P e s) (s:S),W Q s ->W P s){l:List Nat}{Q:E ->S ->Prop}{s:S}{ι:Type}(σ:ι ->S)(μ:ι ->Nat)(R:ι ->Prop)
 (h0: ∃i,R i /\xm s l (· =σ i))
 (hb: ∀i,R i ->W (W8 (λU=> ∃j,(R j /\μ j<μ i)/\xm U l (· =σ j)) Q) (σ i)):yk W l Q s:=by
 classical
 have g: ∀t,(∃i,R i /\t=σ i) -> ∃m,(∃i,R i /\t=σ i /\μ i=m)/\ ∀k,(∃i,R i /\t=σ i /\μ i=k) ->m<=k:=
  λt ⟨i,o,r⟩=>vB (p:=λk=> ∃i,R i /\t=σ i /\μ i=k) (μ i) ⟨i,o,r,rfl⟩
 let M:S ->Nat:=λt=>if h: ∃i,R i /\t=σ i then Classical.choose (g t h)else 0
 have T: ∀t (h: ∃i,R i /\t=σ i),(∃i,R i /\t=σ i /\μ i=M t)/\ ∀k,(∃i,R i /\t=σ i /\μ i=k) ->M t<=k:=λt h=>by
  have:=Classical.choose_spec (g t h);have e:M t=Classical.choose (g t h):=dif_pos h
  grind
 refine⟨λt=> ∃i,R i /\t=σ i,M,?_,?_⟩
 ·grind[abs]
 ·intro t J;obtain⟨⟨i,o,r,h3⟩,_⟩:=T t J;subst r;refine hW (λe U h=>?_) _ (hb i o);cases e with
  |normal=>
   obtain⟨j,⟨I,h5⟩,h6⟩:=h;refine abs (λt J=>?_) h6;subst J;refine⟨⟨j,I,rfl⟩,?_⟩;have:=(T (σ j) ⟨j,I,rfl⟩).2 (μ j) ⟨j,I,rfl,rfl⟩;omega
  |exit k=>exact h
  |ret=>exact h
end Go.AM
