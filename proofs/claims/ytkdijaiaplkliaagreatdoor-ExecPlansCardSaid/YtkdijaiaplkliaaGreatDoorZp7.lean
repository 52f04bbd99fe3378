import Derived.Test.YtkdijaiaplkliaaGreatDoorZp6
set_option linter.unusedSimpArgs false
set_option linter.unusedVariables false
set_option maxRecDepth 100000
set_option maxHeartbeats 4000000
open _root_ renaming List->am,Option->aA
open Classical renaming choose->aB,choose_spec->aD
open List renaming append_nil->aC
open Go renaming IntKind->aE
namespace Go.AM
def qz(P:Program)(f:FuncId->am W->aA W):Nat->am AI->S->(S->Prop)->Prop
 |0,_,_,_=>False
 |_+1,[],s,K=>K s
 |n+1,.mk dst g o op drop::r,s,K=>
  match g with
  |none=>match dst with
   |none=>zK P none op s λj=>xN (j.drop drop) λi=>qz P f n r i K
   |some d=>KO f op s (zK P (some d) op s λj=>split o (some d) j λi=>xN (i.drop drop) λi=>qz P f n r i K) λp v=>
    bif o then
     xN (s.put (some d) v) λj=>scK f 100 none (some d) drop r j (jO p (split true (some d) j λi=>xN (i.drop drop) λi=>qz P f n r i K)) λI i J=>
      jO p (jO I (qz P f n J i K))
    else jO p (xN ((s.put (some d) v).drop drop) λi=>qz P f n r i K)
  |some (d,l)=>match s.tmp d with
   |.w (.c (.d (.lit (.bool b))))=>
     bif (bif b then l else !l)then zK P dst op s λj=>split o dst j λi=>xN (i.drop drop) λi=>qz P f n r i K
     else xN ((s.put dst qO).drop drop) λs=>qz P f n r s K
   |.tup []=>xN ((s.put dst qO).drop drop) λs=>qz P f n r s K
   |_=>False
def Wz(W:(E->S->Prop)->S->Prop)(Q:E->S->Prop):E->S->Prop
 |.normal,s=>W Q s
 |.exit i,s=>Q (.exit i) s
 |.ret,s=>Q .ret s
def ZF(id:Nat)(Q:E->S->Prop):E->S->Prop
 |.normal,s=>Q .normal s
 |.exit i,s=>bif Nat.beq i id then Q .normal s else Q (.exit i) s
 |.ret,s=>Q .ret s
def K9(B:S->Prop)(Q:E->S->Prop):E->S->Prop
 |.normal,s=>B s
 |.exit i,s=>Q (.exit i) s
 |.ret,s=>Q .ret s
def ZZ(g:am ARes)(U:am Nat)(Q:Res->Prop):E->S->Prop
 |.exit _,_=>False
 |.normal,s=>gq g U Q s
 |.ret,s=>gq g U Q s
def zX(W:(E->S->Prop)->S->Prop)(g:am Nat)(Q:E->S->Prop)(s:S):Prop:=
 ∃(I:S->Prop) (μ:S->Nat),y8 s g I/\∀j,I j->
  W (K9 (λi=>y8 i g λi=>I i/\μ i<μ j) Q) j
def gj(P:Program)(f:FuncId->am W->aA W):ATr->S->(S->Prop)->Prop
 |.fin,s,K=>K s
 |.run ops t,s,K=>qz P f 1000 ops s λg=>gj P f t g K
 |.br a b,s,K=>gj P f a s K/\gj P f b s K
def ZL(P:Program)(f:FuncId->am W->aA W):ACode->(E->S->Prop)->S->Prop
 |.skip,Q,s=>Q .normal s
 |.reg ops,Q,s=>qz P f 1000 ops s (Q .normal)
 |.seq a b,Q,s=>ZL P f a (Wz (λQ s=>ZL P f b Q s) Q) s
 |.cond c a b,Q,s=>match yL (s.o c)with
   |some t=>cond t (ZL P f a Q s) (ZL P f b Q s)
   |none=>False
 |.block id a,Q,s=>ZL P f a (ZF id Q) s
 |.loop g body,Q,s=>zX (λQ s=>ZL P f body Q s) g Q s
 |.scope a,Q,s=>ZL P f a Q s
 |.exit i,Q,s=>Q (.exit i) s
 |.ret,Q,s=>Q .ret s
 |.tree t,Q,s=>gj P f t s (Q .normal)
def axS(P:Program)(f:FuncId->am W->aA W)(F:AFun)(args:am W)(Q:Res->Prop):Prop:=
 xN ⟨ZJ 0 args,[]⟩ λs=>ZL P f F.code (ZZ F.res [] Q) s
def asK(P:Program)(f:FuncId->am W->aA W)(F:AFun)(args:am W)(hs:am Pl)(Q:Res->Prop):Prop:=
 xN ⟨ZJ 0 (args.map (W.ren ((jy 100000 hs).map some))),Zw 100000 (hs.map (Pl.ren ((jy 100000 hs).map some)))⟩ λs=>
  ZL P f F.code (ZZ F.res (jy 100000 hs) Q) s
section
variable {P:Program}{T:Tab P}
theorem yZ{b:Bool}{A B g i:Prop}(j:A->g)(l:B->i):cond b A B->cond b g i:=by cases b;exact l;exact j
theorem atP{dst:aA Nat}{ok ag:Bool}{p:Nat}{t:AM.T}{j:Nat}{e:am AM.T}{s:S}{K g:S->Prop}(hk:∀s,K s->g s):amM dst ok ag p t j e s K->amM dst ok ag p t j e s g:=by
 unfold amM;split
 .split
  .exact yZ id (λ⟨l,i,o⟩=>⟨l,i,hk _ o⟩)
  exact id
 split
 .refine yZ (hk _) ?_;split
  .exact hk _
  exact id
 exact id
theorem atR{dst:aA Nat}{ok ag:Bool}{I:aA aE}{z:W}{x i:C}{s:S}{K r:S->Prop}(hk:∀s,K s->r s):amO dst ok ag I z x i s K->amO dst ok ag I z x i s r:=by
 unfold amO;split
 .refine And.imp id ?_;split
  .split
   .split
    .exact λ⟨g,l,o,p⟩=>⟨g,l,λh=>hk _ (o h),λj e a b=>atP hk (p j e a b)⟩
    exact id
   exact id
  .refine λ⟨g,l,o,p⟩=>⟨g,l,λh=>hk _ (o h),λj e a b=>?_⟩
   have J:=p j e a b
   revert J
   refine yZ (hk _) ?_;split
   .exact hk _
   exact id
  exact id
 exact id
theorem ahl{l:aA aE}{ag:Bool}{p:Nat}{t:AM.T}{k:Value}{e:am AM.T}{g:am Nat}{s:S}{K i:S->Prop}(hk:∀s,K s->i s):aaZ l ag p t k e g s K->aaZ l ag p t k e g s i:=by
 unfold aaZ;refine yZ ?_ id;split
 .refine λ⟨o,r,I,J⟩=>⟨o,r,λj h=>hk _ (I j h),λh=>?_⟩
  have P:=J h
  revert P
  split
  .exact hk _
  exact id
 exact id
theorem atS{ag:Bool}{j:aA aE}{x i:C}{v:W}{s:S}{K g:S->Prop}(hk:∀s,K s->g s):amP ag j x i v s K->amP ag j x i v s g:=by
 unfold amP;split
 .refine And.imp id ?_;split
  .split
   .exact yZ (ahl hk) id
   exact id
  split
  .split
   .exact yZ (ahl hk) id
   exact id
  exact id
 exact id
theorem atU{dst:aA Nat}{x:C}{s:S}{K g:S->Prop}(hk:∀s,K s->g s):amR dst x s K->amR dst x s g:=by
 unfold amR;split
 .split
  .exact yZ (hk _) id
  exact id
 exact id
theorem atT{dst:aA Nat}{x:C}{s:S}{K g:S->Prop}(hk:∀s,K s->g s):amQ dst x s K->amQ dst x s g:=by
 unfold amQ;split
 .split
  .exact yZ (λ⟨l,o⟩=>⟨λh=>hk _ (l h),λi h j=>hk _ (o i h j)⟩) id
  exact id
 exact id
theorem atO{dst:aA Nat}{ag:Bool}{p:Nat}{t:AM.T}{j:Nat}{e:am AM.T}{k:Value}{s:S}{K g:S->Prop}(hk:∀s,K s->g s):amL dst ag p t j e k s K->amL dst ag p t j e k s g:=by
 unfold amL;split
 .split
  .exact yZ id (λ⟨l,i,o⟩=>⟨l,i,hk _ o⟩)
  exact id
 split
 .refine yZ (hk _) ?_;split
  .exact hk _
  exact id
 exact id
theorem atQ{dst:aA Nat}{x:C}{s:S}{K g:S->Prop}(hk:∀s,K s->g s):amN dst x s K->amN dst x s g:=by
 unfold amN;split
 .split
  .exact λh k e i j=>⟨(h k e i j).1,atO hk (h k e i j).2⟩
  exact id
 exact id
theorem Yi{dst:aA Nat}{op:AOp}{s:S}{K l:S->Prop}(hk:∀s,K s->l s):zK P dst op s K->zK P dst op s l:=by
 cases op<;>simp only[zK,aLd,aSt,ai0,awk,awl,KM,ahk,arX,arW,aMm,aMt,awj,awi,awh,awm]
 all_goals repeat' first|exact λh=>hk _ h|exact id|refine yZ ?_ id|refine yZ ?_ ?_|exact λh=>h.mono λ_=>hk _|split
 all_goals try exact λh=>⟨h.1,hk _ h.2⟩
 all_goals try exact λh=>⟨h.1,h.2.1,hk _ h.2.2⟩
 all_goals try exact λh=>⟨h.1,h.2.1,h.2.2.1,hk _ h.2.2.2⟩
 all_goals try exact λh=>⟨h.1,h.2.1,h.2.2.1,h.2.2.2.1,hk _ h.2.2.2.2⟩
 all_goals try exact λh=>⟨λe=>hk _ (h.1 e),hk _ h.2⟩
 all_goals try exact λh c i g=>hk _ (h c i g)
 all_goals try exact λ⟨y,i,g⟩=>⟨y,i,hk _ g⟩
 all_goals try exact λ⟨y,i,g,j⟩=>⟨y,i,g,hk _ j⟩
 all_goals try exact λ⟨h0,y,i,g,j⟩=>⟨h0,y,i,g,hk _ j⟩
 all_goals try exact λh=>zA.mono h λr=>yZ (hk _) id
 .rintro⟨e,i,g⟩;refine⟨e,i,?_⟩;split at g
  .exact hk _ g
  exact g.elim
 .exact atR hk
 .exact atS hk
 .exact atU hk
 .exact atT hk
 exact atQ hk
theorem jI{g:Bool}{dst:aA Nat}{s:S}{K i:S->Prop}(hk:∀s,K s->i s):split g dst s K->split g dst s i:=by
 unfold split;refine yZ ?_ (hk _);split
 .split
  .exact yZ (hk _) (hk _)
  exact hk _
 exact hk _
theorem kf:∀(n:Nat) (ops:am AI) (s:S) (K:S->Prop),qz P T.f n ops s K->yd P ops s K
 |0,_,_,_,h=>h.elim
 |_+1,[],_,_,h=>h
 |n+1,.mk dst g p op drop::r,s,K,h=>by
  unfold qz at h;simp only[xu]at h;have i:∀j,qz P T.f n r j K->yd P r j K:=λj h=>kf n r j K h
  cases g with
  |some x=>
   obtain⟨d,w⟩:=x;unfold yd;simp only[xu]at h⊢;split at h
   .rename_i b J;rw[J];simp only;exact yZ (Yi λR=>jI λj=>i _) (i _) h
   .rename_i J;rw[J];exact i _ h
   exact h.elim
  |none=>
   simp only at h;refine kM (g:=none) rfl ?_;cases dst with
   |none=>
    refine Yi (λR l=>?_) h;cases p<;>exact i _ l
   |some d=>
    simp only at h;rcases am4 h with h|⟨ps,v,I,h⟩
    .exact Yi (λR=>jI λj=>i _) h
    cases p with
    |false=>
     obtain⟨l,o⟩:=Q3 h;exact gI I l (i _ o) rfl
    |true=>
     simp only[cond_true]at h;rcases(amw T.f 100).2 _ _ _ _ _ _ _ h with h|⟨aa,j,r2,hs,h⟩
     .obtain⟨l,o⟩:=Q3 h;exact gI I l (jI (λj=>i _) o) rfl
     obtain⟨l,o⟩:=Q3 h;obtain⟨o,U⟩:=Q3 o;refine gI I l ?_ rfl;obtain⟨_,_,hk⟩:=(ah9 P T 100).2 _ _ _ _ _ _ _ _ hs;have:=hk [] K o (by rw[aC];exact kf n r2 j K U);rw[aC]at this;exact this
theorem VC{K l:S->Prop}(hk:∀s,K s->l s):∀(ops:am AI) (s:S),yd P ops s K->yd P ops s l
 |[],s,h=>hk s h
 |.mk dst g o op drop::r,s,h=>by
   have i:∀j,yd P r j K->yd P r j l:=λj h=>VC hk r j h
   unfold yd at h⊢;simp only[xu]at h⊢;cases g with
   |none=>exact Yi (λp=>jI λj=>i _) h
   |some x=>
    obtain⟨d,w⟩:=x;simp only at h⊢;split at h
    .exact yZ (Yi λp=>jI λj=>i _) (i _) h
    .exact i _ h
    exact h.elim
theorem asM{s:S}{g:am Nat}{K i:S->Prop}(hk:∀s,K s->i s)(h:Jd s g K):Jd s g i:=by rw[Vo]at h⊢;exact hk _ h
theorem aa8{K g:S->Prop}(hk:∀s,K s->g s):∀(t:ATr) (s:S),atr P t s K->atr P t s g
 |.fin,s,h=>hk s h
 |.run ops t,s,h=>VC (λi=>aa8 hk t i) ops s h
 |.br a b,s,h=>⟨aa8 hk a s h.1,aa8 hk b s h.2⟩
theorem um:∀(c:ACode) {Q Q':E->S->Prop}(_:∀e s,Q e s->Q' e s) (s:S),WK P c Q s->WK P c Q' s
 |.skip,_,_,g,s,h=>g _ _ h
 |.reg ops,_,_,g,s,h=>VC (λs=>g _ s) ops s h
 |.seq a b,_,_,g,s,h=>um a (λe l j=>by
  cases e with
  |normal=>exact um b g l j
  |exit i=>exact g _ _ j
  |ret=>exact g _ _ j) s h
 |.cond c a b,Q,Q',g,s,h=>by
   unfold WK at h⊢;split at h
   .exact yZ (um a g s) (um b g s) h
   exact h.elim
 |.block id a,Q,Q',g,s,h=>um a (λe l j=>by
  cases e with
  |normal=>exact g _ _ j
  |exit i=>exact yZ (g _ _) (g _ _) j
  |ret=>exact g _ _ j) s h
 |.loop p body,Q,Q',g,s,⟨I,μ,j,r⟩=>⟨I,μ,j,λl hs=>um body (λe J o=>by
  cases e with
  |normal=>exact o
  |exit i=>exact g _ _ o
  |ret=>exact g _ _ o) l (r l hs)⟩
 |.scope a,_,_,g,s,h=>um a g s h
 |.exit i,_,_,g,s,h=>g _ _ h
 |.ret,_,_,g,s,h=>g _ _ h
 |.tree t,_,_,g,s,h=>aa8 (λs=>g _ s) t s h
theorem gi{f:FuncId->am W->aA W}{K p:S->Prop}(hk:∀s,K s->p s):∀(n:Nat) (ops:am AI) (s:S),qz P f n ops s K->qz P f n ops s p
 |0,_,_,h=>h.elim
 |_+1,[],s,h=>hk s h
 |n+1,.mk dst g I op drop::r,s,h=>by
  have i:∀r o,qz P f n r o K->qz P f n r o p:=λr o h=>gi hk n r o h
  have j:∀{l:am Prop}{A B:Prop},(A->B)->jO l A->jO l B:=λh R=>let⟨a,b⟩:=Q3 R;azG a (h b)
  unfold qz at h⊢;simp only[xu]at h⊢;cases g with
  |some x=>
   obtain⟨d,w⟩:=x;simp only at h⊢;split at h
   .exact yZ (Yi λJ=>jI λo=>i _ _) (i _ _) h
   .exact i _ _ h
   exact h.elim
  |none=>
   cases dst with
   |none=>exact Yi (λJ=>i _ _) h
   |some d=>
    simp only at h⊢;refine aho (λh=>Yi (λJ=>jI λo=>i _ _) h) (λU v h=>?_) h;cases I with
    |false=>exact j (i _ _) h
    |true=>
     simp only[cond_true]at h⊢;exact ayM (j (jI λo=>i _ _)) (λ_ _ _=>j (j (i _ _))) h
theorem kh{f:FuncId->am W->aA W}{K g:S->Prop}(hk:∀s,K s->g s):∀(t:ATr) (s:S),gj P f t s K->gj P f t s g
 |.fin,s,h=>hk s h
 |.run ops t,s,h=>gi (λi=>kh hk t i) _ ops s h
 |.br a b,s,h=>⟨kh hk a s h.1,kh hk b s h.2⟩
theorem aeT{K:S->Prop}:∀(t:ATr) (s:S),gj P T.f t s K->atr P t s K
 |.fin,s,h=>h
 |.run ops t,s,h=>VC (λg=>aeT t g) ops s (kf _ _ _ _ h)
 |.br a b,s,h=>⟨aeT a s h.1,aeT b s h.2⟩
theorem YE{f:FuncId->am W->aA W}:∀(c:ACode) {Q Q':E->S->Prop}(_:∀e s,Q e s->Q' e s) (s:S),ZL P f c Q s->ZL P f c Q' s
 |.skip,_,_,g,s,h=>g _ _ h
 |.reg ops,_,_,g,s,h=>gi (λs=>g _ s) _ ops s h
 |.seq a b,_,_,g,s,h=>YE a (λe l j=>by
  cases e with
  |normal=>exact YE b g l j
  |exit i=>exact g _ _ j
  |ret=>exact g _ _ j) s h
 |.cond c a b,Q,Q',g,s,h=>by
   unfold ZL at h⊢;split at h
   .exact yZ (YE a g s) (YE b g s) h
   exact h.elim
 |.block id a,Q,Q',g,s,h=>YE a (λe l j=>by
  cases e with
  |normal=>exact g _ _ j
  |exit i=>exact yZ (g _ _) (g _ _) j
  |ret=>exact g _ _ j) s h
 |.loop p body,Q,Q',g,s,⟨I,μ,j,r⟩=>⟨I,μ,j,λl hs=>YE body (λe J o=>by
  cases e with
  |normal=>exact o
  |exit i=>exact g _ _ o
  |ret=>exact g _ _ o) l (r l hs)⟩
 |.scope a,_,_,g,s,h=>YE a g s h
 |.exit i,_,_,g,s,h=>g _ _ h
 |.ret,_,_,g,s,h=>g _ _ h
 |.tree t,_,_,g,s,h=>kh (λs=>g _ s) t s h
theorem Wt:∀(c:ACode) (Q:E->S->Prop) (s:S),ZL P T.f c Q s->WK P c Q s
 |.skip,_,_,h=>h
 |.reg ops,Q,s,h=>kf _ _ _ _ h
 |.seq a b,Q,s,h=>um a (λe j g=>by
  cases e with
  |normal=>exact Wt b Q j g
  |exit i=>exact g
  |ret=>exact g) s (Wt a _ s h)
 |.cond c a b,Q,s,h=>by
   unfold ZL at h;unfold WK;split at h
   .rename_i t r;rw[r];exact yZ (Wt a Q s) (Wt b Q s) h
   exact h.elim
 |.block id a,Q,s,h=>um a (λe j g=>by
  cases e with
  |normal=>exact g
  |exit i=>exact g
  |ret=>exact g) s (Wt a _ s h)
 |.loop o body,Q,s,⟨I,μ,g,p⟩=>⟨I,μ,g,λj hs=>um body (λe J l=>by
  cases e with
  |normal=>exact l
  |exit i=>exact l
  |ret=>exact l) j (Wt body _ j (p j hs))⟩
 |.scope a,Q,s,h=>Wt a Q s h
 |.exit i,Q,s,h=>h
 |.ret,Q,s,h=>h
 |.tree t,Q,s,h=>aeT t s h
end
theorem apJ{P:Program}{k:Nat}{ords:am (Nat×am Nat)}{A:AFun}{args:am W}{Q:Res->Prop}(T:Tab P)(g:cFun P ords k=some A.erase)(i:xZ P k=true)(h:axS P T.f A args Q):Sat P k args Q:=by refine apI g i ?_;unfold axS at h;unfold awt;rw[xu]at h⊢;exact um _ (λe s h=>by cases e<;>exact h) _ (Wt _ _ _ h)
theorem alu{P:Program}{k:Nat}{ords:am (Nat×am Nat)}{A:AFun}{args:am W}{hs:am Pl}{Q:Res->Prop}(T:Tab P)(g:cFun P ords k=some A.erase)(i:xZ P k=true)(j:hs.length<=1000)(h:asK P T.f A args hs Q):zA P k args hs Q:=by refine alt g i j ?_;unfold asK at h;unfold azj aeB;rw[xu]at h⊢;exact um _ (λe s h=>by cases e<;>exact h) _ (Wt _ _ _ h)
theorem aib{s:S}{g:am Nat}{K i:S->Prop}(hk:∀s,K s->i s)(h:y8 s g K):y8 s g i:=let⟨t,j,l⟩:=h;⟨t,j,asM hk l⟩
theorem jB{p:Nat->Prop}:∀(n:Nat),p n->∃m,p m/\∀k,p k->m<=k:=by
 intro n;induction n using Nat.strongRecOn with
 |_ n o=>
  intro l;by_cases h:∃k,k<n/\p k
  .obtain⟨k,i,j⟩:=h;exact o k i j
  exact⟨n,l,λk hk=>Nat.le_of_not_lt λg=>h ⟨k,g,hk⟩⟩
theorem axI{W:(E->S->Prop)->S->Prop}(hW:∀{Q Q':E->S->Prop}(_:∀e s,Q e s->Q' e s) (s:S),W Q s->W Q' s){l:am Nat}{Q:E->S->Prop}{s:S}{ι:Type}(σ:ι->S)(μ:ι->Nat)(R:ι->Prop)
 (h0:∃i,R i/\y8 s l (· =σ i))
 (hb:∀i,R i->W (K9 (λU=>∃j,(R j/\μ j<μ i)/\y8 U l (· =σ j)) Q) (σ i)):zX W l Q s:=by
 classical
 have g:∀t,(∃i,R i/\t=σ i)->∃m,(∃i,R i/\t=σ i/\μ i=m)/\∀k,(∃i,R i/\t=σ i/\μ i=k)->m<=k:=
  λt ⟨i,o,r⟩=>jB (p:=λk=>∃i,R i/\t=σ i/\μ i=k) (μ i) ⟨i,o,r,rfl⟩
 let M:S->Nat:=λt=>if h:∃i,R i/\t=σ i then aB (g t h)else 0
 have P:∀t (h:∃i,R i/\t=σ i),(∃i,R i/\t=σ i/\μ i=M t)/\∀k,(∃i,R i/\t=σ i/\μ i=k)->M t<=k:=λt h=>by have:=aD (g t h);have e:M t=aB (g t h):=dif_pos h;rw[e];exact this
 refine⟨λt=>∃i,R i/\t=σ i,M,?_,?_⟩
 .obtain⟨i,o,r⟩:=h0;exact aib (λt I=>⟨i,o,I⟩) r
 intro t I;obtain⟨⟨i,o,r,h3⟩,_⟩:=P t I;subst r;refine hW (λe U h=>?_) _ (hb i o);cases e with
 |normal=>
  obtain⟨j,⟨J,h5⟩,h6⟩:=h;refine aib (λt I=>?_) h6;subst I;refine⟨⟨j,J,rfl⟩,?_⟩;have:=(P (σ j) ⟨j,J,rfl⟩).2 (μ j) ⟨j,J,rfl,rfl⟩;omega
 |exit k=>exact h
 |ret=>exact h
end Go.AM
