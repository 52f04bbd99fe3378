import Derived.Test.YtnlbmefhdiabcaaGreatZt6
set_option linter.unusedSimpArgs false
set_option linter.unusedVariables false
set_option maxRecDepth 100000
set_option maxHeartbeats 4000000
open _root_ renaming List->am,Option->aA
open Go renaming FuncId->aB
open Classical renaming choose->aC,choose_spec->aD
namespace Go.AM
def wC(P:Program)(f:aB->am W->aA W):Nat->am AI->S->(S->Prop)->Prop
 |0,_,_,_=>False
 |_+1,[],s,K=>K s
 |n+1,.mk dst g o op drop::r,s,K=>
  match g with
  |none=>match dst with
   |none=>yg P none op s λj=>qo (j.drop drop) λi=>wC P f n r i K
   |some d=>kY f op s (yg P (some d) op s λj=>split o (some d) j λi=>qo (i.drop drop) λi=>wC P f n r i K) λp v=>
    bif o then
     qo (s.put (some d) v) λj=>scK f 100 none (some d) drop r j (Zs p (split true (some d) j λi=>qo (i.drop drop) λi=>wC P f n r i K)) λI i J=>
      Zs p (Zs I (wC P f n J i K))
    else Zs p (qo ((s.put (some d) v).drop drop) λi=>wC P f n r i K)
  |some (d,l)=>match s.tmp d with
   |.w (.c (.d (.lit (.bool b))))=>
     bif (bif b then l else !l)then yg P dst op s λj=>split o dst j λi=>qo (i.drop drop) λi=>wC P f n r i K
     else qo ((s.put dst wQ).drop drop) λs=>wC P f n r s K
   |.tup []=>qo ((s.put dst wQ).drop drop) λs=>wC P f n r s K
   |_=>False
def aa3(W:(E->S->Prop)->S->Prop)(Q:E->S->Prop):E->S->Prop
 |.normal,s=>W Q s
 |.exit i,s=>Q (.exit i) s
 |.ret,s=>Q .ret s
def Qo(id:Nat)(Q:E->S->Prop):E->S->Prop
 |.normal,s=>Q .normal s
 |.exit i,s=>bif Nat.beq i id then Q .normal s else Q (.exit i) s
 |.ret,s=>Q .ret s
def gW(B:S->Prop)(Q:E->S->Prop):E->S->Prop
 |.normal,s=>B s
 |.exit i,s=>Q (.exit i) s
 |.ret,s=>Q .ret s
def Jq(g:am ARes)(U:am Nat)(Q:Res->Prop):E->S->Prop
 |.exit _,_=>False
 |.normal,s=>aaW g U Q s
 |.ret,s=>aaW g U Q s
def z6(W:(E->S->Prop)->S->Prop)(g)(Q:E->S->Prop)(s):=
 ∃(I:S->Prop) (μ:S->Nat),xO s g I/\∀j,I j->
  W (gW (λi=>xO i g λi=>I i/\μ i<μ j) Q) j
def aaQ(P:Program)(f:aB->am W->aA W):ATr->S->(S->Prop)->Prop
 |.fin,s,K=>K s
 |.run ops t,s,K=>wC P f 1000 ops s λg=>aaQ P f t g K
 |.br a b,s,K=>aaQ P f a s K/\aaQ P f b s K
def YE(P:Program)(f:aB->am W->aA W):ACode->(E->S->Prop)->S->Prop
 |.skip,Q,s=>Q .normal s
 |.reg ops,Q,s=>wC P f 1000 ops s (Q .normal)
 |.seq a b,Q,s=>YE P f a (aa3 (λQ s=>YE P f b Q s) Q) s
 |.cond c a b,Q,s=>match xe (s.o c)with
   |some t=>cond t (YE P f a Q s) (YE P f b Q s)
   |none=>False
 |.block id a,Q,s=>YE P f a (Qo id Q) s
 |.loop g body,Q,s=>z6 (λQ s=>YE P f body Q s) g Q s
 |.scope a,Q,s=>YE P f a Q s
 |.exit i,Q,s=>Q (.exit i) s
 |.ret,Q,s=>Q .ret s
 |.tree t,Q,s=>aaQ P f t s (Q .normal)
def aCM(P:Program)(f:aB->am W->aA W)(F:AFun)(args)(Q:Res->Prop):=
 qo ⟨j6 0 args,[]⟩ λs=>YE P f F.code (Jq F.res [] Q) s
def axA(P:Program)(f:aB->am W->aA W)(F:AFun)(args:am W)(hs)(Q:Res->Prop):=
 qo ⟨j6 0 (args.map (W.ren ((j5 100000 hs).map some))),Ym 100000 (hs.map (Pl.ren ((j5 100000 hs).map some)))⟩ λs=>
  YE P f F.code (Jq F.res (j5 100000 hs) Q) s
section
variable {P:Program}{T:Tab P}
theorem vf{b}{A B g i:Prop}(j:A->g)(l:B->i):cond b A B->cond b g i:=ek
theorem Y8{dst}{op}{s}{K l:S->Prop}(hk:∀s,K s->l s):yg P dst op s K->yg P dst op s l:=by
 cases op<;>simp only[yg,aLd,aSt,alP,aBq,aBr,acq,ajG,awo,awn,aMm,aBp,aBo,aBn,aBs]
 all_goals repeat' first|exact λh=>hk _ h|exact id|refine vf ?_ id|refine vf ?_ ?_|exact λh=>h.mono λ_=>hk _|split
 all_goals try exact λh=>⟨h.1,hk _ h.2⟩
 all_goals try exact λh=>⟨h.1,h.2.1,hk _ h.2.2⟩
 all_goals try exact λh=>⟨h.1,h.2.1,h.2.2.1,hk _ h.2.2.2⟩
 all_goals try exact λh=>⟨h.1,h.2.1,h.2.2.1,h.2.2.2.1,hk _ h.2.2.2.2⟩
 all_goals try exact λh=>⟨λe=>hk _ (h.1 e),hk _ h.2⟩
 all_goals try exact λh c g i=>hk _ (h c g i)
 all_goals try exact λ⟨y,g,i⟩=>⟨y,g,hk _ i⟩
 all_goals try exact λ⟨y,g,i,j⟩=>⟨y,g,i,hk _ j⟩
 all_goals try exact λ⟨h0,y,g,i,j⟩=>⟨h0,y,g,i,hk _ j⟩
 all_goals try exact λh=>zH.mono h λr=>vf (hk _) id
 grind
theorem Zm{g}{dst}{s}{K i:S->Prop}(hk:∀s,K s->i s):split g dst s K->split g dst s i:=by
 unfold split;refine vf ?_ (hk _);split
 .split
  .exact vf (hk _) (hk _)
  grind
 grind
theorem gZ:∀(n) (ops:am AI) (s:S) (K:S->Prop),wC P T.f n ops s K->yp P ops s K
 |0,_,_,_,h=>h.elim
 |_+1,[],_,_,h=>h
 |n+1,.mk dst g p op drop::r,s,K,h=>by
  unfold wC at h;simp only[xY]at h;have i:∀j,wC P T.f n r j K->yp P r j K:=λj h=>gZ n r j K h
  cases g with
  |some x=>
   obtain⟨d,w⟩:=x;unfold yp;simp only[xY]at h⊢;split at h
   .rename_i b R;rw[R];simp only;exact vf (Y8 λs1=>Zm λj=>i _) (i _) h
   .grind
   grind
  |none=>
   simp only at h;refine aax (g:=none) rfl ?_;cases dst with
   |none=>
    refine Y8 (λs1 l=>?_) h;cases p<;>exact i _ l
   |some d=>
    simp only at h;rcases aqX h with h|⟨ps,v,I,h⟩
    .grind[Y8,Zm]
    cases p with
    |false=>
     obtain⟨l,o⟩:=WO h;exact abe I l (i _ o) rfl
    |true=>
     simp only[cond_true]at h;rcases(aqn T.f 100).2 _ _ _ _ _ _ _ h with h|⟨U,j,r2,hs,h⟩
     .obtain⟨l,o⟩:=WO h;exact abe I l (Zm (λj=>i _) o) rfl
     obtain⟨l,o⟩:=WO h;obtain⟨o,J⟩:=WO o;refine abe I l ?_ rfl;obtain⟨_,_,hk⟩:=(akS P T 100).2 _ _ _ _ _ _ _ _ hs;have:=hk [] K o (by rw[List.append_nil];exact gZ n r2 j K J)
     grind
theorem UB{K l:S->Prop}(hk:∀s,K s->l s):∀(ops) (s:S),yp P ops s K->yp P ops s l
 |[],s,h=>hk s h
 |.mk dst g o op drop::r,s,h=>by
   have i:∀j,yp P r j K->yp P r j l:=λj h=>UB hk r j h
   unfold yp at h⊢;simp only[xY]at h⊢;cases g with
   |none=>grind[Y8,Zm]
   |some x=>
    obtain⟨d,w⟩:=x;simp only at h⊢;split at h
    .exact vf (Y8 λp=>Zm λj=>i _) (i _) h
    .grind
    grind
theorem axC{s}{g}{K i:S->Prop}(hk:∀s,K s->i s)(h:Ki s g K):Ki s g i:=by grind[We]
theorem act{K g:S->Prop}(hk:∀s,K s->g s):∀(t) (s:S),atr P t s K->atr P t s g
 |.fin,s,h=>hk s h
 |.run ops t,s,h=>UB (λi=>act hk t i) ops s h
 |.br a b,s,h=>⟨act hk a s h.1,act hk b s h.2⟩
theorem uK:∀(c) {Q l:E->S->Prop}(_:∀e s,Q e s->l e s) (s:S),X7 P c Q s->X7 P c l s
 |.skip,_,_,g,s,h=>g _ _ h
 |.reg ops,_,_,g,s,h=>UB (λs=>g _ s) ops s h
 |.seq a b,_,_,g,s,h=>uK a (λe o j=>by
  cases e with
  |normal=>exact uK b g o j
  |exit i=>exact g _ _ j
  |ret=>exact g _ _ j) s h
 |.cond c a b,Q,l,g,s,h=>by
   unfold X7 at h⊢;split at h
   .exact vf (uK a g s) (uK b g s) h
   grind
 |.block id a,Q,l,g,s,h=>uK a (λe o j=>by
  cases e with
  |normal=>grind
  |exit i=>exact vf (g _ _) (g _ _) j
  |ret=>grind) s h
 |.loop p body,Q,l,g,s,⟨I,μ,j,r⟩=>⟨I,μ,j,λo hs=>uK body (λe R J=>ek) o (r o hs)⟩
 |.scope a,_,_,g,s,h=>uK a g s h
 |.exit i,_,_,g,s,h=>g _ _ h
 |.ret,_,_,g,s,h=>g _ _ h
 |.tree t,_,_,g,s,h=>act (λs=>g _ s) t s h
theorem aaP{f:aB->am W->aA W}{K p:S->Prop}(hk:∀s,K s->p s):∀(n) (ops:am AI) (s:S),wC P f n ops s K->wC P f n ops s p
 |0,_,_,h=>h.elim
 |_+1,[],s,h=>hk s h
 |n+1,.mk dst g I op drop::r,s,h=>by
  have i:∀r o,wC P f n r o K->wC P f n r o p:=λr o h=>aaP hk n r o h
  have j:∀{l:am Prop}{A B:Prop},(A->B)->Zs l A->Zs l B:=λh J=>let⟨a,b⟩:=WO J;aEE a (h b)
  unfold wC at h⊢;simp only[xY]at h⊢;cases g with
  |some x=>
   obtain⟨d,w⟩:=x;simp only at h⊢;split at h
   .exact vf (Y8 λR=>Zm λo=>i _ _) (i _ _) h
   .grind
   grind
  |none=>
   cases dst with
   |none=>grind[Y8]
   |some d=>
    simp only at h⊢;refine ajL (λh=>Y8 (λR=>Zm λo=>i _ _) h) (λT v h=>?_) h;cases I with
    |false=>grind
    |true=>
     simp only[cond_true]at h⊢;exact aDG (j (Zm λo=>i _ _)) (λ_ _ _=>j (j (i _ _))) h
theorem g9{f:aB->am W->aA W}{K g:S->Prop}(hk:∀s,K s->g s):∀(t) (s:S),aaQ P f t s K->aaQ P f t s g
 |.fin,s,h=>hk s h
 |.run ops t,s,h=>aaP (λi=>g9 hk t i) _ ops s h
 |.br a b,s,h=>⟨g9 hk a s h.1,g9 hk b s h.2⟩
theorem agD{K:S->Prop}:∀(t) (s:S),aaQ P T.f t s K->atr P t s K
 |.fin,s,h=>h
 |.run ops t,s,h=>UB (λg=>agD t g) ops s (gZ _ _ _ _ h)
 |.br a b,s,h=>⟨agD a s h.1,agD b s h.2⟩
theorem Xv{f:aB->am W->aA W}:∀(c) {Q l:E->S->Prop}(_:∀e s,Q e s->l e s) (s:S),YE P f c Q s->YE P f c l s
 |.skip,_,_,g,s,h=>g _ _ h
 |.reg ops,_,_,g,s,h=>aaP (λs=>g _ s) _ ops s h
 |.seq a b,_,_,g,s,h=>Xv a (λe o j=>by
  cases e with
  |normal=>exact Xv b g o j
  |exit i=>exact g _ _ j
  |ret=>exact g _ _ j) s h
 |.cond c a b,Q,l,g,s,h=>by
   unfold YE at h⊢;split at h
   .exact vf (Xv a g s) (Xv b g s) h
   grind
 |.block id a,Q,l,g,s,h=>Xv a (λe o j=>by
  cases e with
  |normal=>exact g _ _ j
  |exit i=>exact vf (g _ _) (g _ _) j
  |ret=>exact g _ _ j) s h
 |.loop r body,Q,l,g,s,⟨I,μ,j,J⟩=>⟨I,μ,j,λo hs=>Xv body (λe R p=>by
  cases e with
  |normal=>exact p
  |exit i=>exact g _ _ p
  |ret=>exact g _ _ p) o (J o hs)⟩
 |.scope a,_,_,g,s,h=>Xv a g s h
 |.exit i,_,_,g,s,h=>g _ _ h
 |.ret,_,_,g,s,h=>g _ _ h
 |.tree t,_,_,g,s,h=>g9 (λs=>g _ s) t s h
theorem Xw:∀(c) (Q:E->S->Prop) (s:S),YE P T.f c Q s->X7 P c Q s
 |.skip,_,_,h=>h
 |.reg ops,Q,s,h=>gZ _ _ _ _ h
 |.seq a b,Q,s,h=>uK a (λe j g=>by
  cases e with
  |normal=>exact Xw b Q j g
  |exit i=>exact g
  |ret=>exact g) s (Xw a _ s h)
 |.cond c a b,Q,s,h=>by
   unfold YE at h;unfold X7;split at h
   .rename_i t r;rw[r];exact vf (Xw a Q s) (Xw b Q s) h
   grind
 |.block id a,Q,s,h=>uK a (λe j g=>by
  cases e with
  |normal=>exact g
  |exit i=>exact g
  |ret=>exact g) s (Xw a _ s h)
 |.loop o body,Q,s,⟨I,μ,g,p⟩=>⟨I,μ,g,λj hs=>uK body (λe J l=>by
  cases e with
  |normal=>exact l
  |exit i=>exact l
  |ret=>exact l) j (Xw body _ j (p j hs))⟩
 |.scope a,Q,s,h=>Xw a Q s h
 |.exit i,Q,s,h=>h
 |.ret,Q,s,h=>h
 |.tree t,Q,s,h=>agD t s h
end
theorem atW{P}{k}{ords}{A}{args}{Q:Res->Prop}(T:Tab P)(g:cFun P ords k=some A.erase)(i:qT P k=true)(h:aCM P T.f A args Q):Sat P k args Q:=by refine atV g i ?_;unfold aCM at h;unfold aBE;rw[xY]at h⊢;exact uK _ (λe s h=>by cases e<;>exact h) _ (Xw _ _ _ h)
theorem ao2{P}{k}{ords}{A}{args}{hs}{Q:Res->Prop}(T:Tab P)(g:cFun P ords k=some A.erase)(i:qT P k=true)(j:hs.length<=1000)(h:axA P T.f A args hs Q):zH P k args hs Q:=by refine ao1 g i j ?_;unfold axA at h;unfold aEf agj;rw[xY]at h⊢;exact uK _ (λe s h=>by cases e<;>exact h) _ (Xw _ _ _ h)
theorem akU{s}{g}{K i:S->Prop}(hk:∀s,K s->i s)(h:xO s g K):xO s g i:=let⟨t,j,l⟩:=h;⟨t,j,axC hk l⟩
theorem Za{p:Nat->Prop}:∀(n),p n->∃m,p m/\∀k,p k->m<=k:=by intro n;induction n using Nat.strongRecOn<;>grind
theorem aCB{W:(E->S->Prop)->S->Prop}(hW:∀{Q P:E->S->Prop}(_:∀e s,Q e s->P e s) (s:S),W Q s->W P s){l:am Nat}{Q:E->S->Prop}{s}{a:Type}(σ:a->S)(μ:a->Nat)(R:a->Prop)
 (h0:∃i,R i/\xO s l (· =σ i))
 (hb:∀i,R i->W (gW (λU=>∃j,(R j/\μ j<μ i)/\xO U l (· =σ j)) Q) (σ i)):z6 W l Q s:=by
 classical
 have g:∀t,(∃i,R i/\t=σ i)->∃m,(∃i,R i/\t=σ i/\μ i=m)/\∀k,(∃i,R i/\t=σ i/\μ i=k)->m<=k:=
  λt ⟨i,o,r⟩=>Za (p:=λk=>∃i,R i/\t=σ i/\μ i=k) (μ i) ⟨i,o,r,rfl⟩
 let M:S->Nat:=λt=>if h:∃i,R i/\t=σ i then aC (g t h)else 0
 have T:∀t (h:∃i,R i/\t=σ i),(∃i,R i/\t=σ i/\μ i=M t)/\∀k,(∃i,R i/\t=σ i/\μ i=k)->M t<=k:=λt h=>by
  have:=aD (g t h);have e:M t=aC (g t h):=dif_pos h
  grind
 refine⟨λt=>∃i,R i/\t=σ i,M,?_,?_⟩
 .grind[akU]
 intro t J;obtain⟨⟨i,o,r,h3⟩,_⟩:=T t J;subst r;refine hW (λe U h=>?_) _ (hb i o);cases e with
 |normal=>
  obtain⟨j,⟨I,h5⟩,h6⟩:=h;refine akU (λt J=>?_) h6;subst J;refine⟨⟨j,I,rfl⟩,?_⟩;have:=(T (σ j) ⟨j,I,rfl⟩).2 (μ j) ⟨j,I,rfl,rfl⟩;omega
 |exit k=>exact h
 |ret=>exact h
end Go.AM
