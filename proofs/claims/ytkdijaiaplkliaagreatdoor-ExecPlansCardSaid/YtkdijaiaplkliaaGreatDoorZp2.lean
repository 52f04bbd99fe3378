import Derived.Maps.RangeRun
import Derived.Orders
import Derived.Scope
import Derived.Test.YtkdijaiaplkliaaGreatDoorZp1
set_option linter.unusedSimpArgs false
set_option linter.unusedVariables false
set_option maxRecDepth 100000
set_option maxHeartbeats 4000000
open _root_ renaming List->am,Array->aB,Option->aD,cond_true->aG,cond_false->aO,if_pos->bG,if_neg->bV,if_true->cL,if_false->dq
open Bool renaming and_eq_true->aA,not_eq_true'->aU,false_eq_true->bQ,or_eq_false_iff->bW,not_eq_false'->cg,or_eq_true->cC,not_true->cX,false_or->cY
open Go renaming World->aC,MapEntry->aR,execOp->aY,Operand->bE,Result->bF,run_underlying->bP,mem_ready->bS,execOp_put->bY,yielded->cj,IntKind->cw,wpOp->cz,wanted_put->cM,wp_mono->cN,results->cP,resolve->df,Exit->dg,Deferred->dr,ready_mono->du,invoke->dD,zeroValue->dI,wp_region_any->dJ
open Option.some renaming injEq->aE
open Go.Result renaming andThen_ok->aF
open Option renaming map_eq_some_iff->aH,getD_some->dm,map_some->dw
open List renaming mem_cons->aI,mem_append->aT,nodup_cons->bA,mem_of_getElem?->bD,length_map->bH,nodup_append->bI,mem_iff_getElem?->bJ,mem_map->bM,length_take->bN,mem_cons_self->bR,map_cons->bU,all_cons->cr,filterMap_append->cG,nodup_nil->cJ,mem_cons_of_mem->cK,filterMap_cons->cT,getElem_of_mem->cU,ext_getElem?->c7,map_nil->c9,reverse_cons->dd,length_cons->dj,mem_reverse->dl,map_append->dv
open Go.AM.ACode renaming erase->aJ
open Go.Sem renaming run_bind->aK,run_pure->aP,run->dC
open Array renaming getD_eq_getD_getElem?->aL,mem_toList_iff->bX,replicate->dy
open Nat renaming le_of_ble_eq_true->aM,lt_of_lt_of_le->aS,eq_of_beq_eq_true->aV,zero_add->aX,le_refl->bB,beq->bC,le_trans->bO,zero_le->cm,lt_or_ge->cB,min_eq_left->cE,mul_le_mul_right->cH,eq_zero_or_pos->cZ
open Go.Act renaming put_comm->aN
open Go.Region renaming ready->aQ,wanted->aZ,binds->cd
open Go.World renaming shape?->aW
open Go.AM.AI renaming erase->bK
open Go.AM.Pl renaming live_kill->bL
open Go.Deferred renaming ofValue->bT
open Go.Instr renaming mapUpdate->bZ,lookup->cA,keyThatStays->c6,checkKey->dE
open List.Sublist renaming append->b9,refl->ck
open Prod.mk renaming injEq->cq
open List.cons renaming injEq->cD
open Go.AM.RDs renaming keep'->cR
open Go.Oper renaming upon->cS,wp->de,upon_enter->dx
open Go.AM.RTm renaming keep->c8,focus->dh,length->dF
open Go.AM.GhR renaming of_eq->di
open Go.AM.ATr renaming erase->dn
open Go.Value renaming iface->dt
open Go.Ending renaming returned->dz
open Go.AM.RDc renaming keep->dG
open Go.AM.Grows renaming refl->dH
namespace Go.AM
section
variable {P:Program}{F:Fr}{N:Nat}{ι:Nat->Gh}{s:S}{a:Act}{w:aC}{o:Oper}{K:S->Prop}
theorem Kf(hr:Rel F N ι s a w){p:Nat}(h:wL p=true):F.h p=none:=by
 cases e:F.h p with
 |none=>rfl
 |some g=>
  have:=hr.hdom p g e;unfold wL at h;rw[cC]at h;rcases h with h|h
  .have:p<100000:=aM h;omega
  have:600000<=p:=aM h;omega
theorem RT.mpv{ok:Nat->Prop}{t:T}{v:Value}{fp:am Nat}{ag:Bool}{ks:am Value}{vs:am (am T)}(h:RT w ok t v fp)(J:t.mpv=some (ag,ks,vs)):
 ∃b I clock pre P,v=.map (some b)/\w.heap[b]?=some (.map I clock)/\ahf ks I.toList clock/\RTm w ok ag vs I.toList P/\fp=pre++P/\(∃pr,pre=b::pr)/\
  (∀aa o,t.link (pre++P) o->∀j e,(t.setE j e).link (pre++aa) o)/\
  ∀(w':aC) (ok':Nat->Prop) (p:aB aR) (j:Nat) (e':am T) (r:am Nat),(∀c∈pre,c≠b->w'.heap[c]?=w.heap[c]?)->w'.heap[b]?=some (.map p clock)->ahf ks p.toList clock->
   p.toList.map (·.born)=I.toList.map (·.born)->RTm w' ok' ag (vs.set j e') p.toList r->RT w' ok' (t.setE j e') v (pre++r):=by
 cases t with
 |mp g k l=>
  simp only[T.mpv,aE,cq]at J;obtain⟨rfl,rfl,rfl⟩:=J;simp only[RT]at h;obtain⟨b,I,clock,P,h1,h2,h3,h4,rfl⟩:=h;refine⟨b,I,clock,[b],P,h1,h2,h3,h4,rfl,⟨[],rfl⟩,λ_ _ _ _ _=>trivial,λw' ok' p j e' r _ k2 k3 _ k5=>?_⟩
  grind[T.setE,RT]
 |mpi g k l seen=>
  simp only[T.mpv,aE,cq]at J;obtain⟨rfl,rfl,rfl⟩:=J;simp only[RT]at h;obtain⟨b,U,I,clock,R,arr,st,P,h1,h2,h3,h4,h5,h6,rfl⟩:=h;have ac:U≠b:=λe=>d9
  refine⟨b,I,clock,[b,U],P,h1,h2,h3,h6,rfl,⟨[U],rfl⟩,λ_ _ hl _ _=>hl,λw' ok' p j e' r k1 k2 k3 k4 k5=>?_⟩;simp only[T.setE,RT];refine⟨b,U,p,clock,R,arr,st,r,h1,k2,k3,d9,?_,k5,rfl⟩;obtain⟨i1,i2,i3,i4,i5⟩:=h5;have ab:p.toList.length=I.toList.length:=by simpa using congrArg List.length k4
  refine⟨?_,λi hi=>d9,i3,i4,i5⟩;rw[i1];congr 1
  funext i;have:=congrArg (λl:am Nat=>l[i]?) k4
  grind
 |d x=>cases J
 |sl z l=>cases J
 |bx l=>cases J
 |hole=>cases J
theorem ah7{t:TypeId}{o:aD cw}{g:Bool}{e:TypeId}(h:abt P t=some (o,g,e)):∃k,P.underlying t=some (.map k e)/\P.underlying k=some (jo o)/\UJ P e=some g:=by
 unfold abt at h;split at h
 .rename_i k e' l;split at h
  .rename_i p i j;cases h;exact⟨k,l,i,j⟩
  .rename_i κ p i j;cases h;exact⟨k,l,i,j⟩
  cases h
 cases h
theorem akJ{ok:Nat->Prop}{c:C}{u v:Value}(h:adA c=some u)(g:CR ι w ok c v):v=u:=by
 unfold adA at h;split at h
 .grind[y5]
 .cases h;exact g
 cases h
theorem ain{t k e:TypeId}{J:aD cw}{i:TypeInfo}{z:Value}(U:P.underlying t=some (.map k e))(hk:P.underlying k=some (jo J))(hi:P.info? e=some i)(hz:i.zero=some z)
 {b:Nat}{l:aB aR}{clock:Nat}(R:w.heap[b]?=some (.map l clock)) {g:Value}(r:wC J g=true) (h1:∀m∈l.toList,wC J m.key=true) (hn:(l.toList.map (·.key)).Nodup) (ok:Bool):
 ((∀m∈l.toList,m.key≠g)->(cA t (.map (some b)) g ok).run P w=.ok (if ok then .tuple #[z,.bool false]else z) w)/\
 (∀(j:Nat) (m:aR),l.toList[j]?=some m->m.key=g->(cA t (.map (some b)) g ok).run P w=.ok (if ok then .tuple #[m.val,.bool true]else m.val) w):=by
 obtain⟨f1,f2⟩:=afN hk r h1 hn w;have I:(dI e).run P w=.ok z w:=by simp_all[dI,typeInfo]
 have o:∀q,(dE q 10000 k g).run P w=.ok () w:=λq=>adX hk q 9999 g w
 refine⟨λh=>?_,λj m hm p=>?_⟩
 .unfold cA;simp only[aK,bP U,aF,getObj,dC,R,aP,o,f1 h,I]
 unfold cA;simp only[aK,bP U,aF,getObj,dC,R,aP,o,f2 j m hm p]
theorem avT(hr:Rel F N ι s a w)(hd:∀k,o.dst=some k->k<N){t:TypeId}{ag:Bool}(ho:o.op=.makeMap t none)(h:zK P o.dst (.mkm ag) s K):yO P F N o a w K:=by
 simp only[zK]at h;split at h
 .rename_i d i;have J:=hd d i;have j:∀b,b<w.heap.size->(w.alloc (.map #[] 0)).heap[b]?=w.heap[b]? :=λb g=>by show(w.heap.push _)[b]?=_;rw[aB.getElem?_push,bV d8]
  have aa:(w.alloc (.map #[] 0)).heap.size=w.heap.size+1:=dW
  have r:(w.alloc (.map #[] 0)).heap[w.heap.size]?=some (.map #[] 0):=by show(w.heap.push _)[w.heap.size]?=_;simp
  have U:z7 w (w.alloc (.map #[] 0)):=by
   intro b ty m g;have R:b<w.heap.size:=by
    rcases cB b w.heap.size with I|I
    .exact I
    simp[aW,aB.getElem?_eq_none I]at g
   simp only[aW,j b R]at g⊢;exact g
  let ι':=wV ι d ⟨none,0,.map (some w.heap.size),[w.heap.size]⟩
  have hrel:Rel F N ι' (s.redo [d] [(d,.deep (.mp ag [] []))]) a (w.alloc (.map #[] 0)):=by
   refine hr.redo [d] [(d,.deep (.mp ag [] []))] ι' _ (λp l=>qZ ι _ (JY l)) (λb g _=>j b g) U rfl rfl rfl d9 ?_ ?_ ?_ ?_
   .intro p x l;obtain⟨rfl,rfl⟩:=zD l;simp only[PR,ι',zO];refine⟨⟨dT,trivial⟩,?_⟩;simp only[RT];exact⟨w.heap.size, #[],0,[],rfl,r,⟨rfl,dT,dT,dT⟩,by simp[RTm],rfl⟩
   .intro p x b l g;obtain⟨rfl,rfl⟩:=zD l;simp only[foot,ι',zO,List.mem_singleton]at g;simp_all
   .grind[zD]
   intro p x l;obtain⟨rfl,_⟩:=zD l;exact hr.h_slot J
  refine yO.of_value (ι':=ι') (v:=.map (some w.heap.size)) (w':=w.alloc (.map #[] 0)) ?_ ?_ h
  .simp_all[aY,Instr.makeMap]
  rw[i];exact hrel.put (some d) (λk hk=>d9) _ _ ⟨by grind[zO],rfl⟩
 grind
theorem acM{ok:Nat->Prop}:∀{e:am T}{i:am D}{us:am Value}{f:am Nat},aa6 e=some i->RTc w ok e us f->CRs ι w ok (i.map .d) us/\f=[]
 |[],i,us,f,h,hr=>by simp only[aa6]at h;cases h;simp only[RTc]at hr;obtain⟨rfl,rfl⟩:=hr;exact⟨trivial,rfl⟩
 |x::r,i,us,f,h,hr=>by
  cases x with
  |d x=>
   simp only[aa6]at h;cases j:aa6 r with
   |none=>simp only[j]at h;cases h
   |some l=>
    simp only[j]at h;cases h;simp only[RTc,RT]at hr;obtain⟨v,P,R,g,rfl,⟨o,rfl⟩,p,rfl⟩:=hr;obtain⟨I,J⟩:=acM j p;exact⟨⟨o,I⟩,by simp[J]⟩
  |sl z l=>cases h
  |bx l=>cases h
  |mp g k l=>cases h
  |mpi g k l n=>cases h
  |hole=>cases h
theorem WT{ok:Nat->Prop}{b:Bool}{x:W}{v:Value}(h:WR ι w ok x v)(g:Bool):VR ι w ok (adT b x g) (if b then .tuple #[v,.bool g]else v):=by
 cases b
 .exact h
 exact⟨[v,.bool g],rfl,h,by simp only[WR,CR,RD];exact⟨trivial,rfl⟩,trivial⟩
theorem gG{ok:Nat->Prop}{ag:Bool}{m:aR}{us:am Value}{g:am D}{x:W}(h:aaW ag m us)(i:CRs ι w ok (g.map .d) us)(j:(ag=true/\x=.agg (g.map .d))\/(ag=false/\∃d,g=[d]/\x=.c (.d d))):WR ι w ok x m.val:=by
 rcases j with⟨rfl,rfl⟩|⟨rfl,d,rfl,rfl⟩
 .exact⟨us,h,i⟩
 have h:us=[m.val]:=h;subst h;exact i.1
theorem ao9{α:Type}{l:am α}{j:Nat}{m:α}(h:l[j]?=some m):l.set j m=l:=by
 apply c7
 grind
theorem apx(hr:Rel F N ι s a w){d p:Nat}(hd:d<N)(bl:p≠d)(a6:wL p=true){t:T}(hp:aget s.pl p=some (.deep t)){ks:am Value}{vs:am (am T)}(ht:t.mpv=some (false,ks,vs))
 {sz:Nat}(bf:0<sz) {R:am (am T)}{l:am (am D)}(hl:tsD R=some l) {j:Nat}(hj:vs[j]?=some [.sl sz R]):
 ∃ι' es clock b m,(ι p).v=.map (some b)/\w.heap[b]?=some (.map es clock)/\es.toList[j]?=some m/\Rel F N ι' (s.redo [d] [(d,.arr sz l false),(p,.deep (t.setE j [.hole]))]) a w/\
  CR ι' w (F.ok ι' (s.redo [d] [(d,.arr sz l false),(p,.deep (t.setE j [.hole]))]).pl w) (.own d sz l.length) m.val:=by
 obtain⟨⟨aw,ah⟩,bc⟩:=hr.places p _ hp;obtain⟨b,es,clock,pre,fr,hv,hb,a4,a0,a1,⟨pr,bh⟩,be,ak⟩:=RT.mpv bc ht;obtain⟨f1,f,f2,m,us,rfl,hm,ar,aq,a8⟩:=dh a0 hj;have bg:us=[m.val]:=ar;subst bg;simp only[RTc]at aq;obtain⟨v0,bm,g,g',bb,a9,⟨bi,bd⟩,rfl⟩:=aq;simp only[cD]at bb;obtain⟨rfl,bj⟩:=bb;subst bd;rw[List.append_nil]at*;have ae:=ab3 hl
 obtain⟨G,sub,hG,ba⟩:∃(G:Gh) (sub:am Nat),(∀c,c∈g↔G.b=some c\/c∈sub)/\G.n=R.length/\(G.b=none->R=[]/\m.val=.slice none 0 0/\sub=[])/\
  (∀c,G.b=some c->g=c::sub/\∃cap ty P,m.val=.slice (some ⟨c,0,none⟩) R.length cap/\R.length<=cap/\cap<=maxLen/\w.heap[c]?=some (.cells P ty (0,0))/\P.size=cap*sz/\RTs w (F.ok ι s.pl w) sz R P.toList sub):=by
  simp only[RT]at a9;rcases a9 with⟨e1,e2,rfl⟩|⟨c,cap,ty,P,sub,e1,e2,e3,e4,e5,e6,rfl⟩
  .exact⟨⟨none,0,.nilFunc,[]⟩,[],λc=>dT,by simp[e1],λ_=>⟨e1,e2,rfl⟩,λc h=>by cases h⟩
  exact⟨⟨some c,R.length,.nilFunc,[]⟩,sub,λc'=>by simp[eq_comm],rfl,(λh=>by cases h),λc' h=>d9⟩
 obtain⟨az,ac,U⟩:=ba
 let ι':Nat->Gh:=wV (wV ι p ⟨(ι p).b,(ι p).n,(ι p).v,pre++(f1++[]++f2)⟩) d G
 have ab:ι' d=G:=zO _ _ _;have aj:ι' p=⟨(ι p).b,(ι p).n,(ι p).v,pre++(f1++[]++f2)⟩:=by grind[qZ,zO]
 have ax:∀q,q≠d->q≠p->ι' q=ι q:=λq h1 h2=>by grind[qZ]
 have J:∀q x,aget [(d,Pl.arr sz l false),(p,Pl.deep (t.setE j [.hole]))] q=some x->(q=d/\x=.arr sz l false)\/(q=p/\x=.deep (t.setE j [.hole])):=λq x h=>by rw[yg]at h;split at h<;>grind[zD]
 have aa:∀q,aget [(d,Pl.arr sz l false),(p,Pl.deep (t.setE j [.hole]))] q=none->q≠d/\q≠p:=λq h=>by rw[yg]at h;split at h<;>grind[yg]
 have a5:aget [(d,Pl.arr sz l false),(p,Pl.deep (t.setE j [.hole]))] p≠none:=λh=>(aa p h).2 rfl
 rw[a1]at aw;have a3:∀c,c∈pre++(f1++[]++f2)->c∈(ι p).bs:=λc o=>d9
 have ad:∀c,c∈g->c∈(ι p).bs:=λc o=>d9
 have af:∀c,c∈pre++(f1++[]++f2)->c∉g:=λc o bk=>by
  have h1:=aw;simp only[bI,aT]at h1
  grind
 have a2:g.Nodup:=d9
 have I:∀c,c∈(ι p).bs->Owns ι s.pl c:=λc o=>⟨p,_,hp,rfl,o⟩
 have ai:∀c,Owns ι' (s.redo [d] [(d,.arr sz l false),(p,.deep (t.setE j [.hole]))]).pl c->Owns ι s.pl c/\c∉sub:=by
  rintro c ⟨q,x,hx,av,o⟩;rw[S.redo_pl]at hx;cases hn:aget [(d,Pl.arr sz l false),(p,Pl.deep (t.setE j [.hole]))] q with
  |some y=>
   simp only[hn]at hx;cases hx;rcases J q _ hn with⟨rfl,rfl⟩|⟨rfl,rfl⟩
   .simp only[foot,ab]at o;obtain⟨e1,_⟩:=U c o;refine⟨I c (ad c (by rw[e1];simp)),λau=>?_⟩;rw[e1,bA]at a2;exact a2.1 au
   grind[foot]
  |none=>
   simp only[hn]at hx;obtain⟨h1,h2⟩:=aa q hn;split at hx
   .cases hq:aget s.pl q with
    |none=>grind
    |some y=>
     rw[hq]at hx;simp at hx;subst hx;rw[qx,xX (ax q h1 h2)]at o;rw[bL]at av;exact⟨⟨q,y,hq,av,o⟩,λau=>hr.inj q p y _ c hq hp h2 av o (ad c ((hG c).2 (.inr au)))⟩
   cases hx
 have ag:zR w w (F.ok ι s.pl w) (F.ok ι' (s.redo [d] [(d,.arr sz l false),(p,.deep (t.setE j [.hole]))]).pl w):=λc o=>⟨⟨o.1,o.2.1,λh=>o.2.2 (ai c h).1⟩,rfl⟩
 have ao:∀c∈sub,F.ok ι' (s.redo [d] [(d,.arr sz l false),(p,.deep (t.setE j [.hole]))]).pl w c:=λc o=>by have ho:=I c (ad c ((hG c).2 (.inr o)));refine⟨?_,(hr.mine c ho).2,λh=>(ai c h).2 o⟩;rcases(hr.mine c ho).1 with h|h<;>grind
 have ay:∀c,G.b=some c->c∈(ι p).bs:=λc h=>ad c ((hG c).2 (.inl h))
 have hrel:Rel F N ι' (s.redo [d] [(d,.arr sz l false),(p,.deep (t.setE j [.hole]))]) a w:=by
  refine hr.redoR [d] _ ι' w (λq h1 h2=>ax q (aa q h2).1 (aa q h2).2) (λq h1=>?_) (λ_ _ _=>rfl) (z7.refl w) rfl rfl (Out.refl w) (bB _) ?_ ?_ ?_ ?_
  .by_cases e:q=p
   .subst e;rw[aj];exact⟨rfl,rfl,rfl⟩
   exact di (ax q (JY h1) e)
  .intro q x hx;rcases J q x hx with⟨rfl,rfl⟩|⟨rfl,rfl⟩
   .refine⟨bf,by rw[ab,az,ae],?_⟩;rw[ab];cases o:G.b with
    |none=>obtain⟨e1,_⟩:=ac o;subst e1;simp only[tsD]at hl;cases hl;exact .inl ⟨rfl,rfl⟩
    |some c=>
     obtain⟨e1,cap,ty,P,k1,k2,k3,k4,k5,k6⟩:=U c o;refine .inr ⟨c,rfl,RTs.toRDs ag c sz R P.toList sub l 0 ao (λi u hu=>by rw[cell_of_row w c _ P ty (0,0) k4];simpa using hu) k6 hl,(λh=>by cases h),λ_=>⟨P,⟨ty,k4⟩,?_⟩⟩;rw[ae,k5];exact cH _ k2
   simp only[PR,aj];refine⟨⟨?_,?_⟩,?_⟩
   .refine List.Nodup.sublist ?_ aw;refine b9 (ck _) (b9 (b9 (ck _) (List.nil_sublist _)) (ck _))
   .rw[a1]at ah;exact be _ _ ah _ _
   have h1:=a8 [.hole] [] m [m.val] ar (by simp only[RTc,RT];exact⟨m.val,[],[],[],rfl,rfl,⟨rfl,rfl⟩,rfl⟩);rw[ao9 hm]at h1;exact ak w _ es j [.hole] (f1++[]++f2) (λ_ _ _=>rfl) hb a4 rfl (c8 ag false _ _ _ (λ_ _=>rfl) h1)
  .intro q x c hx o;rcases J q x hx with⟨rfl,rfl⟩|⟨rfl,rfl⟩
   .simp only[foot,ab]at o;exact⟨(hr.mine c (I c (ay c o))).2,.inr ⟨p,_,.inr a5,hp,rfl,ay c o⟩⟩
   simp only[foot,aj]at o;exact⟨(hr.mine c (I c (a3 c o))).2,.inr ⟨q,_,.inr a5,hp,rfl,a3 c o⟩⟩
  .intro q r x y c hx hy a7 o al;rcases J q x hx with⟨rfl,rfl⟩|⟨rfl,rfl⟩<;>rcases J r y hy with⟨rfl,rfl⟩|⟨rfl,rfl⟩
   .exact a7 rfl
   .simp only[foot,ab]at o;simp only[foot,aj]at al;exact af c al ((hG c).2 (.inl o))
   .simp only[foot,aj]at o;simp only[foot,ab]at al;exact af c o ((hG c).2 (.inl al))
   exact a7 rfl
  intro q x g0 hx an;rcases J q x hx with⟨rfl,rfl⟩|⟨rfl,rfl⟩
  .rw[hr.h_slot hd]at an;cases an
  rw[Kf hr a6]at an;cases an
 refine⟨ι',es,clock,b,m,hv,hb,hm,hrel,?_⟩;simp only[CR,ab];cases o:G.b with
 |none=>obtain⟨e1,e2,_⟩:=ac o;exact .inl ⟨rfl,by rw[ae,e1];rfl,e2⟩
 |some c=>
  obtain⟨e1,cap,ty,P,k1,k2,k3,k4,k5,k6⟩:=U c o;exact .inr ⟨c,cap,ty,rfl,by rw[az,ae];exact bB _,by rw[ae];exact k1,by rw[ae];exact k2,k3,by simp[aW,k4,k5]⟩
end
section
variable {P:Program}{F:Fr}{N:Nat}{ι:Nat->Gh}{s:S}{a:Act}{w:aC}{o:Oper}{K:S->Prop}
theorem aqH{e:TypeId}{i:TypeInfo}{z:Value}(hi:P.info? e=some i)(g:i.zero=some z)(ι:Nat->Gh)(w:aC)(ok:Nat->Prop):WR ι w ok (qo P e) z:=by unfold qo;simp only[hi,g];exact YW ι w ok z
theorem anN{e:TypeId}(h:jk P e=true):∃i z,P.info? e=some i/\i.zero=some z:=by
 unfold jk at h;cases hi:P.info? e with
 |none=>rw[hi]at h;cases h
 |some i=>
  simp only[hi]at h
  obtain⟨z,j⟩:=(by cases g:i.zero with
   |none=>rw[g]at h;cases h
   |some z=>exact⟨z,rfl⟩:∃z,i.zero=some z)
  exact⟨i,z,rfl,j⟩
theorem RDe.get{ok:Nat->Prop}{ag:Bool}:∀{l:am (am D)}{i:am aR}{j:Nat}{e:am D},RDe w ok ag i l->l[j]?=some e->∃m us,i[j]?=some m/\aaW ag m us/\RDv w ok us e
 |[],_,j,e,_,g=>by simp at g
 |x::r,i,0,e,h,g=>by simp at g;subst g;simp only[RDe]at h;obtain⟨m,o,us,rfl,I,J,_⟩:=h;exact⟨m,us,rfl,I,J⟩
 |x::r,i,j+1,e,h,g=>by simp only[RDe]at h;obtain⟨m,o,us,rfl,I,J,P⟩:=h;obtain⟨m',p,R,U,k3⟩:=RDe.get P (show r[j]?=some e by simpa using g);exact⟨m',p,by simpa using R,U,k3⟩
theorem RDe.length{ok:Nat->Prop}{ag:Bool}:∀{l:am (am D)}{g:am aR},RDe w ok ag g l->l.length=g.length
 |[],g,h=>by simp only[RDe]at h;rw[h];rfl
 |e::r,g,h=>by simp only[RDe]at h;obtain⟨m,i,us,rfl,_,_,j⟩:=h;simp[RDe.length j]
theorem alm(hr:Rel F N ι s a w)(hd:∀k,o.dst=some k->k<N){t:TypeId}{x i:bE}{ok:Bool}(ho:o.op=.lookup t x i ok){ky:aD cw}{g:Bool}{e:TypeId}(hm:abt P t=some (ky,g,e))(hz:jk P e=true)
 (h:zK P o.dst (.lku ok g ky (qo P e) (cO x) (cO i)) s K):zF P F N o a w (vP w) K:=by
 simp only[zK]at h;obtain⟨kt,h1,h2,h3⟩:=ah7 hm;obtain⟨ti,z,hi,aj⟩:=anN hz;have hx:=xj hr x;have hy:=xj hr i;unfold amO at h;split at h
 case h_2=>exact h.elim
 rename_i _ k hk;obtain⟨an,h⟩:=h;have a0:a.eval i=k:=akJ hk hy
 have run:∀{b:Nat}{es:aB aR}{clock:Nat}(_:a.eval x=.map (some b)) (_:w.heap[b]?=some (.map es clock)) (_:∀m∈es.toList,wC ky m.key=true) (_:(es.toList.map (·.key)).Nodup),
  ((∀m∈es.toList,m.key≠k)->∀w',vP w w'->(aY a.eval o).run P w'=.ok (.value (if ok then .tuple #[z,.bool false]else z)) w')/\
  (∀(j:Nat) (m:aR),es.toList[j]?=some m->m.key=k->∀w',vP w w'->(aY a.eval o).run P w'=.ok (.value (if ok then .tuple #[m.val,.bool true]else m.val)) w'):=by
  intro b es clock ad hb ac hn;have az:b<w.heap.size:=(aB.getElem?_eq_some_iff.1 hb).1;refine⟨λah w' he=>?_,λj m hm a5 w' he=>?_⟩
  .have:=(ain (P:=P) (w:=w') h1 h2 hi aj (by rw[he.2 b az];exact hb) an ac hn ok).1 ah;simp only[aY,ho,ad,a0,aK,this,aF,aP]
  have:=(ain (P:=P) (w:=w') h1 h2 hi aj (by rw[he.2 b az];exact hb) an ac hn ok).2 j m hm a5;simp only[aY,ho,ad,a0,aK,this,aF,aP]
 split at h
 ·
  rename_i p av;rw[av]at hx;obtain⟨a7,_⟩:=hx;split at h
  case h_2=>exact h.elim
  rename_i t0 hp;split at h
  case h_2=>exact h.elim
  rename_i g' ks vs ht;obtain⟨rfl,ac,ah,ai⟩:=h;obtain⟨bb,a2⟩:=hr.places p _ hp;obtain⟨b,es,clock,pre,fr,hv,hb,ag,al,ba,_,_,_⟩:=RT.mpv a2 ht;obtain⟨r,ao,_,_⟩:=ag;have ad:a.eval x=.map (some b):=by rw[a7,hv]
  have aq:∀m∈es.toList,wC ky m.key=true:=λm hm=>ac m.key (by rw[<-r];exact bM.2 ⟨m,hm,rfl⟩)
  obtain⟨r1,r2⟩:=run ad hb aq (by rw[r];exact ao);by_cases aa:k∈ks
  .obtain⟨j,hj⟩:=bJ.1 aa;have a4:j<ks.length:=(am.getElem?_eq_some_iff.1 hj).1;have ay:vs.length=ks.length:=by rw[dF al,<-r,bH]
   obtain⟨e0,ab⟩:∃e0,vs[j]?=some e0:=⟨vs[j],am.getElem?_eq_getElem d8⟩;have J:=ai j e0 hj ab;obtain⟨f1,f,f2,m,us,_,R,U,ax,_⟩:=dh al ab;have I:m.key=k:=by
    have:(es.toList.map (·.key))[j]?=some k:=by rw[r];exact hj
    rw[am.getElem?_map,R]at this;simpa using this
   unfold amM at J;split at J
   .rename_i sz a8;split at J
    case h_2=>exact J.elim
    rename_i d af;cases hc:(g'||bC p d||!wL p||bC sz 0)with
    |true=>rw[hc]at J;exact J.elim
    |false=>
     rw[hc]at J;simp only[aO]at J;obtain⟨l,hl,J⟩:=J;simp only[bW,cg]at hc;obtain⟨⟨⟨rfl,ar⟩,a6⟩,au⟩:=hc;have ar:p≠d:=λe=>by subst e;simp at ar
     have au:0<sz:=by
      rcases cZ sz with e|e
      .subst e;cases au
      exact e
     obtain⟨ι',a9,a1,b',m',k1,k2,k3,k4,k5⟩:=apx hr (hd d af) ar a6 hp ht au hl ab;rw[hv]at k1;cases k1;rw[hb]at k2;cases k2;rw[R]at k3;cases k3;refine⟨_,ι',_,r2 j m R I,?_,J⟩;rw[af];exact k4.put (some d) (λq hq=>by cases hq;exact hd d af) _ _ (WT (x:=.c (.own d sz l.length)) k5 true)
   split at J
   case h_2=>exact J.elim
   rename_i ds a3;obtain⟨ae,_⟩:=acM (ι:=ι) a3 ax;cases g' with
   |true=>
    simp only[aG]at J;exact zF.put hr hd (r2 j m R I) (WT (gG U ae (.inl ⟨rfl,rfl⟩)) true) J
   |false=>
    simp only[aO]at J;split at J
    .rename_i d0;exact zF.put hr hd (r2 j m R I) (WT (gG U ae (.inr ⟨rfl,d0,rfl,rfl⟩)) true) J
    exact J.elim
  refine zF.put hr hd (r1 λm hm e=>aa ?_) (WT (aqH hi aj ι w _) false) (ah aa);rw[<-r,<-e];exact bM.2 ⟨m,hm,rfl⟩
 ·
  rename_i g' ks vs av;rw[av]at hx;obtain⟨rfl,ac,ah,ai⟩:=h;simp only[CR,RD]at hx;obtain⟨b,es,clock,ad,_,hb,ag,ak⟩:=hx;obtain⟨r,ao,_,_⟩:=ag;have aq:∀m∈es.toList,wC ky m.key=true:=λm hm=>ac m.key (by rw[<-r];exact bM.2 ⟨m,hm,rfl⟩)
  obtain⟨r1,r2⟩:=run ad hb aq (by rw[r];exact ao);by_cases aa:k∈ks
  .obtain⟨j,hj⟩:=bJ.1 aa;have a4:j<ks.length:=(am.getElem?_eq_some_iff.1 hj).1;have ay:vs.length=ks.length:=by rw[RDe.length ak,<-r,bH]
   obtain⟨e0,ab⟩:∃e0,vs[j]?=some e0:=⟨vs[j],am.getElem?_eq_getElem d8⟩;have J:=ai j e0 hj ab;obtain⟨m,us,R,U,aw⟩:=RDe.get ak ab;have I:m.key=k:=by
    have:(es.toList.map (·.key))[j]?=some k:=by rw[r];exact hj
    rw[am.getElem?_map,R]at this;simpa using this
   have ae:=aev (ι:=ι) aw;cases g' with
   |true=>
    simp only[aG]at J;exact zF.put hr hd (r2 j m R I) (WT (gG U ae (.inl ⟨rfl,rfl⟩)) true) J
   |false=>
    simp only[aO]at J;split at J
    .rename_i d0;exact zF.put hr hd (r2 j m R I) (WT (gG U ae (.inr ⟨rfl,d0,rfl,rfl⟩)) true) J
    exact J.elim
  refine zF.put hr hd (r1 λm hm e=>aa ?_) (WT (aqH hi aj ι w _) false) (ah aa);rw[<-r,<-e];exact bM.2 ⟨m,hm,rfl⟩
 exact h.elim
end
section
open Go.ChangeMaps (setBlock)
section
variable {P:Program}{F:Fr}{N:Nat}{ι:Nat->Gh}{s:S}{a:Act}{w:aC}{o:Oper}{K:S->Prop}
theorem aio{r:Nat}{g:aB aR}{c:Nat}{o':Obj}(hr:w.heap[r]?=some (.map g c)):(setObj r o').run P w=.ok () (setBlock w r o'):=by simp[setObj,dC,hr,setBlock]
theorem UI{r:Nat}{g o':Obj}(hr:w.heap[r]?=some g):(setBlock w r o').heap[r]?=some o':=by have:=(aB.getElem?_eq_some_iff.1 hr).1;simp[setBlock,this]
theorem qf{r b:Nat}{o':Obj}(h:b≠r):(setBlock w r o').heap[b]?=w.heap[b]? :=by simp[setBlock,Ne.symm h]
theorem X4{r:Nat}{o':Obj}:(setBlock w r o').heap.size=w.heap.size:=by simp[setBlock]
theorem z7.setMap{r:Nat}{j g:aB aR}{c c':Nat}(hr:w.heap[r]?=some (.map j c)):z7 w (setBlock w r (.map g c')):=by
 intro b t m i;by_cases e:b=r
 .subst e;simp[aW,hr]at i
 simp only[aW,qf e]at i⊢;exact i
theorem asJ{g:aB aR}{j:Nat}{m:aR}(h:g.toList[j]?=some m)(f:aR->aR):(g.modify j f).toList=g.toList.set j (f m):=by
 rw[Array.toList_modify];apply c7;intro i;rw[am.getElem?_modify,am.getElem?_set];split
 .rename_i e;subst e;have l:=(am.getElem?_eq_some_iff.1 h).1;rw[bG l,h];rfl
 simp
theorem J8{α β:Type}(g:α->β){l:am α}{j:Nat}{m m':α}(h:l[j]?=some m)(i:g m'=g m):(l.set j m').map g=l.map g:=by rw[List.map_set,i];exact ao9 (by rw[am.getElem?_map,h];rfl)
theorem aov(hr:Rel F N ι s a w){p:Nat}{t t':T}(hp:aget s.pl p=some (.deep t))(ai:wL p=true){j:am Nat}(an:isin p j=false){f bs':am Nat}
 (af:∀c∈f,∃q y,isin q j=true/\aget s.pl q=some y/\y.live=true/\foot ι q y c) (ae:∀c∈bs',c∈(ι p).bs\/c∈f) {b:Nat}{es I:aB aR}{clock i:Nat}(ad:b∈(ι p).bs) (hb:w.heap[b]?=some (.map es clock))
 (ak:zR w (setBlock w b (.map I i)) (F.ok ι s.pl w) (F.ok (wV ι p ⟨(ι p).b,(ι p).n,(ι p).v,bs'⟩) (s.redo j [(p,.deep t')]).pl (setBlock w b (.map I i)))->
  (bs'.Nodup/\t'.link bs' (ι p).b)/\RT (setBlock w b (.map I i)) (F.ok (wV ι p ⟨(ι p).b,(ι p).n,(ι p).v,bs'⟩) (s.redo j [(p,.deep t')]).pl (setBlock w b (.map I i))) t' (ι p).v bs'):
 Rel F N (wV ι p ⟨(ι p).b,(ι p).n,(ι p).v,bs'⟩) (s.redo j [(p,.deep t')]) a (setBlock w b (.map I i)):=by
 let ι':Nat->Gh:=wV ι p ⟨(ι p).b,(ι p).n,(ι p).v,bs'⟩
 have U:ι' p=⟨(ι p).b,(ι p).n,(ι p).v,bs'⟩:=zO _ _ _;have ac:∀q,q≠p->ι' q=ι q:=λq h=>qZ _ _ h
 have R:∀c,c∈(ι p).bs->Owns ι s.pl c:=λc o=>⟨p,_,hp,rfl,o⟩
 have P:∀c,c∈bs'->Owns ι s.pl c:=λc o=>by
  rcases ae c o with h|h
  .exact R c h
  obtain⟨q,y,_,h2,h3,h4⟩:=af c h;exact⟨q,y,h2,h3,h4⟩
 have J:∀q,aget [(p,Pl.deep t')] q=none->q≠p:=λq h e=>by subst e;rw[yg,bG rfl]at h;cases h
 have ah:aget [(p,Pl.deep t')] p≠none:=λh=>J p h rfl
 have ab:∀c,Owns ι' (s.redo j [(p,.deep t')]).pl c->Owns ι s.pl c:=by
  rintro c ⟨q,x,l,ag,o⟩;rw[S.redo_pl]at l;cases hn:aget [(p,Pl.deep t')] q with
  |some y=>
   simp only[hn]at l;cases l;obtain⟨rfl,rfl⟩:=zD hn;simp only[foot,U]at o;exact P c o
  |none=>
   simp only[hn]at l;split at l
   .cases hq:aget s.pl q with
    |none=>rw[hq]at l;cases l
    |some y=>
     rw[hq]at l;simp at l;subst l;rw[qx,xX (ac q (J q hn))]at o;rw[bL]at ag;exact⟨q,y,hq,ag,o⟩
   cases l
 have aa:zR w (setBlock w b (.map I i)) (F.ok ι s.pl w) (F.ok ι' (s.redo j [(p,.deep t')]).pl (setBlock w b (.map I i))):=λc o=>by
  have aj:c≠b:=λe=>by subst e;exact o.2.2 (R c ad)
  exact⟨⟨o.1,by rw[X4];exact o.2.1,λh=>o.2.2 (ab c h)⟩,qf aj⟩
 refine hr.redoR j _ ι' _ (λq _ h2=>ac q (J q h2)) (λq h1=>?_) (λc _ h=>qf (λe=>by subst e;exact h p _ (.inr ah) hp rfl ad)) (z7.setMap hb) rfl rfl rfl (by rw[X4];exact bB _) ?_ ?_ ?_ ?_
 .by_cases e:q=p
  .subst e;rw[U];exact⟨rfl,rfl,rfl⟩
  exact di (ac q e)
 .intro q x l;obtain⟨rfl,rfl⟩:=zD l;simp only[PR];rw[U];exact ak aa
 .intro q x c l o;obtain⟨rfl,rfl⟩:=zD l;simp only[foot,U]at o;refine⟨by rw[X4];exact(hr.mine c (P c o)).2,.inr ?_⟩;rcases ae c o with h|h
  .exact⟨q,_,.inr ah,hp,rfl,h⟩
  obtain⟨r,y,h1,h2,h3,h4⟩:=af c h;exact⟨r,y,.inl h1,h2,h3,h4⟩
 .intro q r x y c l hy al;obtain⟨rfl,rfl⟩:=zD l;obtain⟨rfl,rfl⟩:=zD hy;exact absurd rfl al
 intro q x g l hg;obtain⟨rfl,rfl⟩:=zD l;rw[Kf hr ai]at hg;cases hg
theorem auw(hr:Rel F N ι s a w){p:Nat}{t:T}(U:aget s.pl p=some (.deep t)){g:am Nat}(l:isin p g=false){f:am Nat}(j:∀c∈f,∃q y,isin q g=true/\aget s.pl q=some y/\y.live=true/\foot ι q y c):∀c∈f,c∉(ι p).bs:=λc R i=>by
 obtain⟨q,y,r,I,J,P⟩:=j c R;have o:q≠p:=λe=>by subst e;rw[l]at r;cases r
 exact hr.inj q p y _ c I U o J P i
theorem aAg(hr:Rel F N ι s a w){p:Nat}{t:T}(hp:aget s.pl p=some (.deep t))(al:wL p=true){ag:Bool}{ks:am Value}{vs:am (am T)}(ht:t.mpv=some (ag,ks,vs)){r:am Nat}(an:isin p r=false)
 {e:am T}{us:am Value}{f:am Nat}(ad:RTc w (F.ok ι s.pl w) e us f) (ax:f.Nodup) (ai:∀c∈f,∃q y,isin q r=true/\aget s.pl q=some y/\y.live=true/\foot ι q y c)
 {b:Nat}{es:aB aR}{clock:Nat}(hv:(ι p).v=.map (some b)) (hb:w.heap[b]?=some (.map es clock)) {j:Nat}{m:aR}(hm:es.toList[j]?=some m) {k val:Value}(hk:m.key=k) (ah:aaW ag {m with key:=k,val:=val} us):
 ∃ι',Rel F N ι' (s.redo r [(p,.deep (t.setE j e))]) a (setBlock w b (.map (es.modify j λx=>{x with key:=k,val:=val}) clock)):=by
 obtain⟨⟨l,P⟩,au⟩:=hr.places p _ hp;obtain⟨b',a0,ar,pre,fr,aq,ae,ak,U,J,⟨pr,aa⟩,ay,R⟩:=RT.mpv au ht;rw[hv]at aq;cases aq;rw[hb]at ae;cases ae;have az:=dF U;have a1:=(am.getElem?_eq_some_iff.1 hm).1;obtain⟨e0,aw⟩:∃e0,vs[j]?=some e0:=⟨vs[j]' d8,am.getElem?_eq_getElem d8⟩;obtain⟨f1,g,f2,m',a2,rfl,aj,_,_,ao⟩:=dh U aw;rw[hm]at aj;cases aj;have i:=auw hr hp an ai;have af:b∈(ι p).bs:=by rw[J,aa];simp
 refine⟨_,aov hr (t':=t.setE j e) (f:=f) (bs':=pre++(f1++f++f2)) hp al an ai (λc hc=>?_) af hb (λac=>⟨⟨?_,?_⟩,?_⟩)⟩
 .rw[J];simp only[aT]at hc⊢;rcases hc with h|(h|h)|h<;>simp[h]
 .rw[J]at l i;simp only[bI,aT,not_or]at l i⊢;obtain⟨n1,⟨⟨n2,n3,n4⟩,n5,n6⟩,n7⟩:=l;refine⟨n1,⟨⟨n2,ax,λx o y I e=>?_⟩,n5,λx o y I e=>?_⟩,λx o y I e=>?_⟩
  .subst e;exact(i x I).2.1.1 o
  .subst e;rcases o with o|o
   .exact n6 x (.inl o) x I rfl
   exact(i x o).2.2 I
  subst e;rcases I with(I|I)|I
  .exact n7 x o x (.inl (.inl I)) rfl
  .exact(i x I).1 o
  exact n7 x o x (.inr I) rfl
 .rw[J]at P;exact ay _ _ P _ _
 have ab:=asJ hm (λx=>{x with key:=k,val:=val});have h1:=ao e f {m with key:=k,val:=val} us ah ad;refine R _ _ _ j e (f1++f++f2) (λc _ av=>qf av) (UI hb) ?_ ?_ ?_
 .obtain⟨k1,k2,k3,k4⟩:=ak;rw[ab];refine⟨by rw[J8 _ hm (by exact hk.symm)];exact k1,k2,λx o=>?_,by rw[J8 (m':={m with key:=k,val:=val}) (·.born) hm rfl];exact k4⟩;rcases List.mem_or_eq_of_mem_set o with o|rfl
  .exact k3 x o
  exact k3 m (bD hm)
 .rw[ab];exact J8 _ hm rfl
 rw[ab];refine c8 ac ag _ _ _ (λc hc=>qf λe=>?_) h1;subst e;simp only[aT]at hc;rw[J,aa]at l;simp only[List.cons_append,bA,aT,not_or]at l;rcases hc with(h|h)|h
 .exact l.1.2.1.1 h
 .exact i c h af
 exact l.1.2.2 h
theorem aAf(hr:Rel F N ι s a w){p:Nat}{ag:Bool}{ks:am Value}{vs:am (am T)}(hp:aget s.pl p=some (.deep (.mp ag ks vs)))(af:wL p=true){i:am Nat}(ah:isin p i=false)
 {e:am T}{us:am Value}{f:am Nat}(P:RTc w (F.ok ι s.pl w) e us f) (ak:f.Nodup) (ad:∀c∈f,∃q y,isin q i=true/\aget s.pl q=some y/\y.live=true/\foot ι q y c)
 {b:Nat}{es:aB aR}{clock:Nat}(hv:(ι p).v=.map (some b)) (hb:w.heap[b]?=some (.map es clock)) {k val:Value}(hk:k∉ks) (ab:aaW ag {key:=k,val:=val,born:=clock} us):
 ∃ι',Rel F N ι' (s.redo i [(p,.deep (.mp ag (ks++[k]) (vs++[e])))]) a (setBlock w b (.map (es.push {key:=k,val:=val,born:=clock}) (clock+1))):=by
 obtain⟨⟨j,al⟩,J⟩:=hr.places p _ hp;simp only[RT]at J;obtain⟨b',an,aj,fr,ai,U,ae,R,o⟩:=J;rw[hv]at ai;cases ai;rw[hb]at U;cases U;have g:=auw hr hp ah ad;have aa:b∈(ι p).bs:=by rw[o];simp
 refine⟨_,aov hr (t':=.mp ag (ks++[k]) (vs++[e])) (f:=f) (bs':=b::(fr++f)) hp af ah ad (λc hc=>?_) aa hb (λr=>⟨⟨?_,trivial⟩,?_⟩)⟩
 .rw[o];simp only[aI,aT]at hc⊢;rcases hc with h|h|h<;>simp[h]
 .rw[o]at j g;simp only[bA,bI,aT,aI,not_or]at j g⊢;exact⟨⟨j.1,λh=>(g b h).1 rfl⟩,j.2,ak,λx l y I e=>by subst e;exact(g x I).2 l⟩
 obtain⟨k1,k2,k3,k4⟩:=ae;have ac:(es.push {key:=k,val:=val,born:=clock}).toList=es.toList++[{key:=k,val:=val,born:=clock}]:=dT
 simp only[RT];refine⟨b,_,clock+1,fr++f,hv,UI hb,?_,?_,rfl⟩
 .rw[ac];refine⟨by rw[dv,k1];rfl,?_,λx l=>?_,?_⟩
  .rw[bI];exact⟨k2,dT,λx l y I e=>by simp at I;subst I;subst e;exact hk l⟩
  .rcases aT.1 l with l|l
   .have:=k3 x l;omega
   simp at l;subst l;exact Nat.lt_succ_self _
  rw[dv,bI];refine⟨k4,dT,λx l y I e=>?_⟩;simp at I;subst I;subst e;obtain⟨z,hz,ao⟩:=bM.1 l;have:=k3 z hz;omega
 rw[ac];refine c8 r ag _ _ _ (λc hc=>qf λe=>?_) (R.snoc ab P);subst e;rw[o,bA]at j;rcases aT.1 hc with h|h
 .exact j.1 h
 exact g c h aa
theorem aoF{g:aD cw}{k:Value}(h:wC g k=true):Instr.sameBits 10000 k k=true:=by
 cases g with
 |none=>
  cases k<;>try (cases h;done)
  rename_i x;show(x==x)=true;rw[akp]
 |some κ=>
  cases k<;>try (cases h;done)
  rename_i κ' x;show(κ'==κ'&&x==x)=true;simp
theorem alZ{t k e:TypeId}{U:aD cw}(ht:P.underlying t=some (.map k e))(hk:P.underlying k=some (jo U))
 {b:Nat}{i:aB aR}{clock:Nat}(J:w.heap[b]?=some (.map i clock)) {g:Value}(I:wC U g=true) (h1:∀m∈i.toList,wC U m.key=true) (hn:(i.toList.map (·.key)).Nodup) (val:Value):
 ((∀m∈i.toList,m.key≠g)->(bZ t (.map (some b)) g val).run P w=.ok () (setBlock w b (.map (i.push {key:=g,val:=val,born:=clock}) (clock+1))))/\
 (∀(j:Nat) (m:aR),i.toList[j]?=some m->m.key=g->(bZ t (.map (some b)) g val).run P w=.ok () (setBlock w b (.map (i.modify j λx=>{x with key:=g,val:=val}) clock))):=by
 obtain⟨f1,f2⟩:=afN hk I h1 hn w;have l:∀q,(dE q 10000 k g).run P w=.ok () w:=λq=>adX hk q 9999 g w
 have o:(getObj b).run P w=.ok (.map i clock) w:=by simp[getObj,dC,J]
 refine⟨λh=>?_,λj m hm r=>?_⟩
 .unfold bZ;simp only[aK,bP ht,aF,o,l,f1 h,aio J]
 have p:(((i[j]?).map (·.key)).getD g)=g:=by
  have:i[j]?=some m:=by rw[<-aB.getElem?_toList];exact hm
  rw[this];exact r
 have R:(c6 g g).run P w=.ok g w:=by unfold c6;rw[bG (aoF I)];rfl
 unfold bZ;simp only[aK,bP ht,aF,o,l,f2 j m hm r,p,R,aio J]
end
section
variable {P:Program}{F:Fr}{N:Nat}{ι:Nat->Gh}{s:S}{a:Act}{w:aC}{o:Oper}{K:S->Prop}
theorem aiJ(hr:Rel F N ι s a w)(aa:o.dst=none){t:TypeId}{x i y:bE}(ho:o.op=.mapUpdate t x i y){kt e0:TypeId}{ky:aD cw}{g:Bool}(h1:P.underlying t=some (.map kt e0))(h2:P.underlying kt=some (jo ky))
 {p:Nat}(av:a.eval x=(ι p).v) {k:Value}(ae:a.eval i=k) (af:wC ky k=true) {t0:T}(hp:aget s.pl p=some (.deep t0)) {r:am Nat}(ak:isin p r=false)
 {e:am T}{us:am Value}{f:am Nat}(U:RTc w (F.ok ι s.pl w) e us f) (ad:f.Nodup) (ac:∀c∈f,∃q y,isin q r=true/\aget s.pl q=some y/\y.live=true/\foot ι q y c)
 (ab:∀born,aaW g {key:=k,val:=a.eval y,born:=born} us) (h:aaZ ky g p t0 k e r s K):yO P F N o a w K:=by
 unfold aaZ at h;cases I:wL p with
 |false=>rw[I]at h;exact h.elim
 |true=>
  rw[I]at h;simp only[aG]at h;split at h
  case h_2=>exact h.elim
  rename_i g' ks vs ht;obtain⟨rfl,ar,aj,ai⟩:=h;obtain⟨ay,an⟩:=hr.places p _ hp;obtain⟨b,es,clock,pre,fr,hv,hb,ah,aw,ax,_,_,_⟩:=RT.mpv an ht;obtain⟨l,aq,_,_⟩:=ah;have al:a.eval x=.map (some b):=by rw[av,hv]
  have au:∀m∈es.toList,wC ky m.key=true:=λm hm=>ar m.key (by rw[<-l];exact bM.2 ⟨m,hm,rfl⟩)
  obtain⟨r1,r2⟩:=alZ (P:=P) (w:=w) h1 h2 hb af au (by rw[l];exact aq) (a.eval y);by_cases R:k∈ks
  .obtain⟨j,hj⟩:=bJ.1 R;have ao:j<es.toList.length:=by rw[<-bH (f:=(·.key)),l];exact(am.getElem?_eq_some_iff.1 hj).1
   obtain⟨m,hm⟩:∃m,es.toList[j]?=some m:=⟨es.toList[j],am.getElem?_eq_getElem ao⟩;have J:m.key=k:=by
    have:(es.toList.map (·.key))[j]?=some k:=by rw[l];exact hj
    rw[am.getElem?_map,hm]at this;simpa using this
   obtain⟨ι',hrel⟩:=aAg hr hp I ht ak U ad ac hv hb hm J (ab m.born);refine yO.of_skip (ι':=ι') (w':=setBlock w b (.map (es.modify j λx=>{x with key:=k,val:=a.eval y}) clock)) ?_ ?_ (aj j hj)
   rotate_left
   .rw[aa];exact hrel
   simp only[aY,ho,al,ae,aK,r2 j m hm J,aF,aP]
  have hK:=ai R;split at hK
  .rename_i ag az a0;simp only[T.mpv,aE,cq]at ht;obtain⟨rfl,rfl,rfl⟩:=ht;obtain⟨ι',hrel⟩:=aAf hr hp I ak U ad ac hv hb R (ab clock);refine yO.of_skip (ι':=ι') (w':=setBlock w b (.map (es.push {key:=k,val:=a.eval y,born:=clock}) (clock+1))) ?_ ?_ hK
   rotate_left
   .rw[aa];exact hrel
   simp only[aY,ho,al,ae,aK,r1 (λm hm e=>R (by rw[<-l,<-e];exact bM.2 ⟨m,hm,rfl⟩)),aF,aP]
  exact hK.elim
theorem RDc.toRTc{ok:Nat->Prop}{b:Nat}:∀{e:am D}{o:Nat}{us:am Value},RDc w ok b o e->(∀(i:Nat) (v:Value),i<e.length->w.cell? ⟨b,o+i,none⟩=some v->us[i]?=some v)->us.length=e.length->RTc w ok (e.map T.d) us []
 |[],o,us,_,_,g=>by simp only[c9,RTc];exact⟨List.length_eq_zero_iff.1 g,trivial⟩
 |d::r,o,us,h,j,g=>by
  simp only[RDc]at h;obtain⟨⟨v,l,p⟩,I⟩:=h;cases us with
  |nil=>cases g
  |cons u us=>
   have J:u=v:=by simpa using j 0 v dT (by simpa using l)
   subst J;simp only[bU,RTc,RT];refine⟨u,us,[],[],rfl,⟨p,rfl⟩,RDc.toRTc I (λi v hi hv=>?_) (by simpa using g),rfl⟩;have:=j (i+1) v (by simpa using hi) (by rwa[show o+(i+1)=o+1+i by omega]);simpa using this
theorem RDs.toRTs{ok:Nat->Prop}{b sz:Nat}:∀{l:am (am D)}{o:Nat}{vs:am Value},RDs w ok b sz o l->(∀(i:Nat) (v:Value),w.cell? ⟨b,o+i,none⟩=some v->vs[i]?=some v)->l.length*sz<=vs.length->RTs w ok sz (l.map (·.map T.d)) vs []
 |[],o,vs,_,_,_=>by simp only[c9,RTs]
 |e::r,o,vs,h,g,J=>by
  simp only[RDs]at h;obtain⟨j,p,I⟩:=h;simp only[dj,Nat.add_mul,Nat.one_mul]at J;simp only[bU,RTs];refine⟨[],[],by simpa using j,RDc.toRTc p (λi v hi hv=>?_) (by rw[bN];omega),RDs.toRTs I (λi v hv=>?_) (by rw[List.length_drop];omega),rfl⟩
  .rw[am.getElem?_take,bG d8];exact g i v hv
  rw[am.getElem?_drop];exact g (sz+i) v (by rwa[show o+(sz+i)=o+sz+i by omega])
theorem CRs.toRTc{ok:Nat->Prop}:∀{g:am D}{us:am Value},CRs ι w ok (g.map .d) us->RTc w ok (g.map T.d) us []
 |[],[],_=>by simp only[c9,RTc];exact⟨trivial,trivial⟩
 |[],_::_,h=>h.elim
 |_::_,[],h=>h.elim
 |d::g,u::us,h=>by simp only[bU,RTc,RT];exact⟨u,us,[],[],rfl,⟨h.1,rfl⟩,CRs.toRTc h.2,rfl⟩
theorem avU(hr:Rel F N ι s a w){t:TypeId}{x i y:bE}(ho:o.op=.mapUpdate t x i y){ky:aD cw}{g:Bool}{e:TypeId}(hm:abt P t=some (ky,g,e))
 (h:zK P o.dst (.mup g ky (cO x) (cO i) (cO y)) s K):yO P F N o a w K:=by
 simp only[zK]at h;obtain⟨kt,h1,h2,h3⟩:=ah7 hm;split at h
 case h_2=>exact h.elim
 rename_i l;have hx:=xj hr x;have hi:=xj hr i;have hy:=aiY hr y;generalize s.oc (cO x)=cx at*;generalize s.oc (cO i)=ci at*;generalize s.ow (cO y)=wy at*;unfold amP at h;split at h
 case h_2=>exact h.elim
 rename_i p k hk;obtain⟨I,h⟩:=h;have ad:=akJ hk hi;obtain⟨af,_⟩:=hx;split at h
 ·
  rename_i q z n;split at h
  case h_2=>exact h.elim
  rename_i t0 z1 ag hp hq;cases j:(bC z z1&&!g&&!Nat.beq p q)with
  |false=>rw[j]at h;exact h.elim
  |true=>
   rw[j]at h;simp only[aG]at h;simp only[aA,aU]at j;obtain⟨⟨hz,rfl⟩,R⟩:=j;have hz:=aV hz;subst hz;have R:p≠q:=λe=>by subst e;simp at R
   have al:isin p [q]=false:=by
    cases hi:isin p [q]with
    |false=>rfl
    |true=>have:=(yl p [q]).1 hi;simp at this;exact absurd this R
   have hy:CR ι w (F.ok ι s.pl w) (.own q z n) (a.eval y):=hy;obtain⟨hn,ai⟩:=kl hr hq hy;obtain⟨f,ah,ak,aj⟩:∃f,RT w (F.ok ι s.pl w) (.sl z ((ag.take n).map (·.map T.d))) (a.eval y) f/\f.Nodup/\∀c∈f,∃r u,isin r [q]=true/\aget s.pl r=some u/\u.live=true/\foot ι r u c:=by
    rcases ai with⟨rfl,e2,_,e4⟩|⟨b,cap,ty,e1,e2,e3,e4,e5,e6⟩
    .refine⟨[],?_,cJ,λc h=>by cases h⟩;simp only[RT];exact .inl ⟨dT,e2,trivial⟩
    obtain⟨_,_,ae|⟨b',k1,k2,_,k4⟩⟩:=hr.places q _ hq
    .rw[e1]at ae;cases ae.1
    rw[e1]at k1;cases k1;obtain⟨J,⟨te,hg⟩,U⟩:=k4 rfl;have aa:J.size=cap*z:=by simp only[aW,hg,aE,cq]at e5;exact e5.2
    refine⟨[b],?_,dT,λc j=>⟨q,_,by simp[isin],hq,rfl,by simp at j;subst j;exact e1⟩⟩;simp only[RT];refine .inr ⟨b,cap,te,J,[],?_,?_,e4,hg,aa,RDs.toRTs (RDs.take n e6) (λi v hv=>?_) ?_,rfl⟩
    .rw[e2,bH,bN,cE hn]
    .rw[bH,bN,cE hn];exact e3
    .rw[aX,cell_of_row w b i J te (0,0) hg]at hv;rw[aB.getElem?_toList];exact hv
    rw[bN,cE hn,Array.length_toList];exact bO (cH _ hn) U
   refine aiJ (g:=false) hr l ho h1 h2 af ad I hp al (us:=[a.eval y]) (f:=f) ?_ ak aj (λ_=>rfl) h;simp only[RTc];exact⟨a.eval y,[],f,[],rfl,ah,⟨rfl,rfl⟩,dT⟩
 
 split at h
 case h_2=>exact h.elim
 rename_i ds aq ab;split at h
 case h_2=>exact h.elim
 rename_i t0 hp;cases j:((wy.isAgg&&g)||(!wy.isAgg&&!g))with
 |false=>rw[j]at h;exact h.elim
 |true=>
  rw[j]at h;simp only[aG]at h;have aa:=Yf hy (jq ab);obtain⟨us,ao,ac⟩:∃us,CRs ι w (F.ok ι s.pl w) wy.cells us/\∀born,aaW g {key:=k,val:=a.eval y,born:=born} us:=by
   cases wy with
   |c c=>
    cases g with
    |true=>cases j
    |false=>exact⟨[a.eval y],⟨hy,trivial⟩,λ_=>rfl⟩
   |agg cs=>
    cases g with
    |false=>cases j
    |true=>obtain⟨us,e1,e2⟩:=hy;exact⟨us,e2,λ_=>e1⟩
  obtain⟨an,ar,hd1⟩:=ZC hr ao ab;exact aiJ (s:=s.withPl aq) an l ho h1 h2 af ad I hp rfl (CRs.toRTc hd1) cJ (λc h=>by cases h) ac h
end
section
variable {P:Program}{F:Fr}{N:Nat}{ι:Nat->Gh}{s:S}{a:Act}{w:aC}{o:Oper}{K:S->Prop}
theorem aa1{α β:Type}(f:α->β):∀(l:am (Nat×α)) (k:Nat),aget (Ur f l) k=(aget l k).map f
 |[],_=>rfl
 |(j,v)::r,k=>by
  simp only[Ur,aget];cases h:bC j k
  .simp only[aO];exact aa1 f r k
  rfl
theorem z7.setIter{r:Nat}{o' i:Obj}(hr:w.heap[r]?=some i)(h0:∀c t f,i≠ .cells c t f):z7 w (setBlock w r o'):=by
 intro b t m g;by_cases e:b=r
 .subst e;exfalso;simp only[aW,hr]at g;cases i<;>first|(simp at g;done)|exact h0 _ _ _ rfl
 simp only[aW,qf e]at g⊢;exact g
theorem av7(hr:Rel F N ι s a w){p:Nat}{t t':T}(hp:aget s.pl p=some (.deep t))(ad:wL p=true){b:Nat}{o':Obj}(aa:b∈(ι p).bs)
 {l:aC}(e1:l.heap=w.heap) (e2:l.os=w.os) (e3:l.tape=w.tape) (e4:Out w l) (ai:z7 w (setBlock l b o'))
 (ag:zR w (setBlock l b o') (F.ok ι s.pl w) (F.ok ι (s.redo [] [(p,.deep t')]).pl (setBlock l b o'))->
  t'.link (ι p).bs (ι p).b/\RT (setBlock l b o') (F.ok ι (s.redo [] [(p,.deep t')]).pl (setBlock l b o')) t' (ι p).v (ι p).bs):
 Rel F N ι (s.redo [] [(p,.deep t')]) a (setBlock l b o'):=by
 have U:(setBlock l b o').heap.size=w.heap.size:=by rw[X4,e1]
 have I:∀c,c≠b->(setBlock l b o').heap[c]?=w.heap[c]? :=λc h=>by rw[qf h,e1]
 have i:∀c,c∈(ι p).bs->Owns ι s.pl c:=λc o=>⟨p,_,hp,rfl,o⟩
 have P:∀q,aget [(p,Pl.deep t')] q=none->q≠p:=λq h e=>by subst e;rw[yg,bG rfl]at h;cases h
 have ac:aget [(p,Pl.deep t')] p≠none:=λh=>P p h rfl
 have R:∀c,Owns ι (s.redo [] [(p,.deep t')]).pl c->Owns ι s.pl c:=by
  rintro c ⟨q,x,j,ab,o⟩;rw[S.redo_pl]at j;cases hn:aget [(p,Pl.deep t')] q with
  |some y=>
   simp only[hn]at j;cases j;obtain⟨rfl,rfl⟩:=zD hn;exact i c o
  |none=>
   simp only[hn]at j;split at j
   .cases hq:aget s.pl q with
    |none=>rw[hq]at j;cases j
    |some y=>
     rw[hq]at j;simp at j;subst j;rw[qx]at o;rw[bL]at ab;exact⟨q,y,hq,ab,o⟩
   cases j
 have J:zR w (setBlock l b o') (F.ok ι s.pl w) (F.ok ι (s.redo [] [(p,.deep t')]).pl (setBlock l b o')):=λc o=>by
  have ae:c≠b:=λe=>by subst e;exact o.2.2 (i c aa)
  exact⟨⟨o.1,by rw[U];exact o.2.1,λh=>o.2.2 (R c h)⟩,I c ae⟩
 refine hr.redoR [] _ ι _ (λq _ _=>rfl) (λq _=>⟨rfl,rfl,rfl⟩) (λc _ h=>I c (λe=>by subst e;exact h p _ (.inr ac) hp rfl aa)) ai (by exact e2) (by exact e3) (by exact e4) (by rw[U];exact bB _) ?_ ?_ ?_ ?_
 .intro q x j;obtain⟨rfl,rfl⟩:=zD j;have h:=ag J;have af:=(hr.places q _ hp).1.1;exact⟨⟨af,h.1⟩,h.2⟩
 .intro q x c j o;obtain⟨rfl,rfl⟩:=zD j;exact⟨by rw[U];exact(hr.mine c (i c o)).2,.inr ⟨q,_,.inr ac,hp,rfl,o⟩⟩
 .intro q r x y c j hy ah;obtain⟨rfl,rfl⟩:=zD j;obtain⟨rfl,rfl⟩:=zD hy;exact absurd rfl ah
 intro q x g j hg;obtain⟨rfl,rfl⟩:=zD j;rw[Kf hr ad]at hg;cases hg
theorem avV(hr:Rel F N ι s a w)(hd:∀k,o.dst=some k->k<N){x:bE}(ho:o.op=.next x false)(h:zK P o.dst (.nxt (cO x)) s K):yO P F N o a w K:=by
 simp only[zK]at h;have hx:=xj hr x;unfold amQ at h;split at h
 case h_2=>exact h.elim
 rename_i q hq;rw[hq]at hx;simp only[CR]at hx;obtain⟨bi,aq,ay⟩:=hx;split at h
 case h_2=>exact h.elim
 rename_i ag ks vs seen hp;cases aa:wL q with
 |false=>rw[aa]at h;exact h.elim
 |true=>
  rw[aa]at h;simp only[aG]at h;obtain⟨au,a3⟩:=h;obtain⟨⟨ak,U⟩,al⟩:=hr.places q _ hp;simp only[RT]at al;obtain⟨b,p,r,clock,a9,arr,st,fr,hv,hb,ad,hit,aw,an,I⟩:=al;have a0:p=bi:=by simp only[T.link,I,aq]at U;simpa using U
  subst a0;have aj:=ad;obtain⟨ai,bb,ae,a1⟩:=ad;obtain⟨ab,a7,a8,rfl,rfl⟩:=aw;have ba:r.toList.length=ks.length:=by rw[<-ai,bH]
  have R:∀(i:Nat) (e:aR),r.toList[i]?=some e->(e.born∈arr.toList↔i∈seen):=by
   intro i e he;rw[ab,List.mem_filterMap];constructor
   .rintro⟨j,hj,J⟩;cases af:r.toList[j]? with
    |none=>rw[af]at J;cases J
    |some m=>
     rw[af]at J;simp only[dw,aE]at J;have h1:(r.toList.map (·.born))[i]?=some e.born:=by rw[am.getElem?_map,he];rfl
     have h2:(r.toList.map (·.born))[j]?=some e.born:=by rw[am.getElem?_map,af];simp[J]
     have a5:i=j:=by have l1:=(am.getElem?_eq_some_iff.1 h1).1;exact(am.getElem?_inj l1 a1).1 (h1.trans h2.symm)
     subst a5;exact dl.1 hj
   intro hi;exact⟨i,dl.2 hi,by rw[he];rfl⟩
  have g:=λty=>run_next_at (P:=P) w ty p b st st arr r st hit hb ae (bB _)
  rcases g o.type with⟨h0,g⟩|⟨e,he,w1,az,g⟩
  .refine yO.put hr hd (v:=.tuple #[.bool false]) ?_ (x:=.tup [.c (.d (.lit (.bool false)))]) ?_ (au λi hi=>?_)
   .simp only[aY,ho,ay,aK,g,aF,aP]
   .exact⟨[.bool false],rfl,by simp only[WR,CR,RD];exact⟨trivial,rfl⟩,trivial⟩
   obtain⟨m,hm⟩:∃m,r.toList[i]?=some m:=⟨r.toList[i]' d8,am.getElem?_eq_getElem d8⟩;have:=all_seen r arr h0 m (bD hm);exact(R i m hm).1 (by simpa using this)
  obtain⟨a2,ax⟩:=mem_left he;obtain⟨i,hi⟩:=bJ.1 a2;have a6:i<ks.length:=by have:=(am.getElem?_eq_some_iff.1 hi).1;omega
  have av:i∉seen:=λh=>by have:=(R i e hi).2 h;simp at this ax;exact ax this
  have l:w1.heap=w.heap/\w1.os=w.os/\w1.tape=w.tape/\Out w w1:=by
   rcases az with rfl|rfl
   .exact⟨rfl,rfl,rfl,Out.refl _⟩
   exact⟨rfl,rfl,rfl,rfl⟩
  have ac:w1.heap[p]?=some (.mapIter (some b) st arr st):=by rw[l.1];exact hit
  have ar:b≠p:=λe=>by subst e;rw[hb]at hit;cases hit
  have hrel:Rel F N ι (s.redo [] [(q,.deep (.mpi ag ks vs (i::seen)))]) a (setBlock w1 p (.mapIter (some b) st (arr.push e.born) st)):=by
   refine av7 hr hp aa (by rw[I];simp) l.1 l.2.1 l.2.2.1 l.2.2.2 ?_ (λah=>⟨by rw[I];exact aq.symm,?_⟩)
   .intro b2 t m ao;have:=z7.setIter (o':=.mapIter (some b) st (arr.push e.born) st) ac (λ_ _ _ h=>by cases h) b2 t m (by simp only[aW,l.1]at ao⊢;exact ao);exact this
   simp only[RT];refine⟨b,p,r,st,st,arr.push e.born,st,fr,hv,by rw[qf ar,l.1];exact hb,aj,UI ac,⟨?_,?_,?_,rfl,rfl⟩,?_,I⟩
   .rw[Array.toList_push,ab,dd,cG];congr 1
    have a4:r[i]?=some e:=by rw[<-aB.getElem?_toList];exact hi
    simp[cT,a4]
   .intro j hj;rcases aI.1 hj with rfl|hj
    .omega
    exact a7 j hj
   .exact bA.2 ⟨av,a8⟩
   refine c8 ah ag _ _ _ (λc hc=>?_) an;rw[qf (λe=>?_),l.1];subst e;rw[I]at ak;simp only[bA]at ak;exact ak.2.1 hc
  refine yO.of_value (v:=.tuple #[.bool true,e.key,e.val]) (w':=setBlock w1 p (.mapIter (some b) st (arr.push e.born) st)) (ι':=ι) ?_ (hrel.put o.dst hd _ _ ?_) (a3 i a6 av)
  .simp only[aY,ho,ay,aK,g,aF,aP]
  exact⟨[.bool true,e.key,e.val],rfl,by simp only[WR,CR,RD];exact⟨trivial,rfl⟩,trivial,trivial,trivial⟩
theorem avQ(hr:Rel F N ι s a w)(hd:∀k,o.dst=some k->k<N){x:bE}(ho:o.op=.entry x)(h:zK P o.dst (.ent (cO x)) s K):yO P F N o a w K:=by
 simp only[zK]at h;have hx:=xj hr x;unfold amN at h;split at h
 case h_2=>exact h.elim
 rename_i q hq;rw[hq]at hx;simp only[CR]at hx;obtain⟨bi,au,a5⟩:=hx;split at h
 case h_2=>exact h.elim
 rename_i ag ks vs i seen hp;obtain⟨⟨bd,I⟩,ab⟩:=hr.places q _ hp;have a7:=ab;simp only[RT]at ab;obtain⟨b,ah,R,clock,a6,arr,st,fr,hv,hb,ao,hit,al,U,ax⟩:=ab;have ar:ah=bi:=by simp only[T.link,ax,au]at I;simpa using I
 subst ar;obtain⟨p,bb,aw,av⟩:=ao;obtain⟨aj,a4,be,rfl,rfl⟩:=al;have a8:R.toList.length=ks.length:=by rw[<-p,bH]
 have az:i<R.toList.length:=a4 i dT;obtain⟨m,hm⟩:∃m,R.toList[i]?=some m:=⟨R.toList[i],am.getElem?_eq_getElem az⟩;have bc:=dF U;obtain⟨e,he⟩:∃e,vs[i]?=some e:=⟨vs[i]' d8,am.getElem?_eq_getElem d8⟩;have a0:ks[i]?=some m.key:=by rw[<-p,am.getElem?_map,hm];rfl
 obtain⟨ac,g⟩:=h m.key e a0 he;have J:(aY a.eval o).run P w=.ok (.value (.tuple #[m.key,m.val])) w:=by
  have a3:=run_entry_at (P:=P) w ah b st (arr.pop) R st m (by
   rw[hit];congr 2
   have:arr.toList=(seen.reverse.filterMap (λi=>R.toList[i]?.map (·.born)))++[m.born]:=by
    have a1:R[i]?=some m:=by rw[<-aB.getElem?_toList];exact hm
    rw[aj,dd,cG];simp[cT,a1]
   have e2:arr=((seen.reverse.filterMap (λi=>R.toList[i]?.map (·.born))).toArray).push m.born:=by apply Array.ext';rw[this];simp
   rw[e2,Array.pop_push]) hb (bD hm) av
  simp only[aY,ho,a5,aK,a3,aF,aP]
 have ad:∀(ι:Nat->Gh) (ok:Nat->Prop),WR ι w ok (.c (.d (.lit m.key))) m.key:=λι ok=>by simp only[WR,CR,RD];exact⟨trivial,ac⟩
 unfold amL at g;split at g
 .rename_i sz a9;split at g
  case h_2=>exact g.elim
  rename_i d j;cases hc:(ag||bC q d||!wL q||bC sz 0)with
  |true=>rw[hc]at g;exact g.elim
  |false=>
   rw[hc]at g;simp only[aO]at g;obtain⟨l,hl,g⟩:=g;simp only[bW,cg]at hc;obtain⟨⟨⟨rfl,ae⟩,a2⟩,af⟩:=hc;have ae:q≠d:=λe=>by subst e;simp at ae
   have af:0<sz:=by
    rcases cZ sz with e|e
    .subst e;cases af
    exact e
   obtain⟨ι',ba,aq,b',m',k1,k2,k3,k4,k5⟩:=apx hr (hd d j) ae a2 hp (t:=.mpi false ks vs (i::seen)) rfl af hl he;rw[hv]at k1;cases k1;rw[hb]at k2;cases k2;rw[hm]at k3;cases k3;refine yO.of_value J (ι':=ι') ?_ g;rw[j];exact k4.put (some d) (λr hr=>by cases hr;exact hd d j) _ _ ⟨[m.key,m.val],rfl,ad _ _,k5,trivial⟩
 split at g
 case h_2=>exact g.elim
 rename_i ds ay;obtain⟨f1,f,f2,m',us,_,an,aa,ai,_⟩:=dh U he;rw[hm]at an;cases an;obtain⟨ak,_⟩:=acM (ι:=ι) ay ai;cases ag with
 |true=>
  simp only[aG]at g;exact yO.put hr hd J (x:=.tup [.c (.d (.lit m.key)),.agg (ds.map .d)]) ⟨[m.key,m.val],rfl,ad _ _,gG aa ak (.inl ⟨rfl,rfl⟩),trivial⟩ g
 |false=>
  simp only[aO]at g;split at g
  .rename_i d0;exact yO.put hr hd J (x:=.tup [.c (.d (.lit m.key)),.c (.d d0)]) ⟨[m.key,m.val],rfl,ad _ _,gG aa ak (.inr ⟨rfl,d0,rfl,rfl⟩),trivial⟩ g
  exact g.elim
theorem avW(hr:Rel F N ι s a w)(hd:∀k,o.dst=some k->k<N){t:TypeId}{x:bE}(ho:o.op=.range t x){kt e:TypeId}(hu:P.underlying t=some (.map kt e))(h:zK P o.dst (.rng (cO x)) s K):yO P F N o a w K:=by
 simp only[zK]at h;have hx:=xj hr x;unfold amR at h;split at h
 case h_2=>exact h.elim
 rename_i d p ab hq;rw[hq]at hx;obtain⟨a2,a4⟩:=hx;split at h
 case h_2=>exact h.elim
 rename_i ag ks vs hp;cases j:(wL p&&!Nat.beq p d)with
 |false=>rw[j]at h;exact h.elim
 |true=>
  rw[j]at h;simp only[aG]at h;simp only[aA,aU]at j;obtain⟨a5,ar⟩:=j;have ar:p≠d:=λe=>by subst e;simp at ar
  have ak:=hd d ab;obtain⟨⟨ad,_⟩,af⟩:=hr.places p _ hp;simp only[RT]at af;obtain⟨b,es,clock,fr,hv,hb,ao,ah,J⟩:=af
  let W:=w.alloc (.mapIter (some b) clock #[] clock)
  have I:∀c,c<w.heap.size->W.heap[c]?=w.heap[c]? :=λc j=>heap_alloc_old w _ (h:=j)
  have i:W.heap.size=w.heap.size+1:=by show(w.heap.push _).size=_;simp
  have aq:W.heap[w.heap.size]?=some (.mapIter (some b) clock #[] clock):=heap_alloc_new w _;have az:z7 w W:=by
   intro c ty m hb;have aw:c<w.heap.size:=by
    rcases cB c w.heap.size with h'|h'
    .exact h'
    simp[aW,aB.getElem?_eq_none h']at hb
   simp only[aW,I c aw]at hb⊢;exact hb
  have g:∀c,c∈(ι p).bs->c<w.heap.size:=λc j=>(hr.mine c ⟨p,_,hp,rfl,j⟩).2
  let G:Gh:=⟨some w.heap.size,0,(ι p).v,b::w.heap.size::fr⟩
  let ι':=wV ι d G
  have aa:ι' d=G:=zO _ _ _;have hι:∀r,isin r [p,d]=false->ι' r=ι r:=λr ax=>qZ ι _ (agu ax).2
  have al:∀r x c,aget [(d,Pl.deep (.mpi ag ks vs []))] r=some x->foot ι' r x c->c<W.heap.size/\(w.heap.size<=c\/∃q' y,isin q' [p,d]=true/\aget s.pl q'=some y/\y.live=true/\foot ι q' y c):=by
   intro r x c hx j;obtain⟨rfl,rfl⟩:=zD hx;simp only[foot,aa,G,aI]at j;have an:c=b\/c∈fr->c∈(ι p).bs:=λh=>by rw[J];simpa using h
   by_cases aj:c=w.heap.size
   .subst aj;exact⟨by rw[i];omega,.inl (bB _)⟩
   have ai:c=b\/c∈fr:=by
    rcases j with h|h|h
    .exact .inl h
    .exact absurd h aj
    exact .inr h
   exact⟨by rw[i];have:=g c (an ai);omega,.inr ⟨p,_,by simp[isin],hp,rfl,an ai⟩⟩
  have U:∀c,c<w.heap.size->(∀q y,isin q [p,d]=true->aget s.pl q=some y->y.live=true->¬foot ι q y c)->W.heap[c]?=w.heap[c]? :=λc j _=>I c j
  have hrel:Rel F N ι' (s.redo [p,d] [(d,.deep (.mpi ag ks vs []))]) a W:=by
   refine hr.redo [p,d] [(d,.deep (.mpi ag ks vs []))] ι' W hι U az rfl rfl rfl (by rw[i];omega) ?_ al ?_ (λr x hx=>by obtain⟨rfl,_⟩:=zD hx;exact hr.h_slot ak)
   .intro r x hx;obtain⟨rfl,rfl⟩:=zD hx;have hk:=Jh hr [p,r] [(r,.deep (.mpi ag ks vs []))] ι' W hι U (by rw[i];omega) al;simp only[PR];rw[aa];refine⟨⟨?_,rfl⟩,?_⟩
    .rw[J,bA]at ad;simp only[G,bA,aI,not_or];refine⟨⟨λe=>?_,ad.1⟩,λh=>?_,ad.2⟩
     .have:=g b (by rw[J];simp);omega
     have:=g w.heap.size (by rw[J];simp[h]);omega
    simp only[RT,G];refine⟨b,w.heap.size,es,clock,clock, #[],clock,fr,hv,?_,ao,aq,⟨dT,dT,dT,rfl,rfl⟩,?_,rfl⟩
    .rw[I b (g b (by rw[J];simp))];exact hb
    exact c8 hk ag _ _ _ (λc j=>I c (g c (by rw[J];simp[j]))) ah
   intro r r' x y c hx hy ay;obtain⟨rfl,rfl⟩:=zD hx;obtain⟨rfl,rfl⟩:=zD hy;exact absurd rfl ay
  have ae:Rel F N ι' (s.reroot p d (.deep (.mpi ag ks vs []))) a W:=by
   refine{hrel with slots:=λk v a0=>?_};have l:aget (Ur (V.rn p d) s.sl) k=some v:=a0;rw[aa1]at l;cases hk:aget s.sl k with
   |none=>rw[hk]at l;cases l
   |some u=>
    rw[hk]at l;simp only[dw,aE]at l;have ac:aget (s.redo [p,d] [(d,.deep (.mpi ag ks vs []))]).sl k=some (V.kill [p,d] u):=by show aget (Ur (V.kill [p,d]) s.sl) k=_;rw[aa1,hk];rfl
    by_cases R:u=.w (.c (.root p))
    .subst R;have e1:v=cV (.root d):=by rw[<-l];simp[V.rn];rfl
     subst e1;obtain⟨y,a3,au⟩:=hr.slots k _ hk;refine⟨y,a3,?_⟩;simp only[VR,WR,CR]at au;simp only[cV,VR,WR,CR];rw[aa];exact au
    have e1:v=V.kill [p,d] u:=by
     rw[<-l];unfold V.rn;split
     .rename_i r;cases av:bC r p with
      |true=>exact absurd (by rw[aV av]) R
      |false=>rfl
     rfl
    subst e1;exact hrel.slots k _ ac
  refine yO.of_value (ι':=ι') (v:=.pointer (some ⟨w.heap.size,0,none⟩)) (w':=W) ?_ ?_ h
  .have a1:a.eval x=.map (some b):=by rw[a2,hv]
   simp only[aY,ho,a1,aK,run_range_map w t kt e b es clock hu hb,aF,aP,W]
  rw[ab];exact ae.put (some d) (λk hk=>by cases hk;exact ak) _ _ (by simp only[cV,VR,WR,CR];exact⟨w.heap.size,by rw[aa],rfl⟩)
end
end
theorem vN:∀(n i q:Nat),(zY i n)[q]?=if q<n then some (i+q)else none
 |0,i,q=>by simp[zY]
 |n+1,i,0=>by simp[zY]
 |n+1,i,q+1=>by
  simp only[zY,am.getElem?_cons_succ,vN n (i+1) q];by_cases h:q<n
  .rw[bG h,bG d8];congr 1;omega
  simp_all[bV]
theorem aiP:∀(n i:Nat),(zY i n).length=n
 |0,_=>rfl
 |n+1,i=>by simp[zY,aiP n]
def Pl.isGone:Pl->Bool|.gone=>true|_=>false
theorem afH(n:Nat)(g:am Nat)(x:Pl)(xs:am Pl):YA (n::g) (x::xs)=(if x.isGone=true then none else some n)::YA g xs:=by grind[YA,Pl.isGone]
theorem jM(n:Nat)(g:am Nat)(x:Pl)(xs:am Pl):yR (n::g) (x::xs)=if x.isGone=true then yR g xs else(n,x)::yR g xs:=by grind[yR,Pl.isGone]
theorem auK(m n:Nat)(g:am Nat)(x:Pl)(xs:am Pl):Vl (m+1) (n::g) (x::xs)=if x.isGone=true then n::Vl m g xs else Vl m g xs:=by grind[Vl,Pl.isGone]
theorem ahU(x:Pl)(l:am (aD Nat)):(x.ren l).isGone=x.isGone:=by cases x<;>rfl
theorem axH(x:Pl)(l:am (aD Nat)):(x.ren l).live=x.live:=by cases x<;>rfl
theorem VK:∀(L:am Nat) (g:am Pl) (q p:Nat),vF (YA L g) q=some p↔ ∃x,L[q]?=some p/\g[q]?=some x/\x.isGone=false
 |[],g,q,p=>by grind[YA,vF]
 |n::i,[],q,p=>by grind[YA,vF]
 |n::i,x::xs,0,p=>by grind[afH,vF]
 |n::i,x::xs,q+1,p=>by rw[afH];simp only[vF,VK i xs q p,am.getElem?_cons_succ]
theorem QS:∀(L:am Nat) (g:am Pl) (p:Nat) (y:Pl),aget (yR L g) p=some y->∃q:Nat,L[q]?=some p/\g[q]?=some y/\y.isGone=false
 |[],g,p,y,h=>by grind[yR,aget]
 |n::r,[],p,y,h=>by grind[yR,aget]
 |n::r,x::xs,p,y,h=>by
  rw[jM]at h;cases o:x.isGone
  .simp only[o,bQ,dq,yg]at h;split at h
   .rename_i e;subst e;cases h;exact⟨0,rfl,rfl,o⟩
   obtain⟨q,i,j,l⟩:=QS r xs p y h;exact⟨q+1,by simpa using i,by simpa using j,l⟩
  simp only[o,cL]at h;obtain⟨q,i,j,l⟩:=QS r xs p y h;exact⟨q+1,by simpa using i,by simpa using j,l⟩
theorem ake:∀(L:am Nat) (g:am Pl) (q p:Nat) (y:Pl),L[q]?=some p->g[q]?=some y->y.isGone=false->isin p (j8 (yR L g))=true
 |[],_,q,p,y,h,_,_=>by simp at h
 |_::_,[],q,p,y,_,h,_=>by simp at h
 |n::r,x::xs,0,p,y,j,l,o=>by simp_all[jM,j8,isin]
 |n::r,x::xs,q+1,p,y,j,l,o=>by
  have i:=ake r xs q p y (by simpa using j) (by simpa using l) o;rw[jM];cases I:x.isGone
  .rw[yl]at i⊢;simp[j8,i]
  simpa using i
theorem apH:∀(L:am Nat) (j:am Pl),uO (j8 (yR L j))=true->∀(q g p:Nat) (y o:Pl),L[q]?=some p->j[q]?=some y->y.isGone=false->L[g]?=some p->j[g]?=some o->o.isGone=false->q=g
 |[],_,_,q,_,_,_,_,h,_,_,_,_,_=>by simp at h
 |_::_,[],_,q,_,_,_,_,_,h,_,_,_,_=>by simp at h
 |n::l,x::xs,hd,q,g,p,y,o,r,I,R,J,P,U=>by
  have aa:uO (j8 (yR l xs))=true:=by rw[jM]at hd;cases hg:x.isGone<;>simp_all[j8,uO]
  have i:x.isGone=false->isin n (j8 (yR l xs))=false:=λhg=>by simp_all[jM,j8,uO]
  cases q with
  |zero=>cases g with
   |zero=>rfl
   |succ g=>
    simp at r I;subst r;subst I;have:=ake l xs g _ o (by simpa using J) (by simpa using P) U;rw[i R]at this;cases this
  |succ q=>cases g with
   |zero=>
    simp at J P;subst J;subst P;have:=ake l xs q _ y (by simpa using r) (by simpa using I) R;rw[i U]at this;cases this
   |succ g=>rw[apH l xs aa q g p y o (by simpa using r) (by simpa using I) R (by simpa using J) (by simpa using P) U]
theorem kJ:∀(L:am Nat) (g:am Pl) (q p:Nat) (y:Pl),L[q]?=some p->g[q]?=some y->y.isGone=false->aget (yR L g) p≠none
 |[],_,q,p,y,h,_,_=>by simp at h
 |_::_,[],q,p,y,_,h,_=>by simp at h
 |n::j,x::xs,0,p,y,l,o,i=>by grind[jM,yg]
 |n::j,x::xs,q+1,p,y,l,o,i=>by
  have I:=kJ j xs q p y d9 d9 i;rw[jM];cases r:x.isGone
  .simp only[bQ,dq,yg]
   grind
  grind
theorem aeN:∀(L:am Nat) (g:am Pl) (m p:Nat),isin p (Vl m L g)=true↔ ∃q x,L[q]?=some p/\g[q]?=some x/\(q<m->x.isGone=true)
 |[],g,m,p=>by grind[Vl,isin]
 |n::l,[],m,p=>by grind[Vl,isin]
 |n::l,x::xs,0,p=>by
  simp only[Vl,yl,aI];rw[<-yl,aeN l xs 0 p];constructor
  .rintro(h|⟨q,y,i,j,o⟩)
   .exact⟨0,x,by simp[h],rfl,λh=>d8⟩
   exact⟨q+1,y,by simpa using i,by simpa using j,λh=>d8⟩
  rintro⟨q,y,i,j,o⟩;cases q with
  |zero=>simp at i;exact .inl i.symm
  |succ q=>exact .inr ⟨q,y,by simpa using i,by simpa using j,λh=>d8⟩
 |n::l,x::xs,m+1,p=>by
  rw[auK];have r:=aeN l xs m p;cases I:x.isGone
  .simp only[bQ,dq,r]
   grind
  simp only[cL,yl,aI];rw[<-yl,r];constructor
  .rintro(h|⟨q,y,i,j,o⟩)
   .exact⟨0,x,by simp[h],rfl,λ_=>I⟩
   grind
  grind
theorem afx:∀(n i:Nat) (g:am Pl),(∀p,isin p (j8 (yR (zY i n) g))=true->i<=p)/\uO (j8 (yR (zY i n) g))=true
 |0,i,g=>by grind[zY,yR,j8,isin,uO]
 |n+1,i,[]=>by grind[yR,j8,isin,uO]
 |n+1,i,x::xs=>by
  obtain⟨l,o⟩:=afx n (i+1) xs;simp only[zY,jM];cases x.isGone
  .simp only[bQ,dq,j8,uO,o,Bool.and_true,aU];refine⟨λp j=>?_,?_⟩
   .rw[yl,aI]at j;rcases j with rfl|j
    .simp_all
    have:=l p ((yl _ _).2 j);omega
   grind
  simp only[cL]
  grind
theorem alv(l:am Pl):∀(n p:Nat),aget (Zw n l) p=if n<=p then l[p-n]? else none:=by
 induction l with
 |nil=>grind[Zw,aget]
 |cons x r i=>
  intro n p;simp only[Zw,yg,i];by_cases h:n=p
  .grind
  by_cases g:n<=p
  .rw[bV h,bG d8,bG g,show p-n=(p-(n+1))+1 by omega];simp
  rw[bV h,bV d8,bV g]
section
variable {P:Program}{F:Fr}{N:Nat}{ι:Nat->Gh}{s:S}{a:Act}{w:aC}{o:Oper}{K:S->Prop}
theorem Zo{f:FuncId}(h:xZ P f=true)(args:aB Value)(w:aC):(callFunc f args).run P w=.ok (.enter f args) w:=by
 unfold xZ at h;cases g:P.funcs[f]? with
 |none=>grind
 |some fn=>
  simp only[g,aA,aU]at h;obtain⟨i,j⟩:=h;have l:¬fn.body=none:=d9
  simp_all[callFunc]
theorem z7.of_grows{w w':aC}(h:Grows (λ_=>False) w w'):z7 w w':=by
 intro b t m i;have j:b<w.heap.size:=by
  rcases cB b w.heap.size with g|g
  .exact g
  simp[aW,aB.getElem?_eq_none g]at i
 simp only[aW,h.block b j (λh=>h)]at i⊢;exact i
theorem Rel.grown(hr:Rel F N ι s a w){w':aC}(i:Grows (λ_=>False) w w'):Rel F N ι s a w':=by
 have g:zR w w' (F.ok ι s.pl w) (F.ok ι s.pl w'):=λb l=>⟨⟨l.1,aS l.2.1 i.size,l.2.2⟩,i.block b l.2.1 (λh=>h)⟩
 have aa:=z7.of_grows i;refine⟨hr.room,λk v hv=>?_,λp x hx=>?_,hr.inj,λb l=>⟨(hr.mine b l).1,aS (hr.mine b l).2 i.size⟩,hr.defers,?_,hr.foreign,hr.handed,hr.few,hr.hdom,hr.hkeep⟩
 .obtain⟨x,I,r⟩:=hr.slots k v hv<;>grind[VR.keep]
 .have h:=hr.places p x hx;cases x with
  |fbox ds=>obtain⟨b,I,r,J⟩:=h;exact⟨b,I,(g b r).1,dG g b r _ _ J⟩
  |gone=>exact h.elim
  |deep t=>exact⟨h.1,RT.keep g t _ _ (λb l=>i.block b (RT.lt t _ _ h.2 b l) (λh=>h)) h.2⟩
  |box cs=>obtain⟨b,o,I,⟨t,r⟩,J⟩:=h;exact⟨b,o,I,⟨t,by rw[i.block b (RowAt.lt ⟨t,r⟩) (λh=>h)];exact r⟩,CRs.keep g aa _ _ J⟩
  |arr sz U fz=>
   obtain⟨h0,hn,h|⟨b,I,r,J,e4⟩⟩:=h
   .exact⟨h0,hn,.inl h⟩
   have P:b<w.heap.size:=by
    cases fz
    .obtain⟨o,R,_⟩:=e4 rfl;exact R.lt
    exact(J rfl).2.1
   refine⟨h0,hn,.inr ⟨b,I,cR g b sz U 0 (λj _ _=>cell_of_heap (i.block b P (λh=>h)) j) r,λhf=>(g b (J hf)).1,λhf=>?_⟩⟩;obtain⟨o,⟨t,R⟩,e6⟩:=e4 hf;exact⟨o,⟨t,by rw[i.block b P (λh=>h)];exact R⟩,e6⟩
 refine⟨i.os.trans hr.grows.os,i.tape.trans hr.grows.tape,i.output.trans hr.grows.output,bO hr.grows.size i.size,λb l hm=>?_,λb t m h=>i.shapes b t m (hr.grows.shapes b t m h)⟩;rw[i.block b (aS l hr.grows.size) (λh=>h)];exact hr.grows.block b l hm
theorem akg{ι ι':Nat->Gh}{w w':aC}{ok ok':Nat->Prop}{c:C}{v:Value}(hs:c.scalar=true)(h:CR ι w ok c v):CR ι' w' ok' c v:=by
 cases c with
 |d x=>cases x with
  |lit u=>grind[CR,RD]
  |sl l=>cases hs
  |fn f l=>cases hs
  |ifc f l=>cases hs
  |mp a k l=>cases hs
 |_=>cases hs
theorem aki{ι ι':Nat->Gh}{w w':aC}{ok ok':Nat->Prop}{x:W}{v:Value}(hs:x.scalar=true)(h:WR ι w ok x v):WR ι' w' ok' x v:=by
 cases x with
 |c c=>exact akg hs h
 |agg cs=>
  obtain⟨vs,i,g⟩:=h;refine⟨vs,i,?_⟩;clear i;simp only[W.scalar]at hs;induction cs generalizing vs with
  |nil=>cases vs with|nil=>trivial|cons _ _=>exact g.elim
  |cons c cs j=>cases vs with
   |nil=>exact g.elim
   |cons v vs=>
    simp only[cr,aA]at hs;exact⟨akg hs.1 g.1,j hs.2 vs g.2⟩
theorem atL{ι ι':Nat->Gh}{w w':aC}{ok ok':Nat->Prop}{x:V}{v:Value}(hs:x.scalar=true)(h:VR ι w ok x v):VR ι' w' ok' x v:=by
 cases x with
 |w x=>exact aki hs h
 |tup cs=>
  obtain⟨vs,i,g⟩:=h;refine⟨vs,i,?_⟩;clear i;simp only[V.scalar]at hs;induction cs generalizing vs with
  |nil=>cases vs with|nil=>trivial|cons _ _=>exact g.elim
  |cons c cs j=>cases vs with
   |nil=>exact g.elim
   |cons v vs=>
    simp only[cr,aA]at hs;exact⟨aki hs.1 g.1,j hs.2 vs g.2⟩
section ren
variable {ι ι':Nat->Gh}{w w':aC}{ok ok':Nat->Prop}{l:am (aD Nat)}
theorem atH(hk:zR w w ok ok')(j:∀q p,vF l q=some p->ι' p=ι q){c:C}{v:Value}(h:CR ι w ok c v):CR ι' w ok' (c.ren l) v:=by
 cases c with
 |d x=>exact RD.keep hk _ _ h
 |nil=>exact h
 |own q sz k=>
  grind[C.ren,CR]
 |ptr q o=>
  grind[C.ren,CR]
 |eptr q z i k=>
  grind[C.ren,CR]
 |fp l=>exact CR.keep hk (z7.refl w) (.fp l) v h
 |clo f g=>cases g with
  |nil=>exact h
  |cons _ _=>trivial
 |dead=>trivial
 |sub _ _ _ _=>trivial
 |iter _=>trivial
 |root q=>
  grind[C.ren,CR]
theorem aiW(hk:zR w w ok ok')(g:∀q p,vF l q=some p->ι' p=ι q):∀{cs:am C}{vs:am Value},CRs ι w ok cs vs->CRs ι' w ok' (cs.map (C.ren l)) vs
 |[],[],_=>trivial
 |[],_::_,h=>h.elim
 |_::_,[],h=>h.elim
 |_::_,_::_,h=>⟨atH hk g h.1,aiW hk g h.2⟩
theorem atN(hk:zR w w ok ok')(g:∀q p,vF l q=some p->ι' p=ι q){x:W}{v:Value}(h:WR ι w ok x v):WR ι' w ok' (x.ren l) v:=by
 cases x with
 |c x=>exact atH hk g h
 |agg cs=>obtain⟨vs,i,j⟩:=h;exact⟨vs,i,aiW hk g j⟩
theorem aiZ(hk:zR w w ok ok')(g:∀q p,vF l q=some p->ι' p=ι q):∀{cs:am W}{vs:am Value},qq ι w ok cs vs->qq ι' w ok' (cs.map (W.ren l)) vs
 |[],[],_=>trivial
 |[],_::_,h=>h.elim
 |_::_,[],h=>h.elim
 |_::_,_::_,h=>⟨atN hk g h.1,aiZ hk g h.2⟩
theorem aA1(hk:zR w w ok ok')(g:∀q p,vF l q=some p->ι' p=ι q){x:V}{v:Value}(h:VR ι w ok x v):VR ι' w ok' (x.ren l) v:=by
 cases x with
 |w x=>exact atN hk g h
 |tup cs=>obtain⟨vs,i,j⟩:=h;exact⟨vs,i,aiZ hk g j⟩
theorem atI(hk:zR w w ok ok')(P:∀q p,vF l q=some p->ι' p=ι q){q p:Nat}(hp:ι' p=ι q){x:Pl}(h:PR ι w ok q x):PR ι' w ok' p (x.ren l):=by
 cases x with
 |box cs=>obtain⟨b,j,r,g,i⟩:=h;exact⟨b,j,d9,g,aiW hk P i⟩
 |arr sz o U=>
  obtain⟨h0,hn,h|⟨b,r,g,i,I⟩⟩:=h
  .exact⟨h0,d9,.inl d9⟩
  exact⟨h0,d9,.inr ⟨b,d9,cR hk b sz o 0 (λ_ _ _=>rfl) g,λJ=>(hk b (i J)).1,I⟩⟩
 |fbox R=>obtain⟨b,r,g,i⟩:=h;exact⟨b,d9,(hk b g).1,dG hk b g _ _ i⟩
 |deep t=>grind[Pl.ren,PR,RT.keep]
 |gone=>exact h.elim
end ren
theorem afM(hr:Rel F N ι s a w){dst:aD Tmp}(hd:∀k,dst=some k->k<N){U:am Nat}(hU:∀p∈U,∃x,aget s.pl p=some x/\x.live=true){nb:Nat}(ao:∀i,F.h (nb+i)=none){M:Nat->Prop}(hM:∀b,M b↔ ∃p∈U,∃x,aget s.pl p=some x/\foot ι p x b)
 {h0:Nat->aD Gh}{w':aC}{v:Value}{r:Res}(aj:ZW ⟨w,F.ok ι s.pl w,M,h0⟩ (λi=>ι (U.getD i 0)) U.length w' r v) (hg:Grows M w w') (aq:Jq U nb r=true):
 ∃ι',Rel F N ι' (ae1 s U nb dst r) (a.put dst v) w':=by
 obtain⟨hm,ιr,h1,h2,h3,h4,h5,h6⟩:=aj
 let L:am Nat:=U++zY nb (r.pl.length-U.length)
 let ls:=YA L r.pl
 let NP:=yR L (r.pl.map (Pl.ren ls))
 let KL:=Vl U.length L r.pl
 have av:uO (j8 (yR L r.pl))=true:=aq;have af:∀q,q<U.length->L[q]?=U[q]? :=λq hq=>am.getElem?_append_left hq
 have ae:∀q p,U.length<=q->L[q]?=some p->p=nb+(q-U.length):=λq p hq hp=>by grind[vN]
 have R:∀q x,aget (yR (zY 0 r.pl.length) r.pl) q=some x↔r.pl[q]?=some x/\x.isGone=false:=λq x=>by
  constructor
  .intro h;obtain⟨q',g1,g2,g3⟩:=QS _ _ _ _ h;rw[vN]at g1;split at g1
   .cases g1;rw[aX];grind
   cases g1
  rintro⟨g1,g2⟩;have ah:q<r.pl.length:=(am.getElem?_eq_some_iff.1 g1).1;have au:(zY 0 r.pl.length)[q]?=some q:=by rw[vN,bG ah,aX]
  have:=kJ _ _ q q x au g1 g2;cases hz:aget (yR (zY 0 r.pl.length) r.pl) q with
  |none=>grind
  |some y=>
   obtain⟨q',g3,g4,g5⟩:=QS _ _ _ _ hz;rw[vN]at g3;split at g3
   .cases g3;rw[aX]at g1;grind
   cases g3
 let ι':Nat->Gh:=λp=>open Classical in if h:isin p KL=true/\∃q,vF ls q=some p then ιr h.2.choose else ι p
 have ar:∀q q' p,vF ls q=some p->vF ls q'=some p->q=q':=λq q' p g1 g2=>by grind[VK,apH]
 have hι:∀p,isin p KL=false->ι' p=ι p:=λp hp=>by
  simp only[ι'];rw[dif_neg]
  grind
 have l:∀q p,vF ls q=some p->ι' p=ιr q:=λq p hq=>by
  by_cases hk:isin p KL=true
  .have an:isin p KL=true/\∃q,vF ls q=some p:=⟨hk,q,hq⟩;simp only[ι'];rw[dif_pos an];congr 1
   grind
  grind[VK,aeN]
 have P:∀p y,aget NP p=some y->∃q x,vF ls q=some p/\r.pl[q]?=some x/\x.isGone=false/\y=x.ren ls/\L[q]?=some p:=λp y hy=>by grind[QS,ahU,VK]
 have aw:∀p,p∈U->isin p KL=true\/aget NP p≠none:=λp hp=>by
  obtain⟨i,hi,az⟩:=cU hp;have ax:U[i]?=some p:=d9
  have al:L[i]?=some p:=d9
  have ah:i<r.pl.length:=d8
  cases aa:(r.pl[i]).isGone
  .right
   refine kJ L _ i p ((r.pl[i]).ren ls) al d9 (by grind[ahU])
  grind[aeN]
 have o:∀b,M b->∃q y,(isin q KL=true\/aget NP q≠none)/\aget s.pl q=some y/\y.live=true/\foot ι q y b:=λb hb=>d9
 have ad:∀b,b<w.heap.size->(∀q y,(isin q KL=true\/aget NP q≠none)->aget s.pl q=some y->y.live=true->¬foot ι q y b)->w'.heap[b]?=w.heap[b]? :=λb hb h=>hg.block b hb λay=>d9
 have ab:zR w' w' (Fr.ok ⟨w,F.ok ι s.pl w,M,h0⟩ ιr (yR (zY 0 r.pl.length) r.pl) w') (F.ok ι' (s.redo KL NP).pl w'):=by
  intro b hb;obtain⟨I,b2,b3⟩:=hb;refine⟨⟨?_,b2,?_⟩,rfl⟩
  .rcases I with I|I|I
   .exact I.1
   .obtain⟨q,y,_,J,e3,e4⟩:=o b I;rcases(hr.mine b ⟨q,y,J,e3,e4⟩).1 with h|h
    .grind
    grind
   exact .inr (.inr (bO hr.grows.size I))
  rintro⟨p,x,q1,q2,q3⟩;rw[S.redo_pl]at q1;cases hn:aget NP p with
  |some y=>
   simp only[hn]at q1;cases q1;obtain⟨q,z,j,J,e3,rfl,_⟩:=P p _ hn;rw[Ys,xX (l q p j)]at q3;rw[axH]at q2;exact b3 ⟨q,z,(R q z).2 ⟨J,e3⟩,q2,q3⟩
  |none=>
   simp only[hn]at q1;split at q1
   .rename_i hk;cases hp:aget s.pl p with
    |none=>rw[hp]at q1;cases q1
    |some y=>
     rw[hp]at q1;simp at q1;subst q1;rw[qx,xX (hι p hk)]at q3;rw[bL]at q2;have ho:Owns ι s.pl b:=⟨p,y,hp,q2,q3⟩;rcases I with I|I|I
     .exact I.2.2 ho
     .obtain⟨q,z,j,J,e3,e4⟩:=o b I
      have ac:p≠q:=λe=>by subst e;rcases j with j|j; ·rw[hk]at j;cases j
                          .exact j hn
      exact hr.inj p q y z b hp J ac q2 q3 e4
     have h7:=(hr.mine b ho).2;have h8:w.heap.size<=b:=I;omega
   cases q1
 have hrel:=hr.redoG KL NP ι' w' hι ad hg.shapes hg.os hg.tape hg.output hg.size (by
  intro p y hy;obtain⟨q,x,j,J,e3,rfl,_⟩:=P p y hy;exact atI ab l (l q p j) (h2 q x ((R q x).2 ⟨J,e3⟩))) (by
  intro p y b hy hb;obtain⟨q,x,j,J,e3,rfl,_⟩:=P p y hy;rw[Ys,xX (l q p j)]at hb;have ak:=(R q x).2 ⟨J,e3⟩;refine⟨(h2 q x ak).lt (λ_ h=>h.2.1) hb,?_⟩;rcases h4 q x b ak hb with h|h
  .exact .inr (o b h)
  .exact .inl h) (by
  intro p q x y b hx hy ac hb hq;obtain⟨p',x',j,J,e3,rfl,_⟩:=P p x hx;obtain⟨q',y',e4,e5,e6,rfl,_⟩:=P q y hy;rw[Ys,xX (l p' p j)]at hb;rw[Ys,xX (l q' q e4)]at hq;refine h3 p' q' x' y' b ((R p' x').2 ⟨J,e3⟩) ((R q' y').2 ⟨e5,e6⟩) (λe=>ac ?_) hb hq;subst e;rw[j]at e4;cases e4;rfl) (by
  intro p y g hy aa;obtain⟨q,x,j,J,e3,rfl,e4⟩:=P p y hy;have ai:q<U.length:=by
   rcases cB q U.length with h|h
   .exact h
   have:=ae q p h e4;rw[this,ao]at aa;cases aa
  rw[l q p j,h6 q x ai ((R q x).2 ⟨J,e3⟩)];have ag:U[q]?=some p:=by rw[<-af q ai];exact e4
  obtain⟨z,e5,_⟩:=hU p (bD ag);have:=hr.hkeep p z g e5 aa;simp only[List.getD,ag,dm];exact this)
 exact⟨ι',hrel.put dst hd _ _ (aA1 ab l h1)⟩
theorem as0(hr:Rel F N ι s a w)(hd:∀k,o.dst=some k->k<N){j:am (Nat×Pl)}(P:Rel F N ι (s.withPl j) a w){w':aC}{v:Value}{r:Res}(g:aaY ⟨w,F.ok ι j w,λ_=>False,λ_=>none⟩ w' r v)(J:Grows (λ_=>False) w w'):
 ∃ι',Rel F N ι' (asZ s {s with pl:=j} o.dst r) (a.put o.dst v) w':=by
 cases l:o.dst with
 |none=>exact⟨ι,hr.grown J⟩
 |some d=>
  simp only[asZ];cases hs:r.v.scalar
  .simp only[aO];have aa:=hd d l;refine afM P (dst:=some d) (λk hk=>d9) (U:=[]) (λp R=>by cases R) (nb:=base d) (λi=>hr.h_big (by grind[base])) (M:=λ_=>False) (λb=>dT) (h0:=λ_=>none) ?_ J ?_
   .obtain⟨_,ιr,I,h2,h3,h4,h5,h6⟩:=g;exact⟨cm _,ιr,I,h2,h3,h4,h5,λp x R=>d9⟩
   exact(afx _ _ _).2
  simp only[aG];obtain⟨_,ιr,I,_⟩:=g;exact⟨ι,(hr.grown J).put (some d) (λk hk=>d9) _ _ (atL hs I)⟩
theorem Rel.glb(hr:Rel F N ι s a w):Glb (F.ok ι s.pl w) w:=hr.handed.2.mono
 (λb g=>⟨.inl g,aS (hr.foreign b g).1 hr.grows.size,λi=>by
  rcases(hr.mine b i).1 with h|h
  .exact(hr.foreign b g).2 h
  have:=(hr.foreign b g).1;omega⟩)
 (λb g=>hr.grows.block b (hr.foreign b g).1 (hr.foreign b g).2)
theorem VO(hr:Rel F N ι s a w)(U:∀k,o.dst=some k->k<N){f:FuncId}{ws:am W}{vals:am Value}(I:qq ι w (F.ok ι s.pl w) ws vals)(i:xZ P f=true->(aY a.eval o).run P w=.ok (.enter f vals.toArray) w)
 (h:KM P o.dst f ws s K):ub P F N o a w K:=by
 unfold KM at h;split at h
 .rename_i ds J l;obtain⟨R,h⟩:=h;obtain⟨g1,g2,g3⟩:=afZ hr I l;intro next Q hn;unfold de;rw[i R];rw[dx];refine(h w (F.ok ι J w) vals ⟨λb j=>j.2.1,g1.glb⟩ (g3 _)).mono ?_;rintro e w' ⟨v,r,rfl,hk,g,p⟩;obtain⟨ι',hrel⟩:=as0 (o:=o) hr U g1 g p;exact hn ι' _ _ _ hrel hk ⟨p.size,λb j=>p.block b j (λh=>h)⟩
 grind
theorem aez{α β:Type}(f:α->β)(xs:aB α):xs.map f=(xs.toList.map f).toArray:=d9
theorem aiE(hr:Rel F N ι s a w)(g:∀k,o.dst=some k->k<N){f:FuncId}{args:aB bE}{i:aB TypeId}(l:o.op=.call {callee:=.value (.func f),args:=args,argTypes:=i})
 (h:zK P o.dst (.call f (args.toList.map cO)) s K):ub P F N o a w K:=by
 simp only[zK]at h;refine VO hr g (aex hr args.toList) (λj=>?_) h
 grind[aY,df,bT,Act.eval,dD,Zo,aez]
theorem ahj{ok:Nat->Prop}:∀{xs ys:am W}{us vs:am Value},qq ι w ok xs us->qq ι w ok ys vs->qq ι w ok (xs++ys) (us++vs)
 |[],_,[],_,_,h=>h
 |[],_,_::_,_,h,_=>h.elim
 |_::_,_,[],_,h,_=>h.elim
 |_::_,_,_::_,_,h,g=>⟨h.1,ahj h.2 g⟩
theorem aqJ{ok:Nat->Prop}:∀{g:am (am D)}{vs:am Value},RDf w ok vs g->qq ι w ok (g.map λi=>W.c (.fp i)) vs
 |[],vs,h=>by simp only[RDf]at h;subst h;trivial
 |c::r,vs,h=>by simp only[RDf]at h;obtain⟨b,o,I,rfl,j,l,p⟩:=h;exact⟨⟨b,o,rfl,j,l⟩,aqJ p⟩
theorem aiF(hr:Rel F N ι s a w)(r:∀k,o.dst=some k->k<N){x:bE}{args:aB bE}{U:aB TypeId}(ho:o.op=.call {callee:=.value x,args:=args,argTypes:=U})
 (h:zK P o.dst (.calv (cO x) (args.toList.map cO)) s K):ub P F N o a w K:=by
 simp only[zK]at h;have g:=xj hr x;split at h
 .rename_i f j;rw[j]at g;obtain⟨I,J,p⟩:=g;have i:I=[]:=dW
  subst i;refine VO hr r (aex hr args.toList) (λR=>?_) h
  grind[aY,df,bT,dD,Zo,aez]
 .rename_i f l j;rw[j]at g;simp only[CR,RD]at g;obtain⟨vs,J,p⟩:=g;refine VO hr r (ahj (aex hr args.toList) (aqJ p)) (λR=>?_) h
  grind[aY,df,bT,dD,Zo,aez]
 grind
theorem yF{α:Type}{c:Bool}{x y:α}(h:WP c x=some y):c=true/\x=y:=by
 cases c
 .cases h
 cases h;grind
theorem XG{α:Type}{x:aD α}(h:isSome x=true):∃y,x=some y:=by
 cases x with
 |none=>cases h
 |some y=>grind
theorem as3(P:Program)(w:aC){m:String}{t f:Nat}(h:ahT P m t=some f)(v:Value)(n:Nat):(method (n+1) t v m).run P w=.ok (f,v) w:=by obtain⟨r,i,x,g,j,l,o,p⟩:=auD h;unfold method;simp[typeInfo,j,l,o,p,follow,receiverAt,bP g,Place.get]
theorem avR(hr:Rel F N ι s a w)(I:∀k,o.dst=some k->k<N){x:bE}{m:String}{n:Nat}{args:aB bE}{ts:aB TypeId}(U:o.op=.call {callee:=.invoke x m,args:=args,argTypes:=ts})
 (h:zK P o.dst (.inv (g9 P m n) (cO x) (args.toList.map cO)) s K):ub P F N o a w K:=by
 simp only[zK]at h;have i:=xj hr x;split at h
 .rename_i u l R;rw[R]at i;simp only[CR,RD]at i;obtain⟨vs,hv,g⟩:=i;split at h
  .rename_i f J;have hi:=adl J;refine VO hr I (ws:=.agg (l.map .d)::(args.toList.map cO).map s.ow) (vals:=.agg vs.toArray::args.toList.map a.eval) ⟨⟨vs,rfl,aev g⟩,aex hr args.toList⟩ (λr=>?_) h;simp only[aY,U,df,hv,aK,aP,aF,dD];have j:(#[dt u (Value.agg vs.toArray)]++args.map a.eval)[0]?=some (.iface u (.agg vs.toArray)):=d9
   have p:(#[dt u (Value.agg vs.toArray)]++args.map a.eval).extract 1 (#[dt u (Value.agg vs.toArray)]++args.map a.eval).size=args.map a.eval:=dW
   rw[j];simp only[p,callMethod,aK];rw[show dC P program w=.ok P w from rfl,aF,show P.types.size+Made.depth=(P.types.size+99)+1 from rfl,as3 P w hi,aF,Zo r];congr 2
   simp_all
  grind
 grind
theorem acT(hr:Rel F N ι s a w)(r:∀k,o.dst=some k->k<N){x:AOp}(j:cOp P o.op o.type=some x)(h:zK P o.dst x s K):yO P F N o a w K:=by
 unfold cOp at j;split at j
 .rename_i y p;cases j;exact(kH hr r (.inl p) h).fine trivial
 .rename_i y p;cases j;exact(kH hr r (.inr p) h).fine trivial
 .rename_i c y z p;cases j;exact(aiI hr r p h).fine trivial
 .rename_i t p;cases j;exact(afW hr r p h).fine
 .rename_i t y p;cases j;exact(apf hr r p h).fine
 .rename_i t parts p;split at j
  .rename_i fs l R hl;obtain⟨I,rfl⟩:=yF j;rw[aA]at I;exact(afX hr r p R hl I.1 I.2 h).fine trivial
  cases j
 .rename_i t n parts p;split at j
  .rename_i e J;obtain⟨I,rfl⟩:=yF j;simp only[aA]at I;exact(aiH hr r p J I.1.1.1.1 I.1.1.1.2 I.1.1.2 I.1.2 I.2 h).fine
  cases j
 .rename_i t y p;split at j
  .rename_i g J;cases j;exact(api hr r p J h).fine (vP.refl _)
  cases j
 .rename_i t y z p;obtain⟨I,rfl⟩:=yF j;obtain⟨i,hi⟩:=XG I<;>grind[ayV]
 .rename_i y p;cases j;exact(apl hr r p h).fine trivial
 .rename_i ab dst y p;cases h1:qL P ab false&&qL P dst true
  .rw[h1]at j;cases h2:qL P ab true&&qL P dst false
   .rw[h2]at j;simp only[aO]at j;cases h3:V2 P ab dst y with
    |none=>simp only[h3]at j;cases j;exact(vL hr r (by rw[p];rfl) h).fine trivial
    |some z=>simp only[h3]at j;cases j;exact(aiG hr r p h3 h).2.fine trivial
   rw[h2]at j;cases j;rw[aA]at h2;exact(aln hr r p h2.1 h2.2 h).fine
  rw[h1]at j;cases j;rw[aA]at h1;exact(alc hr r p h1.1 h1.2 h).fine (vP.refl _)
 .grind[yF,avN]
 .rename_i t n c p;split at j
  .rename_i e J;split at j
   .rename_i z ae hz;obtain⟨I,rfl⟩:=yF j;rw[aA]at I;exact(apj hr r p J hz I.1 I.2 h).fine
   cases j
  cases j
 .rename_i t y lo hi mx p;split at j
  .rename_i R;cases j;exact(alq hr r p R h).fine trivial
  .rename_i e R;obtain⟨I,rfl⟩:=yF j;obtain⟨i,ac⟩:=XG I;exact(alp hr r p R ac h).fine trivial
  cases j
 .rename_i t y f p;split at j
  .rename_i off ft J;obtain⟨I,rfl⟩:=yF j;exact(apg hr r p J I h).fine trivial
  cases j
 .rename_i t y f p;split at j
  .rename_i off ft J;split at j
   .rename_i g hg;cases j;exact(ali hr r p J hg h).fine trivial
   cases j
  cases j
 .rename_i t y i p;split at j
  .rename_i e J;obtain⟨I,rfl⟩:=yF j;exact(aph hr r p J I h).fine trivial
  cases j
 .rename_i t y i p;split at j
  .rename_i R;cases j;exact(alo hr r p R h).fine trivial
  cases j
 .rename_i y i p;cases j;exact(alh hr r p h).fine trivial
 .rename_i args ts p;split at j
  .rename_i y t U aa;split at j
   .rename_i e J;cases j;exact(alk hr r p U aa J h).fine trivial
   cases h3:K7 P t y with
   |none=>simp only[h3]at j;cases j;exact(vL hr r (by rw[p];rfl) h).fine trivial
   |some z=>simp only[h3]at j;cases j;exact(aiK hr r p U aa h3 h).2.fine trivial
  cases j
 .rename_i args ts p;split at j
  .rename_i y z t u U aa;split at j
   .rename_i e e' J R;obtain⟨I,rfl⟩:=yF j;rw[aA]at I
    grind[avJ]
   .rename_i e k J R;split at j
    .rename_i zz ae af;obtain⟨I,rfl⟩:=yF j;simp only[aA]at I
     grind[atm]
    cases j
   .rename_i e J R;obtain⟨I,rfl⟩:=yF j;rw[aA]at I
    grind[atl]
   cases j
  cases j
 .rename_i f args ts p;cases j;exact(aiE hr r p h).fine
 .rename_i y args ts p ad;cases j;exact(aiF hr r ad h).fine
 .rename_i b args ts h1 h2 p;cases hm:adD b args.toList with
  |some y=>simp only[hm]at j;cases j;exact(apk hr r p hm h).fine trivial
  |none=>
   simp only[hm]at j;cases hb:U3 P b args.toList ts.toList with
   |some y=>grind[avL]
   |none=>simp only[hb]at j;cases j;exact(vL hr r (by rw[p];rfl) h).fine trivial
 .rename_i b t y z u p;cases hn:aar P b t z with
  |some neg=>simp only[hn]at j;cases j;exact(alj hr r p hn h).fine trivial
  |none=>
  simp only[hn]at j;cases h3:KU P b t y z with
  |some q=>simp only[h3]at j;cases j;exact(alg hr r p h3 h).2.fine trivial
  |none=>
  simp only[h3]at j;cases h4:U2 P b t y z with
  |some q=>simp only[h4]at j;cases j;exact(ald hr r p h4 h).2.fine trivial
  |none=>
  simp only[h4]at j;cases h1:abJ b&&aeL P t
  .rw[h1]at j;cases j;exact(vL hr r (by rw[p];rfl) h).fine trivial
  rw[h1]at j;cases j;exact(ale hr r p h).fine trivial
 .rename_i u t y p;cases h4:kI P u t y with
  |some q=>simp only[h4]at j;cases j;exact(apm hr r p h4 h).2.fine trivial
  |none=>simp only[h4]at j;cases j;exact(vL hr r (by rw[p];rfl) h).fine trivial
 .rename_i t y p;split at j
  .rename_i fs R;cases j;exact avS hr r p R h
  cases j;exact h.elim
 .rename_i y u t c p;split at j
  .rename_i fs R;obtain⟨I,rfl⟩:=yF j;rw[aA]at I;exact avK hr r p R I.1 I.2 h
  cases j;exact h.elim
 .rename_i y m args ts p;cases j;exact(avR hr r p h).fine
 .cases j
 .rename_i t p;split at j
  .cases j;exact avT hr r p h
  cases j;exact h.elim
 .rename_i t y z c p;split at j
  .rename_i ky g e hm;cases hz:jk P e
   .rw[hz]at j;cases j;exact h.elim
   rw[hz]at j;cases j;exact(alm hr r p hm hz h).fine (vP.refl _)
  cases j;exact h.elim
 .rename_i t m k v p;split at j
  .rename_i ky g e hm;cases j;exact avU hr p hm h
  cases j;exact h.elim
 .rename_i t y p;split at j
  .rename_i k e R;cases j;exact avW hr r p R h
  cases j;exact h.elim
 .rename_i y str p;cases str
  .cases j;exact avV hr r p h
  cases j;exact h.elim
 .rename_i y p;cases j;exact avQ hr r p h
 cases j;exact h.elim
theorem Xx{pl:am (Nat×Pl)}:∀(l U:am Nat),(U.Nodup/\∀p∈U,∃x,aget pl p=some x/\x.live=true)->(qu pl U l).Nodup/\∀p∈qu pl U l,∃x,aget pl p=some x/\x.live=true
 |[],U,h=>h
 |p::r,U,h=>by
  have step:∀x,aget pl p=some x->x.live=true->(bif isin p U then qu pl U r else qu pl (U++[p]) r).Nodup/\∀q∈(bif isin p U then qu pl U r else qu pl (U++[p]) r),∃x,aget pl q=some x/\x.live=true:=λx R J=>by
   cases hi:isin p U
   .have P:p∉U:=λh=>by rw[(yl p U).2 h]at hi;cases hi
    refine Xx r (U++[p]) ⟨?_,λq g=>?_⟩
    .rw[bI];exact⟨h.1,dT,λa I b j=>by simp at j;subst j;exact λe=>P (e▸I)⟩
    rcases aT.1 g with g|g
    .exact h.2 q g
    simp at g;subst g;exact⟨x,R,J⟩
   exact Xx r U h
  unfold qu;split
  .rename_i cs i;exact step _ i rfl
  .rename_i z o i;exact step _ i rfl
  .rename_i t i;exact step _ i rfl
  exact Xx r U h
theorem abN{pl:am (Nat×Pl)}:∀(n i:Nat) (U:am Nat),(U.Nodup/\∀p∈U,∃x,aget pl p=some x/\x.live=true)->(Jg pl n i U).Nodup/\∀p∈Jg pl n i U,∃x,aget pl p=some x/\x.live=true
 |0,_,U,h=>h
 |n+1,i,U,h=>by
  unfold Jg;split
  .split
   .exact abN n (i+1) _ (Xx _ U h)
   exact abN n (i+1) U h
  exact h
theorem abm:∀{U:am Nat}{p k:Nat},gY p U=some k->U[k]?=some p
 |[],p,k,h=>by grind[gY]
 |q::r,p,k,h=>by
  unfold gY at h;by_cases e:q=p
  .grind[vz]
  rw[xD e]at h;simp only[aO]at h;split at h
  .rename_i i hi;cases h;simpa using abm hi
  cases h
theorem akE:∀{U:am Nat}{p k:Nat},U.Nodup->U[k]?=some p->gY p U=some k
 |[],p,k,_,h=>by simp at h
 |q::r,p,0,g,h=>by simp_all[gY]
 |q::r,p,k+1,g,h=>by
  rw[bA]at g;have hr:r[k]?=some p:=by simpa using h
  have i:q≠p:=λe=>by subst e;exact g.1 (bD hr)
  unfold gY;rw[xD i,akE g.2 hr];rfl
theorem azf(hr:Rel F N ι s a w){ok':Nat->Prop}(hk:zR w w (F.ok ι s.pl w) ok'){U:am Nat}{ι':Nat->Gh}(hι:∀k p,U[k]?=some p->ι' k=ι p){c:C}{v:Value}(r:CR ι w (F.ok ι s.pl w) c v):CR ι' w ok' (c.pk s.pl U) v:=by
 cases c with
 |d x=>exact RD.keep hk _ _ r
 |nil=>exact r
 |fp l=>exact CR.keep (ι:=ι') hk (z7.refl w) (.fp l) v r
 |clo f g=>cases g<;>simp_all[C.pk,CR,RD,RDf]
 |dead=>trivial
 |sub _ _ _ _=>trivial
 |eptr p z i k=>trivial
 |iter p=>trivial
 |ptr p o=>
  simp only[C.pk];split
  .grind[CR,abm]
  .rename_i ds R;obtain⟨b,I,e2⟩:=r;obtain⟨b',J,e4,P⟩:=hr.places p _ R;rw[I]at J;cases J;have P:=RDc.drop o P;rw[aX]at P;exact⟨b,o,e2,(hk b e4).1,dG hk b e4 _ _ P⟩
  trivial
 |own p sz n=>
  simp only[C.pk];split
  .grind[CR,abm]
  .rename_i z j R;obtain⟨hn,⟨h1,h2,h3,h4⟩|⟨b,cap,t,h1,h2,h3,h4,h5,h6⟩⟩:=kl hr R r
   .subst h1;subst h2;subst h4;simp only[CR,RD];exact⟨none,0,0,rfl,rfl,bB _,cm _,.inl dT⟩
   have aa:=hr.places p _ R;obtain⟨_,_,hf|⟨b',I,e2,J,e4⟩⟩:=aa
   .grind
   rw[h1]at I;cases I;have:RD w (F.ok ι s.pl w) (.sl (j.take n)) v:=by subst h2;simp only[RD];exact⟨_,_,_,rfl,dX,h3,h4,.inr ⟨b,0,z,rfl,J rfl,RDs.take n e2⟩⟩
   exact CR.keep (ι:=ι') hk (z7.refl w) (.d (.sl (j.take n))) v this
  trivial
 |root p=>
  grind[C.pk,CR,abm]
theorem amF(hr:Rel F N ι s a w){ok':Nat->Prop}(hk:zR w w (F.ok ι s.pl w) ok'){U:am Nat}{ι':Nat->Gh}(g:∀k p,U[k]?=some p->ι' k=ι p):∀{cs:am C}{vs:am Value},CRs ι w (F.ok ι s.pl w) cs vs->CRs ι' w ok' (cs.map (C.pk s.pl U)) vs
 |[],[],_=>trivial
 |[],_::_,h=>h.elim
 |_::_,[],h=>h.elim
 |_::_,_::_,h=>⟨azf hr hk g h.1,amF hr hk g h.2⟩
theorem azi(hr:Rel F N ι s a w){ok':Nat->Prop}(hk:zR w w (F.ok ι s.pl w) ok'){U:am Nat}{ι':Nat->Gh}(g:∀k p,U[k]?=some p->ι' k=ι p){x:W}{v:Value}(h:WR ι w (F.ok ι s.pl w) x v):WR ι' w ok' (x.pk s.pl U) v:=by
 cases x with
 |c x=>exact azf hr hk g h
 |agg cs=>obtain⟨vs,i,j⟩:=h;exact⟨vs,i,amF hr hk g j⟩
theorem amK(hr:Rel F N ι s a w){ok':Nat->Prop}(hk:zR w w (F.ok ι s.pl w) ok'){U:am Nat}{ι':Nat->Gh}(g:∀k p,U[k]?=some p->ι' k=ι p):∀{cs:am W}{vs:am Value},qq ι w (F.ok ι s.pl w) cs vs->qq ι' w ok' (cs.map (W.pk s.pl U)) vs
 |[],[],_=>trivial
 |[],_::_,h=>h.elim
 |_::_,[],h=>h.elim
 |_::_,_::_,h=>⟨azi hr hk g h.1,amK hr hk g h.2⟩
theorem aB3(hr:Rel F N ι s a w){ok':Nat->Prop}(hk:zR w w (F.ok ι s.pl w) ok'){U:am Nat}{ι':Nat->Gh}(g:∀k p,U[k]?=some p->ι' k=ι p){x:V}{v:Value}(h:VR ι w (F.ok ι s.pl w) x v):VR ι' w ok' (x.pk s.pl U) v:=by
 cases x with
 |w x=>exact azi hr hk g h
 |tup cs=>obtain⟨vs,i,j⟩:=h;exact⟨vs,i,amK hr hk g j⟩
theorem kq(pl:am (Nat×Pl))(U:am Nat):∀(l:am Nat) (k i:Nat),(u9 pl U k l)[i]?=(l[i]?).map λp=>UE pl U (k+i) p
 |[],k,i=>by simp[u9]
 |p::r,k,0=>by simp[u9]
 |p::r,k,i+1=>by simp only[u9,am.getElem?_cons_succ,kq pl U r (k+1) i];rw[show k+1+i=k+(i+1)by omega]
theorem adP(pl:am (Nat×Pl))(U:am Nat):∀(l:am Nat) (k:Nat),(u9 pl U k l).length=l.length
 |[],_=>rfl
 |_::r,k=>by simp[u9,adP pl U r (k+1)]
theorem km(hr:Rel F N ι s a w){ok':Nat->Prop}(hk:zR w w (F.ok ι s.pl w) ok'){U:am Nat}{ι':Nat->Gh}(hι:∀k p,U[k]?=some p->ι' k=ι p){k p:Nat}(hp:U[k]?=some p)(j:(UE s.pl U k p).isGone=false):
 gY p U=some k/\(∃x,aget s.pl p=some x/\x.live=true/\∀b,foot ι' k (UE s.pl U k p) b↔foot ι p x b)/\PR ι' w ok' k (UE s.pl U k p)/\(UE s.pl U k p).live=true:=by
 have l:∀b,(ι' k).b=some b↔(ι p).b=some b:=λb=>d9
 unfold UE at j⊢;split at j
 case h_2=>cases j
 rename_i i hi;cases P:bC i k
 .rw[P]at j;cases j
 have R:=aV P;subst R;rw[P]at j;simp only[aG]at j;split at j
 .rename_i cs g;refine⟨hi,⟨_,g,rfl,l⟩,?_⟩;obtain⟨b,o,e1,r,I⟩:=hr.places p _ g;exact⟨⟨b,o,d9,r,amF hr hk hι I⟩,rfl⟩
 .rename_i z J g;refine⟨hi,⟨_,g,rfl,l⟩,?_⟩;refine⟨?_,rfl⟩;obtain⟨h0,hn,hf|⟨b,e1,r,I,e4⟩⟩:=hr.places p _ g
  .exact⟨h0,d9,.inl d9⟩
  exact⟨h0,d9,.inr ⟨b,d9,cR hk b z J 0 (λ_ _ _=>rfl) r,λhf=>(hk b (I hf)).1,e4⟩⟩
 .rename_i t g;refine⟨hi,⟨_,g,rfl,λb=>?_⟩,?_,rfl⟩
  .simp_all[foot]
  have h:=hr.places p _ g;simp only[aG,PR,hι i p hp];exact⟨h.1,RT.keep hk t _ _ (λ_ _=>rfl) h.2⟩
 cases j
theorem axT(dst:aD Nat)(U:am Nat):600000<=X0 dst U:=by unfold X0<;>grind[base]
theorem aqz(hr:Rel F N ι s a w)(hd:∀k,o.dst=some k->k<N){f:FuncId}{args:aB bE}{ts:aB TypeId}(ho:o.op=.call {callee:=.value (.func f),args:=args,argTypes:=ts})
 (h:zK P o.dst (.callh f (args.toList.map cO)) s K):yO P F N o a w K:=by
 simp only[zK,ahk]at h
 let U:=uH s.pl [] (YJ ((args.toList.map cO).map s.ow))
 have hU:U.Nodup/\∀p∈U,∃x,aget s.pl p=some x/\x.live=true:=abN 40 0 _ (Xx _ [] ⟨cJ,λ_ h=>by cases h⟩)
 let ι0:Nat->Gh:=λi=>ι (U.getD i 0)
 have af:∀k p,U[k]?=some p->ι0 k=ι p:=λk p hp=>d9
 have ae:zR w w (F.ok ι s.pl w) (F.ok ι s.pl w):=λb hb=>⟨hb,rfl⟩
 obtain⟨hc,h⟩:=h;have ak:=amK hr ae af (aex hr args.toList);have aa:∀i x,(u9 s.pl U 0 U)[i]?=some x->∃p,U[i]?=some p/\x=UE s.pl U i p/\x.isGone=false:=λi x g=>by
  rw[kq,aX]at g;cases hp:U[i]? with
  |none=>grind
  |some p=>
   rw[hp]at g;simp at g;refine⟨p,rfl,g.symm,?_⟩;subst g;obtain⟨y,I,l⟩:=hU.2 p (bD hp);have hi:=akE hU.1 hp;unfold UE;simp only[hi,vz,aG,I];cases y with
   |box cs=>rfl
   |arr z al fz=>cases fz<;>first|rfl|cases l
   |deep t=>rfl
   |fbox ds=>cases l
   |gone=>cases l
 have ad:∀i x,(u9 s.pl U 0 U)[i]?=some x->∃p y,U[i]?=some p/\aget s.pl p=some y/\y.live=true/\∀b,foot ι0 i x b↔foot ι p y b:=λi x g=>by
  obtain⟨p,I,l,e3⟩:=aa i x g;subst l;obtain⟨_,⟨y,g1,g2,g3⟩,_⟩:=km hr ae af I e3
  grind
 have hM:∀b,Handed ι0 (u9 s.pl U 0 U) b↔ ∃p∈U,∃x,aget s.pl p=some x/\foot ι p x b:=λb=>by
  constructor
  .rintro⟨i,x,h1,h2⟩<;>grind
  rintro⟨p,hp,y,ey,e⟩;obtain⟨i,hi,an⟩:=cU hp;have ag:U[i]?=some p:=d9
  have g:(u9 s.pl U 0 U)[i]?=some (UE s.pl U i p):=by rw[kq,ag,aX];rfl
  obtain⟨q,z,I,l,_,e3⟩:=ad i _ g;rw[ag]at I;cases I;rw[ey]at l;cases l;exact⟨i,UE s.pl U i p,g,(e3 b).2 e⟩
 have R:∀b,Handed ι0 (u9 s.pl U 0 U) b->Owns ι s.pl b:=λb hb=>by obtain⟨p,hp,y,ey,e⟩:=(hM b).1 hb;obtain⟨x,I,l⟩:=hU.2 p hp;rw[ey]at I;cases I;exact⟨p,y,ey,l,e⟩
 have ac:=h w (F.ok ι s.pl w) ι0 (args.toList.map a.eval) (λb hb=>⟨hb.2.1,λhh=>hb.2.2 (R b hh)⟩) ⟨λb hb=>(hr.mine b (R b hb)).2,hr.glb⟩
  (λi x g=>by
   obtain⟨p,I,l,e3⟩:=aa i x g;subst l;obtain⟨_,_,g1,g2⟩:=km hr ae af I e3
   grind)
  (λi j x y b g hy ai hb hj=>by
   obtain⟨p,x',I,e3,e4,e7⟩:=ad i x g;obtain⟨q,y',l,e5,e6,e8⟩:=ad j y hy;refine hr.inj p q x' y' b e3 e5 (λe=>ai ?_) e4 ((e7 b).1 hb) ((e8 b).1 hj)
   grind[List.getElem_inj])
  ak
 intro next Q hn;unfold de;have ah:(aY a.eval o).run P w=.ok (.enter f (args.toList.map a.eval).toArray) w:=by
  simp only[aY,ho,df,bT,Act.eval,aK,aP,aF,dD]
  grind[Zo,aez]
 rw[ah,dx];refine ac.mono ?_;rintro e w' ⟨v,r,rfl,hk,ab,hg⟩;cases J:Jq U (X0 o.dst U) r
 .have hk:cond (Jq U (X0 o.dst U) r) (K (ae1 s U (X0 o.dst U) o.dst r)) False:=hk;rw[J]at hk;exact hk.elim
 have hk:cond (Jq U (X0 o.dst U) r) (K (ae1 s U (X0 o.dst U) o.dst r)) False:=hk;rw[J]at hk;have aj:∀i,F.h (X0 o.dst U+i)=none:=λi=>hr.h_big (bO (axT o.dst U) (Nat.le_add_right _ _))
 rw[adP]at ab;obtain⟨ι',hrel⟩:=afM hr hd hU.2 aj hM (h0:=λ_=>none) ab hg J;exact hn ι' _ _ _ hrel hk
def Cop(P:Program)(o:Oper)(x:AOp):Prop:=∃b,Q6 P b o.op o.type=some x
theorem akt(hr:Rel F N ι s a w)(l:∀k,o.dst=some k->k<N){x:AOp}(J:Cop P o x)(h:zK P o.dst x s K):yO P F N o a w K:=by
 obtain⟨b,g⟩:=J;cases b
 .exact acT hr l g h
 simp only[Q6,aG]at g;unfold awE at g;split at g
 .grind[yF,atn]
 .grind[aqz]
 .rename_i t x lo hi r;split at g
  .rename_i e I;obtain⟨p,rfl⟩:=yF g;obtain⟨i,j⟩:=XG p;exact(avX hr l r I j h).fine trivial
  grind[acT]
 grind[acT]
end
theorem Act.put_same{a:Act}{d:Nat}{x:Value}(h:a.tmps[d]?=some x):a.put (some d) x=a:=by
 cases a with
 |mk tmps defers=>
  simp only[Act.put]at h⊢;congr 1
  grind
section
variable {P:Program}{F:Fr}{N:Nat}{ι:Nat->Gh}{s:S}{a:Act}{w:aC}{K:S->Prop}
theorem Rel.drop(hr:Rel F N ι s a w)(l:am Nat):Rel F N ι (s.drop l) a w:=
 hr.sub _ (λ_ _ h=>(QZ _ _ _ _ h).1) (λ_ _ h=>h)
theorem Rel.norm(hr:Rel F N ι s a w)(g:am Nat):Rel F N ι (s.norm g) a w:=
 hr.sub _ (λ_ _ h=>(QZ _ _ _ _ h).1) (λ_ _ h=>(QZ _ _ _ _ h).1)
theorem Rel.look(hr:Rel F N ι s a w){d:Nat}{v:V}(h:s.tmp d=v)(hv:v≠asj):∃x,a.tmps[d]?=some x/\VR ι w (F.ok ι s.pl w) v x:=by
 unfold S.tmp at h;split at h
 .rename_i v' g;subst h;exact hr.slots d _ g
 grind
theorem ako(hr:Rel F N ι s a w){d:Nat}{b:Bool}(h:s.tmp d=zZ b):a.tmps[d]?=some (.bool b):=by obtain⟨x,g,i⟩:=hr.look h (by intro h;cases h);rw[g];exact congrArg some i.1
theorem afG{v:V}{b:Bool}(h:yL v=some b):v=zZ b:=by
 unfold yL at h;split at h
 .cases h;rfl
 cases h
theorem XQ(hr:Rel F N ι s a w){dst:aD Nat}(l:∀k,dst=some k->k<N){g:Bool}(h:split g dst s K):∃j,Rel F N ι j a w/\K j:=by
 unfold split at h;cases g with
 |false=>grind
 |true=>
  simp only[aG]at h;cases dst with
  |none=>grind
  |some d=>
   simp only at h;cases i:yL (s.tmp d)with
   |none=>grind
   |some b=>
    rw[i]at h;have i:=afG i;have p:=ako hr i;have o:=hr.put (some d) l (zZ b) (.bool b) ⟨rfl,rfl⟩
    grind[Act.put_same]
theorem auo{o:Oper}(h:amt N o.dst=true):∀k,o.dst=some k->k<N:=by intro k hk;rw[hk]at h;exact aM h
theorem atE{ops:aB Oper}{j d:Nat}(h:ams ops.toList j=some d)(tmps:aB Value):cj ops tmps j=match tmps[d]? with|some (.bool b)=>some b|_=>none:=by grind[ams,cj]
theorem abY(hr:Rel F N ι s a w){ops:aB Oper}{o:Oper}{x:AOp}{g:aD (Nat×Bool)}(p:Yk ops.toList o.guard=some g)
 {r:Bool}{drop:am Nat}{rest:am AI}(h:yd P (.mk o.dst g r x drop::rest) s K):
 (aZ o (cj ops a.tmps)=true/\zK P o.dst x s λs1=>split r o.dst s1 λs2=>yd P rest (s2.drop drop) K)\/
 (aZ o (cj ops a.tmps)=false/\yd P rest ((s.put o.dst qO).drop drop) K):=by
 cases i:o.guard with
 |none=>
  grind[Yk,yd,xu,aZ]
 |some jw=>
  obtain⟨j,I⟩:=jw;rw[i]at p;simp only[Yk]at p;cases l:ams ops.toList j with
  |none=>grind
  |some d=>
   rw[l]at p;simp only[aE]at p;subst p;have J:=atE l a.tmps;simp only[yd]at h;split at h
   .rename_i b R;have U:=ako hr R;rw[U]at J;simp only at J
    cases b<;>cases I<;>simp only[cX,Bool.not_false,aG,aO,xu]at h<;>
     first
      |exact .inl ⟨by simp[aZ,i,J],h⟩
      |exact .inr ⟨by simp[aZ,i,J],h⟩
   .rename_i R;obtain⟨v,h1,h2⟩:=hr.look R (by intro h;cases h);obtain⟨vs,h3,h4⟩:=h2<;>grind[xu,aZ]
   grind
theorem af5(ι:Nat->Gh)(w:aC)(ok:Nat->Prop):VR ι w ok qO undef:=⟨[],rfl,trivial⟩
theorem am5{ops:aB Oper}{hs gs:am Nat}{Q:dg->Act->aC->Prop}(hQ:∀ι s a w,Rel F N ι s a w->K s->Q .normal a w):
 ∀(l:am Nat) (xs:am AI),Xr P N hs ops.toList gs l=some (xs.map bK)->∀(ι:Nat->Gh) (s:S) (a:Act) (w:aC),Rel F N ι s a w->yd P xs s K->wpOps P ops Q l a w:=by
 intro l;induction l with
 |nil=>
  intro xs j ι s a w hr h;cases xs with
  |nil=>exact hQ ι s a w hr h
  |cons x r=>grind[Xr]
 |cons i l ih=>
  intro xs j ι s a w hr h;simp only[Xr]at j;split at j
  case h_2=>cases j
  rename_i o ho;have U:ops[i]?=some o:=d9
  cases hd:amt N o.dst with
  |false=>grind
  |true=>
   rw[hd]at j;simp only[aG]at j;split at j
   case h_2=>cases j
   rename_i x g ys ac hg I;cases xs with
   |nil=>grind
   |cons y rest=>
    cases y with
    |mk d1 g1 ad ae drop=>
     simp only[aE,bU,bK,cD,AI.mk.injEq,and_true]at j;obtain⟨⟨rfl,rfl,rfl,rfl⟩,rfl⟩:=j;have p:=auo hd;simp only[wpOps,U];rcases abY hr hg h with⟨hw,J⟩|⟨hw,J⟩
     .rw[bG hw];refine .inl (akt hr p ⟨_,ac⟩ J _ _ λι1 s1 a1 w1 aa hk=>?_);obtain⟨s2,ab,R⟩:=XQ aa p hk;exact ih rest I ι1 _ a1 w1 (ab.drop drop) R
     rw[bV d9];exact ih rest I ι _ _ w ((hr.put o.dst p qO undef (af5 _ _ _)).drop drop) J
theorem Un(n:Nat):∀i,zY i n=List.range' i n:=by induction n<;>grind[zY,List.range'_succ]
end
theorem atD{P:Program}{Q:dg->Act->aC->Prop}{a:Act}{w:aC}{c:Code}{σ:Type}(I:σ->Act->aC->Prop)(μ:σ->Nat)(x₀:σ)(h₀:I x₀ a w)
 (round:∀x a w,I x a w->c.wp P (Exit.then (λo w'=>∃x',I x' o w'/\μ x'<μ x) Q) a w):(Code.loop c).wp P Q a w:=by
 intro b k cs
 have key:∀n x a w,μ x=n->I x a w->
  ∃e o w',Q e o w'/\Arrives P (lone (b.at a (.code c:: .inLoop c::k)) cs w) b k cs e o w':=by
  intro n;induction n using Nat.strongRecOn with
  |_ n ih=>
   intro x a w hn hI;obtain⟨e,p,r,i,g⟩:=round x a w hI b (.inLoop c::k) cs;cases e with
   |normal=>
    obtain⟨x₁,J,R⟩:=i;obtain⟨e₂,a₂,w₂,U,j⟩:=ih (μ x₁) (hn▸R) x₁ p r rfl J;exact⟨e₂,a₂,w₂,U,.of_steps (Steps.trans g (.one step_inLoop)) j⟩
   |exit id=>exact⟨_,p,r,i,.pass (x:=.inLoop c) rfl (λ_ _=>.inl dT) g⟩
   |goto l=>exact⟨_,p,r,i,.pass (x:=.inLoop c) rfl (λ_ _=>.inl dT) g⟩
   |ret=>exact⟨_,p,r,i,.pass (x:=.inLoop c) rfl (λ_ _=>.inl dT) g⟩
   |panic ch=>exact⟨_,p,r,i,.pass (x:=.inLoop c) rfl (λ_ _=>.inl dT) g⟩
   |outgrown=>exact⟨_,p,r,i,.pass (x:=.inLoop c) rfl (λ_ _=>.inl dT) g⟩
 obtain⟨e,o,w',i,g⟩:=key _ x₀ a w rfl h₀;exact⟨e,o,w',i,.of_steps (.one step_loop) g⟩
section
variable {P:Program}{F:Fr}{N:Nat}
def Vis(F:Fr)(N:Nat)(K:S->Prop)(a:Act)(w:aC):Prop:=∃ι s,Rel F N ι s a w/\K s
def up(F:Fr)(N:Nat)(Q:E->S->Prop):dg->Act->aC->Prop
 |.normal=>Vis F N (Q .normal)
 |.exit i=>Vis F N (Q (.exit i))
 |.ret=>Vis F N (Q .ret)
 |_=>λ_ _=>False
end
section
variable {P:Program}{F:Fr}{N:Nat}{ι:Nat->Gh}{s:S}{a:Act}{w:aC}{o:Oper}{K:S->Prop}
def Cw(x:AOp)(w w':aC):Prop:=x.reads=true->vP w w'
theorem zF.weak{C g:aC->Prop}(h:zF P F N o a w C K)(p:∀w',g w'->C w'):zF P F N o a w g K:=
 let⟨v,ι',I,i,j,l⟩:=h
 ⟨v,ι',I,λw' r=>i w' (p w' r),j,l⟩
theorem ar1(hr:Rel F N ι s a w)(r:∀k,o.dst=some k->k<N){x:AOp}(j:cOp P o.op o.type=some x)(I:x.quiet=true)(h:zK P o.dst x s K):zF P F N o a w (Cw x w) K:=by
 unfold cOp at j;split at j
 .rename_i y p;cases j;exact(kH hr r (.inl p) h).weak λ_ _=>trivial
 .rename_i y p;cases j;exact(kH hr r (.inr p) h).weak λ_ _=>trivial
 .rename_i c y z p;cases j;exact(aiI hr r p h).weak λ_ _=>trivial
 .cases j;cases I
 .cases j;cases I
 .rename_i t parts p;split at j
  .rename_i fs l hu hl;obtain⟨J,rfl⟩:=yF j;rw[aA]at J;exact(afX hr r p hu hl J.1 J.2 h).weak λ_ _=>trivial
  cases j
 .split at j
  .obtain⟨_,rfl⟩:=yF j;cases I
  cases j
 .rename_i t y p;split at j
  .rename_i g ht;cases j;exact(api hr r p ht h).weak λ_ J=>J rfl
  cases j
 .obtain⟨_,rfl⟩:=yF j;cases I
 .rename_i y p;cases j;exact(apl hr r p h).weak λ_ _=>trivial
 .rename_i aa dst y p;cases h1:qL P aa false&&qL P dst true
  .rw[h1]at j;cases h2:qL P aa true&&qL P dst false
   .rw[h2]at j;simp only[aO]at j;cases R:V2 P aa dst y with
    |none=>simp only[R]at j;cases j;exact(vL hr r (by rw[p];rfl) h).weak λ_ _=>trivial
    |some z=>simp only[R]at j;cases j;exact(aiG hr r p R h).2.weak λ_ _=>trivial
   rw[h2]at j;cases j;cases I
  rw[h1]at j;cases j;rw[aA]at h1;exact(alc hr r p h1.1 h1.2 h).weak λ_ J=>J rfl
 .obtain⟨_,rfl⟩:=yF j;cases I
 .split at j
  .split at j
   .obtain⟨_,rfl⟩:=yF j;cases I
   cases j
  cases j
 .rename_i t y lo hi mx p;split at j
  .rename_i hu;cases j;exact(alq hr r p hu h).weak λ_ _=>trivial
  .rename_i e hu;obtain⟨J,rfl⟩:=yF j;obtain⟨i,ac⟩:=XG J;exact(alp hr r p hu ac h).weak λ_ _=>trivial
  cases j
 .rename_i t y f p;split at j
  .rename_i off ft ht;obtain⟨J,rfl⟩:=yF j;exact(apg hr r p ht J h).weak λ_ _=>trivial
  cases j
 .rename_i t y f p;split at j
  .rename_i off ft ht;split at j
   .rename_i g hg;cases j;exact(ali hr r p ht hg h).weak λ_ _=>trivial
   cases j
  cases j
 .rename_i t y i p;split at j
  .rename_i e ht;obtain⟨J,rfl⟩:=yF j;exact(aph hr r p ht J h).weak λ_ _=>trivial
  cases j
 .rename_i t y i p;split at j
  .rename_i hu;cases j;exact(alo hr r p hu h).weak λ_ _=>trivial
  cases j
 .rename_i y i p;cases j;exact(alh hr r p h).weak λ_ _=>trivial
 .rename_i args ts p;split at j
  .rename_i y t U ab;split at j
   .rename_i e ht;cases j;exact(alk hr r p U ab ht h).weak λ_ _=>trivial
   cases R:K7 P t y with
   |none=>simp only[R]at j;cases j;exact(vL hr r (by rw[p];rfl) h).weak λ_ _=>trivial
   |some z=>simp only[R]at j;cases j;exact(aiK hr r p U ab R h).2.weak λ_ _=>trivial
  cases j
 .split at j
  .split at j
   .obtain⟨_,rfl⟩:=yF j;cases I
   .split at j
    .obtain⟨_,rfl⟩:=yF j;cases I
    cases j
   .obtain⟨_,rfl⟩:=yF j;cases I
   cases j
  cases j
 .cases j;cases I
 .cases j;cases I
 .rename_i b args ts h1 h2 p;cases hm:adD b args.toList with
  |some y=>simp only[hm]at j;cases j;exact(apk hr r p hm h).weak λ_ _=>trivial
  |none=>
   simp only[hm]at j;cases hb:U3 P b args.toList ts.toList with
   |some y=>simp only[hb]at j;cases j;rw[(aga hb).1]at I;cases I
   |none=>simp only[hb]at j;cases j;exact(vL hr r (by rw[p];rfl) h).weak λ_ _=>trivial
 .rename_i b t y z u p;cases hn:aar P b t z with
  |some neg=>simp only[hn]at j;cases j;exact(alj hr r p hn h).weak λ_ _=>trivial
  |none=>
  simp only[hn]at j;cases R:KU P b t y z with
  |some q=>simp only[R]at j;cases j;exact(alg hr r p R h).2.weak λ_ _=>trivial
  |none=>
  simp only[R]at j;cases h4:U2 P b t y z with
  |some q=>simp only[h4]at j;cases j;exact(ald hr r p h4 h).2.weak λ_ _=>trivial
  |none=>
  simp only[h4]at j;cases h1:abJ b&&aeL P t
  .rw[h1]at j;cases j;exact(vL hr r (by rw[p];rfl) h).weak λ_ _=>trivial
  rw[h1]at j;cases j;exact(ale hr r p h).weak λ_ _=>trivial
 .rename_i u t y p;cases h4:kI P u t y with
  |some q=>simp only[h4]at j;cases j;exact(apm hr r p h4 h).2.weak λ_ _=>trivial
  |none=>simp only[h4]at j;cases j;exact(vL hr r (by rw[p];rfl) h).weak λ_ _=>trivial
 .split at j<;>(cases j;cases I)
 .split at j
  .obtain⟨_,rfl⟩:=yF j;cases I
  cases j;cases I
 .cases j;cases I
 .cases j
 .split at j<;>(cases j;cases I)
 .rename_i t y z c p;split at j
  .rename_i ky g e hm;cases hz:jk P e
   .rw[hz]at j;cases j;cases I
   rw[hz]at j;cases j;exact(alm hr r p hm hz h).weak λ_ J=>J rfl
  cases j;cases I
 .split at j<;>(cases j;cases I)
 .split at j<;>(cases j;cases I)
 .rename_i y str p;cases str<;>(cases j;cases I)
 .cases j;cases I
 cases j;cases I
theorem awu{b:BinOp}{t:TypeId}{x y:bE}{z:AOp}(h:U2 P b t x y=some z):Yu z=false:=by unfold U2 at h;(repeat' split at h)<;>cases h<;>rfl
theorem aAR{b:UnOp}{t:TypeId}{x:bE}{z:AOp}(h:kI P b t x=some z):Yu z=false:=by unfold kI at h;(repeat' split at h)<;>cases h<;>rfl
theorem aul{s t:TypeId}{x:bE}{z:AOp}(h:V2 P s t x=some z):Yu z=false:=by unfold V2 at h;(repeat' split at h)<;>cases h<;>rfl
theorem axF{t:TypeId}{x:bE}{z:AOp}(h:K7 P t x=some z):Yu z=false:=by unfold K7 at h;(repeat' split at h)<;>cases h<;>rfl
theorem awS{b:BinOp}{t:TypeId}{x y:bE}{z:AOp}(h:KU P b t x y=some z):Yu z=false:=by unfold KU at h;(repeat' split at h)<;>cases h<;>rfl
theorem Zb{α:Type}{c:Bool}{p q r:α}(h:(bif c then p else q)=r):p=r\/q=r:=by
 cases c
 .exact .inr h
 exact .inl h
theorem ar2(hr:Rel F N ι s a w)(J:∀k,o.dst=some k->k<N){x:AOp}(g:cOp P o.op o.type=some x)(i:Yu x=true)(h:zK P o.dst x s K):ub P F N o a w K:=by
 unfold cOp at g;split at g
 case h_22=>rename_i f args ts l;cases g;exact aiE hr J l h
 case h_23=>rename_i y args ts l aa;cases g;exact aiF hr J aa h
 case h_24=>
  rename_i b args ts j I l;cases U:adD b args.toList with
  |some y=>
   simp only[U]at g;cases g;rcases adE U with⟨x1,y1,_,⟨_,rfl⟩|⟨_,rfl⟩⟩|⟨x1,y1,u1,_,⟨_,rfl⟩|⟨_,rfl⟩⟩<;>cases i
  |none=>
   simp only[U]at g;cases R:U3 P b args.toList ts.toList with
   |some y=>simp only[R]at g;cases g;rw[(aga R).2.1]at i;cases i
   |none=>simp only[R]at g;cases g;cases i
 case h_5=>rename_i t y l;cases g;exact apf hr J l h
 case h_7=>
  rename_i t n parts l;split at g
  .rename_i e ht;obtain⟨p,rfl⟩:=yF g;simp only[aA]at p;exact aiH hr J l ht p.1.1.1.1 p.1.1.1.2 p.1.1.2 p.1.2 p.2 h
  cases g
 case h_13=>
  rename_i t n c l;split at g
  .rename_i e ht;split at g
   .rename_i z ac hz;obtain⟨p,rfl⟩:=yF g;rw[aA]at p;exact apj hr J l ht hz p.1 p.2 h
   cases g
  cases g
 case h_11=>
  rename_i ab dst y l;rcases Zb g with j|j
  .cases j;cases i
  cases I:qL P ab true&&qL P dst false
  case true=>
   rw[I]at j;cases j;rw[aA]at I;exact aln hr J l I.1 I.2 h
  case false=>
   rw[I]at j;simp only[aO]at j;split at j
   .rename_i z r;cases j;rw[aul r]at i;cases i
   cases j;cases i
 case h_20=>
  (repeat' split at g)
  .cases g;cases i
  .rename_i r;cases g;rw[axF r]at i;cases i
  .cases g;cases i
  cases g
 case h_25=>
  (repeat' split at g)
  .cases g;cases i
  .rename_i r;cases g;rw[awS r]at i;cases i
  .rename_i r;cases g;rw[awu r]at i;cases i
  rcases Zb g with j|j<;>(cases j;cases i)
 case h_26=>
  (repeat' split at g)
  .rename_i r;cases g;rw[aAR r]at i;cases i
  cases g;cases i
 all_goals first
  |(cases g;done)
  |(rcases Zb g with j|j<;>(cases j;cases i);done)
  |(split at g<;>first|(cases g;cases i;done)|(rcases Zb g with j|j<;>(cases j;cases i);done))
  |(cases g;cases i;done)
  |(obtain⟨_,rfl⟩:=yF g;cases i;done)
  |(exfalso;repeat' split at g)<;>first|(cases g;done)|(cases g;cases i;done)|(obtain⟨_,rfl⟩:=yF g;cases i;done)|skip
end
section
variable {P:Program}{hs:am Nat}{ops:aB Oper}{Q:dg->Act->aC->Prop}
def ZM(P:Program)(hs:am Nat)(ops:aB Oper)(Q:dg->Act->aC->Prop):Nat->aB Bool->Act->aC->Prop
 |0,listed,a,w=>aQ .any ops listed=[]/\Q .normal a w
 |g+1,listed,a,w=>(aQ .any ops listed=[]->Q .normal a w)/\
  ∀i∈aQ .any ops listed,cz P ops Q i (λj w'=>(1<=clsAt P hs ops i->vP w w')/\ZM P hs ops Q g (listed.setIfInBounds i true) j w') a w
theorem ab8:∀(g:Nat) (listed:aB Bool) (a:Act) (w:aC),ZM P hs ops Q g listed a w->wpAny P .any ops Q g listed a w
 |0,_,_,_,h=>h
 |g+1,_,_,_,h=>⟨h.1,λi hi=>wpOp_mono (λ_ _ j=>ab8 g _ _ _ j.2) (h.2 i hi)⟩
def YC(P:Program)(ops:aB Oper)(C:aC->Prop)(o:Oper)(v:Value)(a:Act):Prop:=
 (aZ o (cj ops a.tmps)=true/\∀w,C w->(aY a.eval o).run P w=.ok (.value v) w)\/
 (aZ o (cj ops a.tmps)=false/\v=undef)
theorem YC.wpOp{C:aC->Prop}{i:Nat}{o:Oper}{v:Value}{a:Act}(hi:ops[i]?=some o)(j:YC P ops C o v a){K:Act->aC->Prop}{w:aC}(hC:C w)(h:K (a.put o.dst v) w):cz P ops Q i K a w:=by unfold Go.wpOp;simp only[hi];rcases j with⟨g,hv⟩|⟨g,rfl⟩<;>simp_all[de,cS]
theorem YC.of_same{C:aC->Prop}{o:Oper}{v:Value}{a g:Act}(l:YC P ops C o v a)(i:aY g.eval o=aY a.eval o)(j:aZ o (cj ops g.tmps)=aZ o (cj ops a.tmps)):YC P ops C o v g:=by grind[YC]
structure Apart(ops:aB Oper)(x y:Oper):Prop where
 h1:∀d,x.dst=some d->d∉y.looksAt ops
 h2:∀d,x.dst=some d->y.dst≠some d
 h3:∀d,y.dst=some d->d∉x.looksAt ops
theorem atC{C:aC->Prop}{j:Nat}{g l:Oper}{v:Value}(hj:ops[j]?=some l)(J:Apart ops g l)(R:∀cs b,g.op≠ .select cs b)(p:∀cs b,l.op≠ .select cs b)
 (hQ:∀c a w,¬Q (.panic c) a w) {K:Act->aC->Prop}{a:Act}{w:aC}(U:YC P ops C g v a) (h:cz P ops Q j K (a.put g.dst v) w):
 cz P ops Q j (λa' w'=>YC P ops C g v a'/\K (a'.put g.dst v) w') a w:=by
 obtain⟨I,h2,h3⟩:=J;have ab:∀(a:Act),YC P ops C g v a->∀u,YC P ops C g v (a.put l.dst u):=λa U u=>
  U.of_same (bY g R a l.dst u h3) (cM g a l.dst u h3)
 have aa:∀d,YC P ops C g v {a with defers:=d::a.defers}:=λd=>U.of_same rfl rfl
 unfold cz at*;simp only[hj]at*;rw[cM l a g.dst v I]at h;split
 .rename_i hw;simp only[hw,cL]at h;rcases h with h|⟨i,o⟩
  case inr=>exact .inr ⟨by unfold Oper.asks at*;rw[bY l p a g.dst v I]at i;exact i,o⟩
  refine .inl ?_;unfold de at*;rw[bY l p a g.dst v I]at h;generalize(aY a.eval l).run P w=r at*;cases r with
  |ok n w'=>
   cases n<;>simp only[cS]at h⊢
   case value u=>grind[aN]
   case skip=>grind[aN]
   case defer d=>
    grind[aN,_root_.Go.Act.put_defers]
   case enter f args=>
    grind[aN]
   grind[aN]
  |halt x w'=>
   cases x<;>grind[cS]
 grind[aN]
theorem aqC{j d:Nat}{g:Oper}{v:Value}(U:ops[j]?=some g)(p:d∉g.looksAt ops)(J:g.dst≠some d)(o:∀cs b,g.op≠ .select cs b)
 (hQ:∀c a w,¬Q (.panic c) a w) {K:Act->aC->Prop}{a:Act}{w:aC}(h:cz P ops Q j (λI w'=>K (I.put (some d) v) w') a w):cz P ops Q j K (a.put (some d) v) w:=by
 have p:∀e,some d=some e->e∉g.looksAt ops:=λe R=>d9
 have J:∀e,some d=some e->g.dst≠some e:=λe R=>d9
 unfold cz at*;simp only[U]at*;rw[cM g a (some d) v p];split
 .rename_i hw;simp only[hw,cL]at h;rcases h with h|⟨i,l⟩
  case inr=>exact .inr ⟨by unfold Oper.asks at*;rw[bY g o a (some d) v p];exact i,l⟩
  refine .inl ?_;unfold de at*;rw[bY g o a (some d) v p];generalize(aY a.eval g).run P w=r at*;cases r with
  |ok n w'=>
   cases n<;>simp only[cS]at h⊢
   case value u=>grind[aN]
   case skip=>grind[aN]
   case defer e=>
    grind[_root_.Go.Act.put_defers,aN]
   case enter f args=>
    grind[aN]
   grind[aN]
  |halt x w'=>
   cases x<;>grind[cS]
 grind[aN]
theorem Ky{C:aC->Prop}{i:Nat}{U:Oper}{v:Value}(hi:ops[i]?=some U)(I:∀(j:Nat) (o:Oper) cs b,ops[j]?=some o->o.op≠ .select cs b)
 (hQ:∀c a w,¬Q (.panic c) a w) (hC:∀w w',C w->vP w w'->C w')
 (T:am Nat) (hT:∀j∈T,∀J,ops[j]?=some J->∃e∈J.after,cd .any e=true/\(e.on=i\/e.on∈T)):
 ∀(g:Nat) (listed:aB Bool) (a:Act) (w:aC),C w->(∀j∈T,listed.getD j false=false)->
  (∀j J,ops[j]?=some J->j≠i->listed.getD j true=false->j∉T->Apart ops U J/\((∀w,C w)\/1<=clsAt P hs ops j))->
  i∈aQ .any ops listed->YC P ops C U v a->
  ZM P hs ops Q g (listed.setIfInBounds i true) (a.put U.dst v) w->ZM P hs ops Q (g+1) listed a w:=by
 intro g;induction g with
 |zero=>
  intro listed a w hw _ _ hr hy H;refine⟨λh=> d9,λj hj=>?_⟩;by_cases l:j=i
  .subst l;exact hy.wpOp hi hw ⟨λ_=>vP.refl w,H⟩
  have:=du hj l;rw[H.1]at this;cases this
 |succ g ih=>
  intro listed a w hw aj p hr hy H;refine⟨λh=> d9,λj hj=>?_⟩;by_cases l:j=i
  .subst l;exact hy.wpOp hi hw ⟨λ_=>vP.refl w,H⟩
  have h1:=H.2 j (du hj l);obtain⟨ab,J,R,ah⟩:=bS.1 hj;have ai:listed.getD i false=false:=by have h0:=(bS.1 hr).1<;>grind
  have hjT:j∉T:=λhjT=>d9
  obtain⟨ad,ak⟩:=p j J R l ab hjT;have h2:=atC R ad (λcs b=>I i U cs b hi) (λcs b=>I j J cs b R) hQ hy h1;have r:∀k ok,ops[k]?=some ok->k≠i->(listed.setIfInBounds j true).getD k true=false->k∉T->Apart ops U ok/\((∀w,C w)\/1<=clsAt P hs ops k):=λk ok hk af ac ag=>by
   refine p k ok hk af ?_ ag;by_cases ae:j=k
   .grind
   rw[getD_set_ne true ae]at ac;exact ac
  have aa:∀k∈T,(listed.setIfInBounds j true).getD k false=false:=λk hk=>by rw[getD_set_ne false (λe=>hjT d9)];grind
  refine wpOp_mono (λa' w' h3=>⟨h3.2.1,ih (listed.setIfInBounds j true) a' w' ?_ aa r (du hr (Ne.symm l)) h3.1 ?_⟩) h2
  .grind
  grind[Array.setIfInBounds_comm]
end
section
variable {P:Program}{F F':Fr}{N:Nat}{ι:Nat->Gh}{s:S}{a:Act}{w:aC}
structure Under(F F':Fr)(b:Nat):Prop where
 A:∀x,F'.A x->(F.A x\/F.M x\/F.w0.heap.size<=x)/\x≠b
 M:∀x,F'.M x->(F.M x\/F.w0.heap.size<=x)/\x≠b
 g:Grows F.M F.w0 F'.w0
 h:F'.h=F.h
 b1:F.w0.heap.size<=b
 b2:b<F'.w0.heap.size
theorem Rel.hide(hr:Rel F N ι s a w){I:aC}(l:Grows (λ_=>False) w I)(hb:w.heap.size<I.heap.size):
 ∃F',Under F F' w.heap.size/\F'.w0=I/\Rel F' N ι s a I:=by
 have P:=hr.grown l
 let F':Fr:=⟨I,λx=>F.ok ι s.pl I x/\x≠w.heap.size,Owns ι s.pl,F.h⟩
 have g:zR w I (F.ok ι s.pl w) (F'.ok ι s.pl I):=λx i=>
  ⟨⟨.inl ⟨⟨i.1,aS i.2.1 l.size,i.2.2⟩,by have:=i.2.1;omega⟩,aS i.2.1 l.size,i.2.2⟩,l.block x i.2.1 (λh=>h)⟩
 have aa:=z7.of_grows l;refine⟨F',⟨λx i=>⟨i.1.1,i.2⟩,λx i=>⟨(hr.mine x i).1,by have:=(hr.mine x i).2;omega⟩,P.grows,rfl,hr.grows.size,hb⟩,rfl,?_⟩;refine⟨hr.room,λk v hv=>?_,λp x i=>?_,hr.inj,λx i=>⟨.inl i,(P.mine x i).2⟩,hr.defers,dH _ _,λx i=>⟨i.1.2.1,i.1.2.2⟩,⟨λx i=>(P.mine x i).2,hr.glb.mono (λx i=>⟨⟨i.1,aS i.2.1 l.size,i.2.2⟩,by have:=i.2.1;omega⟩) (λx i=>l.block x i.2.1 (λh=>h))⟩,hr.few,hr.hdom,hr.hkeep⟩
 .obtain⟨x,J,r⟩:=hr.slots k v hv;exact⟨x,J,VR.keep g aa v x r⟩
 have h:=hr.places p x i;cases x with
 |fbox ds=>obtain⟨b,J,r,R⟩:=h;exact⟨b,J,(g b r).1,dG g b r _ _ R⟩
 |gone=>exact h.elim
 |deep t=>exact⟨h.1,RT.keep g t _ _ (λb hb=>l.block b (RT.lt t _ _ h.2 b hb) (λh=>h)) h.2⟩
 |box cs=>obtain⟨b,o,J,⟨t,r⟩,R⟩:=h;exact⟨b,o,J,⟨t,by rw[l.block b (RowAt.lt ⟨t,r⟩) (λh=>h)];exact r⟩,CRs.keep g aa _ _ R⟩
 |arr sz ab fz=>
  obtain⟨h0,hn,h|⟨b,J,r,R,e4⟩⟩:=h
  .exact⟨h0,hn,.inl h⟩
  have U:b<w.heap.size:=by
   cases fz
   .obtain⟨o,e5,_⟩:=e4 rfl;exact e5.lt
   exact(R rfl).2.1
  refine⟨h0,hn,.inr ⟨b,J,cR g b sz ab 0 (λj _ _=>cell_of_heap (l.block b U (λh=>h)) j) r,λhf=>(g b (R hf)).1,λhf=>?_⟩⟩;obtain⟨o,⟨t,e5⟩,e6⟩:=e4 hf;exact⟨o,⟨t,by rw[l.block b U (λh=>h)];exact e5⟩,e6⟩
theorem Rel.unhide{b:Nat}(hr:Rel F' N ι s a w)(l:Under F F' b)(hf:∀x,F.A x->x<F.w0.heap.size/\¬F.M x)(hh:(∀x,F.M x->x<F.w0.heap.size)/\Glb F.A F.w0){ac:aB Value}(ak:RowAt F'.w0 b ac)
 {cs:am C}(an:∀ι w ok,CRs ι w ok cs ac.toList) {d:Nat}(hd:d<N):
 Rel F N (wV ι d ⟨some b,0,.nilFunc,[]⟩) ((s.place d (.box cs)).put (some d) (cV (.ptr d 0))) (a.put (some d) (.pointer (some ⟨b,0,none⟩))) w:=by
 let ι':=wV ι d ⟨some b,0,.nilFunc,[]⟩
 have ah:¬F'.M b:=λh=>(l.M b h).2 rfl
 have ag:RowAt w b ac:=by obtain⟨t,h⟩:=ak;exact⟨t,by rw[hr.grows.block b l.b2 ah];exact h⟩
 have ae:∀x,F'.ok ι s.pl w x->x≠b:=by
  intro x i he;subst he;rcases i.1 with h|h|h
  .exact(l.A _ h).2 rfl
  .exact(l.M _ h).2 rfl
  have:=l.b2;omega
 have P:¬Owns ι s.pl b:=by
  intro h;rcases(hr.mine b h).1 with h|h
  .exact ah h
  have:=l.b2;omega
 have ab:ι' d=⟨some b,0,.nilFunc,[]⟩:=zO _ _ _;have r:∀p,isin p [d]=false->ι' p=ι p:=λp o=>qZ ι _ (JY o)
 have I:∀p x,aget (s.place d (.box cs)).pl p=some x->(p=d/\x=.box cs)\/(p≠d/\∃y,aget s.pl p=some y/\x=y.kill [d]):=by
  intro p x i;unfold S.place at i;rw[S.redo_pl]at i;simp only[yg]at i;by_cases af:d=p
  .subst af;simp only[cL,aE]at i;exact .inl ⟨rfl,i.symm⟩
  rw[bV af]at i;simp only[aget]at i;split at i
  .cases o:aget s.pl p with
   |none=>rw[o]at i;cases i
   |some y=>rw[o]at i;simp at i;exact .inr ⟨λe=>af e.symm,y,rfl,i.symm⟩
  cases i
 have j:∀p,p≠d->isin p [d]=false:=λp o=>by
  cases h:isin p [d]with
  |false=>rfl
  |true=>have:=(yl p [d]).1 h;simp at this;exact absurd this o
 have ad:∀x,Owns ι' (s.place d (.box cs)).pl x->x=b\/Owns ι s.pl x:=by
  rintro x ⟨p,y,h1,h2,h3⟩;rcases I p y h1 with⟨rfl,rfl⟩|⟨o,z,hz,rfl⟩
  .simp only[foot,ab]at h3;cases h3;exact .inl rfl
  rw[qx,xX (r p (j p o))]at h3;rw[bL]at h2;exact .inr ⟨p,z,hz,h2,h3⟩
 have U:zR w w (F'.ok ι s.pl w) (F.ok ι' (s.place d (.box cs)).pl w):=by
  intro x i;refine⟨⟨?_,i.2.1,λho=>?_⟩,rfl⟩
  .rcases i.1 with h|h|h
   .exact(l.A x h).1
   .exact(l.M x h).1.elim (λh=>.inr (.inl h)) (λh=>.inr (.inr h))
   exact .inr (.inr (bO l.g.size h))
  rcases ad x ho with h|h
  .exact ae x i h
  exact i.2.2 h
 have hrel:Rel F N ι' (s.place d (.box cs)) a w:=by
  refine⟨by rw[<-l.h];exact hr.room,λk v hv=>?_,λp x i=>?_,?_,?_,hr.defers,?_,hf,hh,hr.few,by rw[<-l.h];exact hr.hdom,λp x g i hg=>?_⟩
  rotate_left 5
  .rw[<-l.h]at hg;rcases I p x i with⟨rfl,_⟩|⟨o,z,hz,_⟩
   .rw[hr.h_slot hd]at hg;cases hg
   rw[r p (j p o)];exact hr.hkeep p z g hz hg
  .unfold S.place at hv;rw[S.redo_sl]at hv;cases hk:aget s.sl k with
   |none=>rw[hk]at hv;cases hv
   |some u=>
    rw[hk]at hv;simp at hv;subst hv;obtain⟨x,e1,e2⟩:=hr.slots k u hk;exact⟨x,e1,VR.kill U (z7.refl w) (λp o=>di (r p o)) u x e2⟩
  .rcases I p x i with⟨rfl,rfl⟩|⟨o,z,hz,rfl⟩
   .exact⟨b,ac,by rw[ab],ag,an _ _ _⟩
   exact PR.kill U (z7.refl w) (λp o=>di (r p o)) p (r p (j p o)) z (λ_ _ _=>rfl) (hr.places p z hz)
  .intro p q x y b' i hy ai hl R J;rcases I p x i with⟨rfl,rfl⟩|⟨o,z,hz,rfl⟩<;>rcases I q y hy with⟨rfl,rfl⟩|⟨aj,u,aa,rfl⟩
   .exact ai rfl
   .simp only[foot,ab]at R;cases R;rw[qx,xX (r q (j q aj))]at J;have h:=hr.places q u aa;cases u with
    |box cs=>exact P ⟨q,_,aa,rfl,J⟩
    |deep t=>exact P ⟨q,_,aa,rfl,J⟩
    |fbox ds=>have J:(ι q).b=some b:=J;obtain⟨al,e1,e2,_⟩:=h;rw[J]at e1;cases e1;exact ae _ e2 rfl
    |gone=>exact h.elim
    |arr z ao fz=>cases fz with
     |false=>exact P ⟨q,_,aa,rfl,J⟩
     |true=>
      have J:(ι q).b=some b:=J;obtain⟨_,_,h|⟨al,e1,_,e3,_⟩⟩:=h
      .rw[J]at h;cases h.1
      rw[J]at e1;cases e1;exact ae _ (e3 rfl) rfl
   .simp only[foot,ab]at J;cases J;rw[qx,xX (r p (j p o))]at R;rw[bL]at hl;exact P ⟨p,z,hz,hl,R⟩
   rw[qx,xX (r p (j p o))]at R;rw[qx,xX (r q (j q aj))]at J;rw[bL]at hl;exact hr.inj p q z u b' hz aa ai hl R J
  .intro x i;rcases ad x i with rfl|h
   .exact⟨.inr l.b1,aS l.b2 hr.grows.size⟩
   refine⟨?_,(hr.mine x h).2⟩;rcases(hr.mine x h).1 with h|h
   .exact(l.M x h).1
   exact .inr (bO l.g.size h)
  refine⟨hr.grows.os.trans l.g.os,hr.grows.tape.trans l.g.tape,hr.grows.output.trans l.g.output,bO l.g.size hr.grows.size,λx i hm=>?_,λc t m h=>hr.grows.shapes c t m (l.g.shapes c t m h)⟩;rw[hr.grows.block x (aS i l.g.size) (λh=>(l.M x h).1.elim hm (λh=>d8))];exact l.g.block x i hm
 exact hrel.put (some d) (λk hk=>by cases hk;exact hd) _ _ ⟨b,by rw[ab],rfl⟩
theorem amY{o:Oper}{cs:am C}(g:cOp P o.op o.type=some (.alloc cs)):∃t,o.op=.alloc t/\cs=(qo P t).cells:=by
 unfold cOp at g;split at g
 case h_4=>rename_i t r;cases g;exact⟨t,r,rfl⟩
 case h_24=>
  rename_i b args I i U r;cases p:adD b args.toList with
  |some y=>
   simp only[p]at g;cases g;rcases adE p with⟨J,R,_,⟨_,h⟩|⟨_,h⟩⟩|⟨J,R,u1,_,⟨_,h⟩|⟨_,h⟩⟩<;>cases h
  |none=>
   simp only[p]at g;cases l:U3 P b args.toList I.toList with
   |some y=>simp only[l]at g;cases g;exact absurd rfl ((aga l).2.2 cs)
   |none=>simp only[l]at g;cases g
 case h_11=>
  rcases Zb g with i|i
  .cases i
  rcases Zb i with i|i
  .cases i
  split at i
  .rename_i z j;cases i;unfold V2 at j;(repeat' split at j)<;>cases j
  cases i
 case h_20=>
  (repeat' split at g)
  .cases g
  .rename_i j;cases g;unfold K7 at j;(repeat' split at j)<;>cases j
  .cases g
  cases g
 case h_25=>
  (repeat' split at g)
  .cases g
  .rename_i j;cases g;unfold KU at j;(repeat' split at j)<;>cases j
  .rename_i j;cases g;unfold U2 at j;(repeat' split at j)<;>cases j
  rcases Zb g with i|i<;>cases i
 case h_26=>
  (repeat' split at g)
  .rename_i j;cases g;unfold kI at j;(repeat' split at j)<;>cases j
  cases g
 all_goals first
  |(cases g;done)
  |(rcases Zb g with i|i<;>(cases i;done);done)
  |(split at g<;>first|(cases g;done)|(rcases Zb g with i|i<;>(cases i;done);done))
  |(obtain⟨_,h⟩:=yF g;cases h;done)
  |((repeat' split at g)<;>first|(cases g;done)|(obtain⟨_,h⟩:=yF g;cases h;done))
theorem atZ{o:Oper}{cs:am C}(p:cOp P o.op o.type=some (.alloc cs))(hs:solid cs=true):
 ∃t g,(∀ι w ok,CRs ι w ok cs (g:aB Value).toList)/\∀(a:Act) (w:aC),(aY a.eval o).run P w=.ok (.value (.pointer (some ⟨w.heap.size,0,none⟩))) (w.alloc (.cells g t)):=by
 obtain⟨t,l,rfl⟩:=amY p;unfold qo at hs⊢;cases hi:P.info? t with
 |none=>simp only[hi]at hs;cases hs
 |some i=>
  simp only[hi]at hs⊢;cases j:i.zero with
  |none=>simp only[j]at hs;cases hs
  |some v=>
   simp only[j]at hs⊢;rw[X1 hs];exact⟨t,v.cells,λι w ok=>YV ι w ok v.cells.toList,λa w=>by simp[aY,l,Instr.alloc,dI,typeInfo,hi,j,newVar,newRow]⟩
theorem Grows.alloc(w:aC)(g:aB Value)(t:TypeId):Grows (λ_=>False) w (w.alloc (.cells g t)):=by have h:=NewRow.alloc w g t;exact⟨h.os,h.tape,h.output,by rw[h.size];omega,λb i _=>h.old i,h.shapes⟩
end
theorem aa7{α:Type}{f:α->Bool}:∀{l:am α},ai2 f l=true↔ ∃x∈l,f x=true
 |[]=>by simp[ai2]
 |x::r=>by
  simp only[ai2,aI];cases h:f x
  .rw[aO,aa7];constructor
   .rintro⟨y,i,g⟩;exact⟨y,.inr i,g⟩
   rintro⟨y,rfl|i,g⟩
   .rw[h]at g;cases g
   exact⟨y,i,g⟩
  rw[aG];exact⟨λ_=>⟨x,.inl rfl,h⟩,λ_=>rfl⟩
theorem ul{α:Type}{f:α->Bool}:∀{l:am α},ZX f l=true↔ ∀x∈l,f x=true
 |[]=>by simp[ZX]
 |x::r=>by
  simp only[ZX,aI];cases h:f x
  .rw[aO];exact⟨λg=>(by cases g),λg=>(by have j:=g x (.inl rfl);rw[h]at j;cases j)⟩
  rw[aG,ul];constructor
  .rintro g y (rfl|i)
   .exact h
   exact g y i
  exact λg y i=>g y (.inr i)
theorem ado{j i:Nat}{r:am Nat}(h:j≠i):isin j (i::r)=isin j r:=by grind[yl]
theorem uA{n:Nat}{l:am Nat}:isin n l=false↔n∉l:=by grind[yl]
section
variable {P:Program}{hs:am Nat}{ops:aB Oper}
theorem asa{o:Oper}{x:AOp}(g:cOp P o.op o.type=some x)(h:JK P o=1\/JK P o=2):x.quiet=true/\(JK P o=1->x.reads=false):=by grind[JK]
theorem aue{o:Oper}{x:AOp}(g:cOp P o.op o.type=some x)(h:JK P o=3):Yu x=true:=by grind[JK]
theorem ahB{o:Oper}(h:JK P o=4):∃cs d,cOp P o.op o.type=some (.alloc cs)/\solid cs=true/\o.guard=none/\o.dst=some d:=by
 unfold JK at h;cases U:cOp P o.op o.type with
 |none=>grind
 |some x=>
  rw[U]at h;simp only at h;cases R:x.quiet<;>rw[R]at h
  .cases r:Yu x<;>rw[r]at h
   .cases i:adm o x<;>rw[i]at h
    .cases h
    unfold adm at i;split at i
    .rename_i cs;simp only[aA,aU]at i;obtain⟨⟨l,j⟩,p⟩:=i;obtain⟨d,I⟩:=XG p;refine⟨cs,d,rfl,l,?_,I⟩;cases J:o.guard with
     |none=>rfl
     |some g=>rw[J]at j;cases j
    cases i
   cases h
  grind
theorem azN(o:Oper):JK P o<=4:=by grind[JK]
theorem XF{i:Nat}{o:Oper}(j:ops[i]?=some o):(isin i hs=true/\clsAt P hs ops i=0)\/(isin i hs=false/\clsAt P hs ops i=JK P o)\/(isin i hs=false/\clsAt P hs ops i=3/\JK P o=4):=by
 unfold clsAt;cases isin i hs
 .cases g:(bC (JK P o) 4&&isin 999999 hs)
  .grind
  simp_all
 grind
theorem jv{i:Nat}{o:Oper}(p:ops[i]?=some o){x:AOp}(j:Q6 P (isin i hs) o.op o.type=some x)(h:clsAt P hs ops i=1\/clsAt P hs ops i=2):
 cOp P o.op o.type=some x/\x.quiet=true/\(clsAt P hs ops i=1->x.reads=false):=by
 rcases XF (P:=P) (hs:=hs) p with⟨_,g⟩|⟨g,l⟩|⟨_,g,_⟩
 .grind
 .rw[g]at j;rw[l]at h⊢;exact⟨j,asa j h⟩
 grind
theorem awH{i:Nat}{o:Oper}(p:ops[i]?=some o){x:AOp}(g:Q6 P (isin i hs) o.op o.type=some x)(h:clsAt P hs ops i=3):cOp P o.op o.type=some x/\(Yu x=true\/∃cs,x=.alloc cs):=by
 rcases XF (P:=P) (hs:=hs) p with⟨_,j⟩|⟨j,l⟩|⟨j,_,l⟩
 .grind
 .rw[j]at g;rw[l]at h;exact⟨g,.inl (aue g h)⟩
 rw[j]at g;obtain⟨cs,d,r,_⟩:=ahB l;have g:cOp P o.op o.type=some x:=g
 grind
theorem aud{i:Nat}{o:Oper}(j:ops[i]?=some o)(h:clsAt P hs ops i=4):∃cs d,cOp P o.op o.type=some (.alloc cs)/\solid cs=true/\o.guard=none/\o.dst=some d:=by
 rcases XF (P:=P) (hs:=hs) j with⟨_,g⟩|⟨_,l⟩|⟨_,g,_⟩
 .grind
 .grind[ahB]
 grind
theorem ahC{i:Nat}{o:Oper}(j:ops[i]?=some o):clsAt P hs ops i<=4:=by
 rcases XF (P:=P) (hs:=hs) j with⟨_,g⟩|⟨_,l⟩|⟨_,g,_⟩
 .simp_all
 .grind[azN]
 grind
theorem Qx{N:Nat}{gs:am Nat}{i:Nat}{l:am Nat}{xs:am AI}(j:Xr P N hs ops.toList gs (i::l)=some (xs.map bK)):
 ∃o x g drop rest,xs=.mk o.dst g (isin i gs) x drop::rest/\ops[i]?=some o/\(∀k,o.dst=some k->k<N)/\Q6 P (isin i hs) o.op o.type=some x/\Yk ops.toList o.guard=some g/\
  Xr P N hs ops.toList gs l=some (rest.map bK):=by
 simp only[Xr]at j;split at j
 case h_2=>cases j
 rename_i o ho;have I:ops[i]?=some o:=d9
 cases r:amt N o.dst with
 |false=>grind
 |true=>
  rw[r]at j;simp only[aG]at j;split at j
  case h_2=>cases j
  rename_i x g ys J hg R;cases xs with
  |nil=>grind
  |cons y rest=>
   cases y with
   |mk d1 g1 p U drop=>
    simp only[aE,bU,bK,cD,AI.mk.injEq,and_true]at j;obtain⟨⟨rfl,rfl,rfl,rfl⟩,rfl⟩:=j
    grind[auo]
theorem anh{N:Nat}{gs:am Nat}:∀{l:am Nat}{xs:am AI},Xr P N hs ops.toList gs l=some (xs.map bK)->∀i∈l,∃o x,ops[i]?=some o/\Q6 P (isin i hs) o.op o.type=some x
 |[],_,_,i,hi=>by cases hi
 |j::l,xs,h,i,hi=>by
  obtain⟨o,x,g,drop,rest,rfl,p,J,r,R,I⟩:=Qx h;rcases aI.1 hi with rfl|hi
  .exact⟨o,x,p,r⟩
  exact anh I i hi
def j9(ops:aB Oper)(listed:aB Bool)(rest:am Nat)(hid:Nat->Bool):Prop:=
 listed.size=ops.size/\∀j,j<ops.size->listed[j]?=some (!isin j rest||hid j)
theorem j9.step{listed:aB Bool}{i:Nat}{r:am Nat}{hid:Nat->Bool}(h:j9 ops listed (i::r) hid)(hi:i∉r):j9 ops (listed.setIfInBounds i true) r hid:=by
 refine⟨by simp[h.1],λj g=>?_⟩;rw[aB.getElem?_setIfInBounds];split
 .rename_i e;subst e;rw[bG (by rw[h.1];exact g),uA.2 hi];rfl
 rename_i l;rw[h.2 j g];simp_all[ado,Ne.symm]
theorem j9.hide{listed:aB Bool}{k:Nat}{rest:am Nat}(h:j9 ops listed rest (λ_=>false)):j9 ops (listed.setIfInBounds k true) rest (λj=>bC j k):=by
 refine⟨by simp[h.1],λj g=>?_⟩;rw[aB.getElem?_setIfInBounds];split
 .rename_i e;subst e;rw[bG (by rw[h.1];exact g)];simp
 rename_i i;rw[h.2 j g];simp_all[Ne.symm]
theorem j9.show{listed:aB Bool}{k:Nat}{r:am Nat}(h:j9 ops listed (k::r) (λj=>bC j k))(hk:k∉r):j9 ops listed r (λ_=>false):=by
 refine⟨h.1,λj i=>?_⟩;rw[h.2 j i];by_cases g:j=k
 .subst g;rw[uA.2 hk];simp
 grind[xD,ado]
theorem j9.ready_in{listed:aB Bool}{rest:am Nat}{hid:Nat->Bool}(h:j9 ops listed rest hid){j:Nat}(i:j∈aQ .any ops listed):j∈rest/\hid j=false:=by obtain⟨h0,o,l,_⟩:=bS.1 i;have g:j<ops.size:=(aB.getElem?_eq_some_iff.1 l).1;have:=h.2 j g<;>simp_all[yl]
theorem j9.unlisted{listed:aB Bool}{rest:am Nat}{hid:Nat->Bool}(h:j9 ops listed rest hid){j:Nat}(i:listed.getD j false=true)(hr:j∈rest):hid j=true:=by
 rw[aL]at i;cases l:listed[j]? with
 |none=>grind
 |some b=>
  have g:j<ops.size:=by rw[<-h.1];grind
  rw[h.2 j g,(yl _ _).2 hr]at i
  grind
theorem go{listed:aB Bool}{j:Nat}(p:j∈aQ .any ops listed){f:Nat->Bool}(g:waitsFor ops j f=true):∃n,f n=true/\listed.getD n false=true:=by
 obtain⟨_,o,r,i⟩:=bS.1 p;unfold waitsFor at g;rw[r]at g;obtain⟨e,I,l⟩:=aa7.1 g;rw[aA]at l
 grind
theorem anu(i:Nat):∀(r T:am Nat),∀j∈depsL P hs ops i r T,j∈T\/(j∈r/\clsAt P hs ops j≠4)
 |[],_,_,g=>.inl g
 |m::r,T,j,g=>by
  simp only[depsL]at g;rcases anu i r _ j g with h|h
  .cases l:(!Nat.beq (clsAt P hs ops m) 4&&waitsFor ops m (λn=>bC n i||isin n T))with
   |false=>grind
   |true=>
    rw[l]at h;rw[aA]at l;rcases aI.1 h with rfl|h
    .exact .inr ⟨bR,λe=>dW⟩
    grind
  grind
theorem abg(i:Nat):∀(r T:am Nat),(∀j∈T,∃f:Nat->Bool,waitsFor ops j f=true/\∀n,f n=true->n=i\/n∈T)->∀j∈depsL P hs ops i r T,∃f:Nat->Bool,waitsFor ops j f=true/\∀n,f n=true->n=i\/n∈depsL P hs ops i r T
 |[],_,h,j,g=>h j g
 |m::r,T,h,j,g=>by
  simp only[depsL]at g⊢;cases l:(!Nat.beq (clsAt P hs ops m) 4&&waitsFor ops m (λn=>bC n i||isin n T))with
  |false=>rw[l]at g;exact abg i r T h j g
  |true=>
   rw[l]at g;refine abg i r (m::T) ?_ j g;intro k hk;rcases aI.1 hk with rfl|hk
   .rw[aA]at l;refine⟨_,l.2,λn o=>?_⟩;rw[cC]at o
    grind[aV,yl]
   grind
theorem atB{j:Nat}{i:Oper}(g:ops[j]?=some i){f:Nat->Bool}(h:waitsFor ops j f=true):∃e∈i.after,cd .any e=true/\f e.on=true:=by
 unfold waitsFor at h;rw[g]at h;obtain⟨e,o,l⟩:=aa7.1 h;rw[aA]at l
 grind
theorem ac8(i:Nat)(r:am Nat):∀j∈depsL P hs ops i r [],∀g,ops[j]?=some g->∃e∈g.after,cd .any e=true/\(e.on=i\/e.on∈depsL P hs ops i r []):=by grind[abg,atB]
structure Front(P:Program)(hs:am Nat)(ops:aB Oper)(o:Oper)(i:Nat)(r:am Nat):Prop where
 nin:i∉r
 pre:∀e∈o.after,cd .any e=true->e.on<ops.size/\e.on∉i::r
 sep:∀j∈r,clsAt P hs ops j=4->∀d,dstOf ops j=some d->d∉o.looksAt ops/\o.dst≠some d
 quiet:(clsAt P hs ops i=1\/clsAt P hs ops i=2)->∀j∈r,j∈depsL P hs ops i r []\/∀oj,ops[j]?=some oj->Apart ops o oj/\(clsAt P hs ops i=1\/1<=clsAt P hs ops j)
 heavy:¬(clsAt P hs ops i=1\/clsAt P hs ops i=2)->∀j∈r,clsAt P hs ops j=4\/waitsFor ops j (λn=>isin n (i::r)&&(bC n i||!Nat.beq (clsAt P hs ops n) 4))=true
theorem aek{d:Tmp}{o:Oper}(h:ath ops (some d) o=true):d∉o.looksAt ops/\o.dst≠some d:=by
 simp only[ath,aA,aU]at h;refine⟨uA.1 h.1,λg=>?_⟩
 grind[vz]
theorem apL{x y:Oper}(h:am0 ops x y=true):Apart ops x y:=by
 unfold am0 at h;rw[aA]at h;refine⟨λd g=>?_,λd g=>?_,λd g=>?_⟩
 .grind[aek]
 .rw[g]at h;exact(aek h.1).2
 rw[g]at h;simpa using uA.1 d9
theorem ahO{i:Nat}{r:am Nat}{o:Oper}(ho:ops[i]?=some o)(h:KZ P hs ops i r=true):Front P hs ops o i r:=by
 unfold KZ at h;rw[ho]at h;simp only[aA,aU]at h;obtain⟨⟨⟨I,J⟩,R⟩,p⟩:=h;refine⟨uA.1 I,λe U g=>?_,λj l hc d hd=>?_,λhq j l=>?_,λhq j l=>?_⟩
 .have:=ul.1 J e (bX.2 U);rw[g]at this;simp only[cX,cY,aA,aU]at this;exact⟨aM this.1,uA.1 this.2⟩
 .have:=ul.1 R j l<;>grind[vz,aek]
 .have g:(bC (clsAt P hs ops i) 1||bC (clsAt P hs ops i) 2)=true:=dW
  rw[g,aG]at p;have:=ul.1 p j l;rw[cC]at this;refine this.imp (yl _ _).1 λh5 oj aa=>?_
  simp_all[aqM,apL]
 have g:(bC (clsAt P hs ops i) 1||bC (clsAt P hs ops i) 2)=false:=by grind[xD]
 rw[g,aO]at p;have:=ul.1 p j l<;>simp_all
theorem asP{i:Nat}{r:am Nat}(h:abC P hs ops (i::r)=true):KZ P hs ops i r=true/\abC P hs ops r=true:=by grind[abC]
theorem anC:∀{l:am Nat},V3 P hs ops l=true->∀j k,j∈l->k∈l->clsAt P hs ops j=4->clsAt P hs ops k=4->j=k
 |[],_,j,k,g,_,_,_=>by cases g
 |i::r,h,j,k,g,hk,p,I=>by
  simp only[V3]at h;cases hi:bC (clsAt P hs ops i) 4 with
  |true=>
   rw[hi,aG]at h;have none:∀m∈r,clsAt P hs ops m≠4:=λm R J=>by have:=ul.1 h m R<;>simp_all
   grind
  |false=>
   rw[hi,aO]at h;have o:clsAt P hs ops i≠4:=λJ=>dW
   rcases aI.1 g with rfl|g
   .exact absurd p o
   rcases aI.1 hk with rfl|hk
   .exact absurd I o
   exact anC h j k g hk p I
end
section
variable {P:Program}{hs:am Nat}{ops:aB Oper}{N:Nat}{gs:am Nat}{Q:dg->Act->aC->Prop}{K:S->Prop}
theorem Jf{F:Fr}{ι:Nat->Gh}{s:S}{a:Act}{w:aC}(hr:Rel F N ι s a w){o:Oper}(j:∀k,o.dst=some k->k<N){x:AOp}(hx:cOp P o.op o.type=some x)(hq:x.quiet=true)
 {g:aD (Nat×Bool)}(hg:Yk ops.toList o.guard=some g) {p:Bool}{drop:am Nat}{rest:am AI}(h:yd P (.mk o.dst g p x drop::rest) s K):
 ∃v ι' r,YC P ops (Cw x w) o v a/\Rel F N ι' r (a.put o.dst v) w/\yd P rest r K:=by
 rcases abY hr hg h with⟨l,i⟩|⟨l,i⟩
 .obtain⟨v,ι',s1,I,J,R⟩:=ar1 hr j hx hq i;obtain⟨s2,U,h6⟩:=XQ J j R;exact⟨v,ι',_,.inl ⟨l,I⟩,U.drop drop,h6⟩
 exact⟨undef,ι,_,.inr ⟨l,rfl⟩,(hr.put o.dst j qO undef (af5 _ _ _)).drop drop,i⟩
theorem U9{F:Fr}{ι:Nat->Gh}{s:S}{a:Act}{w:aC}(hr:Rel F N ι s a w){i:Nat}{o:Oper}(ho:ops[i]?=some o)(r:∀k,o.dst=some k->k<N){x:AOp}(hx:Q6 P (isin i hs) o.op o.type=some x)
 (J:clsAt P hs ops i=0\/clsAt P hs ops i=3) {g:aD (Nat×Bool)}(hg:Yk ops.toList o.guard=some g) {R:Bool}{drop:am Nat}{rest:am AI}(h:yd P (.mk o.dst g R x drop::rest) s K)
 {next:Act->aC->Prop}(hn:∀ι s' a' w',Rel F N ι s' a' w'->yd P rest s' K->(1<=clsAt P hs ops i->vP w w')->next a' w'):cz P ops Q i next a w:=by
 unfold cz;simp only[ho];rcases abY hr hg h with⟨hw,I⟩|⟨hw,I⟩
 .rw[bG hw];refine .inl ?_;rcases J with J|J
  .refine akt hr r ⟨_,hx⟩ I _ _ λι1 s1 U w1 p hk=>?_
   obtain⟨s2,h5,h6⟩:=XQ p r hk;exact hn ι1 _ U w1 (h5.drop drop) h6 (λh=>by rw[J]at h;omega)
  obtain⟨j,l⟩:=awH ho hx J;have hX:ub P F N o a w (λs1=>split R o.dst s1 λs2=>yd P rest (s2.drop drop) K):=by
   rcases l with l|⟨cs,rfl⟩
   .exact ar2 hr r j l I
   obtain⟨t,aa,rfl⟩:=amY j;exact afW hr r aa I
  refine hX _ _ λι1 s1 U w1 p hk he=>?_
  obtain⟨s2,h5,h6⟩:=XQ p r hk;exact hn ι1 _ U w1 (h5.drop drop) h6 (λ_=>he)
 rw[bV (by rw[hw];simp)];exact hn ι _ _ w ((hr.put o.dst r qO undef (af5 _ _ _)).drop drop) I (λ_=>vP.refl w)
structure Hid(P:Program)(hs:am Nat)(ops:aB Oper)(F F':Fr)(k d b:Nat):Prop where
 cl:clsAt P hs ops k=4
 dst:dstOf ops k=some d
 under:Under F F' b
 row:∃o cs cur,ops[k]?=some o/\o.guard=none/\cOp P o.op o.type=some (.alloc cs)/\solid cs=true/\RowAt F'.w0 b cur/\∀ι w ok,CRs ι w ok cs (cur:aB Value).toList
def ajL(b:Nat):Value:=.pointer (some ⟨b,0,none⟩)
theorem kW{listed:aB Bool}{i:Nat}{r:am Nat}{hid:Nat->Bool}{o:Oper}(j:j9 ops listed (i::r) hid)(l:ops[i]?=some o)(U:Front P hs ops o i r)(hh:hid i=false):i∈aQ .any ops listed:=by
 have g:i<ops.size:=(aB.getElem?_eq_some_iff.1 l).1;refine bS.2 ⟨?_,o,l,λe R J=>?_⟩
 .rw[aL,j.2 i g,(yl _ _).2 (bR),hh];rfl
 obtain⟨p,I⟩:=U.pre e R J;rw[aL,j.2 e.on p,uA.2 I];rfl
theorem abK{listed:aB Bool}{i:Nat}{r:am Nat}{hid:Nat->Bool}{o:Oper}{x:AOp}{w:aC}(hl:j9 ops listed (i::r) hid)(ho:ops[i]?=some o)(hx:Q6 P (isin i hs) o.op o.type=some x)(hf:Front P hs ops o i r)(hc:clsAt P hs ops i=1\/clsAt P hs ops i=2):
 ∀j p,ops[j]?=some p->j≠i->listed.getD j true=false->j∉depsL P hs ops i r []->Apart ops o p/\((∀w',Cw x w w')\/1<=clsAt P hs ops j):=by
 intro j p l I g U;have R:j<ops.size:=(aB.getElem?_eq_some_iff.1 l).1;have J:j∈r:=by
  rw[aL,hl.2 j R]at g;simp only[dm,bW,cg]at g;rcases aI.1 ((yl _ _).1 g.1)with h|h
  .exact absurd h I
  exact h
 rcases hf.quiet hc j J with h|h
 .exact absurd h U
 obtain⟨h1,h2⟩:=h p l;refine⟨h1,h2.imp (λh w' hr=>?_) id⟩;rw[(jv ho hx hc).2.2 h]at hr;cases hr
theorem Uv{listed:aB Bool}{i:Nat}{r:am Nat}{hid:Nat->Bool}(J:j9 ops listed (i::r) hid)(p:∀j,j∈r->clsAt P hs ops j≠4->hid j=false):∀j∈depsL P hs ops i r [],listed.getD j false=false:=by
 intro j I;rcases anu i r [] j I with h|⟨g,l⟩
 .cases h
 cases o:listed.getD j false with
 |false=>rfl
 |true=>
  have:=J.unlisted o (cK _ g);rw[p j g l]at this;cases this
theorem Cw.ext(x:AOp)(w:aC):∀w' g,Cw x w w'->vP w' g->Cw x w g:=λ_ _ h k hr=>(h hr).trans k
theorem Cw.refl(x:AOp)(w:aC):Cw x w w:=λ_=>vP.refl w
theorem aum{F:Fr}(hf:∀x,F.A x->x<F.w0.heap.size/\¬F.M x)(hh:(∀x,F.M x->x<F.w0.heap.size)/\Glb F.A F.w0)
 (a8:∀ι s a w,Rel F N ι s a w->K s->Q .normal a w) (au:∀c a w,¬Q (.panic c) a w) (ae:∀(j:Nat) (o:Oper) cs b,ops[j]?=some o->o.op≠ .select cs b)
 (a7:am Nat) (al:∀j k,j∈a7->k∈a7->clsAt P hs ops j=4->clsAt P hs ops k=4->j=k):
 ∀(rest:am Nat),(∀j∈rest,j∈a7)->abC P hs ops rest=true->∀xs,Xr P N hs ops.toList gs rest=some (xs.map bK)->
  (∀(k d b:Nat) (F':Fr) (l:Nat) (listed:aB Bool) (ι:Nat->Gh) (s:S) (a:Act) (w:aC),k∈rest->Hid P hs ops F F' k d b->j9 ops listed rest (λj=>bC j k)->rest.length<=l+1->
   Rel F' N ι s a w->yd P xs s K->ZM P hs ops Q l listed (a.put (some d) (ajL b)) w)/\
  (∀(l:Nat) (listed:aB Bool) (ι:Nat->Gh) (s:S) (a:Act) (w:aC),j9 ops listed rest (λ_=>false)->rest.length<=l->
   Rel F N ι s a w->yd P xs s K->ZM P hs ops Q l listed a w):=by
 intro rest;induction rest with
 |nil=>
  intro _ _ xs a5;cases xs with
  |cons x r=>simp[Xr]at a5
  |nil=>
   refine⟨λk d b F' l listed ι s a w hk=>(by cases hk),λl listed ι s a w hl _ hr h=>?_⟩;have ba:aQ .any ops listed=[]:=by
    cases bn:aQ .any ops listed with
    |nil=>rfl
    |cons j js=>have:=(hl.ready_in (j:=j) (by rw[bn];exact bR)).1;cases this
   cases l with
   |zero=>exact⟨ba,a8 ι s a w hr h⟩
   |succ l=>exact⟨λ_=>a8 ι s a w hr h,λi hi=>by rw[ba]at hi;cases hi⟩
 |cons i r ih=>
  intro ac bm xs a5;obtain⟨bj,bd⟩:=asP bm;obtain⟨o,x,g,drop,rest,rfl,R,hd,hx,hg,a3⟩:=Qx a5;have hF:=ahO R bj;obtain⟨bh,a6⟩:=ih (λj hj=>ac j (cK _ hj)) bd rest a3
  have P2:∀(k d b:Nat) (F':Fr) (l:Nat) (listed:aB Bool) (ι:Nat->Gh) (s:S) (a:Act) (w:aC),k∈i::r->Hid P hs ops F F' k d b->j9 ops listed (i::r) (λj=>bC j k)->(i::r).length<=l+1->
   Rel F' N ι s a w->yd P (.mk o.dst g (isin i gs) x drop::rest) s K->ZM P hs ops Q l listed (a.put (some d) (ajL b)) w:=by
   intro k d b F' l listed ι s a w hk p hl I hr h;by_cases ah:i=k
   ·
    subst ah;obtain⟨o',cs,an,bc,ao,aa,af,be,av⟩:=p.row;rw[R]at bc;cases bc;have bp:cOp P o.op o.type=some x:=by
     rcases XF (P:=P) (hs:=hs) R with⟨_,h1⟩|⟨h1,_⟩|⟨_,h1,_⟩
     .rw[p.cl]at h1;cases h1
     .rw[h1]at hx;exact hx
     rw[p.cl]at h1;cases h1
    rw[bp]at aa;cases aa;rw[ao]at hg;simp only[Yk,aE]at hg;subst hg;have U:o.dst=some d:=by have:=p.dst;unfold dstOf at this;rw[R]at this;exact this
    rw[U]at h;simp only[yd,zK,af,aG]at h;obtain⟨s2,h5,h6⟩:=XQ (hr.unhide p.under hf hh be av (hd d U)) (λk hk=>by cases hk;exact hd d U) h;rw[xu]at h6;exact a6 l listed _ _ _ w (hl.show hF.nin) (by simp at I;exact I) (h5.drop drop) h6
   have aq:k∈r:=(aI.1 hk).resolve_left (λh=>ah h.symm);have bi:dstOf ops k=some d:=p.dst;obtain⟨a4,bg⟩:=hF.sep k aq p.cl d bi;have ad:i∈aQ .any ops listed:=kW hl R hF (xD ah);have bs:1<=r.length:=List.length_pos_of_mem aq;obtain⟨f,rfl⟩:∃f,l=f+1:=⟨l-1,by simp at I;omega⟩;have aj:=hl.step hF.nin;have J:r.length<=f+1:=by simp at I;omega
   by_cases hc:clsAt P hs ops i=1\/clsAt P hs ops i=2
   .obtain⟨v,ι',s',hy,ak,h'⟩:=Jf hr hd (jv R hx hc).1 (jv R hx hc).2.1 hg h;have bq:YC P ops (Cw x w) o v (a.put (some d) (ajL b)):=
     hy.of_same (bY o (λcs b=>ae i o cs b R) a (some d) (ajL b) (λe he=>by cases he;exact a4)) (cM o a (some d) (ajL b) (λe he=>by cases he;exact a4))
    refine Ky R ae au (Cw.ext x w) (depsL P hs ops i r []) (ac8 i r) f listed _ w (Cw.refl x w) (Uv hl (λj _ h4=>xD (λe=>h4 (by rw[e];exact p.cl)))) (abK hl R hx hF hc) ad bq ?_;rw[aN a (ajL b) v (λe he=>by cases he;exact bg)];exact bh k d b F' f _ ι' s' _ w aq p aj J ak h'
   have bt:clsAt P hs ops i≠4:=λe=>ah (al i k (ac i bR) (ac k hk) e p.cl)
   have ag:clsAt P hs ops i=0\/clsAt P hs ops i=3:=by have:=ahC (P:=P) (hs:=hs) R;omega
   refine⟨λhe=>(by rw[he]at ad;cases ad),λj hj=>?_⟩;obtain⟨ai,a9⟩:=hl.ready_in hj;have ay:j=i:=by
    rcases aI.1 ai with h|az
    .exact h
    rcases hF.heavy hc j az with h4|hw
    .have:=al j k (ac j ai) (ac k hk) h4 p.cl;subst this;simp at a9
    obtain⟨n,ab,a0⟩:=go hj hw;rw[aA]at ab;have bl:=aV (hl.unlisted a0 ((yl _ _).1 ab.1));subst bl;rw[p.cl]at ab;have bk:n≠i:=λe=>ah e.symm
    rw[xD bk]at ab;cases ab.2
   subst ay;refine aqC R a4 bg (λcs b=>ae j o cs b R) au ?_;refine U9 hr R hd hx ag hg h λι1 s1 a1 w1 a2 h1 he=>⟨he,?_⟩
   exact bh k d b F' f _ ι1 s1 a1 w1 aq p aj J a2 h1
  refine⟨P2,λl listed ι s a w hl I hr h=>?_⟩;have ad:i∈aQ .any ops listed:=kW hl R hF rfl;obtain⟨f,rfl⟩:∃f,l=f+1:=⟨l-1,by simp at I;omega⟩;have aj:=hl.step hF.nin;have J:r.length<=f:=by simp at I;omega
  by_cases hc:clsAt P hs ops i=1\/clsAt P hs ops i=2
  .obtain⟨v,ι',s',hy,ak,h'⟩:=Jf hr hd (jv R hx hc).1 (jv R hx hc).2.1 hg h;refine Ky R ae au (Cw.ext x w) (depsL P hs ops i r []) (ac8 i r) f listed _ w (Cw.refl x w) (Uv hl (λ_ _ _=>rfl)) (abK hl R hx hF hc) ad hy ?_;exact a6 f _ ι' s' _ w aj J ak h'
  refine⟨λhe=>(by rw[he]at ad;cases ad),λj hj=>?_⟩;obtain⟨ai,a9⟩:=hl.ready_in hj;by_cases ax:clsAt P hs ops j=4
  ·
   obtain⟨_,oj,ar,_⟩:=bS.1 hj;obtain⟨cs,d,aa,af,ao,U⟩:=aud ar ax;obtain⟨t,an,av,bf⟩:=atZ aa af;have bb:=NewRow.alloc w an t;have aw:=Grows.alloc w an t;obtain⟨F',hu,bo,ak⟩:=hr.hide aw (by rw[bb.size];omega);unfold cz;simp only[ar];rw[bG (by simp[aZ,ao])];refine .inl ?_;unfold de;rw[bf a w,Oper.upon_value,U];refine⟨λ_=>⟨aw.size,λb hb=>aw.block b hb (λh=>h)⟩,?_⟩;exact P2 j d w.heap.size F' f _ ι s a _ ai ⟨ax,by unfold dstOf;rw[ar];exact U,hu,oj,cs,an,ar,ao,aa,af,by rw[bo];exact⟨t,bb.new⟩,av⟩ hl.hide I ak h
  have ay:j=i:=by
   rcases aI.1 ai with h|az
   .exact h
   rcases hF.heavy hc j az with h4|hw
   .exact absurd h4 ax
   obtain⟨n,ab,a0⟩:=go hj hw;rw[aA]at ab;have:=hl.unlisted a0 ((yl _ _).1 ab.1);cases this
  subst ay;have ag:clsAt P hs ops j=0\/clsAt P hs ops j=3:=by have:=ahC (P:=P) (hs:=hs) R;omega
  refine U9 hr R hd hx ag hg h λι1 s1 a1 w1 a2 h1 he=>⟨he,?_⟩
  exact a6 f _ ι1 s1 a1 w1 aj J a2 h1
theorem alK{g:am Nat}(h:aic P hs ops g=true):P.follows .mixedOrders=true/\(∀i,i<ops.size->i∈g)/\g.length<=ops.size/\V3 P hs ops g=true/\abC P hs ops g=true:=by unfold aic at h;simp only[aA]at h;obtain⟨⟨⟨⟨j,l⟩,o⟩,p⟩,r⟩:=h;refine⟨j,λi hi=>?_,aM o,p,r⟩;have:=ul.1 l i (by rw[Un];simp[List.mem_range'];omega);exact(yl _ _).1 this
theorem ask{F:Fr}{ords:am (Nat×am Nat)}{id:Nat}{xs:am AI}(g:Q7 P N ords id ops true=some (.reg (xs.map bK))){J:E->S->Prop}{ι:Nat->Gh}{s:S}{a:Act}{w:aC}
 (hr:Rel F N ι s a w) (h:WK P (.reg xs) J s):(Code.region id ops true).wp P (up F N J) a w:=by
 simp only[Q7]at g;split at g
 .split at g
  .rcases Zb g with h|h
   .simp only[aH]at h;obtain⟨_,_,h⟩:=h;cases h
   cases h
  cases g
 split at g
 case h_2=>cases g
 rename_i l _;cases i:aic P (vZ ords id) ops l with
 |false=>rw[i]at g;cases g
 |true=>
  rw[i]at g;simp only[aG,aH,ACode.reg.injEq]at g;obtain⟨ys,p,rfl⟩:=g;obtain⟨h1,h2,h3,h4,h5⟩:=alK i;refine dJ h1 (ab8 (hs:=vZ ords id) _ _ _ _ ?_);have I:∀(j:Nat) (o:Oper) cs b,ops[j]?=some o->o.op≠ .select cs b:=by intro j o cs b ho he;have R:j<ops.size:=(aB.getElem?_eq_some_iff.1 ho).1;obtain⟨o',x,r,hx⟩:=anh p j (h2 j R);rw[ho]at r;cases r;rw[he]at hx;cases hb:isin j (vZ ords id)<;>rw[hb]at hx<;>cases hx
  have U:Rel F N ι s a {w with drawn:=w.drawn+1}:=hr.grown ⟨rfl,rfl,rfl,bB _,λ_ _ _=>rfl,λ_ _ _ h=>h⟩;refine(aum (F:=F) (hs:=vZ ords id) (K:=J .normal) (Q:=up F N J) (gs:=jj ops.toList) hr.foreign hr.handed (λι s a w hr hk=>⟨ι,s,hr,hk⟩) (λc a w h=>h) I l (anC h4) l (λ_ h=>h) h5 xs p).2 ops.size _ ι s a _ ?_ h3 U h;refine⟨dT,λj hj=>?_⟩;rw[(yl _ _).2 (h2 j hj)];simp[hj]
end
section
variable {P:Program}{hs:am Nat}{ops:aB Oper}{N:Nat}{gs:am Nat}{Q:dg->Act->aC->Prop}
theorem Yw{i j:Nat}:∀{l:am Nat},isin j (XP i l)=(isin j l&&!Nat.beq j i)
 |[]=>rfl
 |x::r=>by
  have o:=Yw (i:=i) (j:=j) (l:=r);have p:∀a b:Nat,(bC a b=true)=(a=b):=λa b=>propext ⟨aV,λh=>by grind[vz]⟩
  by_cases g:x=i
  .subst g;simp only[XP,vz,aG,o,isin]
   grind
  simp only[XP,xD g,aO,isin,o];by_cases I:x=j<;>simp_all[xD]
theorem ajP{i:Nat}:∀{l:am Nat},(XP i l).length<=l.length/\(isin i l=true->(XP i l).length<l.length)
 |[]=>⟨bB _,λh=>by cases h⟩
 |x::r=>by
  have j:=ajP (i:=i) (l:=r);by_cases g:x=i
  .subst g;simp only[XP,vz,aG,dj]
   grind
  simp_all[XP,xD,isin]
theorem j9.congr{listed:aB Bool}{r g:am Nat}{hid:Nat->Bool}(h:j9 ops listed r hid)(e:∀j,isin j r=isin j g):j9 ops listed g hid:=
 ⟨h.1,λj i=>by rw[<-e j];exact h.2 j i⟩
theorem Ux{i:Nat}{rest:am Nat}(h:isin i rest=true)(j:Nat):isin j rest=isin j (i::XP i rest):=by grind[isin,Yw,xD]
def arR(P:Program)(hs:am Nat)(ops:aB Oper)(Q:dg->Act->aC->Prop)(F:Fr)(N:Nat)(rest:am Nat)(K:S->Prop):Prop:=
 ∀(g:Nat) (listed:aB Bool) (ι:Nat->Gh) (s:S) (a:Act) (w:aC),j9 ops listed rest (λ_=>false)->rest.length<=g->Rel F N ι s a w->K s->ZM P hs ops Q g listed a w
theorem asq{F:Fr}(aa:∀c a w,¬Q (.panic c) a w)(U:∀(j:Nat) (o:Oper) cs b,ops[j]?=some o->o.op≠ .select cs b)
 {i:Nat}{r:am Nat}(ab:KZ P hs ops i r=true) (ag:∀j∈i::r,clsAt P hs ops j≠4) {o:Oper}(l:ops[i]?=some o) (hd:∀k,o.dst=some k->k<N) {x:AOp}(hx:Q6 P (isin i hs) o.op o.type=some x)
 {g:aD (Nat×Bool)}(hg:Yk ops.toList o.guard=some g) {ai:Bool}{drop:am Nat}{rest:am AI}{K:S->Prop}
 {f:Nat}{listed:aB Bool}{ι:Nat->Gh}{s:S}{a:Act}{w:aC}(J:j9 ops listed (i::r) (λ_=>false)) (hr:Rel F N ι s a w) (h:yd P (.mk o.dst g ai x drop::rest) s K)
 (hn:∀ι' s' a' w',Rel F N ι' s' a' w'->yd P rest s' K->ZM P hs ops Q f (listed.setIfInBounds i true) a' w'):ZM P hs ops Q (f+1) listed a w:=by
 have hF:=ahO l ab;have ac:i∈aQ .any ops listed:=kW J l hF rfl;by_cases hc:clsAt P hs ops i=1\/clsAt P hs ops i=2
 .obtain⟨v,ι',s',hy,al,h'⟩:=Jf hr hd (jv l hx hc).1 (jv l hx hc).2.1 hg h;refine Ky l U aa (Cw.ext x w) (depsL P hs ops i r []) (ac8 i r) f listed _ w (Cw.refl x w) (Uv J (λ_ _ _=>rfl)) (abK J l hx hF hc) ac hy ?_
  grind
 refine⟨λhe=> d9,λj hj=>?_⟩;obtain⟨I,aj⟩:=J.ready_in hj;have ak:=ag j I;have ad:j=i:=by
  rcases aI.1 I with h|ae
  .exact h
  rcases hF.heavy hc j ae with h4|hw
  .grind
  obtain⟨n,R,af⟩:=go hj hw;rw[aA]at R;have:=J.unlisted af ((yl _ _).1 R.1);cases this
 subst ad;have p:clsAt P hs ops j=0\/clsAt P hs ops j=3:=by grind[ahC]
 exact U9 hr l hd hx p hg h λι1 s1 a1 w1 ah h1 he=>⟨he,hn ι1 s1 a1 w1 ah h1⟩
theorem awr{F:Fr}{i:Nat}(aa:clsAt P hs ops i≠4){o:Oper}(p:ops[i]?=some o)(hd:∀k,o.dst=some k->k<N){x:AOp}(R:Q6 P (isin i hs) o.op o.type=some x)
 {g:aD (Nat×Bool)}(hg:Yk ops.toList o.guard=some g) {U:Bool}{drop:am Nat}{rest:am AI}{K:S->Prop}
 {ι:Nat->Gh}{s:S}{a:Act}{w:aC}(hr:Rel F N ι s a w) (h:yd P (.mk o.dst g U x drop::rest) s K) {next:Act->aC->Prop}
 (hn:∀ι' r l w',Rel F N ι' r l w'->yd P rest r K->next l w'):cz P ops Q i (λl w'=>(1<=clsAt P hs ops i->vP w w')/\next l w') a w:=by
 by_cases hc:clsAt P hs ops i=1\/clsAt P hs ops i=2
 .obtain⟨v,ι',r,hy,I,h'⟩:=Jf hr hd (jv p R hc).1 (jv p R hc).2.1 hg h;exact hy.wpOp p (Cw.refl x w) ⟨λ_=>vP.refl w,hn ι' r _ w I h'⟩
 have j:clsAt P hs ops i=0\/clsAt P hs ops i=3:=by grind[ahC]
 exact U9 hr p hd R j hg h λι1 s1 a1 w1 J h1 he=>⟨he,hn ι1 s1 a1 w1 J h1⟩
theorem aoD{F:Fr}(ae:∀c a w,¬Q (.panic c) a w)(ac:∀(j:Nat) (o:Oper) cs b,ops[j]?=some o->o.op≠ .select cs b)(ak:∀j,isin j (zY 0 ops.size)=true->clsAt P hs ops j≠4){K:S->Prop}{f:am Nat->Bool}
 (hf:∀rest,f rest=true->(∀j,isin j rest=true->clsAt P hs ops j≠4)->arR P hs ops Q F N rest K):
 ∀(l rest:am Nat),abD P hs ops l rest f=true->(∀j,isin j rest=true->clsAt P hs ops j≠4)->∀xs,Xr P N hs ops.toList gs l=some (xs.map bK)->arR P hs ops Q F N rest (λs=>yd P xs s K):=by
 intro l;induction l with
 |nil=>
  intro rest p I xs ad;cases xs with
  |cons x r=>grind[Xr]
  |nil=>exact hf rest p I
 |cons i l ih=>
  intro rest p I xs ad J listed ι s a w hl aj hr h;simp only[abD]at p;cases hb:(isin i rest&&KZ P hs ops i (XP i rest))with
  |false=>grind
  |true=>
   rw[hb,aG]at p;rw[aA]at hb;obtain⟨aa,af⟩:=hb;obtain⟨o,x,g,drop,U,rfl,ho,hd,hx,hg,R⟩:=Qx ad;have ab:=hl.congr (Ux aa);have ai:=(ajP (i:=i) (l:=rest)).2 aa;obtain⟨f',rfl⟩:∃f',J=f'+1:=⟨J-1,d8⟩;have ag:i∉XP i rest:=uA.1 (by grind[Yw,vz]);refine asq ae ac af (λj hj=>I j (by grind[Ux,yl])) ho hd hx hg ab hr h λι' s' a' w' ah h'=>?_
   exact ih (XP i rest) p (λj hj=>I j (by simp_all[Yw])) U R f' _ ι' s' a' w' (ab.step ag) d8 ah h'
theorem aig{listed:aB Bool}{rest:am Nat}(p:j9 ops listed rest (λ_=>false)){j:Nat}(hj:isin j rest=true):adS ops rest j=true↔j∈aQ .any ops listed:=by
 constructor
 .intro h;unfold adS at h;cases P:ops[j]? with
  |none=>grind
  |some o=>
   rw[P]at h;have l:j<ops.size:=(aB.getElem?_eq_some_iff.1 P).1;refine bS.2 ⟨?_,o,P,λe I hb=>?_⟩
   .rw[aL,p.2 j l,hj];rfl
   have:=ul.1 h e (bX.2 I);rw[hb]at this;simp only[cX,cY,aA,aU]at this;rw[aL,p.2 e.on (aM this.1),this.2];rfl
 intro h;obtain⟨_,oj,R,g⟩:=bS.1 h;unfold adS;rw[R];refine ul.2 λe I=>?_
 cases r:cd .any e with
 |false=>rfl
 |true=>
  have i:=g e (bX.1 I) r;have l:e.on<ops.size:=by
   rw[aL]at i;cases hx:listed[e.on]? with
   |none=>grind
   |some b=>rw[<-p.1];grind
  have U:isin e.on rest=false:=by
   cases J:isin e.on rest with
   |false=>rfl
   |true=>have:=p.unlisted i ((yl _ _).1 J);cases this
  grind[Nat.blt,Nat.ble_eq_true_of_le]
theorem av6{F:Fr}(ai:∀c a w,¬Q (.panic c) a w)(ad:∀(j:Nat) (o:Oper) cs b,ops[j]?=some o->o.op≠ .select cs b)(aj:∀j,isin j (zY 0 ops.size)=true->clsAt P hs ops j≠4){K:S->Prop}
 (ah:∀ι s a w,Rel F N ι s a w->K s->Q .normal a w):
 ∀(t:Tr) (rest:am Nat) (x:ATr),VD P N hs ops.toList gs t=some x.erase->(∀j,isin j rest=true->clsAt P hs ops j≠4)->
  (Xw P hs ops false t rest=true->arR P hs ops Q F N rest (λs=>atr P x s K))/\
  (Xw P hs ops true t rest=true->∀(f:Nat) (listed:aB Bool) (ι:Nat->Gh) (s:S) (a:Act) (w:aC),j9 ops listed rest (λ_=>false)->rest.length<=f+1->Rel F N ι s a w->atr P x s K->
   ∀j,isin j (VG t)=true->isin j rest=true->cz P ops Q j (λa' w'=>(1<=clsAt P hs ops j->vP w w')/\ZM P hs ops Q f (listed.setIfInBounds j true) a' w') a w):=by
 intro t;induction t with
 |fin=>
  intro rest x J I;cases x with
  |fin=>
   refine⟨λp U listed ι s a w hl R hr h=>?_,λp f listed ι s a w hl R hr h j hj _=>by cases hj⟩;cases rest with
   |cons y r=>cases p
   |nil=>
    have ak:aQ .any ops listed=[]:=by
     cases a3:aQ .any ops listed with
     |nil=>rfl
     |cons j js=>have:=(hl.ready_in (j:=j) d9).1;cases this
    cases U with
    |zero=>exact⟨ak,ah ι s a w hr h⟩
    |succ U=>exact⟨λ_=>ah ι s a w hr h,λi hi=>d9⟩
  |run _ _=>cases J
  |br _ _=>cases J
 |run l t ih=>
  intro rest x J I;simp only[VD]at J;split at J
  case h_2=>cases J
  rename_i xo xt al ay;cases x with
  |fin=>cases J
  |br _ _=>cases J
  |run xs an=>
   simp only[dn,aE,ATr.run.injEq]at J;obtain⟨rfl,rfl⟩:=J;have aa:∀rest,Xw P hs ops false t rest=true->(∀j,isin j rest=true->clsAt P hs ops j≠4)->arR P hs ops Q F N rest (λs=>atr P an s K):=λrest p I=>(ih rest an ay I).1 p
   refine⟨λp=>?_,λp f listed ι s a w hl R hr h j hj ab=>?_⟩
   .exact aoD ai ad aj aa l rest p I xs al
   cases l with
   |nil=>cases p
   |cons i l=>
    have ao:j=i:=by grind[VG,isin,aV]
    subst ao;simp only[Xw,aA]at p;obtain⟨ae,p⟩:=p;obtain⟨o,y,g,drop,ag,rfl,ho,hd,hy,hg,af⟩:=Qx al;have ar:=hl.congr (Ux ae);have a1:=(ajP (i:=j) (l:=rest)).2 ae;have au:j∉XP j rest:=uA.1 (by grind[Yw,vz]);refine awr (I j ae) ho hd hy hg hr h λι' s' a' w' av h'=>?_
    exact aoD ai ad aj aa l (XP j rest) p (λk hk=>I k (by simp_all[Yw])) ag af f _ ι' s' a' w' (ar.step au) d8 av h'
 |br t1 t2 az a0=>
  intro rest x J I;simp only[VD]at J;split at J
  case h_2=>cases J
  rename_i x1 x2 aw ax;cases x with
  |fin=>cases J
  |run _ _=>cases J
  |br y1 y2=>
   simp only[dn,aE,ATr.br.injEq]at J;obtain⟨rfl,rfl⟩:=J
   have hB:Xw P hs ops true t1 rest=true->Xw P hs ops true t2 rest=true->∀(f:Nat) (listed:aB Bool) (ι:Nat->Gh) (s:S) (a:Act) (w:aC),j9 ops listed rest (λ_=>false)->rest.length<=f+1->Rel F N ι s a w->atr P (.br y1 y2) s K->
    ∀j,isin j (VG t1++VG t2)=true->isin j rest=true->cz P ops Q j (λa' w'=>(1<=clsAt P hs ops j->vP w w')/\ZM P hs ops Q f (listed.setIfInBounds j true) a' w') a w:=by
    intro h1 h2 f listed ι s a w hl R hr h j hj ab;rcases aT.1 ((yl _ _).1 hj)with hj|hj
    .exact(az rest y1 aw I).2 h1 f listed ι s a w hl R hr h.1 j ((yl _ _).2 hj) ab
    exact(a0 rest y2 ax I).2 h2 f listed ι s a w hl R hr h.2 j ((yl _ _).2 hj) ab
   refine⟨λp U listed ι s a w hl R hr h=>?_,λp=>?_⟩
   .simp only[Xw,aA,cY]at p;obtain⟨⟨h1,h2⟩,h4,h3⟩:=p;have ac:∀j,j∈aQ .any ops listed->isin j rest=true/\isin j (VG t1++VG t2)=true:=λj hj=>by have ab:=(hl.ready_in hj).1;have:=ul.1 h3 j ab<;>grind[aig,yl]
    obtain⟨k,hk,aq⟩:=aa7.1 h4;have a2:=(aig hl ((yl _ _).2 hk)).1 aq;cases U with
    |zero=>
     grind
    |succ f=>exact⟨λhe=> d9,λj hj=>hB h1 h2 f listed ι s a w hl R hr h j (ac j hj).2 (ac j hj).1⟩
   simp only[Xw,aA,Bool.true_or]at p;exact hB p.1.1 p.1.2
theorem arC{f:am Nat->Bool}(U:∀rest,f rest=true->∀j∈rest,∃o y,ops[j]?=some o/\Q6 P (isin j hs) o.op o.type=some y):∀(l rest:am Nat),abD P hs ops l rest f=true->∀xs:am AI,Xr P N hs ops.toList gs l=some (xs.map bK)->
 ∀j∈rest,∃o y,ops[j]?=some o/\Q6 P (isin j hs) o.op o.type=some y:=by
 intro l;induction l with
 |nil=>intro rest p _ _;exact U rest p
 |cons i l ih=>
  intro rest p xs J j hj;simp only[abD]at p;cases R:(isin i rest&&KZ P hs ops i (XP i rest))with
  |false=>grind
  |true=>
   rw[R,aG]at p;obtain⟨o,x,g,drop,I,rfl,ho,hd,hx,hg,r⟩:=Qx J;by_cases aa:j=i
   .grind
   exact ih (XP i rest) p I r j ((yl _ _).1 (by grind[Yw,yl,xD]))
theorem ay7:∀(t:Tr) (b:Bool) (rest:am Nat) (x:ATr),Xw P hs ops b t rest=true->VD P N hs ops.toList gs t=some x.erase->∀j∈rest,∃o y,ops[j]?=some o/\Q6 P (isin j hs) o.op o.type=some y:=by
 intro t;induction t with
 |fin=>
  intro b rest x p I j hj;cases b with
  |true=>cases p
  |false=>cases rest with
   |nil=>cases hj
   |cons y r=>cases p
 |run l t ih=>
  intro b rest x p I;simp only[VD]at I;split at I
  case h_2=>cases I
  rename_i xo xt U aa;cases x with
  |fin=>cases I
  |br _ _=>cases I
  |run xs ab=>
   simp only[dn,aE,ATr.run.injEq]at I;obtain⟨rfl,rfl⟩:=I;cases b with
   |false=>exact arC (λrest p=>ih false rest ab p aa) l rest p xs U
   |true=>
    cases l with
    |nil=>cases p
    |cons i l=>
     simp only[Xw,aA]at p;obtain⟨ac,p⟩:=p;obtain⟨o,y,g,drop,R,rfl,ho,hd,hy,hg,J⟩:=Qx U;intro j hj;by_cases ad:j=i
     .grind
     exact arC (λrest p=>ih false rest ab p aa) l (XP i rest) p R J j ((yl _ _).1 (by grind[Yw,yl,xD]))
 |br t1 t2 ag ah=>
  intro b rest x p I;simp only[VD]at I;split at I
  case h_2=>cases I
  rename_i x1 x2 ae af;cases x with
  |fin=>cases I
  |run _ _=>cases I
  |br y1 y2=>
   simp only[dn,aE,ATr.br.injEq]at I;obtain⟨rfl,rfl⟩:=I;simp only[Xw,aA]at p
   grind
theorem aty{F:Fr}{ords:am (Nat×am Nat)}{id:Nat}{x:ATr}(g:Q7 P N ords id ops true=some (.tree x.erase)){U:E->S->Prop}{ι:Nat->Gh}{s:S}{a:Act}{w:aC}
 (hr:Rel F N ι s a w) (h:WK P (.tree x) U s):(Code.region id ops true).wp P (up F N U) a w:=by
 simp only[Q7]at g;split at g
 .rename_i l _;split at g
  .rename_i t _ _;cases i:ajD P (vZ ords id) ops t with
   |false=>grind
   |true=>
    rw[i]at g;simp only[aG,aH,ACode.tree.injEq]at g;obtain⟨y,r,rfl⟩:=g;unfold ajD at i;simp only[aA]at i;obtain⟨⟨h1,h2⟩,h3⟩:=i;have I:∀j,isin j (zY 0 ops.size)=true->clsAt P (vZ ords id) ops j≠4:=λj hj e=>by have:=ul.1 h2 j ((yl _ _).1 hj);simp_all
    refine dJ h1 (ab8 (hs:=vZ ords id) _ _ _ _ ?_);have R:∀(j:Nat) (o:Oper) cs b,ops[j]?=some o->o.op≠ .select cs b:=by intro j o cs b ho he;have ab:j<ops.size:=(aB.getElem?_eq_some_iff.1 ho).1;obtain⟨o',x',J,p⟩:=ay7 t false (zY 0 ops.size) x h3 r j (by grind[Un]);rw[ho]at J;cases J;rw[he]at p;cases hb:isin j (vZ ords id)<;>rw[hb]at p<;>cases p
    have aa:Rel F N ι s a {w with drawn:=w.drawn+1}:=hr.grown ⟨rfl,rfl,rfl,bB _,λ_ _ _=>rfl,λ_ _ _ h=>h⟩;refine((av6 (F:=F) (hs:=vZ ords id) (K:=U .normal) (Q:=up F N U) (gs:=jj ops.toList) (λc a w h=>h) R I (λι s a w hr hk=>⟨ι,s,hr,hk⟩) t (zY 0 ops.size) x r (λj hj=>I j hj)).1 h3) ops.size _ ι s a _ ?_ (by grind[Un]) aa h;refine⟨dT,λj hj=>?_⟩
    grind[yl,Un]
  cases g
 split at g
 .rcases Zb g with h|h<;>simp_all
 cases g
end
theorem Yl{P:Program}{N:Nat}{ords:am (Nat×am Nat)}{id:Nat}{ops:aB Oper}{d:Bool}{y:ACode}(h:Q7 P N ords id ops d=some y):(∃xs,y=.reg xs)\/∃t,y=.tree t:=by
 cases d
 .grind[Q7,aH]
 simp only[Q7]at h;split at h
 .split at h
  .rcases Zb h with h|h
   .grind[aH]
   cases h
  cases h
 split at h
 .rcases Zb h with h|h
  .grind[aH]
  cases h
 cases h
section
variable {P:Program}{F:Fr}{N:Nat}{ords:am (Nat×am Nat)}
theorem akn:∀(x:ACode) (c:Code),wx P N ords c=some x.erase->∀(Q:E->S->Prop) (ι:Nat->Gh) (s:S) (a:Act) (w:aC),Rel F N ι s a w->WK P x Q s->c.wp P (up F N Q) a w:=by
 intro x;induction x with
 |skip=>
  intro c g Q ι s a w hr h;cases c with
  |skip=>exact wp_skip ⟨ι,s,hr,h⟩
  |label l=>exact wp_label ⟨ι,s,hr,h⟩
  |region id ops d=>rcases Yl g with⟨xs,h⟩|⟨xs,h⟩<;>simp[aJ]at h
  |_=>(simp only[wx]at g;(repeat' split at g)<;>simp_all[aJ])
 |reg xs=>
  intro c g Q ι s a w hr h;cases c with
  |region id ops d=>
   cases d with
   |true=>exact ask (g:Q7 P N ords id ops true=some (.reg (xs.map bK))) hr h
   |false=>
    have g:Q7 P N ords id ops false=some (.reg (xs.map bK)):=g;simp only[Q7,aH,ACode.reg.injEq]at g;obtain⟨ys,r,rfl⟩:=g;refine wp_region ?_;have:=am5 (F:=F) (K:=Q .normal) (Q:=up F N Q) (λι s a w hr hk=>⟨ι,s,hr,hk⟩) _ xs r ι s a w hr h
    grind[Un,List.range_eq_range']
  |_=>(simp only[wx]at g;(repeat' split at g)<;>simp_all[aJ])
 |seq x y aa ab=>
  intro c g Q ι s a w hr h;cases c with
  |seq c d=>
   simp only[wx,aJ]at g;split at g
   .rename_i x' y' hx hy;simp only[aE,ACode.seq.injEq]at g;obtain⟨rfl,rfl⟩:=g;refine wp_seq (cN (aa c hx _ ι s a w hr h) ?_);intro e a' w' p;cases e with
    |normal=>obtain⟨ι1,U,R,r⟩:=p;exact ab d hy Q ι1 U a' w' R r
    |exit i=>exact p
    |ret=>exact p
    |_=>exact p.elim
   cases g
  |region id ops d=>rcases Yl g with⟨xs,h⟩|⟨xs,h⟩<;>simp[aJ]at h
  |_=>(simp only[wx]at g;(repeat' split at g)<;>simp_all[aJ])
 |cond o x y aa ab=>
  intro c g Q ι s a w hr h;cases c with
  |cond q c d=>
   simp only[wx,aJ]at g;split at g
   .rename_i x' y' hx hy;simp only[aE,ACode.cond.injEq]at g;obtain⟨rfl,rfl,rfl⟩:=g;simp only[WK]at h;split at h
    .rename_i t ht;have hv:=jf hr q;rw[afG ht]at hv;have hq:a.eval q=.bool t:=hv.1<;>grind[wp_cond]
    grind
   cases g
  |region id ops d=>rcases Yl g with⟨xs,h⟩|⟨xs,h⟩<;>simp[aJ]at h
  |_=>(simp only[wx]at g;(repeat' split at g)<;>simp_all[aJ])
 |block i x ih=>
  intro c g Q ι s a w hr h;cases c with
  |block j c=>
   simp only[wx,aH,aJ,ACode.block.injEq]at g;obtain⟨y,r,rfl,rfl⟩:=g;refine wp_block (cN (ih c r _ ι s a w hr h) ?_);intro e a' w' p;cases e with
   |normal=>exact p
   |exit k=>
    obtain⟨ι1,U,R,r⟩:=p;simp only[Exit.inBlock];by_cases hk:k=j
    .subst hk;rw[bG rfl];simp only[vz,aG]at r;exact⟨ι1,U,R,r⟩
    rw[bV hk];simp only[xD hk,aO]at r;exact⟨ι1,U,R,r⟩
   |ret=>exact p
   |_=>exact p.elim
  |region id ops d=>rcases Yl g with⟨xs,h⟩|⟨xs,h⟩<;>simp[aJ]at h
  |_=>(simp only[wx]at g;(repeat' split at g)<;>simp_all[aJ])
 |loop J x ih=>
  intro c g Q ι s a w hr h;cases c with
  |loop c=>
   simp only[wx,aH,aJ,ACode.loop.injEq,true_and]at g;obtain⟨y,r,rfl⟩:=g;obtain⟨I,μ,h2,h3⟩:=h;obtain⟨t,ht,h2⟩:=h2;rw[Vo]at h2;obtain⟨ιt,ae⟩:=ht F N ι a w hr;refine atD (σ:=S) (λs a w=>(∃ι,Rel F N ι s a w)/\I s) μ (t.norm J) ⟨⟨ιt,ae.norm J⟩,h2⟩ ?_;rintro U a1 w1 ⟨⟨ι1,R⟩,hi⟩;refine cN (ih c r _ ι1 U a1 w1 R (h3 U hi)) ?_;intro e a' w' p;cases e with
   |normal=>
    obtain⟨ι2,s2,ac,h4⟩:=p;obtain⟨t2,af,h4⟩:=h4;simp only[Vo]at h4;obtain⟨ι3,ad⟩:=af F N ι2 a' w' ac;exact⟨t2.norm J,⟨⟨ι3,ad.norm J⟩,h4.1⟩,h4.2⟩
   |exit k=>exact p
   |ret=>exact p
   |_=>exact p.elim
  |region id ops d=>rcases Yl g with⟨xs,h⟩|⟨xs,h⟩<;>simp[aJ]at h
  |_=>(simp only[wx]at g;(repeat' split at g)<;>simp_all[aJ])
 |scope x ih=>
  intro c g Q ι s a w hr h;cases c with
  |scope c=>
   simp only[wx,aH,aJ,ACode.scope.injEq]at g;obtain⟨y,r,rfl⟩:=g;refine wp_scope_straight (cN (ih c r _ ι s a w hr h) ?_);intro e a' w' p;cases e with
   |normal=>exact p
   |exit k=>exact p
   |ret=>exact p
   |_=>exact p.elim
  |region id ops d=>rcases Yl g with⟨xs,h⟩|⟨xs,h⟩<;>simp[aJ]at h
  |_=>(simp only[wx]at g;(repeat' split at g)<;>simp_all[aJ])
 |exit i=>
  intro c g Q ι s a w hr h;cases c with
  |exit j=>simp only[wx,aJ,aE,ACode.exit.injEq]at g;subst g;exact wp_exit ⟨ι,s,hr,h⟩
  |region id ops d=>rcases Yl g with⟨xs,h⟩|⟨xs,h⟩<;>simp[aJ]at h
  |_=>(simp only[wx]at g;(repeat' split at g)<;>simp_all[aJ])
 |ret=>
  intro c g Q ι s a w hr h;cases c with
  |ret=>exact wp_ret ⟨ι,s,hr,h⟩
  |region id ops d=>rcases Yl g with⟨xs,h⟩|⟨xs,h⟩<;>simp[aJ]at h
  |_=>(simp only[wx]at g;(repeat' split at g)<;>simp_all[aJ])
 |tree x=>
  intro c g Q ι s a w hr h;cases c with
  |region id ops d=>
   cases d with
   |true=>exact aty (g:Q7 P N ords id ops true=some (.tree x.erase)) hr h
   |false=>
    have g:Q7 P N ords id ops false=some (.tree x.erase):=g
    grind[Q7,aH]
  |_=>(simp only[wx]at g;(repeat' split at g)<;>simp_all[aJ])
end
section
variable {P:Program}{F:Fr}{N:Nat}{ι:Nat->Gh}{s:S}{a:Act}{w:aC}
theorem ZD{pl:am (Nat×Pl)}:∀(l U:am Nat),∃r,qu pl U l=U++r
 |[],U=>⟨[],by simp[qu]⟩
 |p::r,U=>by
  have step:∃g,(bif isin p U then qu pl U r else qu pl (U++[p]) r)=U++g:=by
   cases isin p U
   .obtain⟨g,h⟩:=ZD (pl:=pl) r (U++[p]);simp_all
   simp_all[ZD]
  unfold qu;split<;>simp_all[ZD]
theorem Kj{pl:am (Nat×Pl)}:∀(n i:Nat) (U:am Nat),∃r,Jg pl n i U=U++r
 |0,_,U=>⟨[],by simp[Jg]⟩
 |n+1,i,U=>by
  unfold Jg;split
  .split
   .rename_i cs _;obtain⟨l,g⟩:=ZD (pl:=pl) (aaA cs) U;obtain⟨o,j⟩:=Kj (pl:=pl) n (i+1) (qu pl U (aaA cs))
    grind
   simp_all[Kj]
  simp_all
theorem ajO{pl:am (Nat×Pl)}(U l:am Nat):∃r,uH pl U l=U++r:=by
 obtain⟨j,g⟩:=ZD (pl:=pl) l U;obtain⟨o,i⟩:=Kj (pl:=pl) 40 0 (qu pl U l)
 grind[uH]
theorem afJ(hr:Rel F N ι s a w){U0:am Nat}{ι0:Nat->Gh}(h0:∀i p x,U0[i]?=some p->aget s.pl p=some x->ι p=ι0 i){x:V}{v:Value}(h:VR ι w (F.ok ι s.pl w) x v):ZW F ι0 U0.length w (azr s.pl U0 x) v:=by
 let U:=uH s.pl U0 x.refs
 obtain⟨ur,hU⟩:∃r,U=U0++r:=ajO U0 x.refs
 let ι':Nat->Gh:=λk=>ι (U.getD k 0)
 have hι:∀k p,U[k]?=some p->ι' k=ι p:=λk p hp=>d9
 let I:=yR (zY 0 (u9 s.pl U 0 U).length) (u9 s.pl U 0 U)
 have hz:∀q y,aget I q=some y->∃p,U[q]?=some p/\y=UE s.pl U q p/\y.isGone=false:=λq y l=>by
  obtain⟨q',g1,g2,g3⟩:=QS _ _ _ _ l;rw[vN]at g1;split at g1
  .cases g1;rw[aX];rw[kq,aX]at g2
   grind
  cases g1
 have ab:zR w w (F.ok ι s.pl w) (F.ok ι s.pl w):=λb o=>⟨o,rfl⟩
 have J:zR w w (F.ok ι s.pl w) (F.ok ι' I w):=λb o=>⟨⟨o.1,o.2.1,λ⟨q,y,h1,h2,h3⟩=>by obtain⟨p,e1,e2,P⟩:=hz q y h1;subst e2;obtain⟨_,⟨z,R,e5,e6⟩,_,_⟩:=km hr ab hι e1 P;exact o.2.2 ⟨p,z,R,e5,(e6 b).1 h3⟩⟩,rfl⟩
 have j:∀q y,aget I q=some y->∃p z,U[q]?=some p/\gY p U=some q/\aget s.pl p=some z/\z.live=true/\PR ι' w (F.ok ι' I w) q y/\y.live=true/\∀b,foot ι' q y b↔foot ι p z b:=λq y l=>by grind[km]
 refine⟨?_,ι',aB3 hr J hι h,?_,?_,?_,?_,?_⟩
 .show U0.length<=(u9 s.pl U 0 U).length
  grind[adP]
 .intro q y l;obtain⟨p,z,_,_,_,_,g,_⟩:=j q y l;exact g
 .intro q q' y y' b l ad ac o aa;obtain⟨p,z,e1,e2,P,R,_,_,g⟩:=j q y l;obtain⟨p',z',e5,e6,e7,e8,_,_,g'⟩:=j q' y' ad;refine hr.inj p p' z z' b P e7 (λe=>ac ?_) R ((g b).1 o) ((g' b).1 aa)
  grind
 .intro q y b l o;obtain⟨p,z,e1,e2,P,R,_,_,g⟩:=j q y l;exact(hr.mine b ⟨p,z,P,R,(g b).1 o⟩).1
 .intro q y l;obtain⟨p,z,_,_,_,_,_,g,_⟩:=j q y l;exact g
 intro q y hq l;obtain⟨p,z,e1,e2,P,R,_,_⟩:=j q y l
 grind
def aoy(tmps:aB Value):ResultVar->Sem Value
 |.tmp t=>pure (tmps.getD t undef)
 |.cell x t=>do loadVar t (<-asAddr (tmps.getD x undef))
theorem as1(fn:Func)(tmps:aB Value):cP fn tmps=(do
 let vs<-fn.results.mapM (aoy tmps)
 pure (if h:vs.size=1 then vs[0]else .tuple vs)):=by unfold cP;congr 2
theorem gt(hr:Rel F N ι s a w):∀{U:am ResultVar}{xs:am ARes},acX P U=some xs->∀{ws:am W},ae2 s xs=some ws->
 ∃vs:am Value,(U.mapM (aoy a.tmps)).run P w=.ok vs w/\qq ι w (F.ok ι s.pl w) ws vs
 |[],xs,o,ws,h=>by cases o;cases h;exact⟨[],dT,trivial⟩
 |.tmp t::U,xs,o,ws,h=>by
   simp only[acX,aH]at o;obtain⟨ys,h1,rfl⟩:=o;simp only[ae2]at h;split at h
   .rename_i u l i hl;cases h;obtain⟨vs,h2,R⟩:=gt hr h1 hl;simp only[ayj]at i;split at i
    .rename_i u' aa;cases i;have hv:=atM hr t;rw[aa]at hv;refine⟨a.tmps.getD t undef::vs,?_,hv,R⟩
     grind[aoy,aK,aP,aF]
    cases i
   cases h
 |.cell x t::U,xs,o,ws,h=>by
   simp only[acX]at o;split at o
   .rename_i g ys hg h1;cases o;simp only[ae2]at h;split at h
    .rename_i u l i hl;cases h;obtain⟨vs,h2,R⟩:=gt hr h1 hl;simp only[ayj]at i;split at i
     .rename_i p off hp;split at i
      .rename_i cs r;have hv:=xj hr (.tmp x);have hv:CR ι w (F.ok ι s.pl w) (cOf (s.tmp x)) (a.tmps.getD x undef):=hv;rw[hp]at hv;obtain⟨b,e1,e2⟩:=hv;obtain⟨b',ab,J,e4,I⟩:=hr.places p _ r;rw[e1]at J;cases J;obtain⟨v,hv,hw⟩:=Y9 (b:=b) (off:=off) hg (CRs.drop off I) (λj v hv=>by rw[e4.cell];grind) i
       refine⟨v::vs,?_,hw,R⟩<;>grind[aoy,asAddr,aK,aP,aF,vP.refl]
      .rename_i ds r;have hv:=xj hr (.tmp x);have hv:CR ι w (F.ok ι s.pl w) (cOf (s.tmp x)) (a.tmps.getD x undef):=hv;rw[hp]at hv;obtain⟨b,e1,e2⟩:=hv;obtain⟨b',J,e4,I⟩:=hr.places p _ r;rw[e1]at J;cases J;have I:=RDc.drop off I;rw[aX]at I;obtain⟨us,h4,h5⟩:=RDc.vals (ι:=ι) I;obtain⟨v,hv,hw⟩:=Y9 (b:=b) (off:=off) hg h4 h5 i;refine⟨v::vs,?_,hw,R⟩<;>grind[aoy,asAddr,aK,aP,aF,vP.refl]
      cases i
     cases i
    cases h
   cases o
theorem acv(hr:Rel F N ι s a w){fn:Func}{xs:am ARes}(p:acX P fn.results.toList=some xs){v:V}(h:ayi s xs=some v):
 ∃x,(cP fn a.tmps).run P w=.ok x w/\VR ι w (F.ok ι s.pl w) v x:=by
 unfold ayi at h;have key:∀ws,ae2 s xs=some ws->∃vs:am Value,qq ι w (F.ok ι s.pl w) ws vs/\(cP fn a.tmps).run P w=.ok (if h:vs.toArray.size=1 then vs.toArray[0]else .tuple vs.toArray) w:=by
  intro ws i;obtain⟨vs,g,j⟩:=gt hr p i;refine⟨vs,j,?_⟩;rw[as1,<-Array.toArray_toList (xs:=fn.results),List.mapM_toArray]
  grind[aK,map_eq_pure_bind,aP,aF]
 split at h
 .rename_i u o;obtain⟨vs,g,j⟩:=key _ o;cases h;cases vs with
  |nil=>exact g.elim
  |cons v vs=>cases vs with
   |nil=>exact⟨v,d9,g.1⟩
   |cons _ _=>exact g.2.elim
 .rename_i ws l i;obtain⟨vs,g,j⟩:=key _ i;cases h;refine⟨.tuple vs.toArray,?_,vs,rfl,g⟩;rw[j];rw[dif_neg];intro hs;cases vs with
  |nil=>grind
  |cons v vs=>cases vs with
   |nil=>cases ws with
    |nil=>exact g.elim
    |cons u us=>cases us with
     |nil=>grind
     |cons _ _=>exact g.2.elim
   |cons _ _=>grind
 cases h
theorem ahR:∀(l:am W) (i k:Nat) (v:V),aget (ZJ i l) k=some v->∃x,v=.w x/\i<=k/\l[k-i]?=some x:=by
 intro l;induction l with
 |nil=>intro i k v h;cases h
 |cons x r g=>
  intro i k v h;simp only[ZJ,yg]at h;split at h
  .simp_all
  grind
theorem qq.get{ok:Nat->Prop}:∀{cs:am W}{vs:am Value}{i:Nat}{c:W},qq ι w ok cs vs->cs[i]?=some c->∃v,vs[i]?=some v/\WR ι w ok c v
 |[],_,i,_,_,h=>by simp at h
 |_::_,[],_,_,h,_=>h.elim
 |c::cs,v::vs,0,_,h,g=>by simp at g;subst g;exact⟨v,rfl,h.1⟩
 |c::cs,v::vs,i+1,_,h,g=>by simpa using qq.get h.2 (by simpa using g)
end
theorem ahi{n0:Nat}(aq:100000<=n0)(ar:n0+1000<=599999){P:Program}{ords:am (Nat×am Nat)}{k:Nat}{A:AFun}(R:cFun P ords k=some A.erase)(J:xZ P k=true){args:am W}{hs:am Pl}(av:hs.length<=1000){Q:Res->Prop}(h:aeB n0 P A args hs Q):zA P k args hs Q:=by
 refine⟨J,λw ok ι0 vals aa ⟨ag,af⟩ ao an ab=>?_⟩;unfold cFun at R;split at R
 case h_2=>cases R
 rename_i fn hf;split at R
 case h_2=>cases R
 rename_i c ac;split at R
 case h_2=>cases R
 rename_i x r hx hr;cases hN:Nat.ble fn.ntmps 5000 with
 |false=>grind
 |true=>
 rw[hN]at R;have hN:=aM hN;simp only[aG,AFun.erase,aE,AFun.mk.injEq]at R;obtain⟨rfl,rfl⟩:=R;unfold aeB at h;rw[xu]at h
 let ls:am (aD Nat):=(jy n0 hs).map some
 have aj:∀q p,vF ls q=some p->q<hs.length/\p=n0+q:=by
  have gen:∀(n i q p:Nat),vF ((zY i n).map some) q=some p->q<n/\p=i+q:=by
   intro n;induction n with
   |zero=>grind[zY,vF]
   |succ n ih=>
    intro i q p h;cases q<;>grind[zY,vF]
  exact gen hs.length n0
 let ιc:Nat->Gh:=λp=>if n0<=p then ι0 (p-n0)else⟨none,0,.nilFunc,[]⟩
 have al:∀q p,vF ls q=some p->ιc p=ι0 q:=λq p I=>by obtain⟨_,rfl⟩:=aj q p I;simp only[ιc,bG (by omega:n0<=n0+q)];congr 1;omega
 let F:Fr:=⟨w,ok,Handed ι0 hs,λp=>if n0<=p/\p<n0+hs.length then some (ι0 (p-n0))else none⟩
 let ae:=Zw n0 (hs.map (Pl.ren ls))
 have l:∀p y,aget ae p=some y->∃q x,p=n0+q/\hs[q]?=some x/\y=x.ren ls/\ιc p=ι0 q:=λp y o=>by
  have o:aget (Zw n0 (hs.map (Pl.ren ls))) p=some y:=o;rw[alv]at o;split at o
  .rename_i ai;rw[am.getElem?_map]at o;cases I:hs[p-n0]? with
   |none=>grind
   |some x=>
    rw[I]at o;simp at o;subst o;exact⟨p-n0,x,d8,I,rfl,by simp only[ιc,bG ai]⟩
  cases o
 have ad:zR w w ok (F.ok ιc ae w):=λb J=>⟨⟨.inl J,(aa b J).1,λ⟨p,y,h1,h2,h3⟩=>by obtain⟨q,x,rfl,e1,rfl,e2⟩:=l p y h1;rw[Ys,xX e2]at h3;exact(aa b J).2 ⟨q,x,e1,h3⟩⟩,rfl⟩
 have hrel:Rel F fn.ntmps ιc ⟨ZJ 0 (args.map (W.ren ls)),ae⟩ {tmps:=vals.toArray++dy (fn.ntmps-vals.toArray.size) undef,defers:=[]} w:=by
  refine⟨⟨dX,λg U=>by simp only[F]at U;rw[bV d8]at U;cases U⟩,λi v hv=>?_,λp y o=>?_,λp q y z b o hz au hl J=>?_,λb ⟨p,y,h1,h2,h3⟩=>?_,rfl,dH _ _,λb J=>⟨(aa b J).1,(aa b J).2⟩,⟨λb J=>ag b J,af⟩,hN,λp g U=>?_,λp y g o U=>?_⟩
  .obtain⟨x,rfl,_,h1⟩:=ahR (args.map (W.ren ls)) 0 i v hv;obtain⟨y,h2,h3⟩:=qq.get (aiZ ad al ab) h1;simp only[Nat.sub_zero]at h2;have ak:i<vals.length:=(am.getElem?_eq_some_iff.1 h2).1;exact⟨y,d9,h3⟩
  .grind[atI]
  .obtain⟨q1,x1,rfl,e1,rfl,e2⟩:=l p y o;obtain⟨q2,x2,rfl,e3,rfl,e4⟩:=l q z hz;rw[Ys,xX e2]at J
   grind[Ys,xX]
  .obtain⟨q,x,rfl,e1,rfl,e2⟩:=l p y h1;rw[Ys,xX e2]at h3;exact⟨.inl ⟨q,x,e1,h3⟩,ag b ⟨q,x,e1,h3⟩⟩
  .grind
  obtain⟨q,x,rfl,e1,rfl,e2⟩:=l p y o;simp only[F]at U;split at U
  .cases U;rw[e2];congr 1;omega
  cases U
 refine calls_of_wp hf ac (cN (akn A.code c hx _ _ _ _ _ hrel h) ?_);have fin:∀ι s a' w',Rel F fn.ntmps ι s a' w'->gq A.res (jy n0 hs) Q s->a'.defers=[]/\∃v,(cP fn a'.tmps).run P w'=.ok v w'/\∃v' r,dz v=.returned v'/\Q r/\ZW ⟨w,ok,Handed ι0 hs,λ_=>none⟩ ι0 hs.length w' r v'/\Grows (Handed ι0 hs) w w':=by
  intro ι s a' w' j I;unfold gq at I;split at I
  .rename_i v hv;obtain⟨x,h1,h2⟩:=acv j hr hv;have hp:=afJ j (U0:=jy n0 hs) (ι0:=ι0) (λi p y hi o=>by
    have hi:(zY n0 hs.length)[i]?=some p:=hi;rw[vN]at hi;split at hi
    .rename_i ak;cases hi;refine j.hkeep _ y _ o ?_;simp only[F];rw[bG ⟨d8,d8⟩];congr 2;omega
    cases hi) h2
   have ah:(jy n0 hs).length=hs.length:=aiP _ _;rw[ah]at hp;exact⟨j.defers,x,h1,x,_,rfl,I,hp,j.grows⟩
  grind
 intro e a' w' he;cases e with
 |normal=>obtain⟨ι,s,j,I⟩:=he;exact fin ι s a' w' j I
 |ret=>obtain⟨ι,s,j,I⟩:=he;exact fin ι s a' w' j I
 |exit i=>obtain⟨_,_,_,I⟩:=he;grind
 |_=>exact he.elim
theorem alt{P:Program}{ords:am (Nat×am Nat)}{k:Nat}{A:AFun}(j:cFun P ords k=some A.erase)(i:xZ P k=true){args:am W}{hs:am Pl}(g:hs.length<=1000){Q:Res->Prop}(h:azj P A args hs Q):zA P k args hs Q:=
 ahi (n0:=100000) (bB _) (aM rfl) j i g h
theorem apI{P:Program}{ords:am (Nat×am Nat)}{k:Nat}{A:AFun}(o:cFun P ords k=some A.erase)(I:xZ P k=true){args:am W}{Q:Res->Prop}(h:awt P A args Q):Sat P k args Q:=by
 refine⟨I,λw ok vals ⟨ac,ab⟩ U=>?_⟩;unfold cFun at o;split at o
 case h_2=>cases o
 rename_i fn hf;split at o
 case h_2=>cases o
 rename_i c aa;split at o
 case h_2=>cases o
 rename_i x r l hr;cases hN:Nat.ble fn.ntmps 5000 with
 |false=>grind
 |true=>
 rw[hN]at o;have hN:=aM hN;simp only[aG,AFun.erase,aE,AFun.mk.injEq]at o;obtain⟨rfl,rfl⟩:=o;unfold awt at h;rw[xu]at h
 let F:Fr:=⟨w,ok,λ_=>False,λ_=>none⟩
 have hrel:Rel F fn.ntmps (λ_=>⟨none,0,.nilFunc,[]⟩) ⟨ZJ 0 args,[]⟩ {tmps:=vals.toArray++dy (fn.ntmps-vals.toArray.size) undef,defers:=[]} w:=by refine⟨⟨dX,λg hg=>by cases hg⟩,λi v hv=>?_,λp x l=>(by cases l),λp q x y b l=>(by cases l),λb ⟨p,x,l,_⟩=>(by cases l),rfl,dH _ _,λb I=>⟨ac b I,λh=>h⟩,⟨λb I=>I.elim,ab⟩,hN,λp g hg=>(by cases hg),λp x g l=>(by cases l)⟩;obtain⟨x,rfl,_,h1⟩:=ahR args 0 i v hv;obtain⟨y,h2,h3⟩:=qq.get U h1;simp only[Nat.sub_zero]at h2;have ad:i<vals.length:=(am.getElem?_eq_some_iff.1 h2).1;refine⟨y,d9,?_⟩;exact WR.keep (λb I=>⟨⟨.inl I,ac b I,λ⟨p,x,l,_⟩=>by cases l⟩,rfl⟩) (z7.refl w) x y h3
 refine calls_of_wp hf aa (cN (akn A.code c l _ _ _ _ _ hrel h) ?_);have fin:∀ι s R w',Rel F fn.ntmps ι s R w'->gq A.res [] Q s->R.defers=[]/\∃v,(cP fn R.tmps).run P w'=.ok v w'/\∃v' r,dz v=.returned v'/\Q r/\aaY F w' r v'/\Grows (λ_=>False) w w':=by
  intro ι s R w' j J;unfold gq at J;split at J
  .rename_i v hv;obtain⟨x,h1,h2⟩:=acv j hr hv;exact⟨j.defers,x,h1,x,_,rfl,J,afJ j (U0:=[]) (λi p y hi=>d9) h2,j.grows⟩
  grind
 intro e R w' he;cases e with
 |normal=>obtain⟨ι,s,j,J⟩:=he;exact fin ι s R w' j J
 |ret=>obtain⟨ι,s,j,J⟩:=he;exact fin ι s R w' j J
 |exit i=>obtain⟨_,_,_,J⟩:=he;grind
 |_=>exact he.elim
def C.asData(pl:am Pl):C->C
 |.own q _ n=>match pl[q]? with
   |some (.arr _ g _)=>.d (.sl (g.take n))
   |_=>.dead
 |.nil=>.d (.sl [])
 |.sub _ _ _ _=>.dead
 |.iter _=>.dead
 |.root q=>match pl[q]? with
   |some (.deep t)=>match T.toD t with
    |some x=>.d x
    |none=>.dead
   |_=>.dead
 |x=>x
def W.asData(pl:am Pl):W->W|.c x=>.c (x.asData pl)|.agg cs=>.agg (cs.map (C.asData pl))
def V.asData(pl:am Pl):V->V|.w x=>.w (x.asData pl)|.tup xs=>.tup (xs.map (W.asData pl))
def Res.asData(r:Res):Res:=⟨r.v.asData r.pl,[]⟩
section
variable {F:Fr}{w:aC}{ι:Nat->Gh}{pl:am Pl}
theorem awb(pl:am Pl)(q:Nat)(x:Pl):aget (yR (zY 0 pl.length) pl) q=some x↔pl[q]?=some x/\x.isGone=false:=by
 constructor
 .intro h;obtain⟨l,g1,g2,g3⟩:=QS _ _ _ _ h;rw[vN]at g1;split at g1
  .cases g1;rw[aX];exact⟨g2,g3⟩
  cases g1
 rintro⟨g1,g2⟩;have g:q<pl.length:=(am.getElem?_eq_some_iff.1 g1).1;have i:(zY 0 pl.length)[q]?=some q:=by rw[vN,bG g,aX]
 have:=kJ _ _ q q x i g1 g2;cases j:aget (yR (zY 0 pl.length) pl) q with
 |none=>exact absurd j this
 |some y=>
  obtain⟨l,g3,g4,o⟩:=QS _ _ _ _ j;rw[vN]at g3;split at g3
  .cases g3;rw[aX]at g1;rw[g1]at g4;cases g4;rfl
  cases g3
theorem atF(U:∀p x,aget (yR (zY 0 pl.length) pl) p=some x->PR ι w (F.ok ι (yR (zY 0 pl.length) pl) w) p x)(R:∀p x b,aget (yR (zY 0 pl.length) pl) p=some x->foot ι p x b->F.M b\/F.w0.heap.size<=b)
 (ad:∀p x,aget (yR (zY 0 pl.length) pl) p=some x->x.live=true) (ι':Nat->Gh) {c:C}{v:Value}(h:CR ι w (F.ok ι (yR (zY 0 pl.length) pl) w) c v) (hd:∀p o,c≠ .ptr p o) (he:∀p z i k,c≠ .eptr p z i k) (aa:∀f p ps,c≠ .clo f (p::ps)):
 CR ι' w (F.ok ι' [] w) (c.asData pl) v:=by
 have hk:zR w w (F.ok ι (yR (zY 0 pl.length) pl) w) (F.ok ι' [] w):=λb P=>⟨⟨P.1,P.2.1,λ⟨_,_,h,_⟩=>by cases h⟩,rfl⟩
 cases c with
 |d x=>exact RD.keep hk _ _ h
 |nil=>
  have h:v=.slice none 0 0:=h;simp only[C.asData,CR,RD];exact⟨none,0,0,h,rfl,bB _,cm _,.inl trivial⟩
 |own q sz n=>
  simp only[C.asData];split
  .rename_i z r fz hq;have g:aget (yR (zY 0 pl.length) pl) q=some (.arr z r fz):=(awb pl q _).2 ⟨hq,rfl⟩;obtain⟨h0,hn,ac⟩:=U q _ g;simp only[CR,RD];rcases h with⟨I,J,h3⟩|⟨b,cap,t,I,J,h3,h4,h5,h6⟩
   .subst J;exact⟨none,0,0,h3,dT,bB _,cm _,.inl dT⟩
   rcases ac with⟨e,_⟩|⟨b',e1,e2,e3,e4⟩
   .rw[I]at e;cases e
   rw[I]at e1;cases e1;have ab:fz=false:=by
    have:=ad q _ g;cases fz
    .rfl
    cases this
   subst ab;obtain⟨ae,e5,_⟩:=e4 rfl;refine⟨_,n,cap,h3,by rw[bN];omega,h4,h5,.inr ⟨b,0,z,rfl,⟨.inr (R q _ b g I),e5.lt,λ⟨_,_,h,_⟩=>by cases h⟩,?_⟩⟩;exact RDs.take n (cR hk b z r 0 (λ_ _ _=>rfl) e2)
  trivial
 |dead=>trivial
 |sub _ _ _ _=>trivial
 |iter _=>trivial
 |fp l=>
  exact CR.keep (ι:=ι') hk (z7.refl w) (.fp l) v h
 |clo f j=>cases j with
  |nil=>exact h
  |cons p ps=>exact absurd rfl (aa f p ps)
 |ptr p o=>exact absurd rfl (hd p o)
 |eptr p z i k=>exact absurd rfl (he p z i k)
 |root q=>
  simp only[C.asData];split
  .rename_i t hq;have g:aget (yR (zY 0 pl.length) pl) q=some (.deep t):=(awb pl q _).2 ⟨hq,rfl⟩;split
   .rename_i x hx;obtain⟨I,J⟩:=U q _ g;obtain⟨e1,_⟩:=h;subst e1;exact RT.toRD hk t _ _ _ (λb P=>⟨.inr (R q _ b g P),RT.lt t _ _ J b P,λ⟨_,_,h,_⟩=>by cases h⟩) J hx
   trivial
  trivial
def C.plain:C->Bool|.ptr _ _=>false|.eptr _ _ _ _=>false|.clo _ (_::_)=>false|_=>true
def W.plain:W->Bool|.c x=>x.plain|.agg cs=>cs.all C.plain
def V.plain:V->Bool|.w x=>x.plain|.tup xs=>xs.all W.plain
theorem aaY.asData{r:Res}{v:Value}(h:aaY F w r v)(g:r.v.plain=true):aaY F w r.asData v:=by
 obtain⟨_,ι,J,U,h3,h4,h5,_⟩:=h;have hC:∀{c:C}{v:Value},CR ι w (F.ok ι (yR (zY 0 r.pl.length) r.pl) w) c v->c.plain=true->CR ι w (F.ok ι [] w) (c.asData r.pl) v:=fun{c v} hc g=>
  atF U h4 h5 ι hc (λp o e=>by rw[e]at g;cases g) (λp z i k e=>by rw[e]at g;cases g) (λf p ps e=>by rw[e]at g;cases g)
 have j:∀(cs:am C) (vs:am Value),CRs ι w (F.ok ι (yR (zY 0 r.pl.length) r.pl) w) cs vs->cs.all C.plain=true->CRs ι w (F.ok ι [] w) (cs.map (C.asData r.pl)) vs:=by
  intro cs;induction cs with
  |nil=>intro vs h _;cases vs with|nil=>trivial|cons _ _=>exact h.elim
  |cons c cs I=>
   intro vs h g;cases vs with
   |nil=>exact h.elim
   |cons v vs=>
    rw[cr,aA]at g;exact⟨hC h.1 g.1,I vs h.2 g.2⟩
 have P:∀{x:W}{v:Value},WR ι w (F.ok ι (yR (zY 0 r.pl.length) r.pl) w) x v->x.plain=true->WR ι w (F.ok ι [] w) (x.asData r.pl) v:=fun{x v} R g=>by
  cases x with
  |c c=>exact hC R g
  |agg cs=>obtain⟨vs,e,h⟩:=R;exact⟨vs,e,j cs vs h g⟩
 have l:∀(cs:am W) (vs:am Value),qq ι w (F.ok ι (yR (zY 0 r.pl.length) r.pl) w) cs vs->cs.all W.plain=true->qq ι w (F.ok ι [] w) (cs.map (W.asData r.pl)) vs:=by
  intro cs;induction cs with
  |nil=>intro vs h _;cases vs with|nil=>trivial|cons _ _=>exact h.elim
  |cons c cs I=>
   intro vs h g;cases vs with
   |nil=>exact h.elim
   |cons v vs=>
    rw[cr,aA]at g;exact⟨P h.1 g.1,I vs h.2 g.2⟩
 refine⟨cm _,ι,?_,λp x h=>(by cases h),λp q x y b h=>(by cases h),λp x b h=>(by cases h),λp x h=>(by cases h),λp x h=>(by cases h)⟩;obtain⟨v',aa⟩:=r;cases v' with
 |w x=>exact P J g
 |tup xs=>obtain⟨vs,e,h⟩:=J;exact⟨vs,e,l xs vs h g⟩
end
theorem Sat.data{P:Program}{k:Nat}{args:am W}{Q Q':Res->Prop}(h:Sat P k args Q)(i:∀r,Q r->r.v.plain=true/\Q' r.asData):Sat P k args Q':=
 ⟨h.1,λw A vals j l=>(h.2 w A vals j l).mono λ_ _ ⟨v,r,I,g,o,p⟩=>⟨v,r.asData,I,(i r g).2,o.asData (i r g).1,p⟩⟩
theorem zx{b:Bool}{X Y:Prop}(g:b=true->X)(i:b=false->Y):cond b X Y:=by cases b;exact i rfl;exact g rfl
structure Tab(P:Program) where
 f:FuncId->am W->aD W
 ok:∀k args w,f k args=some w->Sat P k args (λr=>r=⟨.w w,[]⟩)
def jO:am Prop->Prop->Prop
 |[],K=>K
 |p::r,K=>p/\jO r K
theorem Q3{l:am Prop}{K:Prop}(h:jO l K):jO l True/\K:=by
 induction l with
 |nil=>exact⟨trivial,h⟩
 |cons p r g=>exact⟨⟨h.1,(g h.2).1⟩,(g h.2).2⟩
theorem azG{l:am Prop}{K:Prop}(h:jO l True)(k:K):jO l K:=by
 induction l with
 |nil=>exact k
 |cons p r g=>exact⟨h.1,g h.2⟩
theorem af8{l m:am Prop}(h:jO (l++m) True):jO l True/\jO m True:=by
 induction l with
 |nil=>exact⟨trivial,h⟩
 |cons p r g=>exact⟨⟨h.1,(g h.2).1⟩,(g h.2).2⟩
def auW(s:S)(args:am W):aD (am W):=match ab1 s.pl args with|some (g,_)=>some g|none=>none
def ai5(f:FuncId->am W->aD W)(op:AOp)(s:S):aD (am Prop×V):=
 match op with
 |.mov x=>some ([],s.o x)
 |.pick c a b=>match yL (s.o c),yL (s.o a),yL (s.o b)with
   |some t,some x,some y=>some ([],zZ (cond t x y))
   |_,_,_=>none
 |.ld g sz x=>match s.oc x with
   |.ptr p off=>match aget s.pl p with
     |some (.box cs)=>match ke g sz (cs.drop off)with|some w=>some ([],.w w)|none=>none
     |some (.fbox I)=>match ke g sz ((I.drop off).map .d)with|some w=>some ([],.w w)|none=>none
     |_=>none
   |.fp cells=>match ke g sz (cells.map .d)with|some w=>some ([],.w w)|none=>none
   |_=>none
 |.nc x=>match s.oc x with
   |.ptr p k=>some ([],cV (.ptr p k))
   |.eptr p z i k=>some ([],cV (.eptr p z i k))
   |.fp l=>some ([],cV (.fp l))
   |_=>none
 |.slen x=>match s.oc x with
   |.d (.lit (.string b))=>some ([],zm b.size)
   |_=>none
 |.bnot x=>match yL (s.o x)with
   |some b=>some ([],zZ (!b))
   |none=>none
 |.ineg x=>match s.oc x with
   |.d (.lit (.int k n))=>some ([],cV (.d (.lit (.int k (k.wrap (0-n))))))
   |_=>none
 |.beq neg x y=>match yL (s.o x),yL (s.o y)with
   |some a,some b=>some ([],zZ (bif neg then a !=b else a==b))
   |_,_=>none
 |.conv k x=>match s.oc x with
   |.d (.lit (.int _ n))=>some ([],cV (.d (.lit (.int k (k.wrap n)))))
   |_=>none
 |.eqa neg ks x y=>match s.o x,s.o y with
   |.w (.agg xs),.w (.agg ys)=>match Y1 ks xs ys with
     |some b=>some ([],zZ (bif neg then !b else b))
     |none=>none
   |_,_=>none
 |.fa off x=>match s.oc x with
   |.ptr p o=>some ([],cV (.ptr p (o+off)))
   |.eptr p z i k=>some ([],cV (.eptr p z i (k+off)))
   |.fp cells=>some ([],cV (.fp (cells.drop off)))
   |_=>none
 |.fld g sz off x=>match s.o x with
   |.w (.agg cs)=>match ke g sz (cs.drop off)with
     |some w=>some ([],.w w)
     |none=>none
   |_=>none
 |.six x i=>match s.oc x,XL (s.o i)with
   |.d (.lit (.string b)),some n=>some ([0<=n/\n<b.size],cV (.d (.lit (.int .u8 (b.data.toList.getD n.toNat 0).toNat))))
   |_,_=>none
 |.ext x i=>match s.o x with
   |.tup xs=>match xs[i]? with
     |some w=>some ([],.w w)
     |none=>none
   |_=>none
 |.len x=>match s.oc x with
   |.d (.sl l)=>some ([],zm l.length)
   |.nil=>some ([],zm 0)
   |.own _ _ n=>some ([],zm n)
   |_=>none
 |.bin b x y=>match s.oc x,s.oc y with
   |.d (.lit (.int k m)),.d (.lit (.int j n))=>bif wl k j then
    match ai7 b k m n with
    |some v=>some ([],cV (.d (.lit v)))
    |none=>none
     else none
   |.d (.lit (.string m)),.d (.lit (.string n))=>match ai8 b m n with
     |some v=>some ([],cV (.d (.lit v)))
     |none=>none
   |_,_=>none
 |.mm r x y=>match s.oc x,s.oc y with
   |.d (.lit (.int k m)),.d (.lit (.int j n))=>bif wl k j then some ([],cV (.d (.lit (.int k (zI r m n)))))else none
   |_,_=>none
 |.mmt r x y z=>match s.oc x,s.oc y,s.oc z with
   |.d (.lit (.int k m)),.d (.lit (.int j n)),.d (.lit (.int J p))=>bif wl k j&&wl k J then some ([],cV (.d (.lit (.int k (zI r (zI r m n) p)))))else none
   |_,_,_=>none
 |.call k args=>match auW s (args.map s.ow)with
   |some I=>match f k I with
    |some w=>bif w.scalar then some ([],.w w)else none
    |none=>none
   |none=>none
 |_=>none
theorem Wq{v:V}{b:Bool}(h:yL v=some b):v=zZ b:=by
 unfold yL at h;split at h
 .cases h;rfl
 cases h
theorem gI{P:Program}{T:Tab P}{op:AOp}{s:S}{R:am Prop}{v:V}{dst:aD Nat}{K:S->Prop}(h:ai5 T.f op s=some (R,v))(J:jO R True)(hk:K (s.put dst v))(U:isSome dst=true):
 zK P dst op s K:=by
 unfold ai5 at h;split at h
 .cases h;exact hk
 .simp only[zK];split at h
  .rename_i t x y j i l;cases h;rw[j];cases t
   .show K _;rw[Wq l];exact hk
   show K _;rw[Wq i];exact hk
  cases h
 .simp only[zK,aLd];split at h
  .split at h
   .split at h
    .cases h;simp_all
    cases h
   .split at h
    .cases h;simp_all
    cases h
   cases h
  .split at h
   .cases h;simp_all
   cases h
  cases h
 .simp only[zK];split at h<;>cases h<;>simp_all
 .simp only[zK];split at h<;>cases h<;>simp_all
 .simp only[zK];split at h<;>cases h<;>simp_all
 .simp only[zK];split at h<;>cases h<;>simp_all
 .simp only[zK];split at h<;>cases h<;>simp_all
 .simp only[zK];split at h<;>cases h<;>simp_all
 .simp only[zK];split at h
  .split at h<;>cases h<;>simp_all
  cases h
 .simp only[zK];split at h<;>cases h<;>simp_all
 .simp only[zK];split at h
  .split at h<;>cases h<;>simp_all
  cases h
 .simp only[zK];split at h
  .cases h;rename_i j i;rw[j,i];exact⟨J.1.1,J.1.2,hk⟩
  cases h
 .simp only[zK];split at h
  .split at h<;>cases h<;>simp_all
  cases h
 .simp only[zK];split at h<;>cases h<;>simp_all
 .simp only[zK,arW];split at h
  .rename_i k m o n j i;rw[j,i];cases g:wl k o<;>rw[g]at h
   .cases h
   simp only[aG]at h⊢;rw[g];split at h
   .rename_i l;cases h;simp only[l,aG];exact hk
   cases h
  .rename_i j i;rw[j,i];split at h
   .rename_i l;cases h;simp only[l];exact hk
   cases h
  cases h
 .simp only[zK,aMm];split at h
  .rename_i k m o n j i;rw[j,i];cases g:wl k o<;>rw[g]at h
   .cases h
   cases h;simp only[g,aG];exact hk
  cases h
 .simp only[zK,aMt];split at h
  .rename_i k m o n k2 p j i l;rw[j,i,l];cases g:(wl k o&&wl k k2)<;>rw[g]at h
   .cases h
   cases h;simp only[g,aG];exact hk
  cases h
 .rename_i k args;simp only[zK,KM];unfold auW at h;cases j:ab1 s.pl (args.map s.ow)with
  |none=>rw[j]at h;cases h
  |some x=>
   obtain⟨I,aa⟩:=x;simp only[j]at h;cases i:T.f k I with
   |none=>simp only[i]at h;cases h
   |some w=>
    simp only[i]at h;cases l:w.scalar<;>rw[l]at h
    .cases h
    cases h;refine Sat.mono (T.ok k I w i) ?_;rintro r rfl;cases dst with
    |none=>cases U
    |some d=>simp only[asZ,V.scalar,l,aG];exact hk
 cases h
end Go.AM
