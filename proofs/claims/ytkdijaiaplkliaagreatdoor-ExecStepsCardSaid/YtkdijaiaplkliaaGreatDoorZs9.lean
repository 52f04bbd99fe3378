import Derived.Sort.Statements
import Derived.Test.YtkdijaiaplkliaaGreatDoorZs8
set_option linter.unusedSimpArgs false
set_option linter.unusedVariables false
set_option maxRecDepth 100000
set_option maxHeartbeats 4000000
open _root_ renaming List->am,of_decide_eq_true->aD,of_decide_eq_false->aE,cond_false->aF,if_neg->aG,cond_true->aK,if_pos->aL,congrArg->bB,decide_eq_false->bN,decide_eq_true->b9,beq_eq_false_iff_ne->cr,bne_self_eq_false->cD
open Nat renaming le_refl->aA,mul_le_mul_right->aO,zero_le->aP,le_trans->aQ,succ_mul->aX,zero_mul->bF,min_eq_left->bH,lt_or_ge->bR,lt_of_lt_of_le->bS,min_eq_right->bY
open Go.IntKind renaming i64->aB
open List renaming drop_eq_nil_of_le->aC,length_append->aH,getElem_mem->aM,take_length->aN,take_of_length_le->aR,append_nil->aS,take_append_drop->aT,replicate->aU,append_assoc->aV,map_append->aW,length_take->aZ,map_take->bC,mem_cons->bD,length_drop->bE,rel_of_pairwise_cons->bG,mem_singleton->bJ,mem_cons_self->bK,take_succ_eq_append_getElem->bL,mem_cons_of_mem->bP,length_map->bQ,pairwise_iff_getElem->bU,pairwise_singleton->bX,mem_append->bZ,length_singleton->cd,mem_of_getElem?->cg,pairwise_append->cq,mem_map_of_mem->cz,getElem_of_mem->cA
open Go.AM.Sat renaming w->aI,mono->bA
open Go renaming IntKind->aJ,World->aY,heap_alloc_old->bI
open List.Pairwise renaming of_cons->bM,nil->bW,cons->cC
open Go.AM.RD renaming keep->bO
open Prod renaming fst->bT
open Go.Proofs.YtkdijaiaplkliaaGreatDoor.GW renaming gr->bV
open Int renaming le_refl->cj
open Bool renaming false_and->ck,or_eq_false_iff->cm,true_and->cB
open List.Perm renaming refl->cn
open Go.World renaming grownBy_alloc->cw
namespace Go.Proofs.YtkdijaiaplkliaaGreatDoor
section
open Go Go.AM Go.Proofs Go.RowKit
theorem gY {W:aY}{B e s n:Nat}{v:Value}{xs:am Value}(h:W.ownsRow B e s v n xs)(l:n≠0): ∃j cap,v= .slice (some ⟨j,0,none⟩) n cap:=by
 rcases h.2 with⟨_,h0⟩|⟨g,cap,i,rfl,_⟩
 ·exact absurd h0 l
 exact⟨g,cap,rfl⟩
theorem GInv.grow {A:Nat ->Prop}{B:Nat}{W W':aY}{v:Value}{gs:am GW}{E:Nat ->Prop}(h:GInv A B W v gs E)(hB:B<=W.heap.size)(i:Grows (λ_=>False) W W'):GInv A B W' v gs (λb=>(E b\/W.heap.size<=b)/\b<W'.heap.size):=
 h.more hB i.size (λb g=>i.block b g λh=>h) (λb g=>⟨.inl g,bS (h.dlt b g) i.size⟩) (λb g=>⟨g.2,g.1⟩)
theorem GInv.kg {A:Nat ->Prop}{B:Nat}{W W':aY}{v:Value}{gs:am GW}{E:Nat ->Prop}(h:GInv A B W v gs E)(i:Grows (λ_=>False) W W'):zP W W' E (λb=>(E b\/W.heap.size<=b)/\b<W'.heap.size):=
 λb g=>⟨⟨.inl g,bS (h.dlt b g) i.size⟩,i.block b (h.dlt b g) λh=>h⟩
theorem Zc {B:Nat}{w W W':aY}(h:Below B w W)(hB:B<=W.heap.size)(g:Grows (λ_=>False) W W'):Below B w W':=
 ⟨g.os.trans h.os,g.tape.trans h.tape,g.output.trans h.output,aQ h.size g.size,λk hk=>(g.block k (bS hk hB) λh=>h).trans (h.block k hk)⟩
theorem JJ {A:Nat ->Prop}{w W:aY}(hA:(∀b,A b ->b<w.heap.size)/\Glb A w)(h:Below w.heap.size w W):Glb A W:=hA.2.mono (λ_ h=>h) (λk g=>h.block k (hA.1 k g))
theorem aof {A:Nat ->Prop}{B:Nat}{w W:aY}{l cap:Nat}{gs:am GW}{E:Nat ->Prop}(h:GInv A B W (.slice (some ⟨l,0,none⟩) gs.length cap) gs E)(hB:B<=W.heap.size){p:Nat}(hp:p<gs.length){x:am Val}{o j:Value}(hx:RD W E (.sl (rowD x)) o){I:aY}{g:GW}(hg:gs[p]=g)
 (R:I.ownsRow B tR 1 j (g.rows.length+1) (g.rvs++[o])) (r:(W.alloc (.cells #[o] tR)).grownBy I g.rv.ownBlock) (hd:(W.alloc (.cells #[o] tR)).drawn<=I.drawn /\Ju (W.alloc (.cells #[o] tR)) g.rv j) (P:Below B w W):
 I.cell? ⟨l,p*2+1,none⟩=some g.rv /\I.frozen? ⟨l,p*2+1,none⟩=false /\GInv A B (I.setCell ⟨l,p*2+1,none⟩ j) (.slice (some ⟨l,0,none⟩) gs.length cap) (gs.set p ⟨g.key,g.rows++[x],g.kv,j,g.rvs++[o]⟩) E /\
  Below B w (I.setCell ⟨l,p*2+1,none⟩ j)/\True:=by
 subst hg;have ha:GInv A B (W.alloc (.cells #[o] tR)) (.slice (some ⟨l,0,none⟩) gs.length cap) gs E:=
  h.more hB (by simp) (λb J=>bI W _ (h:=J)) (λ_ h=>h) (λb J=>⟨by have:=h.dlt b J;simp;omega,.inl J⟩)
 have af:RD (W.alloc (.cells #[o] tR)) E (.sl (rowD x)) o:=bO (λb J=>⟨J,bI W _ (h:=h.dlt b J)⟩) _ _ hx;have U:gs[p]∈gs:=aM hp;have ae:gs[p].rv.ownBlock≠some l:=h.apart _ U l rfl;have i:=ha.own.kept r (.inr λe=>ae e.symm);have hc:=VN hp;rw[show p*2+1=2*p+1 by omega];have ad:=ha.addRow hp af R r hd.2;obtain⟨s1,s2⟩:=i.stored (2*p+1) j;have aa:Below B w (W.alloc (.cells #[o] tR)):=P.grown (cw W _ none) hB (λk e=>by cases e);have ab:Below B w I:=aa.grown r (by simp;omega) (λk e=>((h.rows _ U).1.lt k e).1);have ac:=ab.grown s2 (aQ (by simp;omega) r.size) (λk e=>by cases e;exact(h.own.lt l rfl).1);exact⟨by rw[i.cellAt (2*p+1) (by omega)];exact hc.2,i.frozenAt _,ad,ac,trivial⟩
theorem GInv.rvCell {A:Nat ->Prop}{B:Nat}{W:aY}{i cap:Nat}{gs:am GW}{E:Nat ->Prop}(h:GInv A B W (.slice (some ⟨i,0,none⟩) gs.length cap) gs E){p:Nat}(l:p<gs.length){g:GW}(j:gs[p]=g):W.cell? ⟨i,p*2+1,none⟩=some g.rv:=by
 subst j;rw[show p*2+1=2*p+1 by omega,h.own.cellAt (2*p+1) (by omega)];exact(VN l).2
theorem akx {gs:am GW}{p:Nat}(o:p<gs.length){g:GW}(l:gs[p]=g)(x:am Val)(i:Value)(j:am Value):(gs.set p ⟨g.key,g.rows++[x],g.kv,i,j⟩).map bV=Z9 (gs.map bV) p x:=by
 subst l;unfold Z9;rw[am.getElem?_map,am.getElem?_eq_getElem o,List.map_set];rfl
theorem ao4 {gs:am Gr}{p:Nat}{x:am Val}{n:Nat}(h: ∀g∈gs,g.rows.length<=n): ∀g∈Z9 gs p x,g.rows.length<=n+1:=by
 unfold Z9;split
 ·rename_i y j;intro g i;rcases List.mem_or_eq_of_mem_set i with i|rfl
  ·have:=h g i;omega
  have:=h y (cg j);simp;omega
 intro g i;have:=h g i;omega
theorem arE {gs:am Gr}{k:am Val}{n:Nat}(h: ∀g∈gs,g.rows.length<=n): ∀g∈ZM gs k,g.rows.length<=n:=by
 unfold ZM;cases YH gs k
 ·intro g i;simp only[aF,bZ,bJ]at i;rcases i with(i|rfl)|i
  ·exact h g (List.mem_of_mem_take i)
  ·exact aP _
  exact h g (List.mem_of_mem_drop i)
 exact h
theorem gH (at_:am Int)(rows:am (am Val)): ∀i,∀g∈vQ at_ (rows.take i),g.rows.length<=i
 |0=>by simp[vQ]
 |i+1=>by
  by_cases h:i<rows.length
  ·rw[gI at_ h];exact ao4 (arE (gH at_ rows i))
  rw[aR (by omega)];have:=gH at_ rows i;rw[aR (by omega)]at this;intro g j;have:=this g j;omega
theorem alJ {w:aY}{x:Value}{t:TypeId}: ∀j u,[x][j]? =some u ->(w.alloc (.cells #[x] t)).cell? ((⟨w.heap.size,0,none⟩:Addr).add j)=some u:=by
 intro j u g
 match j,g with
 |0,g=>simp at g;subst g;simp[Addr.add]
 |(j+1),g=>simp at g
theorem ahE {w:aY}{ok:Nat ->Prop}{l:am (am D)}{v:Value}(h:RD w ok (.sl l) v): ∃a n c,v= .slice a n c:=by
 simp only[RD]at h;obtain⟨a,n,c,rfl,_⟩:=h;exact⟨a,n,c,rfl⟩
theorem asc {w:aY}{ok:Nat ->Prop}{l:am (am D)}{v:Value}(h:RD w ok (.sl l) v): ∀u∈ [v],u.oneCell'=true:=by
 intro u g;simp at g;subst g;simp only[RD]at h;obtain⟨a,n,c,rfl,_⟩:=h;rfl
theorem aor {α:Type}(l:am α){p:Nat}(o:p<=l.length)(g:α):(l.take p++[g]++l.drop p).length=l.length+1 /\ ∃h:p<(l.take p++[g]++l.drop p).length,(l.take p++[g]++l.drop p)[p]=g:=by
 have j:(l.take p++[g]++l.drop p).length=l.length+1:=by simp only[aH,aZ,bE,cd];omega
 refine⟨j,by omega,?_⟩;have i:(l.take p).length=p:=by rw[aZ];omega
 rw[List.getElem_append_left (by rw[aH,i,cd];omega),List.getElem_append_right (by omega)];simp
theorem GInv.ins {A:Nat ->Prop}{B:Nat}{W W':aY}{v:Value}{gs:am GW}{E:Nat ->Prop}(h:GInv A B W v gs E)(hB:B<=W.heap.size){p:Nat}(R:p<=gs.length){key:am Val}{j:Value}(I:RD W E (.sl (rowD key)) j){o:Obj}{P cap:Nat}{g:am GW}(r:gs.take p++[⟨key,[],j,.slice none 0 0,[]⟩]++gs.drop p=g)
 (J:W'.ownsRow B tG 2 (.slice (some ⟨P,0,none⟩) (gs.length+1) cap) (gs.length+1) ((cellsG gs).take (2*p)++[j,.slice none 0 0]++(cellsG gs).drop (2*p))) (l:(W.alloc o).grownBy W' v.ownBlock) (hf:Ju (W.alloc o) v (.slice (some ⟨P,0,none⟩) (gs.length+1) cap)):
 g.length=gs.length+1 /\GInv A B W' (.slice (some ⟨P,0,none⟩) g.length cap) g E /\(∀d u,RD W E d u ->RD W' E d u)/\ ∃h:p<g.length,g[p]=⟨key,[],j,.slice none 0 0,[]⟩:=by
 subst r;have U:=(aor gs R (⟨key,[],j,.slice none 0 0,[]⟩:GW)).1;have ha:GInv A B (W.alloc o) v gs E:=h.more hB (by simp) (λb i=>bI W _ (h:=i)) (λ_ h=>h) (λb i=>⟨by have:=h.dlt b i;simp;omega,.inl i⟩);have hk:RD (W.alloc o) E (.sl (rowD key)) j:=bO (λb i=>⟨i,bI W _ (h:=h.dlt b i)⟩) _ _ I;refine⟨U,?_,λd u hd=>?_,(aor gs R _).2⟩
 ·rw[U];exact ha.insert R hk J l hf
 refine bO (λb i=>⟨i,?_⟩) _ _ hd;rw[l.block b (by have:=h.dlt b i;simp;omega) λe=>h.vD b e.symm i];exact bI W _ (h:=h.dlt b i)
theorem awh (gs:am GW)(p:Nat)(key:am Val)(g:Value):(gs.take p++[(⟨key,[],g,.slice none 0 0,[]⟩:GW)]++gs.drop p).map bV=(gs.map bV).take p++[⟨key,[]⟩]++(gs.map bV).drop p:=by
 simp[bV,bC,List.map_drop]
set_option maxRecDepth 100000 in
set_option maxHeartbeats 4000000 in
theorem ani (w:aY)(A:Nat ->Prop)(hA:(∀b,A b ->b<w.heap.size)/\Glb A w)(cv:Value)(rb ro rc:Nat)(ao:Option Addr)(an ac:Nat)(at_:am Int)(rows:am (am Val))(bl:an≠0)(b6:rows.length<=1000000)
 (a3:RD w A (.sl (zg at_)) (.slice ao an ac)) (bs:A rb) (ab: ∀(i:Nat) (h:i<rows.length),∃u,w.cell? ⟨rb,ro+i,none⟩=some u /\RD w A (.sl (rowD rows[i])) u)
 (au: ∀r∈rows,zQ r.length at_) (a4:at_.length<=1000000)
 (I: ∀(i:Nat) (h:i<rows.length),YH (vQ at_ (rows.take i)) (zn rows[i] at_)=false ->ajZ (vQ at_ (rows.take i)).length (qu (vQ at_ (rows.take i)) (zn rows[i] at_))):
 Calls Tryz.prog 169 #[.agg #[cv,.slice (some ⟨rb,ro,none⟩) rows.length rc],.slice ao an ac] w λe w'=> ∃v gs E,e= .returned v /\GInv A w.heap.size w' v gs E /\gs.map bV=vQ at_ rows /\Below w.heap.size w w' /\True:=by
 have bi:=hA.1 rb bs;obtain⟨ir,bd,bf,bg,bh⟩:=info_parts ayh
 go_enter Tryz.func169,Tryz.ntmps169
 go_wp2
 rw[show((an:Int)==0)=false by simpa using bl]
 go_loopw [5,21] (λv i wr=> ∃(k:Nat) (gs:am GW) (E:Nat ->Prop),k<=rows.length /\i= .int .i64 k /\GInv A w.heap.size wr v gs E /\gs.map bV=vQ at_ (rows.take k)/\Below w.heap.size w wr /\True) (λ_ i _=>rows.length -(intOf i).toNat)
 case atStart=>exact⟨0,[],A,aP _,rfl,GInv.nil (λb hb=>by have:=hA.1 b hb;simp;omega),rfl,(Below.refl _ _).alloc (aA _) _,trivial⟩
 case round=>
  obtain⟨k,gs,E,hk,rfl,o,ad,l,bo⟩:=hrel;have hB:=l.size;by_cases af:k<rows.length
  ·obtain⟨xv,a5,bj⟩:=ab k af;have hc:wr.cell? ⟨rb,ro+k,none⟩=some xv:=(l.cell (p:=⟨rb,ro+k,none⟩) bi).trans a5;have a2:zP w wr A E:=λb hb=>⟨o.dA b hb,l.block b (hA.1 b hb)⟩
   have hx:RD wr E (.sl (rowD rows[k])) xv:=bO a2 _ _ bj;have aq:RD wr E (.sl (zg at_)) (.slice ao an ac):=bO a2 _ _ a3;obtain⟨xa,xn,xc,rfl⟩:=ahE hx;have ba:Glb A wr:=JJ hA l;have ah:Calls Tryz.prog 172 #[.slice xa xn xc,.slice ao an ac] wr λe w'=> ∃v,e= .returned v /\RD w' (λb=>(E b\/wr.heap.size<=b)/\b<w'.heap.size) (.sl (rowD (zn rows[k] at_))) v /\Grows (λ_=>False) wr w':=
    auI (Xy rows[k] at_ a4 (au _ (aM af))) wr E [.slice xa xn xc,.slice ao an ac] ⟨o.dlt,ba.mono (λb hb=>o.dA b hb) (λ_ _=>rfl)⟩ ⟨hx,aq,trivial⟩
   have b3:gs.length<=k:=by
    have:=Q7 at_ rows k;rw[<- ad,bQ]at this;exact this
   have I:=I k af;rw[<- ad]at I;have U:=gI at_ af;have al:=gH at_ rows k;rw[<- ad]at al;have al: ∀g∈gs,g.rows.length<=k:=λg hg=>al g.gr (cz hg)
   rw[<- ad]at U;clear ab au a5 bj aq a3;generalize rows[k]=x at*;unfold WK ZM at U;generalize b5:zn x at_=key at*;cases hh:YH (gs.map bV) key with
   |true=>
    rw[hh]at U;have hp:=aon hh;rw[bQ]at hp;obtain⟨gb,cap,rfl⟩:=gY o.own (by omega);have P: ∀(W2:aY) (E2:Nat ->Prop) (kv:Value),GInv A w.heap.size W2 (.slice (some ⟨gb,0,none⟩) gs.length cap) gs E2 ->Glb A W2 ->RD W2 E2 (.sl (rowD key)) kv ->Calls Tryz.prog 197 #[.slice (some ⟨gb,0,none⟩) gs.length cap,kv,.func (.func 198) #[] #[]] W2 λe w'=>e= .returned (.tuple #[.int .i64 (qu (gs.map bV) key),.bool true])/\Grows (λ_=>False) W2 w':=λW2 E2 kv h1 h2 h3=>by
     have:=h1.search h2 (by omega) h3;rw[hh]at this;exact this
    generalize qu (gs.map bV) key=p at*;clear I;obtain⟨g,hg⟩: ∃g,gs[p]=g:=⟨_,rfl⟩;have bb:g∈gs:=hg▸aM hp;have b4:=al g bb
    go_wp2_with (first
     |(go_at_call 172;refine ah.mono ?_;rintro e w1 ⟨kv,rfl,ae,j⟩;obtain⟨ka,kn,kc,rfl⟩:=ahE ae)
     |(go_at_call 197;have h1:=o.grow hB j;refine(P w1 _ _ h1 (JJ hA (Zc l hB j)) ae).mono ?_;rintro e w2 ⟨rfl,R⟩;have h2:=h1.grow (aQ hB j.size) R;have ai:=aQ hB (aQ j.size R.size);have av:=Zc (Zc l hB j) (aQ hB j.size) R;have ax:=h2.rvCell hp hg;have a0:=bO (h1.kg R) _ _ (bO (o.kg j) _ _ hx))
     |(at_builtin;refine jb _ rfl (.tmp 48) (.tmp 50) 45 rfl w.heap.size tR ir (.slice none 0 0) 1 24 Tryz.underlying45 bd bf bg bh rfl (by decide) _ _ _ rfl (((h2.rows g bb).1).alloc _) ⟨w2.heap.size,0,none⟩ 1 1 [.slice xa xn xc] rfl rfl alJ (asc hx) (by simp only[maxLen];omega) (by omega) (by simp;omega) ?_;intro b7 w3 J aa a7 _;obtain⟨bw,bu,rfl⟩:=gY J (by omega);obtain⟨b0,a9,aj,aw,a6⟩:=aof h2 ai hp a0 hg J aa a7 av))
    go_roundw
    case rel=>
     exact⟨k+1,_,_,af,by go_num,aj,(akx hp hg x _ _).trans U.symm,aw,a6⟩
    case measure=>simp[intOf];omega
   |false=>
    rw[hh]at U;have hp:=kL (gs.map bV) key;have I:=I hh;rw[bQ]at hp I;have P: ∀(W2:aY) (E2:Nat ->Prop) (kv:Value),GInv A w.heap.size W2 u5 gs E2 ->Glb A W2 ->RD W2 E2 (.sl (rowD key)) kv ->Calls Tryz.prog 197 #[u5,kv,.func (.func 198) #[] #[]] W2 λe w'=>e= .returned (.tuple #[.int .i64 (qu (gs.map bV) key),.bool false])/\Grows (λ_=>False) W2 w':=λW2 E2 kv h1 h2 h3=>by
     have:=h1.search h2 (by omega) h3;rw[hh]at this;exact this
    generalize qu (gs.map bV) key=p at*
    go_wp2_with (first
     |(go_at_call 172;refine ah.mono ?_;rintro e w1 ⟨kv,rfl,ae,j⟩;obtain⟨ka,kn,kc,rfl⟩:=ahE ae)
     |(go_at_call 197;have h1:=o.grow hB j;refine(P w1 _ _ h1 (JJ hA (Zc l hB j)) ae).mono ?_;rintro e w2 ⟨rfl,R⟩;have h2:=h1.grow (aQ hB j.size) R;have ai:=aQ hB (aQ j.size R.size);have av:=Zc (Zc l hB j) (aQ hB j.size) R;have a0:=bO (h1.kg R) _ _ (bO (o.kg j) _ _ hx);have be:=bO (h1.kg R) _ _ ae)
     |(go_at_call 199;refine(I _ w.heap.size u5 (cellsG gs) (h2.own.alloc _) (by simp;omega) h2.ones w2.heap.size _ _ (heap_alloc_new w2 _) (λe=>Nat.lt_irrefl _ (h2.own.lt _ e).2) rfl rfl).mono ?_;rintro e w3 ⟨v3,rfl,J,aa,_,a9⟩;obtain⟨gb,cap,rfl⟩:=gY J (by omega);obtain⟨a1,ar⟩: ∃a1,gs.take p++[⟨key,[],Value.slice ka kn kc,.slice none 0 0,[]⟩]++gs.drop p=a1:=⟨_,rfl⟩;obtain⟨bq,h3,ak,az,ay⟩:=h2.ins ai hp be ar J aa a9;have ax:w3.cell? ⟨gb,p*2+1,none⟩=some (.slice none 0 0):=h3.rvCell az ay;have bt:=ak _ _ a0;have bk:w.heap.size<=w3.heap.size:=aQ (by simp;omega) aa.size;have aw:Below w.heap.size w w3:=(av.grown (cw w2 _ none) ai (λk e=>by cases e)).grown aa (by simp;omega) (λk e=>(h2.own.lt k e).1);have a6:True:=trivial)
     |(at_builtin;refine jb _ rfl (.tmp 48) (.tmp 50) 45 rfl w.heap.size tR ir (.slice none 0 0) 1 24 Tryz.underlying45 bd bf bg bh rfl (by decide) _ _ _ rfl (World.ownsRow_nil _ _ _ _) ⟨w3.heap.size,0,none⟩ 1 1 [.slice xa xn xc] rfl rfl alJ (asc hx) (by simp only[maxLen];omega) (by omega) (by simp;omega) ?_;intro b8 w4 ag bc a8 _;obtain⟨bz,bv,rfl⟩:=gY ag (by omega);obtain⟨b1,b2,aj,bm,bn⟩:=aof h3 bk az bt ay ag bc a8 aw))
    go_roundw
    case rel=>
     rw[bq]at aj;exact⟨k+1,_,_,af,by go_num,aj,((akx az ay x _ _).trans (by rw[<- ar,awh];rfl)).trans U.symm,bm,bn⟩
    case measure=>simp[intOf];omega
  have bp:k=rows.length:=by omega
  subst bp;rw[aN]at ad;clear ab
  go_wp2
  go_ret
  exact⟨_,gs,E,rfl,o,ad,l,bo⟩
def UF (gs:am Gr):am (am D):=gs.map λg=> [D.sl (rowD g.key),D.sl (zf g.rows)]
theorem atO (l:am Gr):(UF l).length=l.length:=by simp[UF]
theorem atN {r:am Gr}{i:Nat}(h:i<r.length):(UF r)[((i:Int)).toNat]? =some [D.sl (rowD r[i].key),D.sl (zf r[i].rows)]:=by simp[UF,am.getElem?_eq_getElem h]
def wW (at_:am Int)(rows:am (am Val)):am Gr:=if at_=[]then [⟨[],rows⟩]else vQ at_ rows
theorem adE {w w':aY}(h:Below w.heap.size w w'):Grows (λ_=>False) w w':=by
 refine⟨h.os,h.tape,h.output,h.size,λb i _=>h.block b i,λb t m hs=>?_⟩;have g:b<w.heap.size:=by
  rcases bR b w.heap.size with h|h
  ·exact h
  simp[aY.shape?,Array.getElem?_eq_none h]at hs
 simp only[aY.shape?,h.block b g];exact hs
theorem auz {w w':aY}{A:Nat ->Prop}{d:D}{v:Value}(h:RD w' (λb=>(A b\/w.heap.size<=b)/\b<w'.heap.size) d v):gf ⟨w,A,λ_=>False,λ_=>none⟩ w' (rC (.d d)) v:=by
 refine⟨aA _,λ_=>⟨none,0,.nilFunc,[]⟩,?_,?_,?_,?_,?_,?_⟩
 ·show RD w' _ d v;refine bO (λb i=>⟨⟨?_,i.2,?_⟩,rfl⟩) _ _ h
  ·rcases i.1 with h|h
   ·exact .inl h
   exact .inr (.inr h)
  rintro⟨p,x,g,_⟩;cases g
 ·intro p y g;cases g
 ·intro p q y z b g;cases g
 ·intro p y b g;cases g
 ·intro p y g;cases g
 intro p y g;cases g
theorem agm (cols:am Col)(rows:am (am Val))(at_:am Int)(aq:rows.length<=1000000)(I: ∀r∈rows,zQ r.length at_)(ae:at_.length<=1000000)
 (p: ∀(i:Nat) (h:i<rows.length),YH (vQ at_ (rows.take i)) (zn rows[i] at_)=false ->ajZ (vQ at_ (rows.take i)).length (qu (vQ at_ (rows.take i)) (zn rows[i] at_))):
 Sat Pg Yi [.agg [.d (.sl (zm cols)),.d (.sl (zf rows))],.c (.d (.sl (zg at_)))] (λr=>r=rC (.d (.sl (UF (wW at_ rows))))):=by
 by_cases R:at_=[]
 ·subst R;refine zD ?_;show Sat Pg Yi _ (DQ (rC (.d (.sl [[.sl [],.sl (zf rows)]]))));clear p I;refine QX.s T8 ?_;exact⟨rfl,rfl⟩
 have ak:at_.length≠0:=λh=>R (List.eq_nil_of_length_eq_zero h)
 have hq:wW at_ rows=vQ at_ rows:=aG R;rw[hq];by_cases hr:rows=[]
 ·subst hr;refine zD ?_;show Sat Pg Yi _ (DQ (rC (.d (.sl []))));have e:(((zg at_).length:Int)==0)=false:=by rw[zB];simpa using R
  clear p I;refine QX.s T8 ?_;rw[e];(conv=>whnf);refine wB (P:=Pg) (f:=T8.f) (body:=(QX.l 0)) 1 ?_;exact⟨rfl,rfl⟩
 refine⟨by kernel_rfl,λw A vals hA J=>?_⟩
 match vals,J with
 | [],J=>exact J.elim
 | [_],J=>exact J.2.elim
 |_::_::_::_,J=>exact J.2.2.elim
 | [tv,av],J=>
 obtain⟨ar,au,_⟩:=J;obtain⟨vs,rfl,j⟩:=ar
 match vs,j with
 | [],j=>exact j.elim
 | [_],j=>exact j.2.elim
 |_::_::_::_,j=>exact j.2.2.elim
 | [cv,rv],j=>
 have ai:RD w A (.sl (zf rows)) rv:=j.2.1;have aa:RD w A (.sl (zg at_)) av:=au;have af:=aa;simp only[RD]at ai aa;obtain⟨a,n,c,rfl,hn,_,_,ab⟩:=ai;obtain⟨ao,an,ac,rfl,ad,_⟩:=aa;rw[zx]at hn;subst hn;rw[zB]at ad;subst ad;rcases ab with h|⟨b,o,sz,rfl,aj,ab⟩
 ·exact absurd (by cases rows with|nil=>rfl|cons a r=>simp[zf]at h) hr
 have U: ∀(i:Nat) (h:i<rows.length),∃u,w.cell? ⟨b,o+i,none⟩=some u /\RD w A (.sl (rowD rows[i])) u:=by
  have gen: ∀(rows:am (am Val)) (o:Nat),RDs w A b sz o (zf rows) -> ∀(i:Nat) (h:i<rows.length),∃u,w.cell? ⟨b,o+i,none⟩=some u /\RD w A (.sl (rowD rows[i])) u:=by
   intro rows;induction rows with
   |nil=>intro o _ i h;simp at h
   |cons x r ih=>
    intro o hd i h;simp only[zf,List.map_cons,RDs,RDc]at hd;obtain⟨h1,⟨⟨u,h2,h3⟩,_⟩,h4⟩:=hd;have hs:sz=1:=by simpa using h1.symm
    subst hs;cases i with
    |zero=>exact⟨u,h2,h3⟩
    |succ i=>
     obtain⟨u,h5,h6⟩:=ih (o+1) h4 i (by simpa using h);exact⟨u,by rw[<- h5];congr 2;omega,h6⟩
  exact gen rows o ab
 refine(ani w A hA cv b o c ao at_.length ac at_ rows ak aq af aj U I ae p).mono ?_;rintro e w' ⟨v,gs,E,rfl,ah,al,ag,aw⟩;refine⟨v,_,rfl,rfl,auz ?_,adE ag⟩;have:=ah.data;have e:UF (vQ at_ rows)=gs.map λg=> [D.sl (rowD g.key),D.sl (zf g.rows)]:=by rw[<- al];simp[UF,bV]
 rw[e];exact this
end
section
open Go Go.AM
attribute [local irreducible] Sat zA zY
def hiI (h n:Int):Int:=aB.wrap (h+Ka false .i64 n 32)
def loI (l n:Int):Int:=aB.wrap (l+Kk .and .i64 n 4294967295)
def ae3:Int ->Int ->am Val ->Option (Int×Int)
 |h,l,[]=>some (h,l)
 |h,l,v::r=>bif v.k !=2 then none else ae3 (hiI h v.n) (loI l v.n) r
def aqr (h l:Int):Val:=
 bif decide (hiI h l>1048576)||decide (hiI h l< -1048576)then yf else
 v6 (aB.wrap (Ka true .i64 (hiI h l) 32+Kk .and .i64 l 4294967295)) (inB (aB.wrap (Ka true .i64 (hiI h l) 32+Kk .and .i64 l 4294967295)))
def KM (l:am Val):Val:=match ae3 0 0 l with
 |some (h,x)=>aqr h x
 |none=>yf
theorem awF (l:am Val):Sat Pg afM [yt l] (λr=>r=rV (KM l)):=by
 refine w8 0 (by kernel_rfl) rfl λo=>?_
 rw[zt]at o;refine afk.s T8 ?_;refine yq (P:=Pg) (f:=T8.f) (body:=(afk.l 0)) (λx:Nat×Int×Int=>⟨[(2,cV (.ptr 2 0)),(3,zl x.2.1),(4,zl x.2.2),(8,.w (yt l)),(9,zl (rowD l).length),(10,zl x.1)],[(2,.box [int 0,int 0,str ⟨#[]⟩])]⟩) (λx=>l.length - x.1) (λx=>x.1<=l.length /\ae3 0 0 l=ae3 x.2.1 x.2.2 (l.drop x.1)) ⟨(0,0,0),⟨aP _,rfl⟩,ze ?_⟩ ?_
 ·exact rfl
 rintro⟨i,h,lo⟩ U;obtain⟨hi,g⟩:i<=l.length /\ae3 0 0 l=ae3 h lo (l.drop i):=U;refine zi (λI=>?_) (λI=>?_)
 ·have j:i<l.length:=by have I:decide ((i:Int)<((rowD l).length:Int))=true:=I;simp_all[zt]
  have R:=xj j;rw[zq j]at g;simp only[ae3]at g;have wi:=zC j o;generalize l[i]=v at*;obtain⟨v1,v2,v3⟩:=v;simp only at g;refine yu R ?_;refine zi (b:=v1 !=2) (λp=>?_) (λp=>?_)
  ·rw[p,aK]at g;have hs:KM l=yf:=by grind[KM]
   rw[hs];exact rfl
  rw[p,aF]at g;(conv=>whnf);refine⟨by omega,?_⟩;(conv=>whnf);refine⟨(i+1,hiI h v2,loI lo v2),⟨⟨j,g⟩,by grind⟩,ze ?_⟩;(conv=>whnf);rw[wi];rfl
 have J:l.length<=i:=by grind[zt]
 rw[aC J]at g;have hs:KM l=aqr h lo:=by unfold KM;rw[g];rfl
 rw[hs];unfold aqr;clear hs g;(conv=>whnf);refine⟨by omega,?_⟩;refine zi (b:=decide (hiI h lo>1048576)||decide (hiI h lo< -1048576)) (λp=>?_) (λp=>?_)
 ·rw[p];exact rfl
 rw[p];simp only[aF];(conv=>whnf);refine⟨by omega,?_⟩;(conv=>whnf);unfold hiI;generalize aB.wrap (Ka true .i64 (aB.wrap (h+Ka false .i64 lo 32)) 32+Kk .and .i64 lo 4294967295)=z;cases inB z<;>rfl
def jk (m:Val):am Val ->Val
 | []=>m
 |v::r=>jk (bif decide (xP v m<0)then v else m) r
def Qr (m:Val):am Val ->Val
 | []=>m
 |v::r=>Qr (bif decide (xP v m>0)then v else m) r
theorem awC (l:am Val)(h0:0<l.length):Sat Pg jj [yt l,.c (.d (.fn xL []))] (λr=>r=rV (jk l[0] (l.drop 1))):=by
 refine w8 0 (by kernel_rfl) rfl λo=>?_
 rw[zt]at o;have p:=xj h0;have e0:decide (((rowD l).length:Int)<1)=false:=bN (by grind);generalize l[0]=m0 at*;obtain⟨m1,m2,m3⟩:=m0;refine YP.s T8 ?_;rw[e0];refine yu p ?_;refine yq (P:=Pg) (f:=T8.f) (body:=(YP.l 0)) (λx:Nat×Val=>⟨[(0,.w (yt l)),(1,.w (.c (.d (.fn xL [])))),(4,cV (.ptr 4 0)),(5,cV (.ptr 5 0)),(6,zl x.1)],[(4,.box [int 0,int 0,str ⟨#[]⟩]),(5,.box [int x.2.k,int x.2.n,str x.2.s])]⟩) (λx=>l.length - x.1) (λx=>x.1<=l.length /\jk ⟨m1,m2,m3⟩ (l.drop 1)=jk x.2 (l.drop x.1)) ⟨(1,⟨m1,m2,m3⟩),⟨h0,rfl⟩,ze ?_⟩ ?_
 ·exact rfl
 rintro⟨i,⟨I,J,R⟩⟩ hx;obtain⟨hi,j⟩:i<=l.length /\jk ⟨m1,m2,m3⟩ (l.drop 1)=jk ⟨I,J,R⟩ (l.drop i):=hx;clear e0 p;refine zi (λU=>?_) (λU=>?_)
 ·have g:i<l.length:=by have U:decide ((i:Int)<((rowD l).length:Int))=true:=U;simp_all[zt]
  have hg:=xj g;rw[zq g]at j;simp only[jk]at j;have wi:=zC g o;generalize l[i]=v at*;obtain⟨v1,v2,v3⟩:=v;have hc:=uY ⟨v1,v2,v3⟩ ⟨I,J,R⟩;generalize xP ⟨v1,v2,v3⟩ ⟨I,J,R⟩=c at*;refine yu hg ?_;refine aI hc ?_;refine zw (b:=decide (c<0)) (λh2=>?_) (λh2=>?_)
  ·rw[h2,aK]at j;refine yu hg ?_;refine⟨(i+1,⟨v1,v2,v3⟩),⟨⟨g,j⟩,by grind⟩,ze ?_⟩;(conv=>whnf);rw[wi];rfl
  rw[h2,aF]at j;(conv=>whnf);refine⟨(i+1,⟨I,J,R⟩),⟨⟨g,j⟩,by grind⟩,ze ?_⟩;(conv=>whnf);rw[wi];rfl
 have aa:l.length<=i:=by grind[zt]
 rw[aC aa]at j;simp only[jk]at j;rw[j];exact rfl
theorem awB (l:am Val)(h0:0<l.length):Sat Pg ji [yt l,.c (.d (.fn xL []))] (λr=>r=rV (Qr l[0] (l.drop 1))):=by
 refine w8 0 (by kernel_rfl) rfl λo=>?_
 rw[zt]at o;have p:=xj h0;have e0:decide (((rowD l).length:Int)<1)=false:=bN (by grind);generalize l[0]=m0 at*;obtain⟨m1,m2,m3⟩:=m0;refine YO.s T8 ?_;rw[e0];refine yu p ?_;refine yq (P:=Pg) (f:=T8.f) (body:=(YO.l 0)) (λx:Nat×Val=>⟨[(0,.w (yt l)),(1,.w (.c (.d (.fn xL [])))),(4,cV (.ptr 4 0)),(5,cV (.ptr 5 0)),(6,zl x.1)],[(4,.box [int 0,int 0,str ⟨#[]⟩]),(5,.box [int x.2.k,int x.2.n,str x.2.s])]⟩) (λx=>l.length - x.1) (λx=>x.1<=l.length /\Qr ⟨m1,m2,m3⟩ (l.drop 1)=Qr x.2 (l.drop x.1)) ⟨(1,⟨m1,m2,m3⟩),⟨h0,rfl⟩,ze ?_⟩ ?_
 ·exact rfl
 rintro⟨i,⟨I,J,R⟩⟩ hx;obtain⟨hi,j⟩:i<=l.length /\Qr ⟨m1,m2,m3⟩ (l.drop 1)=Qr ⟨I,J,R⟩ (l.drop i):=hx;clear e0 p;refine zi (λU=>?_) (λU=>?_)
 ·have g:i<l.length:=by have U:decide ((i:Int)<((rowD l).length:Int))=true:=U;simp_all[zt]
  have hg:=xj g;rw[zq g]at j;simp only[Qr]at j;have wi:=zC g o;generalize l[i]=v at*;obtain⟨v1,v2,v3⟩:=v;have hc:=uY ⟨v1,v2,v3⟩ ⟨I,J,R⟩;generalize xP ⟨v1,v2,v3⟩ ⟨I,J,R⟩=c at*;refine yu hg ?_;refine aI hc ?_;refine zw (b:=decide (c>0)) (λh2=>?_) (λh2=>?_)
  ·rw[h2,aK]at j;refine yu hg ?_;refine⟨(i+1,⟨v1,v2,v3⟩),⟨⟨g,j⟩,by grind⟩,ze ?_⟩;(conv=>whnf);rw[wi];rfl
  rw[h2,aF]at j;(conv=>whnf);refine⟨(i+1,⟨I,J,R⟩),⟨⟨g,j⟩,by grind⟩,ze ?_⟩;(conv=>whnf);rw[wi];rfl
 have aa:l.length<=i:=by grind[zt]
 rw[aC aa]at j;simp only[Qr]at j;rw[j];exact rfl
def yw (l:am Val):am Val:=l.filter λv=>v.k !=0
def jJ:ByteArray:=⟨#[99,111,117,110,116]⟩
def ab7:ByteArray:=⟨#[115,117,109]⟩
def al3:ByteArray:=⟨#[102,105,114,115,116]⟩
def auG:ByteArray:=⟨#[109,105,110]⟩
def auF:ByteArray:=⟨#[109,97,120]⟩
def Uj (fn:ByteArray)(l:am Val):Val:=
 bif zo fn jJ then⟨2,l.length,⟨#[]⟩⟩else bif zo fn ab7 then KM (yw l)else
 bif zo fn al3&&decide ((l.length:Int)>0)then at0 l 0 else
 bif zo fn auG&&decide (((yw l).length:Int)>0)then jk (at0 (yw l) 0) ((yw l).drop 1)else
 bif zo fn auF&&decide (((yw l).length:Int)>0)then Qr (at0 (yw l) 0) ((yw l).drop 1)else yf
def agS (fn:ByteArray)(l:am Val)(i:Nat)(g:am Val):S:=⟨[(0,.w (.c (str fn))),(1,.w (yt l)),(4,cV (.ptr 4 0)),(5,cV (.own 20 3 g.length)),(8,.w (yt l)),(9,zl (rowD l).length),(10,zl i)],
 [(4,.box [int 0,int 0,str ⟨#[]⟩]),(20,.arr 3 (rowD g) false)]⟩
theorem agW {l:am Val}{i:Nat}(h:i<l.length):at0 l i=l[i]:=by grind[at0]
theorem awA (fn:ByteArray)(l:am Val)(ae:l.length<=1000000):Sat Pg gK [.c (str fn),yt l] (λr=>r=rV (Uj fn l)):=by
 have U:=awF (yw l);have J:=λh=>awC (yw l) h
 have I:=λh=>awB (yw l) h
 have hA: ∀h:0<(yw l).length,(yw l)[0]=at0 (yw l) 0:=λh=>(agW h).symm
 have J:0<(yw l).length ->Sat Pg jj [yt (yw l),.c (.d (.fn xL []))] (λr=>r=rV (jk (at0 (yw l) 0) ((yw l).drop 1))):=λh=>by grind
 have I:0<(yw l).length ->Sat Pg ji [yt (yw l),.c (.d (.fn xL []))] (λr=>r=rV (Qr (at0 (yw l) 0) ((yw l).drop 1))):=λh=>by grind
 have o:decide ((l.length:Int)>0)=true ->(rowD l)[((0:Int)).toNat]? =some (at0 l 0).ds:=λh=>by
  have h:=aD h;have:=xj (r:=l) (i:=0) (by omega)
  grind[agW]
 unfold Uj;refine gu.s T8 ?_;refine yx (P:=Pg) (f:=T8.f) (body:=(gu.l 0)) l.length (λi=>agS fn l i (yw (l.take i))) (λ_=>True) ⟨trivial,⟨_,zW 5 20 3 (by omega) (by omega) rfl,?_⟩⟩ ?_
 ·exact rfl
 intro i hi _;have ac:(yw (l.take i)).length<=i:=by
  grind[yw]
 have g: ∀h:i<l.length,yw (l.take (i+1))=yw (l.take i)++(bif l[i].k !=0 then [l[i]]else []):=λh=>Zd (λv:Val=>v.k !=0) h
 have j:l.length<=i ->yw l=yw (l.take i):=λh=>by grind
 show mwpR Pg T8.f (gu.l 0) _ (agS fn l i (yw (l.take i)));generalize yw (l.take i)=T at*;have R:(rowD T).take T.length=rowD T:=by grind[zt]
 unfold agS;refine zi (λh1=>?_) (λh1=>?_)
 ·have p:i<l.length:=by have h1:decide ((i:Int)<((rowD l).length:Int))=true:=h1;have:=aD h1;grind[zt]
  have hg:=xj p;have g:=g p;have wi:=zC p (by omega);clear U J I hA o j;generalize l[i]=v at*;obtain⟨v1,v2,v3⟩:=v;simp only at g;refine yu hg ?_;refine zi (b:=v1 !=0) (λh2=>?_) (λh2=>?_)
  ·rw[h2,aK]at g;refine wu ?_;refine y6 p trivial ?_;rw[wi,R,g,<- vT,aH];rfl
  rw[h2,aF,aS]at g;refine y6 p trivial ?_;rw[wi,g];rfl
 have ad:l.length<=i:=by grind[zt]
 have j:=j ad;subst j;clear g ac;refine zi (b:=zo fn jJ) (λq1=>?_) (λq1=>?_)
 ·rw[q1];(conv=>whnf);rw[zt];rfl
 rw[q1];simp only[aF];refine zi (b:=zo fn ab7) (λq2=>?_) (λq2=>?_)
 ·rw[q2];simp only[aK];have ab:Sat Pg afM [.c (.d (.sl ((rowD (yw l)).take (yw l).length)))] (λr=>r=rV (KM (yw l))):=by rw[R];exact U
  generalize KM (yw l)=u at*;obtain⟨u1,u2,u3⟩:=u;refine aI ab ?_;rfl
 rw[q2];simp only[aF];refine zi (b:=zo fn al3&&decide (((rowD l).length:Int)>0)) (λq3=>?_) (λq3=>?_)
 ·rw[zt]at q3;rw[q3];simp only[aK];have hf:=o (by simp_all);generalize at0 l 0=u at*;obtain⟨u1,u2,u3⟩:=u;refine yu hf ?_;exact rfl
 rw[zt]at q3;rw[q3];simp only[aF];refine zi (b:=zo fn auG&&decide (((yw l).length:Int)>0)) (λq4=>?_) (λq4=>?_)
 ·rw[q4];simp only[aK];have h0:0<(yw l).length:=by
   simp_all
  have aa:Sat Pg jj [.c (.d (.sl ((rowD (yw l)).take (yw l).length))),.c (.d (.fn xL []))] (λr=>r=rV (jk (at0 (yw l) 0) ((yw l).drop 1))):=by rw[R];exact J h0
  generalize jk (at0 (yw l) 0) ((yw l).drop 1)=u at*;obtain⟨u1,u2,u3⟩:=u;refine aI aa ?_;rfl
 rw[q4];simp only[aF];refine zi (b:=zo fn auF&&decide (((yw l).length:Int)>0)) (λq5=>?_) (λq5=>?_)
 ·rw[q5];simp only[aK];have h0:0<(yw l).length:=by
   simp_all
  have aa:Sat Pg ji [.c (.d (.sl ((rowD (yw l)).take (yw l).length))),.c (.d (.fn xL []))] (λr=>r=rV (Qr (at0 (yw l) 0) ((yw l).drop 1))):=by rw[R];exact I h0
  generalize Qr (at0 (yw l) 0) ((yw l).drop 1)=u at*;obtain⟨u1,u2,u3⟩:=u;refine aI aa ?_;rfl
 rw[q5];simp only[aF];exact rfl
theorem uq (l:am Val)(g:l.length<=1000000):Sat Pg gM [yt l] (λr=>(l=[]/\r=rC .nil)\/r=ab0 3 (rowD l)):=by
 refine xq T3 gz.ok (by kernel_rfl) ?_;refine⟨λh=>?_,?_⟩
 ·conv=>whnf
  left
  refine⟨?_,rfl⟩;cases l with
  |nil=>rfl
  |cons a r=>cases h
 (conv=>whnf);refine⟨XP l,by grind[ym,zt],by grind[zt],?_⟩
 right
 show Res.mk (.w (.c (.own 0 3 (([]:am (am D)).length+(rowD l).length)))) [.arr 3 (([]:am (am D)).take ([]:am (am D)).length++rowD l) false]=_;simp_all[ab0]
def Q5 (cols:am Col)(rows:am (am Val))(a:Agg):am Val:=
 bif decide (zj cols a.col>=0)&& !zo a.fn jJ then rows.map λr=>at0 r (zj cols a.col).toNat else aU rows.length yf
def Y9 (cols:am Col)(rows:am (am Val))(g:am Agg):am Val:=g.map λa=>Uj a.fn (Q5 cols rows a)
def qk (cols:am Col)(i:am Agg)(g:Gr):am Val:=g.key++Y9 cols g.rows i
def Stp.cs (s:Stp):am C:=match s.cond with| .mk g i v ks=>vE s.op g i v ks (yW s.items) (zp s.cols) (wt s.aggs) (xQ s.sorts) s.n s.table
def gdA (cols:am Col)(rows:D)(st:Stp)(gs:am Gr)(i:Nat)(g:am (am Val)):S:=⟨[(2,cV (.ptr 2 0)),(3,cV (.ptr 3 0)),(5,cV (.own 78 1 g.length)),(20,.w (.c (.d (.sl (UF gs))))),(21,zl gs.length),(22,zl i)],
 [(2,.box [.d (.sl (zm cols)),.d rows]),(3,.box st.cs),(78,.arr 1 (zf g) false)]⟩
def gdB (cols:am Col)(rows:D)(st:Stp)(gs:am Gr)(i:Nat)(o:am (am Val))(g:Gr)(l:am Agg)(j:Nat)(row:am Val):S:=⟨[(2,cV (.ptr 2 0)),(3,cV (.ptr 3 0)),(5,cV (.own 78 1 o.length)),(7,cV (.ptr 7 0)),(8,cV (.own 73 3 row.length)),(20,.w (.c (.d (.sl (UF gs))))),(21,zl gs.length),(22,zl i),(30,.w (.c (.d (.sl (wt l))))),(31,zl l.length),(32,zl j)],
 [(2,.box [.d (.sl (zm cols)),.d rows]),(3,.box st.cs),(7,.box [.d (.sl (rowD g.key)),.d (.sl (zf g.rows))]),(73,.arr 3 (rowD row) false),(78,.arr 1 (zf o) false)]⟩
def gdC (cols:am Col)(rows:D)(st:Stp)(gs:am Gr)(i:Nat)(p:am (am Val))(g:Gr)(o:am Agg)(j:Nat)(row:am Val)(a:Agg)(k:Int)(m:Nat)(l:am Val):S:=⟨[(2,cV (.ptr 2 0)),(3,cV (.ptr 3 0)),(5,cV (.own 78 1 p.length)),(7,cV (.ptr 7 0)),(8,cV (.own 73 3 row.length)),(10,cV (.ptr 10 0)),(11,cV (.own 39 3 g.rows.length)),(12,zl k),(20,.w (.c (.d (.sl (UF gs))))),(21,zl gs.length),(22,zl i),(30,.w (.c (.d (.sl (wt o))))),(31,zl o.length),(32,zl j),(52,.w (.c (.d (.sl (zf g.rows))))),(53,zl g.rows.length),(54,zl m)],
 [(2,.box [.d (.sl (zm cols)),.d rows]),(3,.box st.cs),(7,.box [.d (.sl (rowD g.key)),.d (.sl (zf g.rows))]),(10,.box [str a.fn,str a.col,str a.nm]),(39,.arr 3 (rowD l) false),(73,.arr 3 (rowD row) false),(78,.arr 1 (zf p) false)]⟩
def xD (s:S)(k:Nat)(v:V):S:=⟨s.sl++[(k,v)],s.pl⟩
theorem auC (l:am Val)(i:Nat)(v:Val):(rowD l).set i v.ds=rowD (l.set i v):=by grind[rowD,List.map_set]
def part (rows:am (am Val))(k:Int)(m:Nat):am Val:=(rows.take m).map (λr=>at0 r k.toNat)++aU (rows.length - m) yf
theorem aun (rows:am (am Val))(k:Int){m:Nat}(h:m<=rows.length):(part rows k m).length=rows.length:=by grind[part]
theorem auo (rows:am (am Val))(k:Int){m:Nat}(h:m<rows.length):(part rows k m).set m (at0 rows[m] k.toNat)=part rows k (m+1):=by
 unfold part;have g:((rows.take m).map λr=>at0 r k.toNat).length=m:=by simp;omega
 rw[List.set_append_right _ _ (by omega),g,Nat.sub_self,zR h,aW];obtain⟨n,i⟩: ∃n,rows.length - m=n+1:=⟨rows.length - m - 1,by omega⟩
 grind
theorem ayf {Q:E ->S ->Prop}{s:S}(cols:am Col)(rows:D)(st:Stp)(gs:am Gr)(i:Nat)(I:am (am Val))(g:Gr)(o:am Agg)(j:Nat)(row:am Val)(a:Agg)(k:Int)(hk:0<=k /\k<cols.length)(ad:g.rows.length<=500000)(hw: ∀r∈g.rows,r.length=cols.length)
 (h0:yX s [2,3,5,7,8,10,11,12,20,21,22,30,31,32,52,53,54] (· =gdC cols rows st gs i I g o j row a k 0 (aU g.rows.length yf)))
 (hQ:Q (.exit 4) (xD (gdC cols rows st gs i I g o j row a k g.rows.length (g.rows.map λr=>at0 r k.toNat)) 55 (ya (decide ((g.rows.length:Int)<g.rows.length))))):
 zY (mwpR Pg T8.f (x9.l 0)) [2,3,5,7,8,10,11,12,20,21,22,30,31,32,52,53,54] Q s:=by
 refine yx (P:=Pg) (f:=T8.f) (body:=(x9.l 0)) g.rows.length (λm=>gdC cols rows st gs i I g o j row a k m (part g.rows k m)) (λ_=>True) ⟨trivial,?_⟩ ?_
 ·grind[part]
 intro m hm _;have J:=λh:m<g.rows.length=>auo g.rows k h
 have ac:=aun g.rows k hm;have U:m=g.rows.length ->part g.rows k m=g.rows.map λr=>at0 r k.toNat:=λh=>by simp_all[part]
 show mwpR Pg T8.f (x9.l 0) _ (gdC cols rows st gs i I g o j row a k m (part g.rows k m));generalize part g.rows k m=l at*;obtain⟨key,R⟩:=g;obtain⟨op,⟨eo,nm,⟨v1,v2,v3⟩,ks⟩,ae,aj,af,ag,sn,tb⟩:=st;simp only at J ac U hm ad hw hQ;unfold gdC Stp.cs vE;refine zi (λh1=>?_) (λh1=>?_)
 ·have p:m<R.length:=by have h1:decide ((m:Int)<(R.length:Int))=true:=h1;simp_all
  have hg:=yJ p;have J:=J p;have ai:=hw _ (aM p);have wi:=zC p (by omega);generalize R[m]=r at*;have ab:(rowD r)[k.toNat]? =some (at0 r k.toNat).ds:=by
   grind[agW,rowD]
  generalize at0 r k.toNat=v at*;obtain⟨u1,u2,u3⟩:=v;have ah:(m:Int)<(rowD l).length:=by grind[zt]
  refine yu hg ?_;refine yu ab ?_ (hA:=hk.1);refine xW ?_ (hA:=by omega) (hB:=by grind);refine⟨_,xj (r:=l) (i:=m) (by omega),aA _,?_⟩;refine y6 p trivial ?_;rw[wi,<- J,<- auC];rfl
 have aa:m=R.length:=by grind
 have hf:=U aa;subst aa;subst hf;exact hQ
theorem ak1 (cols:am Col)(rows:am (am Val))(a:Agg):(Q5 cols rows a).length=rows.length:=by
 grind[Q5]
theorem ayg {Q:E ->S ->Prop}{s:S}(cols:am Col)(rows:am (am Val))(st:Stp)(gs:am Gr)(i:Nat)(J:am (am Val))(g:Gr)(R:st.aggs.length<=100000)(ao:g.key.length<=500000)(aj:g.rows.length<=500000)(hw: ∀r∈g.rows,r.length=cols.length)
 (h0:yX s [2,3,5,7,8,20,21,22,30,31,32] (· =gdB cols (.sl (zf rows)) st gs i J g st.aggs 0 g.key))
 (hQ:Q (.exit 2) (xD (gdB cols (.sl (zf rows)) st gs i J g st.aggs st.aggs.length (qk cols st.aggs g)) 33 (ya (decide ((st.aggs.length:Int)<st.aggs.length))))):
 zY (mwpR Pg T8.f (x9.l 1)) [2,3,5,7,8,20,21,22,30,31,32] Q s:=by
 refine yx (P:=Pg) (f:=T8.f) (body:=(x9.l 1)) st.aggs.length (λj=>gdB cols (.sl (zf rows)) st gs i J g st.aggs j (g.key++Y9 cols g.rows (st.aggs.take j))) (λ_=>True) ⟨trivial,?_⟩ ?_
 ·grind[Y9]
 intro j hj _;have an:(g.key++Y9 cols g.rows (st.aggs.take j)).length=g.key.length+j:=by grind[Y9]
 have I: ∀h:j<st.aggs.length,g.key++Y9 cols g.rows (st.aggs.take (j+1))=(g.key++Y9 cols g.rows (st.aggs.take j))++[Uj (st.aggs[j]).fn (Q5 cols g.rows st.aggs[j])]:=λh=>by
  grind[Y9,zR]
 have ad:j=st.aggs.length ->qk cols st.aggs g=g.key++Y9 cols g.rows (st.aggs.take j):=λh=>by rw[h,aN];rfl
 show mwpR Pg T8.f (x9.l 1) _ (gdB cols (.sl (zf rows)) st gs i J g st.aggs j (g.key++Y9 cols g.rows (st.aggs.take j)));generalize au:g.key++Y9 cols g.rows (st.aggs.take j)=T at*;have ak:(rowD T).take T.length=rowD T:=by grind[zt]
 have al:=λ(Q':E ->S ->Prop) (s':S) (a:Agg) (k:Int) (hk:0<=k /\k<cols.length)=>ayf (Q:=Q') (s:=s') cols (.sl (zf rows)) st gs i J g st.aggs j T a k hk aj hw
 obtain⟨key,o⟩:=g;obtain⟨op,⟨eo,nm,⟨v1,v2,v3⟩,ks⟩,aq,aw,p,ar,sn,tb⟩:=st;simp only at I ad hj ao aj hw hQ an R;unfold gdB Stp.cs vE;refine zi (λh1=>?_) (λh1=>?_)
 ·have ab:j<p.length:=by have h1:decide ((j:Int)<(p.length:Int))=true:=h1;have:=aD h1;omega
  have hg:=gj ab;have I:=I ab;have wi:=zC ab (by omega);generalize p[j]=a at*;have ac:=xz cols (.d (.sl (zf rows))) a.col ⟨_,rfl⟩;have av:=ak1 cols o a;have R:=awA a.fn (Q5 cols o a) (by omega);have af:=Q4 (λx=>zo x.name a.col) cols 0 (cj _);have af:0<=zj cols a.col ->zj cols a.col<cols.length:=λh=>by grind[zj]
  have aa:Q5 cols o a=bif decide (zj cols a.col>=0)&& !zo a.fn jJ then o.map (λr=>at0 r (zj cols a.col).toNat)else aU o.length yf:=rfl
  have ae:(rowD (Q5 cols o a)).take o.length=rowD (Q5 cols o a):=by grind[zt]
  have ag:rowD (aU o.length yf)=aU o.length yf.ds:=by simp[rowD]
  generalize Q5 cols o a=l at*;obtain⟨a1,a2,a3⟩:=a;simp only at ac R af aa I;generalize zj cols a2=k at*;refine yu hg ?_;rw[show(zf (Gr.mk key o).rows).length=o.length from zx o];refine⟨by omega,by omega,by unfold ym;simp;omega,by omega,?_⟩;refine aI ac ?_;refine zw (b:=decide (k>=0)&& !zo a1 jJ) (λh2=>?_) (λh2=>?_)
  ·rw[h2,aK]at aa;(conv=>whnf);have ai:0<=k:=by
    simp_all
   refine al _ _ ⟨a1,a2,a3⟩ k ⟨ai,af ai⟩ (ze ?_) ?_
   ·(conv=>whnf);unfold gdC;rw[ag,zx];rfl
   simp only[];rw[<- aa];have U:Sat Pg gK [.c (str a1),.c (.d (.sl ((rowD l).take o.length)))] (λr=>r=rV (Uj a1 l)):=by rw[ae];exact R
   generalize Uj a1 l=u at*;obtain⟨u1,u2,u3⟩:=u;refine aI U ?_;refine wu ?_;refine y6 ab trivial ?_;rw[wi,ak,I,<- vT,aH];rfl
  rw[h2,aF]at aa;rw[<- aa]at ag;have U:Sat Pg gK [.c (str a1),.c (.d (.sl ((aU o.length yf.ds).take o.length)))] (λr=>r=rV (Uj a1 l)):=by rw[<- ag,ae];exact R
  refine aI U ?_;refine wu ?_;refine y6 ab trivial ?_;rw[wi,ak,I,<- vT,aH];rfl
 have ah:j=p.length:=by grind
 rw[ad ah]at hQ;subst ah;exact hQ
theorem adW (cols:am Col)(rows:am (am Val))(st:Stp)(gs:am Gr)
 (ae:st.cols.length<=1000000) (ad:st.aggs.length<=100000) (au:gs.length<=1000000) (ab: ∀g∈gs,g.key.length<=500000) (ao: ∀g∈gs,g.rows.length<=500000) (hw: ∀g∈gs,∀r∈g.rows,r.length=cols.length)
 (af:Sat Pg Yi [.agg [.d (.sl (zm cols)),.d (.sl (zf rows))],.c (.d (.sl (zg (zh cols st.cols))))] (λr=>r=rC (.d (.sl (UF gs))))):
 Sat Pg JN [.agg [.d (.sl (zm cols)),.d (.sl (zf rows))],.agg st.cs] (λr=>r=rC (.d (.sl (zf (gs.map (qk cols st.aggs)))))):=by
 have ag:=Qy cols (.sl (zf rows)) st.cols ae;have aa:=λ(Q:E ->S ->Prop) (s:S) (i:Nat) (aj:am (am Val)) (g:Gr) (h1:g.key.length<=500000) (h2:g.rows.length<=500000) (h3: ∀r∈g.rows,r.length=cols.length)=>ayg (Q:=Q) (s:=s) cols rows st gs i aj g ad h1 h2 h3
 have p: ∀i,∀h:i<gs.length,(gs.take (i+1)).map (qk cols st.aggs)=(gs.take i).map (qk cols st.aggs)++[qk cols st.aggs gs[i]]:=λi h=>by grind[zR]
 have I: ∀i,gs.length<=i ->gs.map (qk cols st.aggs)=(gs.take i).map (qk cols st.aggs):=λi h=>by rw[aR h]
 refine zD ?_;obtain⟨op,⟨eo,nm,⟨v1,v2,v3⟩,ks⟩,J,ai,j,U,sn,tb⟩:=st;simp only at p I ae ad ag af;unfold Stp.cs vE;refine x9.s T8 ?_;refine aI ag ?_;refine aI af ?_;rw[atO];refine yx (P:=Pg) (f:=T8.f) (body:=(x9.l 2)) gs.length (λi=>gdA cols (.sl (zf rows)) ⟨op,⟨eo,nm,⟨v1,v2,v3⟩,ks⟩,J,ai,j,U,sn,tb⟩ gs i ((gs.take i).map (qk cols j))) (λ_=>True) ⟨trivial,⟨_,zW 5 78 1 (by omega) (by omega) rfl,?_⟩⟩ ?_
 ·exact rfl
 intro i hi _;show mwpR Pg T8.f (x9.l 2) _ (gdA cols (.sl (zf rows)) ⟨op,⟨eo,nm,⟨v1,v2,v3⟩,ks⟩,J,ai,j,U,sn,tb⟩ gs i ((gs.take i).map (qk cols j)));have ar:((gs.take i).map (qk cols j)).length=i:=by simp;omega
 have p:=p i;have I:=I i;generalize(gs.take i).map (qk cols j)=T at*;have ac:(zf T).take T.length=zf T:=by grind[zx]
 unfold gdA Stp.cs vE;refine jH (λo=>?_) (λal=>?_)
 ·have hg:=atN o;have p:=p o;have aa:=λQ s=>aa Q s i T gs[i] (ab _ (aM o)) (ao _ (aM o)) (hw _ (aM o))
  have ab:=ab _ (aM o);have wi:=zC o (by omega);generalize gs[i]=g at*;have ah:(rowD (qk cols j g)).take (qk cols j g).length=rowD (qk cols j g):=by rw[<- zt,aN]
  obtain⟨key,aq⟩:=g;have ak:=uq key (by simp only at ab;omega);refine yu hg ?_;refine bA ak ?_;rintro _ (⟨an,rfl⟩|rfl)
  ·(conv=>whnf);refine aa _ _ ⟨_,zW 8 73 3 (by omega) (by omega) rfl,?_⟩ ?_
   ·(conv=>whnf);unfold gdB;rw[jd];simp only[an];rfl
   simp only[];unfold xD gdB Stp.cs vE;generalize qk cols j ⟨key,aq⟩=R at*;refine wu ?_;refine y6 o trivial ?_;rw[wi,ac,ah,p,xm,aH];rfl
  (conv=>whnf);refine aa _ _ ⟨_,u9 8 600448 73 3 _ _ (by omega) rfl rfl,?_⟩ ?_
  ·(conv=>whnf);rw[jd,zt];rfl
  refine wu ?_;refine y6 o trivial ?_;rw[wi,ac,ah,p,xm,aH];rfl
 rw[I al];refine aw1 ?_;show Res.mk (.w (.c (.d (.sl ((zf T).take T.length))))) []=_;rw[ac];rfl
structure Nmd where
 nm:ByteArray
 t:Tbl
def Nmd.ds (x:Nmd):am D:=[.lit (.string x.nm),.sl (zm x.t.cols),.sl (zf x.t.rows)]
def zu (l:am Nmd):am (am D):=l.map Nmd.ds
theorem ZX (l:am Nmd):(zu l).length=l.length:=by simp[zu]
theorem aeA {r:am Nmd}{i:Nat}(h:i<r.length):(zu r)[((i:Int)).toNat]? =some (r[i]).ds:=by grind[zu]
theorem arX (l:am Nmd)(i:Nat):(zu l).take i=zu (l.take i):=by grind[zu,bC]
def zZ (g:ByteArray):am Nmd ->Option Tbl
 | []=>none
 |x::r=>bif zo x.nm g then some x.t else zZ g r
def rF (x:Option Tbl):Res:=match x with
 |some t=>⟨.tup [t.w,.c (bool true)],[]⟩
 |none=>⟨.tup [.agg [.nil,.nil],.c (bool false)],[]⟩
theorem y9 (d:am Nmd)(p:ByteArray):Sat Pg Qm [.c (.d (.sl (zu d))),.c (str p)] (λr=>r=rF (zZ p d)):=by
 refine w8 0 (by kernel_rfl) rfl λo=>?_
 rw[ZX]at o;refine abi.s T8 ?_;rw[ZX];refine WS T8 (abi.l 0) d.length (λi=>⟨[(1,.w (.c (str p))),(4,cV (.ptr 4 0)),(8,.w (.c (.d (.sl (zu d))))),(9,zl d.length),(10,zl i)],[(4,.box [.nil,.nil])]⟩) (λi=>zZ p d=zZ p (d.drop i)) ?_
 intro i hi g;refine jH (λj=>?_) (λJ=>?_)
 ·rw[zq j]at g;simp only[zZ]at g;have P:=aeA j;have R:=zC j o;generalize d[i]=x at*;obtain⟨xn,⟨U,xr⟩⟩:=x;simp only at g;refine yu P ?_;refine zi (b:=zo xn p) (λI=>?_) (λI=>?_)
  ·rw[I,aK]at g;(conv=>whnf);rw[g];rfl
  rw[I,aF]at g;refine y6 j g ?_;rw[R];rfl
 rw[aC J]at g;(conv=>whnf);rw[g];rfl
def acU (x:Option Tbl):Bool:=match x with|some _=>true|none=>false
def YR (pre:am Nmd):am Nmd ->Int
 | []=>0
 |x::r=>bif wC x.nm !=0 then wC x.nm else bif acU (zZ x.nm pre)then 4 else bif zL x.t !=0 then zL x.t else YR (pre++[x]) r
def yI (d:am Nmd):Int:=bif decide ((d.length:Int)>32)then 7 else YR [] d
theorem qM (d:am Nmd):Sat Pg wY [.c (.d (.sl (zu d)))] (λr=>r=rI (yI d)):=by
 refine w8 0 (by kernel_rfl) rfl λo=>?_
 rw[ZX]at o;unfold yI;refine Uu.s T8 ?_;rw[ZX];refine zw (b:=decide ((d.length:Int)>32)) (λh0=>?_) (λh0=>?_)
 ·rw[h0];exact rfl
 rw[h0];simp only[aF];(conv=>whnf);rw[ZX];refine WS T8 (Uu.l 0) d.length (λi=>⟨[(0,.w (.c (.d (.sl (zu d))))),(12,.w (.c (.d (.sl (zu d))))),(13,zl d.length),(14,zl i)],[]⟩) (λi=>YR [] d=YR (d.take i) (d.drop i)) ?_
 intro i hi g;refine jH (λj=>?_) (λR=>?_)
 ·rw[zq j]at g;simp only[YR]at g;rw[<- zR j]at g;have hg:=aeA j;have wi:=zC j o;have I:=qb d[i].t;have p:=y9 (d.take i) d[i].nm;have U:=J6 d[i].nm;rw[<- arX]at p;generalize d[i]=x at*;obtain⟨xn,⟨xc,xr⟩⟩:=x;simp only at g I p U;generalize zZ xn (d.take i)=f at*;generalize zL ⟨xc,xr⟩=te at*;generalize aa:YR (d.take (i+1)) (d.drop (i+1))=rest at*;refine yu hg ?_;refine zi (b:=wC xn !=0) (λJ=>?_) (λJ=>?_)
  ·rw[J,aK]at g;(conv=>whnf);rw[g];rfl
  rw[J,aF]at g;have ab:i<=(zu d).length:=by grind
  refine xW ?_ (hA:=by show(0:Int)<=(i:Int);omega) (hB:=by show(i:Int)<=((zu d).length:Int);omega);refine Sat.cal (p) ?_;cases f with
  |some ft=>
   obtain⟨fc,fr⟩:=ft;simp only[acU,aK]at g;(conv=>whnf);rw[g];rfl
  |none=>
   simp only[acU,aF]at g;refine aI I ?_;refine zw (b:=te !=0) (λP=>?_) (λP=>?_)
   ·rw[P,aK]at g;(conv=>whnf);rw[g];rfl
   rw[P,aF]at g;refine y6 j g ?_;rw[wi];rfl
 rw[aC R]at g;simp only[YR]at g;(conv=>whnf);rw[g];rfl
def qH (cols:am Col)(i:Int):Col:=cols.getD i.toNat ⟨⟨#[]⟩,0⟩
def takeErr (cols:am Col)(g:am ByteArray):Bool:=g.any λs=>decide (zj cols s<0)
def takeC (cols:am Col)(g:am ByteArray):am Col:=g.map λs=>qH cols (zj cols s)
def WW (e:Int):Res:=⟨.tup [.c (.d (.sl [])),.c (int e)],[]⟩
def rCs (l:am Col):Res:=⟨.tup [.c (.d (.sl (zm l))),.c (int 0)],[]⟩
theorem XG {cols:am Col}{k:Int}(h:0<=k)(g:k<cols.length):(zm cols)[k.toNat]? =some (qH cols k).ds:=by
 grind[qH,zm]
theorem qY (cols:am Col)(s:ByteArray): ¬zj cols s<0 ->0<=zj cols s /\zj cols s<cols.length:=λh=>by
 have:=Q4 (λx=>zo x.name s) cols 0 (cj _)
 grind[zj]
def tkS (cols:am Col)(j:am ByteArray)(i:Nat)(g:am Col):S:=⟨[(0,.w (.c (.d (.sl (zm cols))))),(6,cV (.own 27 2 g.length)),(10,.w (.c (.d (.sl (zp j))))),(11,zl j.length),(12,zl i)],[(27,.arr 2 (zm g) false)]⟩
def rNE (e:Int):Res:=⟨.tup [.c .nil,.c (int e)],[]⟩
def rCo (l:am Col):Res:=⟨.tup [.c (.own 0 2 l.length),.c (int 0)],[.arr 2 (zm l) false]⟩
theorem acq (cols:am Col)(g:am ByteArray)(hn:g.length<=1000000):Sat Pg ajB [.c (.d (.sl (zm cols))),.c (.d (.sl (zp g)))] (λr=>r=bif takeErr cols g then rNE 16 else rCo (takeC cols g)):=by
 refine Vb.s T8 ?_;rw[zF];refine yx (P:=Pg) (f:=T8.f) (body:=(Vb.l 0)) g.length (λi=>tkS cols g i (takeC cols (g.take i))) (λi=>takeErr cols (g.take i)=false) ⟨rfl,⟨_,zW 6 27 2 (by omega) (by omega) rfl,?_⟩⟩ ?_
 ·exact rfl
 intro i hi hR;have ae:(takeC cols (g.take i)).length=i:=by grind[takeC]
 have R: ∀h:i<g.length,takeC cols (g.take (i+1))=takeC cols (g.take i)++[qH cols (zj cols g[i])]:=λh=>by
  grind[takeC,zR]
 have I: ∀h:i<g.length,takeErr cols (g.take (i+1))=decide (zj cols g[i]<0):=λh=>by
  grind[takeErr,zR]
 have ab:g.length<=i ->(bif takeErr cols g then rNE 16 else rCo (takeC cols g))=rCo (takeC cols (g.take i)):=λh=>by
  grind
 have o: ∀h:i<g.length,decide (zj cols g[i]<0)=true ->(bif takeErr cols g then rNE 16 else rCo (takeC cols g))=rNE 16:=λh U=>by
  grind[takeErr]
 show mwpR Pg T8.f (Vb.l 0) _ (tkS cols g i (takeC cols (g.take i)));generalize takeC cols (g.take i)=T at*;have ad:(zm T).take T.length=zm T:=by grind[zV]
 unfold tkS;refine jH (λj=>?_) (λac=>?_)
 ·have hg:=wL j;have R:=R j;have I:=I j;have o:=o j;have aa:=xJ cols g[i];have p:=qY cols g[i];have wi:=zC j (by omega);have J:=λh=>XG (p h).1 (p h).2
  generalize g[i]=x at*;generalize zj cols x=k at*;refine yu hg ?_;refine aI aa ?_;refine zw (b:=decide (k<0)) (λU=>?_) (λU=>?_)
  ·rw[o U];exact rfl
  have h3:=aE U;have J:=J h3;have hb:=p h3;refine yu J ?_ (hA:=hb.1);refine wu ?_;refine y6 j (I.trans U) ?_;rw[wi,ad,R,aH];simp only[zm,aW];rfl
 rw[ab ac];exact rfl
def ZA (cols:am Col)(a:Agg):Int×Col:=
 bif !zo a.fn jJ then
  bif decide (zj cols a.col<0)then(16,⟨a.nm,0⟩)else
  bif zo a.fn ab7&&(qH cols (zj cols a.col)).t !=2 then(14,⟨a.nm,0⟩)else(0,⟨a.nm,(qH cols (zj cols a.col)).t⟩)
 else(0,⟨a.nm,2⟩)
def xu (cols:am Col):am Agg ->Int×am Col
 | []=>(0,[])
 |a::r=>bif (ZA cols a).1 !=0 then((ZA cols a).1,[])else((xu cols r).1,(ZA cols a).2::(xu cols r).2)
def apz (cols:am Col)(i:am ByteArray)(g:am Agg):Res:=
 bif takeErr cols i then WW 16 else bif (xu cols g).1 !=0 then WW (xu cols g).1 else rCs (takeC cols i++(xu cols g).2)
def tgS (cols:am Col)(g:am Agg)(j:Nat)(i:am Col):S:=⟨[(0,.w (.c (.d (.sl (zm cols))))),(6,cV (.own 65 2 i.length)),(24,.w (.c (.d (.sl (wt g))))),(25,zl g.length),(26,zl j)],[(65,.arr 2 (zm i) false)]⟩
theorem amp (cols:am Col)(st:Stp)(U:st.cols.length<=1000000)(af:st.aggs.length<=100000):Sat Pg UP [.c (.d (.sl (zm cols))),.agg st.cs] (λr=>r=apz cols st.cols st.aggs):=by
 have J:=acq cols st.cols U;have aa:(takeC cols st.cols).length=st.cols.length:=by simp[takeC]
 unfold apz;obtain⟨op,⟨eo,nm,⟨v1,v2,v3⟩,ks⟩,ah,ae,g,ai,sn,tb⟩:=st;simp only at J aa U af;refine zD ?_;unfold Stp.cs vE;simp only;cases ac:takeErr cols ae with
 |true=>
  rw[ac,aK]at J;refine jO.s T8 ?_;refine aI J ?_;exact⟨rfl,rfl⟩
 |false=>
  rw[ac,aF]at J;simp only[aF];generalize takeC cols ae=T0 at*;refine jO.s T8 ?_;refine aI J ?_;rw[jd];refine yq (P:=Pg) (f:=T8.f) (body:=(jO.l 0)) (λx:Nat×am Col=>tgS cols g x.1 x.2) (λx=>g.length - x.1) (λx=>x.1<=g.length /\x.2.length<=1000000+x.1 /\(xu cols g).1=(xu cols (g.drop x.1)).1 /\((xu cols (g.drop x.1)).1=0 ->T0++(xu cols g).2=x.2++(xu cols (g.drop x.1)).2)) ⟨(0,T0),⟨aP _,by grind,rfl,λ_=>rfl⟩,⟨_,u9 6 600272 65 2 _ _ (by omega) rfl rfl,?_⟩⟩ ?_
  ·exact rfl
  rintro⟨j,T⟩ hx;obtain⟨hj,aj,i,o⟩:j<=g.length /\T.length<=1000000+j /\(xu cols g).1=(xu cols (g.drop j)).1 /\((xu cols (g.drop j)).1=0 ->T0++(xu cols g).2=T++(xu cols (g.drop j)).2):=hx;show mwpR Pg T8.f (jO.l 0) _ (tgS cols g j T);have R:(zm T).take T.length=zm T:=by grind[zV]
  unfold tgS;refine jH (λI=>?_) (λag=>?_)
  ·have hg:=gj I;rw[zq I]at i o;simp only[xu]at i o;have wi:=zC I (by omega);generalize g[j]=a at*;obtain⟨a1,a2,a3⟩:=a;unfold ZA at i o;simp only at i o;have p:=acq cols [a2] (by simp);have ad:takeErr cols [a2]=decide (zj cols a2<0):=by simp[takeErr]
   have ab:takeC cols [a2]=[qH cols (zj cols a2)]:=rfl;rw[ad,ab]at p;generalize qH cols (zj cols a2)=c at*;obtain⟨c1,c2⟩:=c;simp only at i o;refine yu hg ?_;refine zi (b:=!zo a1 jJ) (λh2=>?_) (λh2=>?_)
   ·rw[h2]at i o;simp only[aK]at i o;(conv=>whnf);cases hb:decide (zj cols a2<0)with
    |true=>
     rw[hb]at i p;have i:(xu cols g).1=16:=i;rw[i];simp only[aK]at p;refine aI p ?_;exact⟨rfl,rfl⟩
    |false=>
     rw[hb]at i o p;simp only[aF]at i o p;refine aI p ?_;refine zw (b:=zo a1 ab7) (λh3=>?_) (λh3=>?_)
     ·rw[h3,cB]at i o;refine xW ?_ (hA:=by omega) (hB:=by grind);refine⟨_,rfl,?_⟩;refine zi (b:=c2 !=2) (λh4=>?_) (λh4=>?_)
      ·rw[h4]at i;have i:(xu cols g).1=14:=i;rw[i];exact⟨rfl,rfl⟩
      rw[h4]at i o;have i:(xu cols g).1=(xu cols (g.drop (j+1))).1:=i;have o:(xu cols (g.drop (j+1))).1=0 ->T0++(xu cols g).2=T++(⟨a3,c2⟩::(xu cols (g.drop (j+1))).2):=o;refine xW ?_ (hA:=by omega) (hB:=by grind);refine⟨_,rfl,?_⟩;refine wu ?_;refine⟨(j+1,T++[⟨a3,c2⟩]),⟨⟨I,by grind,i,λh=>by grind⟩,by grind⟩,ze ?_⟩;rw[wi,R,aH];simp only[zm,aW];rfl
     rw[h3,ck]at i o;have i:(xu cols g).1=(xu cols (g.drop (j+1))).1:=i;refine xW ?_ (hA:=by omega) (hB:=by grind);refine⟨_,rfl,?_⟩;refine wu ?_;refine⟨(j+1,T++[⟨a3,c2⟩]),⟨⟨I,by grind,i,λh=>by grind⟩,by grind⟩,ze ?_⟩;rw[wi,R,aH];simp only[zm,aW];rfl
   rw[h2]at i o;refine wu ?_;refine⟨(j+1,T++[⟨a3,2⟩]),⟨⟨I,by show(T++[(⟨a3,2⟩:Col)]).length<=1000000+(j+1);simp;omega,i,λh=>by rw[o h];simp⟩,by show g.length -(j+1)<g.length - j;omega⟩,ze ?_⟩;rw[wi,R,aH];simp only[zm,aW];rfl
  rw[aC ag]at i o;simp only[xu,aS]at i o;simp only[forall_const]at o;rw[i,o];refine aw1 ?_;show Res.mk (.tup [.c (.d (.sl ((zm T).take T.length))),.c (int 0)]) []=_;rw[R];rfl
theorem VE (l:am Col)(g:l.length<=1000000):Sat Pg XM [.c (.d (.sl (zm l)))] (λr=>(l=[]/\r=rC .nil)\/r=ab0 2 (zm l)):=by
 refine xq T3 XC.ok (by kernel_rfl) ?_;refine⟨λh=>?_,?_⟩
 ·conv=>whnf
  left
  refine⟨?_,rfl⟩;cases l with
  |nil=>rfl
  |cons a r=>cases h
 (conv=>whnf);refine⟨an9 l,by grind[ym,zV],by grind[zV],?_⟩
 right
 show Res.mk (.w (.c (.own 0 2 (([]:am (am D)).length+(zm l).length)))) [.arr 2 (([]:am (am D)).take ([]:am (am D)).length++zm l) false]=_;simp_all[ab0]
theorem adu (g:FuncId)(cap:am (am D)):Sat Pg Zt [.c (.d (.sl [])),.c (.d (.fn g cap))] (λr=>r=rI (-1)):=by
 refine xq T8 wc.ok (by kernel_rfl) ?_;refine wB (P:=Pg) (f:=T8.f) (body:=(wc.l 0)) 1 ?_;exact rfl
theorem aaf (g:FuncId)(cap:am (am D)):Sat Pg jG [.c (.d (.sl [])),.c (.d (.fn g cap))] (λr=>r=rB false):=by
 refine jA.s T8 ?_;refine aI (adu g cap) ?_;rfl
def jnErr (cols g:am Col):am ByteArray ->Int
 | []=>0
 |s::r=>bif decide (zj cols s<0)||decide (zj g s<0)then 16 else bif (qH cols (zj cols s)).t !=(qH g (zj g s)).t then 14 else jnErr cols g r
def wA (cs:am ByteArray)(l:am Col):am Col:=l.filter λc=>!hasB cs c.name
def dupL (pre:am Col):am Col ->Bool
 | []=>false
 |c::r=>bif decide (zj pre c.name>=0)then true else dupL (pre++[c]) r
def jnQ (cols g:am Col)(cs:am ByteArray):Res:=
 bif jnErr cols g cs !=0 then WW (jnErr cols g cs)else bif dupL [] (cols++wA cs g)then WW 4 else bif decide (((cols++wA cs g).length:Int)>32)then WW 7 else rCs (cols++wA cs g)
def jnT (d:am Nmd)(cols:am Col)(cs:am ByteArray)(tb:ByteArray):Res:=match zZ tb d with
 |none=>WW 17
 |some t=>jnQ cols t.cols cs
def jfb (o:Int)(p:ByteArray)(v1 v2:Int)(v3:ByteArray)(ks:am Ex)(g:am Itm)(l:am ByteArray)(i:am Agg)(j:am Srt)(r:Int)(tb:ByteArray):Pl:=
 .fbox [.lit (.int .i64 6),.lit (.int .i64 o),.lit (.string p),.lit (.int .i64 v1),.lit (.int .i64 v2),.lit (.string v3),.sl (exsD ks),.sl (yW g),.sl (zp l),.sl (wt i),.sl (xQ j),.lit (.int .i64 r),.lit (.string tb)]
def tjS (r:Int)(I:ByteArray)(v1 v2:Int)(v3:ByteArray)(ks:am Ex)(g:am Itm)(p:am ByteArray)(j:am Agg)(l:am Srt)(J:Int)(tb:ByteArray)(tc:am Col)(i:Nat)(o:am Col):S:=
 ⟨[(5,cV (.ptr 5 0)),(10,cV .nil),(20,cV (.own 128 2 o.length)),(106,.w (.c (.d (.sl (zm tc))))),(107,zl tc.length),(108,zl i)],[(5,jfb r I v1 v2 v3 ks g p j l J tb),(128,.arr 2 (zm o) false)]⟩
theorem avM {Q:E ->S ->Prop}{s:S}(U:Int)(nm:ByteArray)(v1 v2:Int)(v3:ByteArray)(ks:am Ex)(j:am Itm)(g:am ByteArray)(o:am Agg)(p:am Srt)(sn:Int)(tb:ByteArray)(cols tc:am Col)(ae:cols.length<=1000000)(af:tc.length<=1000000)
 (h0:yX s [5,10,20,106,107,108] (· =tjS U nm v1 v2 v3 ks j g o p sn tb tc 0 cols))
 (hQ:Q (.exit 8) (xD (tjS U nm v1 v2 v3 ks j g o p sn tb tc tc.length (cols++wA g tc)) 109 (ya (decide ((tc.length:Int)<tc.length))))):
 zY (mwpR Pg T8.f (zI.l 3)) [5,10,20,106,107,108] Q s:=by
 refine yx (P:=Pg) (f:=T8.f) (body:=(zI.l 3)) tc.length (λi=>tjS U nm v1 v2 v3 ks j g o p sn tb tc i (cols++wA g (tc.take i))) (λ_=>True) ⟨trivial,?_⟩ ?_
 ·grind[wA]
 intro i hi _;have ad:(cols++wA g (tc.take i)).length<=1000000+i:=by
  grind[wA]
 have r: ∀h:i<tc.length,cols++wA g (tc.take (i+1))=(cols++wA g (tc.take i))++(bif !hasB g tc[i].name then [tc[i]]else []):=λh=>by
  grind[wA,Zd]
 have J:i=tc.length ->cols++wA g tc=cols++wA g (tc.take i):=λh=>by grind
 show mwpR Pg T8.f (zI.l 3) _ (tjS U nm v1 v2 v3 ks j g o p sn tb tc i (cols++wA g (tc.take i)));generalize cols++wA g (tc.take i)=T at*;have ac:(zm T).take T.length=zm T:=by grind[zV]
 unfold tjS jfb;refine rgE (λI=>?_) (λR=>?_)
 ·have hg:=xC I;have r:=r I;have ab:=yi g tc[i].name;have aa:=yi [] tc[i].name;have wi:=zC I (by omega);generalize tc[i]=c at*;obtain⟨c1,c2⟩:=c;generalize hasB g c1=b at*;refine yu hg ?_;refine aI ab ?_;refine zw (b:=!b) (λh2=>?_) (λh2=>?_)
  ·rw[h2,aK]at r;refine aI aa ?_;refine wu ?_;refine y6 I trivial ?_;rw[wi,ac,r,aH];simp only[zm,aW];rfl
  rw[h2,aF,aS]at r;refine y6 I trivial ?_;rw[wi,r];rfl
 rw[J R]at hQ;subst R;exact hQ
theorem anQ (d:am Nmd)(cols:am Col)(st:Stp)(aj:st.op=6)(ar:st.cols.length<=1000000)(af:cols.length<=1000000)(R: ∀t,zZ st.table d=some t ->t.cols.length<=1000000):
 Sat Pg vK [.c (.d (.sl (zu d))),.c (.d (.sl (zm cols))),.agg st.cs] (λr=>r=jnT d cols st.cols st.table):=by
 have U:=y9 d st.table;unfold jnT;obtain⟨op,⟨eo,nm,⟨v1,v2,v3⟩,ks⟩,aa,p,ab,ac,sn,tb⟩:=st;simp only at aj ar R U;subst aj;refine zD ?_;unfold Stp.cs vE;simp only;cases hf:zZ tb d with
 |none=>
  rw[hf]at U;refine zI.s T8 ?_;refine aI U ?_;exact⟨rfl,rfl⟩
 |some t=>
  rw[hf]at U;have R:=R t hf;obtain⟨tc,tr⟩:=t;simp only at R;unfold jnQ;refine zI.s T8 ?_;refine aI U ?_;refine aI (aaf VB _) ?_;rw[zF];refine WS T8 (zI.l 0) p.length (λi=>⟨[(1,.w (.c (.d (.sl (zm cols))))),(5,cV (.ptr 5 0)),(8,cV (.ptr 8 0)),(10,cV .nil),(46,.w (.c (.d (.sl (zp p))))),(47,zl p.length),(48,zl i)],[(5,jfb eo nm v1 v2 v3 ks aa p ab ac sn tb),(8,.box [.d (.sl (zm tc)),.d (.sl (zf tr))])]⟩) (λi=>jnErr cols tc p=jnErr cols tc (p.drop i)) ?_
  intro i hi g;unfold jfb;refine jH (λj=>?_) (λJ=>?_)
  ·rw[zq j]at g;simp only[jnErr]at g;have hg:=wL j;have wi:=zC j (by omega);have ao:=xJ cols p[i];have aq:=xJ tc p[i];have ad:=qY cols p[i];have ae:=qY tc p[i];have ah:=λh=>XG (ad h).1 (ad h).2
   have ai:=λh=>XG (ae h).1 (ae h).2
   generalize p[i]=x at*;generalize zj cols x=k1 at*;generalize zj tc x=k2 at*;refine yu hg ?_;refine aI ao ?_;refine aI aq ?_;refine zw (b:=decide (k1<0)||decide (k2<0)) (λI=>?_) (λI=>?_)
   ·rw[I]at g;have g:jnErr cols tc p=16:=g;simp only[g];exact⟨rfl,rfl⟩
   rw[I,aF]at g;rw[cm]at I;have n1:=aE I.1;have n2:=aE I.2;have ad:=ad n1;have ae:=ae n2;have ah:=ah n1;have ai:=ai n2;generalize qH cols k1=c1 at*;generalize qH tc k2=c2 at*;obtain⟨av,ak⟩:=c1;obtain⟨aw,al⟩:=c2;simp only at g;refine yu ah ?_ (hA:=ad.1);refine yu ai ?_ (hA:=ae.1);refine zi (b:=ak !=al) (λh3=>?_) (λh3=>?_)
   ·rw[h3]at g;have g:jnErr cols tc p=14:=g;simp only[g];exact⟨rfl,rfl⟩
   rw[h3,aF]at g;refine y6 j g ?_;rw[wi];rfl
  rw[aC J]at g;have g:jnErr cols tc p=0:=g;simp only[g];clear g;(conv=>whnf);refine wB (P:=Pg) (f:=T8.f) (body:=(zI.l 2)) 3 ?_;refine xW ?_ (hA:=by omega) (hB:=by grind);refine⟨_,rfl,?_⟩;(conv=>whnf);refine wB (P:=Pg) (f:=T8.f) (body:=(zI.l 1)) 1 ?_;refine xW ?_ (hA:=by decide) (hB:=by show(1:Int)<((2:Nat):Int);omega);refine⟨_,rfl,?_⟩;(conv=>whnf);refine wB (P:=Pg) (f:=T8.f) (body:=(zI.l 1)) 1 ?_;(conv=>whnf);refine bA (VE cols af) ?_;rintro _ (⟨au,rfl⟩|rfl)
  ·(conv=>whnf);refine avM eo nm v1 v2 v3 ks aa p ab ac sn tb cols tc af R ⟨_,zW 20 128 2 (by omega) (by omega) rfl,?_⟩ ?_
   ·(conv=>whnf);unfold tjS;rw[zV,au];rfl
   unfold xD tjS jfb;have an:(cols++wA p tc).length<=2000000:=by
    grind[wA]
   clear R af U;generalize cols++wA p tc=O at*;(conv=>whnf);refine yx (P:=Pg) (f:=T8.f) (body:=(zI.l 4)) O.length (λi=>⟨[(20,cV (.own 128 2 O.length)),(130,cV (.own 128 2 O.length)),(131,zl O.length),(132,zl i)],[(128,.arr 2 (zm O) false)]⟩) (λi=>dupL [] O=dupL (O.take i) (O.drop i)) ⟨rfl,ze ?_⟩ ?_
   ·exact rfl
   intro i hi g;cases i with
   |zero=>
    refine zi (b:=decide ((0:Nat)<(O.length:Int))) (λh1=>?_) (λh1=>?_)
    ·have j:0<O.length:=by simp_all
     rw[zq j]at g;simp only[dupL]at g;rw[<- zR j]at g;have hg:=xC j;have wi:=zC j (by omega);have o:=xJ (O.take (0)) O[0].name;have ht:zm (O.take (0))=(zm O).take (0):=by grind[zm]
     rw[ht]at o;generalize ag:dupL (O.take (0+1)) (O.drop (0+1))=rest at*;generalize O[0]=c at*;obtain⟨c1,c2⟩:=c;simp only at g o;generalize zj (O.take (0)) c1=k at*;(conv=>whnf);refine⟨by omega,by omega,?_⟩;(conv=>whnf);refine⟨_,hg,?_⟩;(conv=>whnf);refine⟨by show(0:Int)<=((0:Nat):Int);omega,by show((0:Nat):Int)<=(O.length:Int);omega,?_⟩;refine aI o ?_;refine zw (b:=decide (k>=0)) (λI=>?_) (λI=>?_)
     ·rw[I]at g;have g:dupL [] O=true:=g;rw[g];exact⟨rfl,rfl⟩
     rw[I]at g;have g:dupL [] O=rest:=g;(conv=>whnf);refine⟨j,g,ze ?_⟩;(conv=>whnf);rw[wi];rfl
    have J:O.length<=0:=by grind
    rw[aC J]at g;have g:dupL [] O=false:=g;rw[g];refine zi (b:=decide ((O.length:Int)>32)) (λh5=>?_) (λh5=>?_)
    ·grind
    rw[h5];(conv=>whnf);refine⟨rfl,?_⟩;show Res.mk (.tup [.c (.d (.sl ((zm O).take O.length))),.c (int 0)]) []=_;rw[<- zV,aN];rfl
   |succ i=>
    refine zi (b:=decide ((i+1:Nat)<(O.length:Int))) (λh1=>?_) (λh1=>?_)
    ·have j:i+1<O.length:=by have:=aD h1;omega
     rw[zq j]at g;simp only[dupL]at g;rw[<- zR j]at g;have hg:=xC j;have wi:=zC j (by omega);have o:=xJ (O.take (i+1)) O[i+1].name;have ht:zm (O.take (i+1))=(zm O).take (i+1):=by grind[zm,bC]
     rw[ht]at o;generalize ag:dupL (O.take (i+1+1)) (O.drop (i+1+1))=rest at*;generalize O[i+1]=c at*;obtain⟨c1,c2⟩:=c;simp only at g o;generalize zj (O.take (i+1)) c1=k at*;(conv=>whnf);refine⟨by omega,by omega,?_⟩;(conv=>whnf);refine⟨_,hg,?_⟩;(conv=>whnf);refine⟨by show(0:Int)<=((i+1:Nat):Int);omega,by show((i+1:Nat):Int)<=(O.length:Int);omega,?_⟩;refine aI o ?_;refine zw (b:=decide (k>=0)) (λI=>?_) (λI=>?_)
     ·rw[I]at g;have g:dupL [] O=true:=g;rw[g];exact⟨rfl,rfl⟩
     rw[I]at g;have g:dupL [] O=rest:=g;(conv=>whnf);refine⟨j,g,ze ?_⟩;(conv=>whnf);rw[wi];rfl
    have J:O.length<=i+1:=by grind
    rw[aC J]at g;have g:dupL [] O=false:=g;rw[g];refine zi (b:=decide ((O.length:Int)>32)) (λh5=>?_) (λh5=>?_)
    ·rw[h5];exact⟨rfl,rfl⟩
    rw[h5];(conv=>whnf);refine⟨rfl,?_⟩;show Res.mk (.tup [.c (.d (.sl ((zm O).take O.length))),.c (int 0)]) []=_;rw[<- zV,aN];rfl
  (conv=>whnf);refine avM eo nm v1 v2 v3 ks aa p ab ac sn tb cols tc af R ⟨_,u9 20 601664 128 2 _ _ (by omega) rfl rfl,?_⟩ ?_
  ·(conv=>whnf);unfold tjS;rw[zV,zV];rfl
  unfold xD tjS jfb;have an:(cols++wA p tc).length<=2000000:=by
   grind[wA]
  clear R af U;generalize cols++wA p tc=O at*;(conv=>whnf);refine yx (P:=Pg) (f:=T8.f) (body:=(zI.l 4)) O.length (λi=>⟨[(20,cV (.own 128 2 O.length)),(130,cV (.own 128 2 O.length)),(131,zl O.length),(132,zl i)],[(128,.arr 2 (zm O) false)]⟩) (λi=>dupL [] O=dupL (O.take i) (O.drop i)) ⟨rfl,ze ?_⟩ ?_
  ·exact rfl
  intro i hi g;cases i with
  |zero=>
   refine zi (b:=decide ((0:Nat)<(O.length:Int))) (λh1=>?_) (λh1=>?_)
   ·have j:0<O.length:=by simp_all
    rw[zq j]at g;simp only[dupL]at g;rw[<- zR j]at g;have hg:=xC j;have wi:=zC j (by omega);have o:=xJ (O.take (0)) O[0].name;have ht:zm (O.take (0))=(zm O).take (0):=by grind[zm]
    rw[ht]at o;generalize ag:dupL (O.take (0+1)) (O.drop (0+1))=rest at*;generalize O[0]=c at*;obtain⟨c1,c2⟩:=c;simp only at g o;generalize zj (O.take (0)) c1=k at*;(conv=>whnf);refine⟨by omega,by omega,?_⟩;(conv=>whnf);refine⟨_,hg,?_⟩;(conv=>whnf);refine⟨by show(0:Int)<=((0:Nat):Int);omega,by show((0:Nat):Int)<=(O.length:Int);omega,?_⟩;refine aI o ?_;refine zw (b:=decide (k>=0)) (λI=>?_) (λI=>?_)
    ·rw[I]at g;have g:dupL [] O=true:=g;rw[g];exact⟨rfl,rfl⟩
    rw[I]at g;have g:dupL [] O=rest:=g;(conv=>whnf);refine⟨j,g,ze ?_⟩;(conv=>whnf);rw[wi];rfl
   have J:O.length<=0:=by grind
   rw[aC J]at g;have g:dupL [] O=false:=g;rw[g];refine zi (b:=decide ((O.length:Int)>32)) (λh5=>?_) (λh5=>?_)
   ·grind
   rw[h5];(conv=>whnf);refine⟨rfl,?_⟩;show Res.mk (.tup [.c (.d (.sl ((zm O).take O.length))),.c (int 0)]) []=_;rw[<- zV,aN];rfl
  |succ i=>
   refine zi (b:=decide ((i+1:Nat)<(O.length:Int))) (λh1=>?_) (λh1=>?_)
   ·have j:i+1<O.length:=by have:=aD h1;omega
    rw[zq j]at g;simp only[dupL]at g;rw[<- zR j]at g;have hg:=xC j;have wi:=zC j (by omega);have o:=xJ (O.take (i+1)) O[i+1].name;have ht:zm (O.take (i+1))=(zm O).take (i+1):=by grind[zm,bC]
    rw[ht]at o;generalize ag:dupL (O.take (i+1+1)) (O.drop (i+1+1))=rest at*;generalize O[i+1]=c at*;obtain⟨c1,c2⟩:=c;simp only at g o;generalize zj (O.take (i+1)) c1=k at*;(conv=>whnf);refine⟨by omega,by omega,?_⟩;(conv=>whnf);refine⟨_,hg,?_⟩;(conv=>whnf);refine⟨by show(0:Int)<=((i+1:Nat):Int);omega,by show((i+1:Nat):Int)<=(O.length:Int);omega,?_⟩;refine aI o ?_;refine zw (b:=decide (k>=0)) (λI=>?_) (λI=>?_)
    ·rw[I]at g;have g:dupL [] O=true:=g;rw[g];exact⟨rfl,rfl⟩
    rw[I]at g;have g:dupL [] O=rest:=g;(conv=>whnf);refine⟨j,g,ze ?_⟩;(conv=>whnf);rw[wi];rfl
   have J:O.length<=i+1:=by grind
   rw[aC J]at g;have g:dupL [] O=false:=g;rw[g];refine zi (b:=decide ((O.length:Int)>32)) (λh5=>?_) (λh5=>?_)
   ·rw[h5];exact⟨rfl,rfl⟩
   rw[h5];(conv=>whnf);refine⟨rfl,?_⟩;show Res.mk (.tup [.c (.d (.sl ((zm O).take O.length))),.c (int 0)]) []=_;rw[<- zV,aN];rfl
theorem Zy (a b:am Val):Sat Pg gN [yt a,yt b] (λr=>r=rB (xN a b)):=by
 refine w8 0 (by kernel_rfl) rfl λj=>?_
 rw[zt]at j;unfold xN;refine X8.s T8 ?_;rw[zt,zt];refine zw (λh=>?_) (λh=>?_)
 ·rw[h];rfl
 rw[h];have P:=lens h;(conv=>whnf);rw[zt];refine WS T8 (X8.l 0) a.length (λi=>⟨[(0,.w (yt a)),(1,.w (yt b)),(12,zl a.length),(13,zl i)],[]⟩) (λi=>vd qI a b=vd qI (a.drop i) (b.drop i)) ?_
 intro i hi o;refine jH (λg=>?_) (λJ=>?_)
 ·have p:i<b.length:=by omega
  rw[zq g,zq p]at o;refine yu (xj g) ?_;refine yu (xj p) ?_;refine zi (b:=!qI a[i] b[i]) (λI=>?_) (λI=>?_)
  ·simp only[vd,I,aK]at o;exact bB rB o.symm
  simp only[vd,I,aF]at o;refine y6 g o ?_;rw[zC g j];rfl
 rw[Jx _ J P]at o;exact bB rB o.symm
theorem agk (l:am Val)(v:Val):Sat Pg gO [yt l,v.w] (λr=>r=rI (yj (qI v) 0 l)):=by
 refine w8 0 (by kernel_rfl) rfl λo=>?_
 rw[zt]at o;obtain⟨v1,v2,v3⟩:=v;refine X9.s T8 ?_;rw[zt];refine WS T8 (X9.l 0) l.length (λi=>⟨[(0,.w (yt l)),(3,cV (.ptr 3 0)),(7,zl l.length),(8,zl i)],[(3,.box [int v1,int v2,str v3])]⟩) (λi=>yj (qI ⟨v1,v2,v3⟩) 0 l=yj (qI ⟨v1,v2,v3⟩) i (l.drop i)) ?_
 intro i hi j;refine jH (λg=>?_) (λI=>?_)
 ·rw[zq g]at j;simp only[yj]at j;have J:=xj g;have P:=zC g o;generalize l[i]=x at*;obtain⟨R,U,x3⟩:=x;refine yu J ?_;refine zi (b:=qI ⟨v1,v2,v3⟩ ⟨R,U,x3⟩) (λp=>?_) (λp=>?_)
  ·rw[p]at j;rw[j];exact rfl
  rw[p]at j;refine y6 g j ?_;rw[P];rfl
 rw[aC I]at j;rw[j];exact rfl
theorem Z0 (l:am Val)(v:Val):Sat Pg Jq [yt l,v.w] (λr=>r=rB (l.any (qI v))):=by
 have h:=agk l v;have g:decide (yj (qI v) 0 l>=0)=l.any (qI v):=Xp (qI v) l 0;rw[<- g];refine Jp.s T8 ?_;refine aI h ?_;rfl
theorem asf (a b:am Val):rowD a++rowD b=rowD (a++b):=by simp[rowD]
def WA:am D:=[.lit (.int .i64 0),.lit (.int .i64 0),.lit (.string ⟨#[]⟩)]
theorem ahK (n:Nat)(j:n<=1000000):zA Pg aaX [.c .nil,.c (int n)] [] (λr=>(n=0 /\r=⟨.w (.c .nil),[]⟩)\/(0<n /\r=⟨.w (.c (.own 0 3 0)),[.arr 3 (aU n WA) false]⟩)):=by
 refine xX T8 aaU.ok (by kernel_rfl) (by simp) ?_;have h0:aB.wrap ((0:Int) - 0)=0:=yk (by omega) (by omega);have i:aB.wrap ((n:Int) - aB.wrap (0 - 0))=n:=by grind[yk]
 conv=>whnf
 rw[i];refine zw (λg=>?_) (λg=>?_)
 ·have g:=aD g;refine⟨by simp[z6],by simp[z6],by simp[z6],?_⟩;refine⟨by omega,by grind[ym],by omega,?_⟩;refine xW ?_ (hA:=by simp[z6]) (hB:=by simp[z6]);exact .inr ⟨by omega,rfl⟩
 have g:=aE g;exact .inl ⟨by omega,rfl⟩
def cvC (xs ys:am Val):W:=.c (.d (.sl [[.sl (rowD xs)],[.sl (rowD ys)]]))
def cvS (xs ys:am Val)(a b:Int):S:=⟨[(0,.w (cvC xs ys)),(3,zl a),(9,.w (cvC xs ys)),(10,zl 2),(11,zl b)],[]⟩
def cvT (xs ys:am Val)(p n:Nat)(g:am (am D))(b:Int):S:=⟨[(6,cV (.own p 3 n)),(25,.w (cvC xs ys)),(26,zl 2),(27,zl b)],[(p,.arr 3 g false)]⟩
def cvF (xs ys:am Val)(x:Nat×am (am D)):S:=match x.1 with|0=>cvT xs ys 33 0 x.2 0|1=>cvT xs ys 33 xs.length x.2 1|_=>cvT xs ys 33 (xs++ys).length x.2 2
theorem aob {xs ys:am Val}(r:xs.length<=100000)(I:ys.length<=100000){Q:E ->S ->Prop}{s:S}(g:am (am D))(h0:yX s [6,25,26,27] (· =cvT xs ys 33 0 g 0))
 (o:Q (.exit 2) ⟨[(6,cV (.own 33 3 (xs++ys).length)),(25,.w (cvC xs ys)),(26,zl 2),(27,zl 2),(28,ya (decide ((2:Int)<2)))],[(33,.arr 3 (rowD (xs++ys)) false)]⟩):
 zY (mwpR Pg T8.f (vH.l 1)) [6,25,26,27] Q s:=by
 have v1:aB.wrap ((0:Int)+1)=1:=yk (by omega) (by omega);have v2:aB.wrap ((1:Int)+1)=2:=yk (by omega) (by omega);refine yq (P:=Pg) (f:=T8.f) (body:=(vH.l 1)) (cvF xs ys) (λx=>2 - x.1) (λx=>x.1=0\/(x.1=1 /\x.2=rowD xs)\/(x.1=2 /\x.2=rowD (xs++ys))) ⟨(0,g),.inl rfl,h0⟩ ?_;rintro⟨i,g⟩ p;have j:i=0\/(i=1 /\g=rowD xs)\/(i=2 /\g=rowD (xs++ys)):=p;rcases j with rfl|⟨rfl,j⟩|⟨rfl,j⟩
 ·refine vw ?_;refine⟨XP xs,by grind[ym,zt],by grind[zt],?_⟩;(conv=>whnf);refine⟨(1,g.take 0++rowD xs),⟨.inr (.inl ⟨rfl,by simp⟩),by grind⟩,ze ?_⟩;rw[v1,Nat.zero_add,zt];rfl
 ·refine vw ?_;refine⟨XP ys,by grind[ym,zt],by grind[zt],?_⟩;refine⟨(2,g.take xs.length++rowD ys),⟨.inr (.inr ⟨rfl,by grind[zt,asf]⟩),by grind⟩,ze ?_⟩;rw[v2,zt,<- aH];rfl
 (conv=>whnf);subst j;exact o
theorem w7 (xs ys:am Val)(g:xs.length<=100000)(j:ys.length<=100000):
 Sat Pg kw [cvC xs ys] (λr=>r=⟨.w (.c (.own 0 3 (xs++ys).length)),[.arr 3 (rowD (xs++ys)) false]⟩):=by
 refine xq T8 vH.ok (by kernel_rfl) ?_;have p:aB.wrap ((0:Int)+((rowD xs).length:Nat))=((xs.length:Nat):Int):=by grind[zt,yk]
 have I:aB.wrap (((xs.length:Nat):Int)+((rowD ys).length:Nat))=((xs.length+ys.length:Nat):Int):=by grind[zt,yk]
 refine WS T8 (vH.l 0) 2 (λi=>match i with|0=>cvS xs ys 0 0|1=>cvS xs ys xs.length 1|_=>cvS xs ys ((xs.length+ys.length:Nat):Int) 2) (λ_=>True) ?_
 intro i hi _;obtain rfl|rfl|rfl:i=0\/i=1\/i=2:=by omega
 ·refine vw ?_;rw[p];refine⟨by omega,trivial,ze ?_⟩;rfl
 ·refine vw ?_;rw[I];refine⟨by omega,trivial,ze ?_⟩;rfl
 (conv=>whnf);refine zA.mono (ahK (xs.length+ys.length) (by omega)) ?_;rintro r (⟨o,rfl⟩|⟨o,rfl⟩)
 ·(conv=>whnf);refine aob g j [] ⟨_,zW 6 33 3 (by omega) (by omega) rfl,?_⟩ ?_
  ·exact rfl
  exact rfl
 (conv=>whnf);refine aob g j (aU (xs.length+ys.length) WA) ⟨_,u9 6 600384 33 3 0 _ (by omega) rfl rfl,?_⟩ ?_
 ·exact rfl
 exact rfl
theorem ad4 (s:S)(p:Nat):X0 s (s.withPl (wG s.pl p)):=λ_ _ ι _ _ hr=>⟨ι,hr.freeze p⟩
def oth (g:am ByteArray):Nat ->am Col ->am Int
 |_,[]=> []
 |i,c::r=>(bif !hasB g c.name then [(i:Int)]else [])++oth g (i+1) r
theorem ac5 (g:am ByteArray): ∀(l:am Col) (i:Nat),∀k∈oth g i l,(i:Int)<=k /\k<i+l.length
 | [],_,k,h=>by cases h
 |c::r,i,k,h=>by
  simp only[oth,bZ]at h;rcases h with h|h
  ·cases j:(!hasB g c.name)
   ·grind
   rw[j,aK,bJ]at h;simp;omega
  have:=ac5 g r (i+1) k h<;>grind
def wE (x:am Val)(key:am Val)(right g:am Int)(ys:am (am Val)):am (am Val):=(ys.filter λy=>xN key (zn y right)).map λy=>x++zn y g
def abC (left right g:am Int)(ys:am (am Val))(x:am Val):am (am Val):=bif (zn x left).any (qI yf)then []else wE x (zn x left) right g ys
def xO (left right g:am Int)(xs ys:am (am Val)):am (am Val):=xs.flatMap (abC left right g ys)
theorem aiD (x key:am Val)(right g:am Int)(ys:am (am Val)):(wE x key right g ys).length<=ys.length:=by
 grind[wE]
theorem atV (left right g:am Int)(ys:am (am Val))(x:am Val):(abC left right g ys x).length<=ys.length:=by
 unfold abC;cases(zn x left).any (qI yf)<;>simp_all[aiD]
theorem abD (left right g:am Int)(ys:am (am Val)): ∀xs,(xO left right g xs ys).length<=xs.length*ys.length
 | []=>by simp[xO]
 |x::r=>by
  have j:=atV left right g ys x;have i:=abD left right g ys r;simp only[xO,List.flatMap_cons,aH,List.length_cons]at i⊢;rw[Nat.add_mul];omega
def Vx (o:am Col)(br:am (am Val))(left right g:am Int)(l:am (am Val))(i:Nat)(x key:am Val)(j:Nat)(out:am (am Val)):S:=
 ⟨[(4,cV (.ptr 4 0)),(8,.w (.c (.d (.sl (zg left))))),(9,.w (.c (.d (.sl (zg right))))),(10,cV (.own 41 1 g.length)),(13,cV (.own 80 1 out.length)),(15,.w (yt x)),(16,.w (yt key)),(44,.w (.c (.d (.sl (zf l))))),(45,zl l.length),(46,zl i),(57,.w (.c (.d (.sl (zf br))))),(58,zl br.length),(59,zl j)],
 [(4,.box [.d (.sl (zm o)),.d (.sl (zf br))]),(41,.arr 1 (zg g) true),(80,.arr 1 (zf out) false)]⟩
theorem ayi {Q:E ->S ->Prop}{s:S}(bc:am Col)(br:am (am Val))(left right g:am Int)(ar:am (am Val))(i:Nat)(x key:am Val)(out:am (am Val))
 (ag:out.length+br.length<=20000) (aj:right.length<=100000) (ai:g.length<=100000) (af:x.length<=100000) (hr: ∀y∈br,zQ y.length right) (ho: ∀y∈br,zQ y.length g)
 (h0:yX s [4,8,9,10,13,15,16,44,45,46,57,58,59] (· =Vx bc br left right g ar i x key 0 out))
 (hQ:Q (.exit 4) (xD (Vx bc br left right g ar i x key br.length (out++wE x key right g br)) 60 (ya (decide ((br.length:Int)<br.length))))):
 zY (mwpR Pg T8.f (yH.l 1)) [4,8,9,10,13,15,16,44,45,46,57,58,59] Q s:=by
 refine yx (P:=Pg) (f:=T8.f) (body:=(yH.l 1)) br.length (λj=>Vx bc br left right g ar i x key j (out++wE x key right g (br.take j))) (λ_=>True) ⟨trivial,?_⟩ ?_
 ·grind[wE]
 intro j hj _;have ah:(out++wE x key right g (br.take j)).length<=out.length+j:=by
  grind[aiD]
 have p: ∀h:j<br.length,out++wE x key right g (br.take (j+1))=(out++wE x key right g (br.take j))++(bif xN key (zn br[j] right)then [x++zn br[j] g]else []):=λh=>by
  grind[wE,Zd]
 have J:j=br.length ->out++wE x key right g br=out++wE x key right g (br.take j):=λh=>by grind
 show mwpR Pg T8.f (yH.l 1) _ (Vx bc br left right g ar i x key j (out++wE x key right g (br.take j)));generalize out++wE x key right g (br.take j)=T at*;have ad:(zf T).take T.length=zf T:=by grind[zx]
 have ae:(zg g).take g.length=zg g:=by grind[zB]
 unfold Vx;refine rgE (λo=>?_) (λR=>?_)
 ·have hg:=yJ o;have p:=p o;have ab:=Xy br[j] right (by omega) (hr _ (aM o));have U:=Xy br[j] g (by omega) (ho _ (aM o));have heq:=Zy key (zn br[j] right);have aa:=w7 x (zn br[j] g) af (by grind[zn]);have wi:=zC o (by omega);have I:((T.length:Int)==20000)=false:=by simp;omega
  rw[<- ae]at U;generalize br[j]=y at*;generalize xN key (zn y right)=b at*;refine yu hg ?_;refine aI ab ?_;refine aI heq ?_;cases b with
  |true=>
   have ac:(rowD (x++zn y g)).take (x++zn y g).length=rowD (x++zn y g):=by grind[zt]
   refine zi (λr=>?_) (λr=>?_)
   ·have r:((T.length:Int)==20000)=true:=r;rw[I]at r;cases r
   refine aI U ?_;refine aI aa ?_;refine wu ?_;refine y6 o trivial ?_;rw[wi,ad,ac,p,xm,aH];rfl
  |false=>
   rw[aF,aS]at p;refine y6 o trivial ?_;rw[wi,p];rfl
 rw[J R]at hQ;subst R;exact hQ
def jnA (l:am Col)(o:am (am Val))(p:am ByteArray)(j:am Col)(br:am (am Val))(left right:am Int)(i:Nat)(g:am Int):S:=
 ⟨[(2,.w (.c (.d (.sl (zp p))))),(3,cV (.ptr 3 0)),(4,cV (.ptr 4 0)),(8,.w (.c (.d (.sl (zg left))))),(9,.w (.c (.d (.sl (zg right))))),(10,cV (.own 41 1 g.length)),(26,.w (.c (.d (.sl (zm j))))),(27,zl j.length),(28,zl i)],
 [(3,.box [.d (.sl (zm l)),.d (.sl (zf o))]),(4,.box [.d (.sl (zm j)),.d (.sl (zf br))]),(41,.arr 1 (zg g) false)]⟩
def jnB (l:am Col)(br:am (am Val))(left right g:am Int)(j:am (am Val))(i:Nat)(out:am (am Val)):S:=
 ⟨[(4,cV (.ptr 4 0)),(8,.w (.c (.d (.sl (zg left))))),(9,.w (.c (.d (.sl (zg right))))),(10,cV (.own 41 1 g.length)),(13,cV (.own 80 1 out.length)),(44,.w (.c (.d (.sl (zf j))))),(45,zl j.length),(46,zl i)],
 [(4,.box [.d (.sl (zm l)),.d (.sl (zf br))]),(41,.arr 1 (zg g) true),(80,.arr 1 (zf out) false)]⟩
theorem anN (R:am Col)(g:am (am Val))(j:am Col)(br:am (am Val))(o:am ByteArray)(a2:o.length<=100000)(az:j.length<=100000)
 (aw:g.length*br.length<=20000) (ay:g.length<=1000000) (ai: ∀x∈g,x.length=R.length) (av:R.length<=100000) (aj: ∀y∈br,y.length=j.length) (a0:zQ R.length (zh R o)) (a3:zQ j.length (zh j o)):
 Sat Pg Yj [.agg [.d (.sl (zm R)),.d (.sl (zf g))],.agg [.d (.sl (zm j)),.d (.sl (zf br))],.c (.d (.sl (zp o)))]
  (λr=>r=⟨.tup [.c (.d (.sl (zf (xO (zh R o) (zh j o) (oth o 0 j) g br)))),.c (bool true)],[]⟩):=by
 have al:=Qy R (.sl (zf g)) o (by omega);have an:=Qy j (.sl (zf br)) o (by omega);have a1:(zh R o).length=o.length:=by simp[zh]
 have a4:(zh j o).length=o.length:=by simp[zh]
 have ah:=ac5 o j 0;have ae:(oth o 0 j).length<=j.length:=by
  have gen: ∀(l:am Col) (i:Nat),(oth o i l).length<=l.length:=by
   intro l;induction l with
   |nil=>intro i;exact aA _
   |cons c r ih=>
    grind[oth]
  grind
 generalize zh R o=left at*;generalize zh j o=right at*;refine zD ?_;refine yH.s T8 ?_;refine aI al ?_;refine aI an ?_;rw[zV];refine yq (P:=Pg) (f:=T8.f) (body:=(yH.l 0)) (λx:Nat×am Int=>jnA R g o j br left right x.1 x.2) (λx=>j.length - x.1) (λx=>x.1<=j.length /\x.2.length<=x.1 /\oth o 0 j=x.2++oth o x.1 (j.drop x.1)) ⟨(0,[]),⟨aP _,aA _,rfl⟩,⟨_,zW 10 41 1 (by omega) (by omega) rfl,?_⟩⟩ ?_
 ·exact rfl
 rintro⟨i,T⟩ hx;obtain⟨hi,ax,J⟩:i<=j.length /\T.length<=i /\oth o 0 j=T++oth o i (j.drop i):=hx;show mwpR Pg T8.f (yH.l 0) _ (jnA R g o j br left right i T);have aq:(zg T).take T.length=zg T:=by grind[zB]
 unfold jnA;refine jH (λp=>?_) (λad=>?_)
 ·rw[zq p]at J;simp only[oth]at J;have hg:=xC p;have wi:=zC p (by omega);have af:=yi o j[i].name;generalize j[i]=c at*;obtain⟨c1,c2⟩:=c;simp only at J af;generalize hasB o c1=b at*;refine yu hg ?_;refine aI af ?_;cases b with
  |false=>
   have J:oth o 0 j=T++([(i:Int)]++oth o (i+1) (j.drop (i+1))):=J;refine wu ?_;refine⟨(i+1,T++[(i:Int)]),⟨⟨p,by grind,by grind⟩,by grind⟩,ze ?_⟩;(conv=>whnf);rw[wi,aq,aH,<- vu];rfl
  |true=>
   have J:oth o 0 j=T++oth o (i+1) (j.drop (i+1)):=J;(conv=>whnf);refine⟨(i+1,T),⟨⟨p,by grind,J⟩,by grind⟩,ze ?_⟩;(conv=>whnf);rw[wi];rfl
 rw[aC ad]at J;have J:oth o 0 j=T:=by rw[J];exact aS _
 rw[J]at ah ae⊢;(conv=>whnf);rw[zx];refine yx (P:=Pg) (f:=T8.f) (body:=(yH.l 2)) g.length (λk=>jnB j br left right T g k (xO left right T (g.take k) br)) (λ_=>True) ⟨trivial,⟨_,(ad4 _ 41).trans (zW 13 80 1 (by omega) (by omega) rfl),?_⟩⟩ ?_
 ·exact rfl
 intro k hk _;have I: ∀h:k<g.length,xO left right T (g.take (k+1)) br=xO left right T (g.take k) br++abC left right T br g[k]:=λh=>by
  grind[xO,zR]
 have ag:g.length<=k ->xO left right T g br=xO left right T (g.take k) br:=λh=>by grind
 have ab:k<g.length ->(xO left right T (g.take k) br).length+br.length<=20000:=λh=>by
  have h1:=abD left right T br (g.take k);rw[aZ,bH (by omega)]at h1;have h2:(k+1)*br.length<=g.length*br.length:=aO _ h
  grind
 have aa:=λ(Q':E ->S ->Prop) (s':S) (x key:am Val)=>ayi (Q:=Q') (s:=s') j br left right T g k x key (xO left right T (g.take k) br)
 show mwpR Pg T8.f (yH.l 2) _ (jnB j br left right T g k (xO left right T (g.take k) br));generalize xO left right T (g.take k) br=U at*;have au:(zf U).take U.length=zf U:=by grind[zx]
 refine jH (λp=>?_) (λad=>?_)
 ·have hg:=yJ p;have I:=I p;have ab:=ab p;have a5:=ai _ (aM p);have wi:=zC p (by omega);have ao:=Xy g[k] left (by omega) (by grind);have ak:=Z0 (zn g[k] left) yf;generalize g[k]=x at*;unfold abC at I;generalize zn x left=key at*;have aa:=λQ' s'=>aa Q' s' x key ab (by omega) (by omega) (by omega) (λy hy=>by grind) (λy hy=>by rw[aj y hy];intro z hz;grind)
  generalize key.any (qI yf)=b at*;refine yu hg ?_;refine aI ao ?_;refine aI ak ?_;cases b with
  |true=>
   have I:xO left right T (g.take (k+1)) br=U:=by rw[I];exact aS _
   refine y6 p trivial ?_;rw[wi,I];rfl
  |false=>
   have I:xO left right T (g.take (k+1)) br=U++wE x key right T br:=I;(conv=>whnf);refine aa _ _ (ze ?_) ?_
   ·(conv=>whnf);unfold Vx;rw[zx];rfl
   refine y6 p trivial ?_;rw[wi,I];rfl
 rw[ag ad];refine aw1 ?_;show Res.mk (.tup [.c (.d (.sl ((zf U).take U.length))),.c (bool true)]) []=_;rw[au]
theorem ams (d:am Nmd)(cols:am Col)(st:Stp)(i:st.op=5)(hs:st.sorts.length<=1000000)(g:cols.length<=1000000):Sat Pg zK [.c (.d (.sl (zu d))),.c (.d (.sl (zm cols))),st.w] (λr=>r=bif st.err !=0 then WW st.err else rCs cols):=by
 have I:=ut st hs;have hC:=w6 cols g;generalize st.err=e at*;refine zD ?_;obtain⟨op,⟨P,R,⟨vk,vn,vs⟩,ks⟩,j,J,l,o,U,tb⟩:=st;subst i;cases p:(e !=0)with
 |true=>
  refine xg.s T8 ?_;refine aI I ?_;rw[p];exact⟨rfl,rfl⟩
 |false=>
  refine xg.s T8 ?_;refine aI I ?_;rw[p];refine aI hC ?_;exact⟨rfl,rfl⟩
theorem avG (a b:Int):zU false a b=min a b:=by
 show(if b<a then b else a)=_;omega
def rRT (l:am (am Val)):Res:=⟨.tup [.c (.d (.sl (zf l))),.c (bool true)],[]⟩
theorem kS (d:am Nmd)(t:Tbl)(st:Stp)(g:st.op=3)(gs:am Gr)(o:Sat Pg JN [.agg [.d (.sl (zm t.cols)),.d (.sl (zf t.rows))],.agg st.cs] (λr=>r=rC (.d (.sl (zf (gs.map (qk t.cols st.aggs))))))):Sat Pg vx [.c (.d (.sl (zu d))),t.w,.agg st.cs] (λr=>r=rRT (gs.map (qk t.cols st.aggs))):=by
 refine zD ?_;obtain⟨op,⟨I,J,⟨R,U,vs⟩,ks⟩,i,p,j,l,P,tb⟩:=st;subst g;refine xM.s T8 ?_;refine aI o ?_;exact⟨rfl,rfl⟩
theorem kT (d:am Nmd)(t:Tbl)(st:Stp)(j:st.op=5)(U:0<=st.n):Sat Pg vx [.c (.d (.sl (zu d))),t.w,.agg st.cs] (λr=>r=rRT (t.rows.take (zU false st.n t.rows.length).toNat)):=by
 refine zD ?_;obtain⟨tc,g⟩:=t;obtain⟨op,⟨P,nm,⟨vk,vn,vs⟩,ks⟩,o,J,p,I,i,tb⟩:=st;simp only at*;subst j;refine xM.s T8 ?_;rw[zx];have R:=avG i g.length;have l:zf (g.take (zU false i g.length).toNat)=((zf g).drop 0).take ((zU false i g.length).toNat - 0):=by grind[zf,bC]
 refine xW ?_ (hA:=by show(0:Int)<=zU false i g.length;omega) (hB:=by show zU false i g.length<=(g.length:Int);omega);exact⟨rfl,by unfold rRT;rw[l];rfl⟩
theorem aaQ (d:am Nmd)(t:Tbl)(st:Stp)(g:st.op=6)(b:Tbl)(p:zZ st.table d=some b)(R:am (am Val))(I:Sat Pg Yj [.agg [.d (.sl (zm t.cols)),.d (.sl (zf t.rows))],.agg [.d (.sl (zm b.cols)),.d (.sl (zf b.rows))],.c (.d (.sl (zp st.cols)))] (λr=>r=rRT R)):Sat Pg vx [.c (.d (.sl (zu d))),t.w,.agg st.cs] (λr=>r=rRT (R)):=by
 have o:=y9 d st.table;rw[p]at o;refine zD ?_;obtain⟨op,⟨P,U,⟨vk,vn,vs⟩,ks⟩,i,J,j,l,sn,tb⟩:=st;subst g;refine xM.s T8 ?_;refine aI o ?_;refine aI I ?_;exact⟨rfl,rfl⟩
theorem anE (d:am Nmd)(t:Tbl)(st:Stp)(g:am Col)(R:Tbl)(p:yI d=0)(I:zL t=0)(P:Sat Pg zK [.c (.d (.sl (zu d))),.c (.d (.sl (zm t.cols))),st.w] (λr=>r=rCs g))
 (J:Sat Pg qJ [.c (.d (.sl (zu d))),t.w,.agg st.cs,.c (.d (.sl (zm g)))] (λr=>r=qE R 0)):
 Sat Pg wx [.c (.d (.sl (zu d))),t.w,st.w] (λr=>r=qE R 0):=by
 have o:=qM d;have hk:=qb t;rw[p]at o;rw[I]at hk;obtain⟨op,⟨eo,nm,⟨vk,vn,vs⟩,ks⟩,i,U,j,l,sn,tb⟩:=st;refine ZH.s T8 ?_;refine aI o ?_;refine aI hk ?_;refine aI P ?_;refine aI J ?_;rfl
theorem ace (d:am Nmd)(t:Tbl)(st:Stp)(e:Int)(p:yI d=0)(I:zL t=0)(o:e≠0)(J:Sat Pg zK [.c (.d (.sl (zu d))),.c (.d (.sl (zm t.cols))),st.w] (λr=>r=WW e)):
 Sat Pg wx [.c (.d (.sl (zu d))),t.w,st.w] (λr=>r=rNT e):=by
 have l:=qM d;have hk:=qb t;rw[p]at l;rw[I]at hk;have o:(e !=0)=true:=by grind
 obtain⟨op,⟨R,U,⟨vk,vn,vs⟩,ks⟩,g,P,i,j,sn,tb⟩:=st;refine ZH.s T8 ?_;refine aI l ?_;refine aI hk ?_;refine aI J ?_;rw[o];exact rfl
theorem XA {s:S}(d:Nat)(c:C)(x:D)(j:am (Nat×Pl))(h:aget s.sl d=some (cV c))(I:toD s.pl c=some (x,j)):X0 s ((s.withPl j).put (some d) (cV (.d x))):=by
 intro F N ι a w hr;obtain⟨y,l,o⟩:=hr.slots d _ h;obtain⟨i,r,p⟩:=acA hr (c:=c) (v:=y) o I;refine⟨ι,{i with slots:=λk v g=>?_}⟩;have g:aget (yD d (cV (.d x)) s.sl) k=some v:=g;rw[yA]at g;by_cases e:d=k
 ·rw[aL e]at g;cases g;subst e;exact⟨y,l,p⟩
 rw[aG e]at g;exact i.slots k v g
def xp:ACode ->ACode
 | .seq _ b=>b
 |x=>x
def sFrom:ByteArray:=⟨#[102,114,111,109]⟩
def sTo:ByteArray:=⟨#[116,111]⟩
theorem aag (g:FuncId)(cap:am D)(p:ByteArray ->Bool)(hp: ∀x:ByteArray,Sat Pg g [.c (str x),.c (.fp cap)] (λr=>r=rB (p x)))(l:am ByteArray)(R:l.length<=1000000):
 Sat Pg Zt [.c (.d (.sl (zp l))),.c (.d (.fn g [cap]))] (λr=>r=rI (yj p 0 l)):=by
 refine xq T8 wc.ok (by kernel_rfl) ?_
 refine yx (P:=Pg) (f:=T8.f) (body:=(wc.l 0)) l.length (λi=>⟨[(0,.w (.c (.d (.sl (zp l))))),(1,.w (.c (.d (.fn g [cap])))),(7,zl (zp l).length),(8,zl i)],[]⟩)
  (λi=>yj p 0 l=yj p i (l.drop i)) ⟨rfl,ze ?_⟩ ?_
 ·exact rfl
 intro i hi o;refine zi (λU=>?_) (λU=>?_)
 ·have j:i<l.length:=by simp_all[zF]
  refine⟨by omega,_,wL j,rfl,?_⟩;refine Sat.cal (hp l[i]) ?_;rw[zq j]at o;refine zi (λI=>?_) (λI=>?_)
  ·simp only[yj,I,aK]at o;exact bB rI o.symm
  simp only[yj,I,aF]at o;refine y6 j o ?_;rw[zC j (by omega)];rfl
 have J:l.length<=i:=by grind[zF]
 rw[aC J]at o;exact bB rI o.symm
theorem YB (g:FuncId)(cap:am D)(p:ByteArray ->Bool)(j: ∀x:ByteArray,Sat Pg g [.c (str x),.c (.fp cap)] (λr=>r=rB (p x)))(l:am ByteArray)(i:l.length<=1000000):
 Sat Pg jG [.c (.d (.sl (zp l))),.c (.d (.fn g [cap]))] (λr=>r=rB (l.any p)):=by
 refine jA.s T8 ?_;refine aI (aag g cap p j l i) ?_;exact bB rB (Xp _ l 0)
theorem acl (x:ByteArray)(i j l o p I J P:D)(g:am ByteArray)(rest:am D):Sat Pg VB [.c (str x),.c (.fp (i::j::l::o::p::I::J::P:: .sl (zp g)::rest))] (λr=>r=rB (hasB g x)):=by
 refine adm.s T8 ?_;refine aI (yi g x) ?_;rfl
def colInt (cols:am Col)(s:ByteArray):Int:=bif decide (zj cols s<0)then 16 else bif (qH cols (zj cols s)).t !=2 then 14 else 0
theorem Wy (cols:am Col)(s:ByteArray):Sat Pg aew [.c (.d (.sl (zm cols))),.c (str s)] (λr=>r=rI (colInt cols s)):=by
 have p:=xJ cols s;have i:=qY cols s;have l:=λh=>XG (i h).1 (i h).2
 unfold colInt;generalize zj cols s=k at*;refine ael.s T8 ?_;refine aI p ?_;refine zw (b:=decide (k<0)) (λg=>?_) (λg=>?_)
 ·rw[g];exact rfl
 rw[g];have l:=l (aE g);have i:=i (aE g);generalize qH cols k=c at*;obtain⟨I,o⟩:=c;refine yu l ?_ (hA:=i.1);refine zi (b:=o !=2) (λj=>?_) (λj=>?_)
 ·simp only[j];exact rfl
 simp only[j];exact rfl
def intErr (cols:am Col):am ByteArray ->Int
 | []=>0
 |s::r=>bif colInt cols s !=0 then colInt cols s else intErr cols r
def keepS (g cs:am ByteArray)(l:am Col):am Col:=l.filter λc=>!hasB cs c.name&& !hasB g c.name
def apG (i:am ByteArray)(cols g:am Col)(cs:am ByteArray):Res:=
 bif jnErr cols g cs !=0 then WW (jnErr cols g cs)else bif intErr cols i !=0 then WW (intErr cols i)else bif intErr g i !=0 then WW (intErr g i)else
 bif dupL [] (cols++keepS i cs g)then WW 4 else bif decide (((cols++keepS i cs g).length:Int)>32)then WW 7 else rCs (cols++keepS i cs g)
def apF (i:am ByteArray)(cols g:am Col)(cs:am ByteArray):Res:=bif i.any (hasB cs)then WW 4 else apG i cols g cs
def ahg (g:am ByteArray)(d:am Nmd)(cols:am Col)(cs:am ByteArray)(tb:ByteArray):Res:=match zZ tb d with
 |none=>WW 17
 |some t=>apF g cols t.cols cs
def Vg (op:Int)(o:Int)(p:ByteArray)(v1 v2:Int)(v3:ByteArray)(ks:am Ex)(g:am Itm)(l:am ByteArray)(i:am Agg)(j:am Srt)(r:Int)(tb:ByteArray):Pl:=
 .fbox [.lit (.int .i64 op),.lit (.int .i64 o),.lit (.string p),.lit (.int .i64 v1),.lit (.int .i64 v2),.lit (.string v3),.sl (exsD ks),.sl (yW g),.sl (zp l),.sl (wt i),.sl (xQ j),.lit (.int .i64 r),.lit (.string tb)]
def aam (op:Int)(P:am ByteArray)(r:Int)(I:ByteArray)(v1 v2:Int)(v3:ByteArray)(ks:am Ex)(g:am Itm)(p:am ByteArray)(j:am Agg)(l:am Srt)(J:Int)(tb:ByteArray)(tc:am Col)(i:Nat)(o:am Col):S:=
 ⟨[(5,cV (.ptr 5 0)),(10,.w (.c (.d (.sl (zp P))))),(20,cV (.own 128 2 o.length)),(106,.w (.c (.d (.sl (zm tc))))),(107,zl tc.length),(108,zl i)],[(5,Vg op r I v1 v2 v3 ks g p j l J tb),(128,.arr 2 (zm o) false)]⟩
theorem as0 {Q:E ->S ->Prop}{s:S}(op:Int)(I:am ByteArray)(eo:Int)(nm:ByteArray)(v1 v2:Int)(v3:ByteArray)(ks:am Ex)(o:am Itm)(g:am ByteArray)(p:am Agg)(r:am Srt)(sn:Int)(tb:ByteArray)(cols tc:am Col)(ae:cols.length<=1000000)(af:tc.length<=1000000)
 (h0:yX s [5,10,20,106,107,108] (· =aam op I eo nm v1 v2 v3 ks o g p r sn tb tc 0 cols))
 (hQ:Q (.exit 8) (xD (aam op I eo nm v1 v2 v3 ks o g p r sn tb tc tc.length (cols++keepS I g tc)) 109 (ya (decide ((tc.length:Int)<tc.length))))):
 zY (mwpR Pg T8.f (zI.l 3)) [5,10,20,106,107,108] Q s:=by
 refine yx (P:=Pg) (f:=T8.f) (body:=(zI.l 3)) tc.length (λi=>aam op I eo nm v1 v2 v3 ks o g p r sn tb tc i (cols++keepS I g (tc.take i))) (λ_=>True) ⟨trivial,?_⟩ ?_
 ·grind[keepS]
 intro i hi _;have ad:(cols++keepS I g (tc.take i)).length<=1000000+i:=by
  grind[keepS]
 have j: ∀h:i<tc.length,cols++keepS I g (tc.take (i+1))=(cols++keepS I g (tc.take i))++(bif !hasB g tc[i].name&& !hasB I tc[i].name then [tc[i]]else []):=λh=>by
  grind[keepS,Zd]
 have R:i=tc.length ->cols++keepS I g tc=cols++keepS I g (tc.take i):=λh=>by grind
 show mwpR Pg T8.f (zI.l 3) _ (aam op I eo nm v1 v2 v3 ks o g p r sn tb tc i (cols++keepS I g (tc.take i)));generalize cols++keepS I g (tc.take i)=T at*;have ac:(zm T).take T.length=zm T:=by grind[zV]
 unfold aam Vg;refine rgE (λJ=>?_) (λU=>?_)
 ·have hg:=xC J;have j:=j J;have ab:=yi g tc[i].name;have aa:=yi I tc[i].name;have wi:=zC J (by omega);generalize tc[i]=c at*;obtain⟨c1,c2⟩:=c;simp only at j ab aa;generalize hasB g c1=b at*;generalize hasB I c1=b2 at*;refine yu hg ?_;refine aI ab ?_;refine zw (b:=!b) (λh2=>?_) (λh2=>?_)
  ·rw[h2,cB]at j;refine aI aa ?_;refine zw (b:=!b2) (λh3=>?_) (λh3=>?_)
   ·rw[h3,aK]at j;refine wu ?_;refine y6 J trivial ?_;rw[wi,ac,j,aH];simp only[zm,aW];rfl
   rw[h3,aF,aS]at j;refine y6 J trivial ?_;rw[wi,j];rfl
  rw[h2,ck,aF,aS]at j;refine y6 J trivial ?_;rw[wi,j];rfl
 rw[R U]at hQ;subst U;exact hQ
noncomputable def tjRest:ACode:=xp (xp (xp (xp (xp (xp (xp zI.A.code))))))
def axO (op:Int)(J:am ByteArray)(p:Int)(r:ByteArray)(v1 v2:Int)(v3:ByteArray)(ks:am Ex)(g:am Itm)(o:am ByteArray)(j:am Agg)(l:am Srt)(I:Int)(tb:ByteArray)(cols tc:am Col)(P:am (am Val))(i:Nat):S:=
 ⟨[(1,.w (.c (.d (.sl (zm cols))))),(5,cV (.ptr 5 0)),(8,cV (.ptr 8 0)),(10,.w (.c (.d (.sl (zp J))))),(83,.w (.c (.d (.sl [[.sl (zm cols)],[.sl (zm tc)]])))),(84,zl 2),(85,zl i)],[(5,Vg op p r v1 v2 v3 ks g o j l I tb),(8,.box [.d (.sl (zm tc)),.d (.sl (zf P))])]⟩
def aqu (op:Int)(I:am ByteArray)(J:Int)(P:ByteArray)(v1 v2:Int)(v3:ByteArray)(ks:am Ex)(g:am Itm)(r:am ByteArray)(l:am Agg)(o:am Srt)(R:Int)(tb:ByteArray)(cols tc:am Col)(U:am (am Val))(p:am Col)(i j:Nat):S:=
 ⟨[(1,.w (.c (.d (.sl (zm cols))))),(5,cV (.ptr 5 0)),(8,cV (.ptr 8 0)),(10,.w (.c (.d (.sl (zp I))))),(16,.w (.c (.d (.sl (zm p))))),(83,.w (.c (.d (.sl [[.sl (zm cols)],[.sl (zm tc)]])))),(84,zl 2),(85,zl i),(89,.w (.c (.d (.sl (zp I))))),(90,zl I.length),(91,zl j)],[(5,Vg op J P v1 v2 v3 ks g r l o R tb),(8,.box [.d (.sl (zm tc)),.d (.sl (zf U))])]⟩
theorem aoN {s:S}(op:Int)(I:am ByteArray)(ay:I.length<=1000)(eo:Int)(nm:ByteArray)(v1 v2:Int)(v3:ByteArray)(ks:am Ex)(R:am Itm)(p:am ByteArray)(U:am Agg)(aa:am Srt)(sn:Int)(tb:ByteArray)(cols tc:am Col)(tr:am (am Val))(ax:p.length<=1000000)(af:cols.length<=1000000)(ah:tc.length<=1000000)
 (h0:yX s [1,5,8,10,46,47,48] (· =⟨[(1,.w (.c (.d (.sl (zm cols))))),(5,cV (.ptr 5 0)),(8,cV (.ptr 8 0)),(10,.w (.c (.d (.sl (zp I))))),(46,.w (.c (.d (.sl (zp p))))),(47,zl p.length),(48,zl (0:Nat))],[(5,Vg op eo nm v1 v2 v3 ks R p U aa sn tb),(8,.box [.d (.sl (zm tc)),.d (.sl (zf tr))])]⟩)):
 zY (mwpR Pg T8.f (zI.l 0)) [1,5,8,10,46,47,48] (j5 1 (Vp (mwpR Pg T8.f tjRest) (Qf zI.A.res [] (DQ (apG I cols tc p))))) s:=by
 unfold apG;refine yx (P:=Pg) (f:=T8.f) (body:=(zI.l 0)) p.length (λi=>⟨[(1,.w (.c (.d (.sl (zm cols))))),(5,cV (.ptr 5 0)),(8,cV (.ptr 8 0)),(10,.w (.c (.d (.sl (zp I))))),(46,.w (.c (.d (.sl (zp p))))),(47,zl p.length),(48,zl i)],[(5,Vg op eo nm v1 v2 v3 ks R p U aa sn tb),(8,.box [.d (.sl (zm tc)),.d (.sl (zf tr))])]⟩) (λi=>jnErr cols tc p=jnErr cols tc (p.drop i)) ⟨rfl,h0⟩ ?_
 intro i hi g;unfold Vg;refine jH (λo=>?_) (λab=>?_)
 ·rw[zq o]at g;simp only[jnErr]at g;have hg:=wL o;have wi:=zC o (by omega);have aq:=xJ cols p[i];have ar:=xJ tc p[i];have ad:=qY cols p[i];have ae:=qY tc p[i];have aj:=λh=>XG (ad h).1 (ad h).2
  have ak:=λh=>XG (ae h).1 (ae h).2
  generalize p[i]=x at*;generalize zj cols x=k1 at*;generalize zj tc x=k2 at*;refine yu hg ?_;refine aI aq ?_;refine aI ar ?_;refine zw (b:=decide (k1<0)||decide (k2<0)) (λJ=>?_) (λJ=>?_)
  ·rw[J]at g;have g:jnErr cols tc p=16:=g;simp only[g];exact⟨rfl,rfl⟩
  rw[J,aF]at g;rw[cm]at J;have n1:=aE J.1;have n2:=aE J.2;have ad:=ad n1;have ae:=ae n2;have aj:=aj n1;have ak:=ak n2;generalize qH cols k1=c1 at*;generalize qH tc k2=c2 at*;obtain⟨av,al⟩:=c1;obtain⟨aw,an⟩:=c2;simp only at g;refine yu aj ?_ (hA:=ad.1);refine yu ak ?_ (hA:=ae.1);refine zi (b:=al !=an) (λh3=>?_) (λh3=>?_)
  ·rw[h3]at g;have g:jnErr cols tc p=14:=g;simp only[g];exact⟨rfl,rfl⟩
  rw[h3,aF]at g;refine y6 o g ?_;rw[wi];rfl
 rw[aC ab]at g;have g:jnErr cols tc p=0:=g;simp only[g];clear g;(conv=>whnf);refine yx (P:=Pg) (f:=T8.f) (body:=(zI.l 2)) 2 (λi=>axO op I eo nm v1 v2 v3 ks R p U aa sn tb cols tc tr i) (λi=>(1<=i ->intErr cols I=0)/\(2<=i ->intErr tc I=0)) ⟨⟨λh=>by omega,λh=>by omega⟩,⟨_,XA 83 _ _ _ rfl rfl,?_⟩⟩ ?_
 ·exact rfl
 intro i hi g;obtain⟨ac,ag⟩:(1<=i ->intErr cols I=0)/\(2<=i ->intErr tc I=0):=g;unfold axO Vg
 match i,hi with
 |0,_=>
  (conv=>whnf);refine⟨by decide,_,rfl,rfl,?_⟩;(conv=>whnf);rw[zF];refine yx (P:=Pg) (f:=T8.f) (body:=(zI.l 1)) I.length (λj=>aqu op I eo nm v1 v2 v3 ks R p U aa sn tb cols tc tr cols 0 j) (λj=>intErr cols I=intErr cols (I.drop j)) ⟨rfl,ze ?_⟩ ?_
  ·exact rfl
  intro j hj g;have g:intErr cols I=intErr cols (I.drop j):=g;unfold aqu Vg;refine zi (λh1=>?_) (λh1=>?_)
  ·have o:j<I.length:=by simp_all
   rw[zq o]at g;simp only[intErr]at g;have hg:=wL o;have wj:=zC o (by omega);have hint:=Wy cols I[j];generalize I[j]=x at*;generalize colInt cols x=c at*;(conv=>whnf);refine⟨by omega,_,hg,rfl,?_⟩;refine aI hint ?_;refine zw (b:=c !=0) (λJ=>?_) (λJ=>?_)
   ·rw[J,aK]at g;simp only[g,J];exact⟨rfl,rfl⟩
   rw[J,aF]at g;(conv=>whnf);refine⟨o,g,ze ?_⟩;(conv=>whnf);rw[wj];rfl
  have ab:I.length<=j:=by grind
  rw[aC ab]at g;have g:intErr cols I=0:=g;(conv=>whnf);refine⟨by decide,?_,ze ?_⟩
  ·grind
  exact rfl
 |1,_=>
  have ac:=ac (aA _);(conv=>whnf);refine⟨by decide,_,rfl,rfl,?_⟩;(conv=>whnf);rw[zF];refine yx (P:=Pg) (f:=T8.f) (body:=(zI.l 1)) I.length (λj=>aqu op I eo nm v1 v2 v3 ks R p U aa sn tb cols tc tr tc 1 j) (λj=>intErr tc I=intErr tc (I.drop j)) ⟨rfl,ze ?_⟩ ?_
  ·exact rfl
  intro j hj g;have g:intErr tc I=intErr tc (I.drop j):=g;unfold aqu Vg;refine zi (λh1=>?_) (λh1=>?_)
  ·have o:j<I.length:=by simp_all
   rw[zq o]at g;simp only[intErr]at g;have hg:=wL o;have wj:=zC o (by omega);have hint:=Wy tc I[j];generalize I[j]=x at*;generalize colInt tc x=c at*;(conv=>whnf);refine⟨by omega,_,hg,rfl,?_⟩;refine aI hint ?_;refine zw (b:=c !=0) (λJ=>?_) (λJ=>?_)
   ·rw[J,aK]at g;simp only[ac,g,J];exact⟨rfl,rfl⟩
   rw[J,aF]at g;(conv=>whnf);refine⟨o,g,ze ?_⟩;(conv=>whnf);rw[wj];rfl
  have ab:I.length<=j:=by grind
  rw[aC ab]at g;have g:intErr tc I=0:=g;(conv=>whnf);refine⟨by decide,?_,ze ?_⟩
  ·grind
  exact rfl
 |2,_=>
  have ac:=ac (by omega);have ag:=ag (by omega);rw[ac,ag];clear ac ag;(conv=>whnf);refine bA (VE cols af) ?_;rintro _ (⟨au,rfl⟩|rfl)
  ·(conv=>whnf);refine as0 op I eo nm v1 v2 v3 ks R p U aa sn tb cols tc af ah ⟨_,zW 20 128 2 (by omega) (by omega) rfl,?_⟩ ?_
   ·(conv=>whnf);unfold aam;rw[zV,au];rfl
   unfold xD aam Vg;have ao:(cols++keepS I p tc).length<=2000000:=by
    grind[keepS]
   clear ah af;generalize cols++keepS I p tc=O at*;(conv=>whnf);refine yx (P:=Pg) (f:=T8.f) (body:=(zI.l 4)) O.length (λi=>⟨[(20,cV (.own 128 2 O.length)),(130,cV (.own 128 2 O.length)),(131,zl O.length),(132,zl i)],[(128,.arr 2 (zm O) false)]⟩) (λi=>dupL [] O=dupL (O.take i) (O.drop i)) ⟨rfl,ze ?_⟩ ?_
   ·exact rfl
   intro i hi g;cases i with
   |zero=>
    refine zi (b:=decide ((0:Nat)<(O.length:Int))) (λh1=>?_) (λh1=>?_)
    ·have o:0<O.length:=by simp_all
     rw[zq o]at g;simp only[dupL]at g;rw[<- zR o]at g;have hg:=xC o;have wi:=zC o (by omega);have r:=xJ (O.take (0)) O[0].name;have ht:zm (O.take (0))=(zm O).take (0):=by grind[zm]
     rw[ht]at r;generalize ai:dupL (O.take (0+1)) (O.drop (0+1))=rest at*;generalize O[0]=c at*;obtain⟨c1,c2⟩:=c;simp only at g r;generalize zj (O.take (0)) c1=k at*;(conv=>whnf);refine⟨by omega,by omega,?_⟩;(conv=>whnf);refine⟨_,hg,?_⟩;(conv=>whnf);refine⟨by show(0:Int)<=((0:Nat):Int);omega,by show((0:Nat):Int)<=(O.length:Int);omega,?_⟩;refine aI r ?_;refine zw (b:=decide (k>=0)) (λJ=>?_) (λJ=>?_)
     ·rw[J]at g;have g:dupL [] O=true:=g;rw[g];exact⟨rfl,rfl⟩
     rw[J]at g;have g:dupL [] O=rest:=g;(conv=>whnf);refine⟨o,g,ze ?_⟩;(conv=>whnf);rw[wi];rfl
    have ab:O.length<=0:=by grind
    rw[aC ab]at g;have g:dupL [] O=false:=g;rw[g];refine zi (b:=decide ((O.length:Int)>32)) (λh5=>?_) (λh5=>?_)
    ·grind
    rw[h5];(conv=>whnf);refine⟨rfl,?_⟩;show Res.mk (.tup [.c (.d (.sl ((zm O).take O.length))),.c (int 0)]) []=_;rw[<- zV,aN];rfl
   |succ i=>
    refine zi (b:=decide ((i+1:Nat)<(O.length:Int))) (λh1=>?_) (λh1=>?_)
    ·have o:i+1<O.length:=by have:=aD h1;omega
     rw[zq o]at g;simp only[dupL]at g;rw[<- zR o]at g;have hg:=xC o;have wi:=zC o (by omega);have r:=xJ (O.take (i+1)) O[i+1].name;have ht:zm (O.take (i+1))=(zm O).take (i+1):=by grind[zm,bC]
     rw[ht]at r;generalize ai:dupL (O.take (i+1+1)) (O.drop (i+1+1))=rest at*;generalize O[i+1]=c at*;obtain⟨c1,c2⟩:=c;simp only at g r;generalize zj (O.take (i+1)) c1=k at*;(conv=>whnf);refine⟨by omega,by omega,?_⟩;(conv=>whnf);refine⟨_,hg,?_⟩;(conv=>whnf);refine⟨by show(0:Int)<=((i+1:Nat):Int);omega,by show((i+1:Nat):Int)<=(O.length:Int);omega,?_⟩;refine aI r ?_;refine zw (b:=decide (k>=0)) (λJ=>?_) (λJ=>?_)
     ·rw[J]at g;have g:dupL [] O=true:=g;rw[g];exact⟨rfl,rfl⟩
     rw[J]at g;have g:dupL [] O=rest:=g;(conv=>whnf);refine⟨o,g,ze ?_⟩;(conv=>whnf);rw[wi];rfl
    have ab:O.length<=i+1:=by grind
    rw[aC ab]at g;have g:dupL [] O=false:=g;rw[g];refine zi (b:=decide ((O.length:Int)>32)) (λh5=>?_) (λh5=>?_)
    ·rw[h5];exact⟨rfl,rfl⟩
    rw[h5];(conv=>whnf);refine⟨rfl,?_⟩;show Res.mk (.tup [.c (.d (.sl ((zm O).take O.length))),.c (int 0)]) []=_;rw[<- zV,aN];rfl
  (conv=>whnf);refine as0 op I eo nm v1 v2 v3 ks R p U aa sn tb cols tc af ah ⟨_,u9 20 601664 128 2 _ _ (by omega) rfl rfl,?_⟩ ?_
  ·(conv=>whnf);unfold aam;rw[zV,zV];rfl
  unfold xD aam Vg;have ao:(cols++keepS I p tc).length<=2000000:=by
   grind[keepS]
  clear ah af;generalize cols++keepS I p tc=O at*;(conv=>whnf);refine yx (P:=Pg) (f:=T8.f) (body:=(zI.l 4)) O.length (λi=>⟨[(20,cV (.own 128 2 O.length)),(130,cV (.own 128 2 O.length)),(131,zl O.length),(132,zl i)],[(128,.arr 2 (zm O) false)]⟩) (λi=>dupL [] O=dupL (O.take i) (O.drop i)) ⟨rfl,ze ?_⟩ ?_
  ·exact rfl
  intro i hi g;cases i with
  |zero=>
   refine zi (b:=decide ((0:Nat)<(O.length:Int))) (λh1=>?_) (λh1=>?_)
   ·have o:0<O.length:=by simp_all
    rw[zq o]at g;simp only[dupL]at g;rw[<- zR o]at g;have hg:=xC o;have wi:=zC o (by omega);have r:=xJ (O.take (0)) O[0].name;have ht:zm (O.take (0))=(zm O).take (0):=by grind[zm]
    rw[ht]at r;generalize ai:dupL (O.take (0+1)) (O.drop (0+1))=rest at*;generalize O[0]=c at*;obtain⟨c1,c2⟩:=c;simp only at g r;generalize zj (O.take (0)) c1=k at*;(conv=>whnf);refine⟨by omega,by omega,?_⟩;(conv=>whnf);refine⟨_,hg,?_⟩;(conv=>whnf);refine⟨by show(0:Int)<=((0:Nat):Int);omega,by show((0:Nat):Int)<=(O.length:Int);omega,?_⟩;refine aI r ?_;refine zw (b:=decide (k>=0)) (λJ=>?_) (λJ=>?_)
    ·rw[J]at g;have g:dupL [] O=true:=g;rw[g];exact⟨rfl,rfl⟩
    rw[J]at g;have g:dupL [] O=rest:=g;(conv=>whnf);refine⟨o,g,ze ?_⟩;(conv=>whnf);rw[wi];rfl
   have ab:O.length<=0:=by grind
   rw[aC ab]at g;have g:dupL [] O=false:=g;rw[g];refine zi (b:=decide ((O.length:Int)>32)) (λh5=>?_) (λh5=>?_)
   ·grind
   rw[h5];(conv=>whnf);refine⟨rfl,?_⟩;show Res.mk (.tup [.c (.d (.sl ((zm O).take O.length))),.c (int 0)]) []=_;rw[<- zV,aN];rfl
  |succ i=>
   refine zi (b:=decide ((i+1:Nat)<(O.length:Int))) (λh1=>?_) (λh1=>?_)
   ·have o:i+1<O.length:=by have:=aD h1;omega
    rw[zq o]at g;simp only[dupL]at g;rw[<- zR o]at g;have hg:=xC o;have wi:=zC o (by omega);have r:=xJ (O.take (i+1)) O[i+1].name;have ht:zm (O.take (i+1))=(zm O).take (i+1):=by grind[zm,bC]
    rw[ht]at r;generalize ai:dupL (O.take (i+1+1)) (O.drop (i+1+1))=rest at*;generalize O[i+1]=c at*;obtain⟨c1,c2⟩:=c;simp only at g r;generalize zj (O.take (i+1)) c1=k at*;(conv=>whnf);refine⟨by omega,by omega,?_⟩;(conv=>whnf);refine⟨_,hg,?_⟩;(conv=>whnf);refine⟨by show(0:Int)<=((i+1:Nat):Int);omega,by show((i+1:Nat):Int)<=(O.length:Int);omega,?_⟩;refine aI r ?_;refine zw (b:=decide (k>=0)) (λJ=>?_) (λJ=>?_)
    ·rw[J]at g;have g:dupL [] O=true:=g;rw[g];exact⟨rfl,rfl⟩
    rw[J]at g;have g:dupL [] O=rest:=g;(conv=>whnf);refine⟨o,g,ze ?_⟩;(conv=>whnf);rw[wi];rfl
   have ab:O.length<=i+1:=by grind
   rw[aC ab]at g;have g:dupL [] O=false:=g;rw[g];refine zi (b:=decide ((O.length:Int)>32)) (λh5=>?_) (λh5=>?_)
   ·rw[h5];exact⟨rfl,rfl⟩
   rw[h5];(conv=>whnf);refine⟨rfl,?_⟩;show Res.mk (.tup [.c (.d (.sl ((zm O).take O.length))),.c (int 0)]) []=_;rw[<- zV,aN];rfl
theorem amq (d:am Nmd)(cols:am Col)(st:Stp)(P:st.op=7)(J:st.cols.length<=1000000)(U:cols.length<=1000000)(j: ∀t,zZ st.table d=some t ->t.cols.length<=1000000):
 Sat Pg vK [.c (.d (.sl (zu d))),.c (.d (.sl (zm cols))),.agg st.cs] (λr=>r=ahg [sFrom,sTo] d cols st.cols st.table):=by
 have i:=y9 d st.table;unfold ahg;obtain⟨op,⟨eo,nm,⟨v1,v2,v3⟩,ks⟩,o,l,p,I,sn,tb⟩:=st;simp only at P J j i;subst P;refine zD ?_;unfold Stp.cs vE;simp only;cases hf:zZ tb d with
 |none=>
  rw[hf]at i;refine zI.s T8 ?_;refine aI i ?_;exact⟨rfl,rfl⟩
 |some t=>
  rw[hf]at i;have j:=j t hf;obtain⟨tc,tr⟩:=t;simp only at j;unfold apF;have R:=λg cap hp=>YB g cap (hasB l) hp [sFrom,sTo] (by simp)
  generalize aa:([sFrom,sTo]:am ByteArray).any (hasB l)=any at*;refine zI.s T8 ?_;refine aI i ?_;refine aI (R _ _ (λx=>acl x _ _ _ _ _ _ _ _ l _)) ?_;cases any with
  |true=>
   exact⟨rfl,rfl⟩
  |false=>
   (conv=>whnf);rw[zF];refine aoN 7 [sFrom,sTo] (by simp) eo nm v1 v2 v3 ks o l p I sn tb cols tc tr J U j ⟨_,XA 10 _ _ _ rfl rfl,?_⟩;exact rfl
theorem amr (d:am Nmd)(cols:am Col)(st:Stp)(P:st.op=8)(J:st.cols.length<=1000000)(U:cols.length<=1000000)(j: ∀t,zZ st.table d=some t ->t.cols.length<=1000000):
 Sat Pg vK [.c (.d (.sl (zu d))),.c (.d (.sl (zm cols))),.agg st.cs] (λr=>r=ahg [sFrom] d cols st.cols st.table):=by
 have i:=y9 d st.table;unfold ahg;obtain⟨op,⟨eo,nm,⟨v1,v2,v3⟩,ks⟩,o,l,p,I,sn,tb⟩:=st;simp only at P J j i;subst P;refine zD ?_;unfold Stp.cs vE;simp only;cases hf:zZ tb d with
 |none=>
  rw[hf]at i;refine zI.s T8 ?_;refine aI i ?_;exact⟨rfl,rfl⟩
 |some t=>
  rw[hf]at i;have j:=j t hf;obtain⟨tc,tr⟩:=t;simp only at j;unfold apF;have R:=λg cap hp=>YB g cap (hasB l) hp [sFrom] (by simp)
  generalize aa:([sFrom]:am ByteArray).any (hasB l)=any at*;refine zI.s T8 ?_;refine aI i ?_;refine aI (R _ _ (λx=>acl x _ _ _ _ _ _ _ _ l _)) ?_;cases any with
  |true=>
   exact⟨rfl,rfl⟩
  |false=>
   (conv=>whnf);rw[zF];refine aoN 8 [sFrom] (by simp) eo nm v1 v2 v3 ks o l p I sn tb cols tc tr J U j ⟨_,XA 10 _ _ _ rfl rfl,?_⟩;exact rfl
def xF (x:Int×am Col):Res:=⟨.tup [.c (.d (.sl (zm x.2))),.c (int x.1)],[]⟩
def coT (cols:am Col)(cs:am ByteArray):Int×am Col:=
 bif hasB cs sFrom||hasB cs sTo then(4,[])else bif takeErr cols cs then(16,[])else bif colInt cols sFrom !=0 then(colInt cols sFrom,[])else bif colInt cols sTo !=0 then(colInt cols sTo,[])else(0,takeC cols cs++[⟨sFrom,2⟩,⟨sTo,2⟩])
theorem ajK (cols:am Col)(st:Stp)(J:st.cols.length<=1000000):Sat Pg WQ [.c (.d (.sl (zm cols))),.agg st.cs] (λr=>r=xF (coT cols st.cols)):=by
 have g:=acq cols st.cols J;have ab:(takeC cols st.cols).length=st.cols.length:=by simp[takeC]
 have j:=yi st.cols sFrom;have o:=yi st.cols sTo;have I:=Wy cols sFrom;have h4:=Wy cols sTo;unfold coT;obtain⟨op,⟨eo,nm,⟨v1,v2,v3⟩,ks⟩,R,i,U,aa,sn,tb⟩:=st;simp only at*;generalize hasB i sFrom=b1 at*;generalize hasB i sTo=b2 at*;generalize colInt cols sFrom=c1 at*;generalize colInt cols sTo=c2 at*;generalize takeC cols i=T at*;generalize takeErr cols i=te at*;refine zD ?_;unfold Stp.cs vE;simp only;cases b1 with
 |true=>
  refine xB.s T8 ?_;refine aI j ?_;exact⟨rfl,rfl⟩
 |false=>
  cases b2 with
  |true=>
   refine xB.s T8 ?_;refine aI j ?_;refine aI o ?_;exact⟨rfl,rfl⟩
  |false=>
   cases te with
   |true=>
    refine xB.s T8 ?_;refine aI j ?_;refine aI o ?_;refine aI g ?_;exact⟨rfl,rfl⟩
   |false=>
    have ac:(zm T).take T.length=zm T:=by grind[zV]
    cases p:(c1 !=0)with
    |true=>
     refine xB.s T8 ?_;refine aI j ?_;refine aI o ?_;refine aI g ?_;refine wB (P:=Pg) (f:=T8.f) (body:=(xB.l 0)) 3 ?_;refine xW ?_ (hA:=by omega) (hB:=by grind);refine⟨_,rfl,?_⟩;refine aI I ?_;rw[p];exact⟨rfl,rfl⟩
    |false=>
     cases e2:(c2 !=0)with
     |true=>
      refine xB.s T8 ?_;refine aI j ?_;refine aI o ?_;refine aI g ?_;refine wB (P:=Pg) (f:=T8.f) (body:=(xB.l 0)) 3 ?_;refine xW ?_ (hA:=by omega) (hB:=by grind);refine⟨_,rfl,?_⟩;refine aI I ?_;rw[p];refine wu ?_;refine xW ?_ (hA:=by decide) (hB:=by show(1:Int)<((2:Nat):Int);omega);refine⟨_,rfl,?_⟩;refine aI h4 ?_;rw[e2];exact⟨rfl,rfl⟩
     |false=>
      refine xB.s T8 ?_;refine aI j ?_;refine aI o ?_;refine aI g ?_;refine wB (P:=Pg) (f:=T8.f) (body:=(xB.l 0)) 3 ?_;refine xW ?_ (hA:=by omega) (hB:=by grind);refine⟨_,rfl,?_⟩;refine aI I ?_;rw[p];refine wu ?_;refine xW ?_ (hA:=by decide) (hB:=by show(1:Int)<((2:Nat):Int);omega);refine⟨_,rfl,?_⟩;refine aI h4 ?_;rw[e2];refine wu ?_;refine aw1 ?_;refine Eq.trans (b:=⟨.tup [.c (.d (.sl ((((((zm T).take T.length)++[Col.ds ⟨sFrom,2⟩]).take (T.length+1))++[Col.ds ⟨sTo,2⟩]).take (T.length+1+1)))),.c (int 0)],[]⟩) rfl ?_;simp_all[zm,aR,xF]
def uc (cols:am Col):am Itm ->Int×am Col
 | []=>(0,[])
 |x::r=>bif (x.e.ty cols).2 !=0 then((x.e.ty cols).2,[])else bif (x.e.ty cols).1==0 then(14,[])else bif (uc cols r).1 !=0 then((uc cols r).1,[])else(0,⟨x.nm,(x.e.ty cols).1⟩::(uc cols r).2)
theorem amt (cols:am Col): ∀l:am Itm,uc cols l=bif (uc cols l).1 !=0 then((uc cols l).1,[])else(0,(uc cols l).2)
 | []=>rfl
 |x::r=>by
  simp only[uc];cases g:((x.e.ty cols).2 !=0)
  ·cases j:((x.e.ty cols).1==0)
   ·cases i:((uc cols r).1 !=0)
    ·rfl
    simp only[aF,aK,i]
   rfl
  simp only[aK,g]
def seS (cols:am Col)(l:am Itm)(i:Nat)(g:am Col):S:=⟨[(0,.w (.c (.d (.sl (zm cols))))),(6,cV (.own 35 2 g.length)),(11,.w (.c (.d (.sl (yW l))))),(12,zl l.length),(13,zl i)],[(35,.arr 2 (zm g) false)]⟩
theorem amm (cols:am Col)(l:am Itm)(he: ∀x∈l,x.e.err=0)(hl:l.length<=1000000):Sat Pg VC [.c (.d (.sl (zm cols))),.c (.d (.sl (yW l)))] (λr=>r=xF (uc cols l)):=by
 refine zD ?_;refine YG.s T8 ?_;rw[wJ];refine yq (P:=Pg) (f:=T8.f) (body:=(YG.l 0)) (λx:Nat×am Col=>seS cols l x.1 x.2) (λx=>l.length - x.1) (λx=>x.1<=l.length /\x.2.length=x.1 /\xF (uc cols l)=xF (bif (uc cols (l.drop x.1)).1 !=0 then((uc cols (l.drop x.1)).1,[])else(0,x.2++(uc cols (l.drop x.1)).2))) ⟨(0,[]),⟨aP _,rfl,?_⟩,⟨_,zW 6 35 2 (by omega) (by omega) rfl,?_⟩⟩ ?_
 ·grind[amt]
 ·exact rfl
 rintro⟨i,A⟩ hx;obtain⟨hi,hA,g⟩:i<=l.length /\A.length=i /\xF (uc cols l)=xF (bif (uc cols (l.drop i)).1 !=0 then((uc cols (l.drop i)).1,[])else(0,A++(uc cols (l.drop i)).2)):=hx;have o:(zm A).take A.length=zm A:=by grind[zV]
 show mwpR Pg T8.f (YG.l 0) _ (seS cols l i A);refine jH (λj=>?_) (λJ=>?_)
 ·rw[zq j]at g;simp only[uc]at g;have hg:=WM j;have wi:=zC j (by omega);have hN:=J9 cols l[i].e (he _ (aM j));generalize l[i]=x at*;obtain⟨⟨U,nm,⟨vk,vn,vs⟩,ks⟩,s⟩:=x;generalize Ex.ty cols ⟨U,nm,⟨vk,vn,vs⟩,ks⟩=t at*;obtain⟨R,t2⟩:=t;refine yu hg ?_;refine aI hN ?_;refine zw (b:=t2 !=0) (λp=>?_) (λp=>?_)
  ·rw[p]at g;simp only[aK,p]at g;rw[g];exact⟨rfl,rfl⟩
  rw[p,aF]at g;refine zi (b:=R==0) (λI=>?_) (λI=>?_)
  ·rw[I]at g;rw[g];exact⟨rfl,rfl⟩
  rw[I,aF]at g;refine wu ?_;refine⟨(i+1,A++[⟨s,R⟩]),⟨⟨j,by simp[hA],?_⟩,by grind⟩,ze ?_⟩
  ·rw[g];cases h4:((uc cols (l.drop (i+1))).1 !=0)
   ·simp_all
   simp only[h4,aK]
  (conv=>whnf);rw[wi,o];show _=seS cols l (i+1) (A++[⟨s,R⟩]);unfold seS;rw[aH];simp only[zm,aW];rfl
 rw[aC J]at g;have g:xF (uc cols l)=xF (0,A++[]):=g;rw[g,aS];refine aw1 ?_;show Res.mk (.tup [.c (.d (.sl ((zm A).take A.length))),.c (int 0)]) []=_;rw[o];rfl
end
section
open Go Go.AM
structure CmpOK {α:Type}(c:α ->α ->Int):Prop where
 refl: ∀x,c x x=0
 anti: ∀x y,c x y<0↔0<c y x
 trans: ∀x y z,c x y<=0 ->c y z<=0 ->c x z<=0
namespace CmpOK
variable {α:Type}{c:α ->α ->Int}
theorem ge (h:CmpOK c){x y:α}:0<=c x y↔c y x<=0:=by have:=h.anti x y;omega
theorem zero (h:CmpOK c){x y:α}:c x y=0↔c y x=0:=by have:=h.anti x y;have:=h.anti y x;omega
theorem swo (h:CmpOK c):Go.Sort.SWO (λx y=>decide (c x y<0)):=by
 refine⟨λx=>by simp[h.refl],λx y z g i=>?_,λx y z g i=>?_⟩
 ·have g:=aD g;have i:=aD i;refine b9 ?_;have j:=h.trans x y z (by omega) (by omega);by_cases l:c x z=0
  ·have o:=h.zero.1 l;have p:=h.trans y z x (by omega) (by omega);have:=(h.anti x y).1 g;omega
  omega
 have g:=aE g;have i:=aE i;refine bN ?_;have j:=h.trans z y x (h.ge.1 (by omega)) (h.ge.1 (by omega));have:=h.ge.2 j;omega
theorem lt_of (h:CmpOK c){x y z:α}(i:c x y<0)(g:c y z<=0):c x z<0:=by
 have l:=h.trans x y z (by omega) g;by_cases j:c x z=0
 ·have o:=h.zero.1 j;have p:=h.trans y z x g (by omega);have:=(h.anti x y).1 i;omega
 omega
theorem lt_of2 (h:CmpOK c){x y z:α}(g:c x y<=0)(i:c y z<0):c x z<0:=by
 have l:=h.trans x y z g (by omega);by_cases j:c x z=0
 ·have o:=h.zero.1 j;have p:=h.trans z x y (by omega) g;have:=(h.anti y z).1 i;omega
 omega
end CmpOK
theorem CmpOK.lex {α:Type}{c:α ->α ->Int}(h:CmpOK c):CmpOK (jF c):=by
 refine⟨λx=>?_,λx y=>?_,λx y z=>?_⟩
 ·induction x with
  |nil=>rfl
  |cons a r I=>simp only[jF,h.refl];exact I
 ·induction x generalizing y with
  |nil=>cases y<;>grind[jF]
  |cons a r I=>
   cases y with
   |nil=>simp[jF]
   |cons b s=>
    simp only[jF];by_cases g:c a b=0
    ·have i:=h.zero.1 g<;>simp_all
    have i: ¬c b a=0:=λe=>g (h.zero.1 e)
    have l:(c a b !=0)=true:=by grind
    have j:(c b a !=0)=true:=by grind
    simp only[l,j,aK];exact h.anti a b
 induction x generalizing y z with
 |nil=>intro _ _;cases z<;>grind[jF]
 |cons a r I=>
  intro g i;cases y with
  |nil=>grind[jF]
  |cons b s=>
   cases z with
   |nil=>grind[jF]
   |cons d t=>
    simp only[jF]at g i⊢;by_cases g1:c a b=0
    ·by_cases g2:c b d=0
     ·simp only[g1,g2,cD,aF]at g i;have g3:c a d=0:=by
       have J:=h.trans a b d (by omega) (by omega);have i2:=h.trans d b a (by rw[h.zero.1 g2];simp_all) (by rw[h.zero.1 g1];simp_all);have:=h.ge.2 i2<;>grind
      simp only[g3,cD,aF]
      grind
     have j:(c b d !=0)=true:=by grind
     simp only[j,aK]at i;have J:=h.lt_of2 (x:=a) (y:=b) (z:=d) (by omega) (by omega);have o:(c a d !=0)=true:=by simp;omega
     simp only[o,aK];omega
    have l:(c a b !=0)=true:=by grind
    simp only[l,aK]at g;have p:c b d<=0:=by
     by_cases g2:c b d=0
     ·omega
     have j:(c b d !=0)=true:=by grind
     simp_all
    have J:=h.lt_of (x:=a) (y:=b) (z:=d) (by omega) p;have o:(c a d !=0)=true:=by simp;omega
    simp only[o,aK];omega
theorem an8 (a b:Int):yZ a b=if a<b then -1 else if b<a then 1 else 0:=by
 grind[yZ]
theorem V9:CmpOK yZ:=by
 refine⟨λx=>?_,λx y=>?_,λx y z=>?_⟩<;>simp only[an8]
 ·simp
 ·grind
 grind
theorem av9:CmpOK Kt:=by
 have key: ∀x y,(XN x y=true /\XN y x=false /\zo x y=false /\Kt x y= -1)\/(x=y /\Kt x y=0)\/(XN x y=false /\XN y x=true /\zo x y=false /\Kt x y=1):=by
  grind[awm,Kt,apa,arV]
 refine⟨λx=>?_,λx y=>?_,λx y z g i=>?_⟩
 ·grind
 ·grind
 grind[aiy]
theorem CmpOK.by_key {α:Type}(key:α ->Int)(c:Int ->α ->α ->Int)(h: ∀k,CmpOK (c k)):CmpOK (λx y=>bif key x !=key y then yZ (key x) (key y)else c (key x) x y):=by
 have j: ∀x y,(key x=key y /\(bif key x !=key y then yZ (key x) (key y)else c (key x) x y)=c (key x) x y)\/(key x<key y /\(bif key x !=key y then yZ (key x) (key y)else c (key x) x y)= -1)\/(key y<key x /\(bif key x !=key y then yZ (key x) (key y)else c (key x) x y)=1):=by
  grind[an8]
 refine⟨λx=>?_,λx y=>?_,λx y z o l=>?_⟩
 ·rcases j x x with⟨_,e⟩|⟨e,_⟩|⟨e,_⟩
  ·show(bif key x !=key x then yZ (key x) (key x)else c (key x) x x)=0;rw[e,(h _).refl]
  ·omega
  omega
 ·show(bif key x !=key y then yZ (key x) (key y)else c (key x) x y)<0↔0<(bif key y !=key x then yZ (key y) (key x)else c (key y) y x);rcases j x y with⟨e,e'⟩|⟨e,e'⟩|⟨e,e'⟩<;>rcases j y x with⟨f,i⟩|⟨f,i⟩|⟨f,i⟩<;>rw[e',i]<;>try omega
  rw[<- e];exact(h _).anti x y
 show(bif key x !=key z then yZ (key x) (key z)else c (key x) x z)<=0;have o:(bif key x !=key y then yZ (key x) (key y)else c (key x) x y)<=0:=o;have l:(bif key y !=key z then yZ (key y) (key z)else c (key y) y z)<=0:=l;rcases j x y with⟨e,e'⟩|⟨e,e'⟩|⟨e,e'⟩<;>rcases j y z with⟨f,i⟩|⟨f,i⟩|⟨f,i⟩<;>rcases j x z with⟨g,p⟩|⟨g,p⟩|⟨g,p⟩<;>rw[e']at o<;>rw[i]at l<;>rw[p]<;>try omega
 rw[<- e]at l;exact(h _).trans x y z o l
def aum (k:Int)(a b:Val):Int:=bif k==3 then Kt a.s b.s else bif k==1||k==2 then yZ a.n b.n else 0
theorem CmpOK.on {α β:Type}{c:β ->β ->Int}(h:CmpOK c)(f:α ->β):CmpOK (λx y=>c (f x) (f y)):=⟨λx=>h.refl _,λx y=>h.anti _ _,λx y z=>h.trans _ _ _⟩
theorem awt (k:Int):CmpOK (aum k):=by
 unfold aum;cases k==3
 ·cases k==1||k==2
  ·exact⟨λ_=>rfl,λ_ _=>by simp,λ_ _ _ _ _=>by simp⟩
  exact V9.on Val.n
 exact av9.on Val.s
theorem ahy:CmpOK xP:=CmpOK.by_key Val.k aum awt
theorem aoz:CmpOK ay5:=ahy.lex
end
section
variable {α:Type}
structure PermW (a b:Nat)(l l':am α):Prop where
 len:l'.length=l.length
 perm:l'.Perm l
 out: ∀i,i<a\/b<=i ->l'[i]? =l[i]?
 mem: ∀i x,a<=i ->i<b ->l'[i]? =some x -> ∃j,a<=j /\j<b /\l[j]? =some x
namespace PermW
theorem refl (a b:Nat)(l:am α):PermW a b l l:=⟨rfl,cn _,λ_ _=>rfl,λi _ g j o=>⟨i,g,j,o⟩⟩
theorem trans {a b:Nat}{l l' g:am α}(h:PermW a b l l')(k:PermW a b l' g):PermW a b l g:=
 ⟨k.len.trans h.len,k.perm.trans h.perm,λi hi=>(k.out i hi).trans (h.out i hi),λi x o p r=>by
  obtain⟨j,I,J,P⟩:=k.mem i x o p r;exact h.mem j x I J P⟩
theorem mono {a b g o:Nat}{l l':am α}(h:PermW a b l l')(J:g<=a)(P:b<=o):PermW g o l l':=
 ⟨h.len,h.perm,λi hi=>h.out i (by omega),λi x r I p=>by
  by_cases hi:i<a\/b<=i
  ·exact⟨i,r,I,by rw[<- h.out i hi];exact p⟩
  obtain⟨j,R,U,j3⟩:=h.mem i x (by omega) (by omega) p
  grind⟩
end PermW
def QQ (l:am α)(i j:Nat)(x y:α):am α:=(l.set i y).set j x
theorem awT (l:am α)(i j:Nat)(x y:α):(QQ l i j x y).length=l.length:=by simp[QQ]
theorem Ug {l:am α}{i j:Nat}{x y:α}(hi:l[i]? =some x)(o:l[j]? =some y)(k:Nat):
 (QQ l i j x y)[k]? =if k=j then some x else if k=i then some y else l[k]? :=by
 have g:i<l.length:=(am.getElem?_eq_some_iff.1 hi).1;have p:j<l.length:=(am.getElem?_eq_some_iff.1 o).1;simp only[QQ,am.getElem?_set,List.length_set];by_cases r:k=j
 ·grind
 by_cases I:k=i<;>simp_all[Ne.symm]
theorem avj {l:am α}{i j:Nat}{x y:α}(hi:l[i]? =some x)(p:l[j]? =some y):(QQ l i j x y).Perm l:=by
 obtain⟨g,rfl⟩:=am.getElem?_eq_some_iff.1 hi;obtain⟨o,rfl⟩:=am.getElem?_eq_some_iff.1 p;exact List.set_set_perm g o
theorem aqs {l:am α}{i j a b:Nat}{x y:α}(hi:l[i]? =some x)(g:l[j]? =some y)(o:a<=i)(p:i<b)(r:a<=j)(I:j<b):PermW a b l (QQ l i j x y):=by
 refine⟨awT ..,avj hi g,λk hk=>?_,λk z J P R=>?_⟩
 ·rw[Ug hi g,aG (by omega),aG (by omega)]
 grind[Ug]
variable (c:α ->α ->Int)
def yv (a b:Nat)(l:am α):Prop:= ∀i j x y,a<=i ->i<j ->j<b ->l[i]? =some x ->l[j]? =some y ->c x y<=0
def LeW (a b g o:Nat)(l:am α):Prop:= ∀i j x y,a<=i ->i<b ->g<=j ->j<o ->l[i]? =some x ->l[j]? =some y ->c x y<=0
variable {c}
theorem yv.mono {a b g o:Nat}{l:am α}(h:yv c a b l)(p:a<=g)(r:o<=b):yv c g o l:=λi j x y I i2 i3=>h i j x y (by omega) i2 (by omega)
theorem yv.same {a b:Nat}{l l':am α}(h:yv c a b l)(o: ∀i,a<=i ->i<b ->l'[i]? =l[i]?):yv c a b l':=λi j x y g i2 i3 i4 i5=>h i j x y g i2 i3 (by grind) (by grind)
theorem yv.glue {a m b:Nat}{l:am α}(p:yv c a m l)(r:yv c m b l)(I:LeW c a m m b l):yv c a b l:=by
 intro i j x y g i2 i3 i4 i5;by_cases h:j<m
 ·exact p i j x y g i2 h i4 i5
 by_cases o:m<=i
 ·exact r i j x y o i2 i3 i4 i5
 exact I i j x y g (by omega) (by omega) i3 i4 i5
theorem yv.one (a b:Nat)(l:am α)(h:b<=a+1):yv c a b l:=λi j x y g i2 i3=>by omega
theorem LeW.perm {a m b:Nat}{l l':am α}(h:LeW c a m m b l)(g:PermW a m l l'):LeW c a m m b l':=by
 intro i j x y p i2 i3 i4 i5 o;obtain⟨k,r,I,J⟩:=g.mem i x p i2 i5;rw[g.out j (by omega)]at o;exact h k j x y r I i3 i4 J o
theorem LeW.perm2 {a m b:Nat}{l l':am α}(h:LeW c a m m b l)(g:PermW m b l l'):LeW c a m m b l':=by
 intro i j x y o i2 i3 i4 i5 p;obtain⟨k,r,I,J⟩:=g.mem j y i3 i4 p;rw[g.out i (by omega)]at i5;exact h i k x y o i2 r I i5 J
theorem yv.le {a b i j:Nat}{l:am α}{x y:α}(r:CmpOK c)(h:yv c a b l)(I:a<=i)(i2:i<=j)(i3:j<b)(p:l[i]? =some x)(g:l[j]? =some y):c x y<=0:=by
 rcases bR i j with o|o
 ·exact h i j x y I o i3 p g
 obtain rfl:i=j:=by omega
 rw[p]at g;cases g;rw[r.refl];simp_all
def Ki (c:α ->α ->Int)(a i j:Nat)(l:am α):Prop:= ∀p q x y,a<=p ->p<q ->q<=i ->q≠j ->l[p]? =some x ->l[q]? =some y ->c x y<=0
theorem Ki.start {a i:Nat}{l:am α}(h:yv c a i l):Ki c a i i l:=λp q x y g j o r=>h p q x y g j (by omega)
theorem Ki.step {a i j:Nat}{l:am α}{x y:α}(hc:CmpOK c)(h:Ki c a i j l)(aa:a<j)(ab:j<=i)(J:l[j - 1]? =some x)(R:l[j]? =some y)(ac:c y x<0):Ki c a i (j - 1) (QQ l j (j - 1) y x):=by
 intro p q u v P h2 I h4 g o;rw[Ug R J]at g o;by_cases r:q=j
 ·subst r;rw[aG (by omega),aL rfl]at o;cases o;split at g
  ·grind
  rw[aG (by omega)]at g;exact h p (q - 1) u x P (by omega) (by omega) (by omega) g J
 rw[aG h4,aG r]at o;split at g
 ·rename_i U;cases g;exact h j q y v (by omega) (by omega) I r R o
 split at g
 ·rename_i U e3;cases g;exact h (j - 1) q x v (by omega) (by omega) I r J o
 exact h p q u v P h2 I r g o
theorem Ki.stop {a i j:Nat}{l:am α}(I:CmpOK c)(h:Ki c a i j l)(aa:j<=i)(hs:j<=a\/ ∃x y,l[j - 1]? =some x /\l[j]? =some y /\0<=c y x):yv c a (i+1) l:=by
 intro p q u v J U h3 o r;by_cases e:q=j
 ·subst e;rcases hs with h'|⟨x,y,P,hy,g⟩
  ·omega
  rw[hy]at r;cases r;by_cases R:p=q - 1
  ·subst R;rw[P]at o;cases o;exact I.ge.1 g
  exact I.trans _ _ _ (h p (q - 1) u x J (by omega) (by omega) (by omega) o P) (I.ge.1 g)
 exact h p q u v J U (by omega) e o r
end
section
open Go Go.AM
attribute [local irreducible] Sat zA zY
theorem vM {α:Type}{l:am α}{i:Nat}(h:i<l.length): ∃x,l[i]? =some x:=⟨l[i],am.getElem?_eq_getElem h⟩
theorem akh {j:Nat}(h:0<j)(g:j<=9223372036854775807):aB.wrap ((j:Int) - 1)=((j - 1:Nat):Int):=by
 grind[yk]
section
variable {α:Type}
theorem av0 (P R:am α)(x:α):(P++x::R)[P.length]? =some x:=by simp
theorem av1 (P Q R:am α)(x y:α):(P++x::(Q++y::R))[P.length+1+Q.length]? =some y:=by
 have h:P++x::(Q++y::R)=(P++x::Q)++y::R:=by simp
 have e:P.length+1+Q.length=(P++x::Q).length:=by simp;omega
 grind
theorem awS (P Q R:am α)(x y:α):QQ (P++x::(Q++y::R)) P.length (P.length+1+Q.length) x y=P++y::(Q++x::R):=by
 grind[QQ]
def VI (P X M Y S:am α)(i:Nat):am α:=P++(Y.take i++X.drop i)++M++(X.take i++Y.drop i)++S
theorem avi (P X M Y S:am α):VI P X M Y S 0=P++X++M++Y++S:=by simp[VI]
theorem awQ (P X M Y S:am α)(h:X.length=Y.length):VI P X M Y S X.length=P++Y++M++X++S:=by
 grind[VI]
theorem awR (P X M Y S:am α)(i:Nat)(h:X.length=Y.length)(hi:i<=X.length):(VI P X M Y S i).length=(P++X++M++Y++S).length:=by
 simp[VI];omega
theorem avh (P X M Y S:am α)(i:Nat)(h:X.length=Y.length)(hi:i<X.length): ∃x y,(VI P X M Y S i)[P.length+i]? =some x /\(VI P X M Y S i)[P.length+X.length+M.length+i]? =some y /\
 QQ (VI P X M Y S i) (P.length+i) (P.length+X.length+M.length+i) x y=VI P X M Y S (i+1):=by
 have g:i<Y.length:=by omega
 have j:VI P X M Y S i=(P++Y.take i)++X[i]::((X.drop (i+1)++M++X.take i)++Y[i]::(Y.drop (i+1)++S)):=by
  grind[VI,zq]
 have l:(P++Y.take i).length=P.length+i:=by simp;omega
 have o:(P++Y.take i).length+1+(X.drop (i+1)++M++X.take i).length=P.length+X.length+M.length+i:=by simp;omega
 refine⟨X[i],Y[i],?_,?_,?_⟩
 ·grind[av0]
 ·grind[av1]
 rw[j,<- o,<- l,awS];unfold VI;rw[bL hi,bL g];grind
end
end
section
variable {α:Type}{c:α ->α ->Int}
theorem awK (I:CmpOK c){l l':am α}{a i b:Nat}{x:α}(hx:l[a]? =some x)(h1:a<i)(h2:i<=b)(hs:yv c (a+1) b l)
 (r: ∀p,l'[p]? =if a<=p /\p<i - 1 then l[p+1]? else if p=i - 1 then l[a]? else l[p]?)
 (g1:i=a+1\/ ∃u,l[i - 1]? =some u /\c u x<=0) (g2:i=b\/ ∃u,l[i]? =some u /\c x u<=0):yv c a b l':=by
 intro p q u v p1 p2 J j g;rw[r]at j g;by_cases U:a<=p /\p<i - 1
 ·rw[aL U]at j;by_cases e2:a<=q /\q<i - 1
  ·rw[aL e2]at g;exact hs (p+1) (q+1) u v (by omega) (by omega) (by omega) j g
  rw[aG e2]at g;by_cases o:q=i - 1
  ·rw[aL o,hx]at g;cases g;rcases g1 with g1|⟨w,P,R⟩
   ·omega
   exact I.trans _ _ _ (hs.le I (by omega) (show p+1<=i - 1 by omega) (by omega) j P) R
  rw[aG o]at g;exact hs (p+1) q u v (by omega) (by omega) J j g
 rw[aG U]at j;rw[aG (by omega)]at g;by_cases o:p=i - 1
 ·rw[aL o,hx]at j;cases j;rw[aG (by omega)]at g;rcases g2 with g2|⟨w,P,R⟩
  ·omega
  exact I.trans _ _ _ R (hs.le I (by omega) (show i<=q by omega) J P g)
 rw[aG o]at j;rw[aG (by omega)]at g;exact hs p q u v (by omega) p2 J j g
theorem asF (r:CmpOK c){l l':am α}{a i m:Nat}{x:α}(hx:l[m]? =some x)(h1:a<=i)(h2:i<=m)(hs:yv c a m l)
 (o: ∀p,l'[p]? =if i<p /\p<=m then l[p - 1]? else if p=i then l[m]? else l[p]?)
 (g1:i=a\/ ∃u,l[i - 1]? =some u /\c u x<=0) (g2:i=m\/ ∃u,l[i]? =some u /\c x u<=0):yv c a (m+1) l':=by
 intro p q u v p1 p2 p3 j g;rw[o]at j g;by_cases P:i<p /\p<=m
 ·rw[aL P]at j;rw[aL (by omega)]at g;exact hs (p - 1) (q - 1) u v (by omega) (by omega) (by omega) j g
 rw[aG P]at j;by_cases U:p=i
 ·rw[aL U,hx]at j;cases j;rw[aL (by omega)]at g;rcases g2 with g2|⟨w,I,J⟩
  ·omega
  exact r.trans _ _ _ J (hs.le r (by omega) (show i<=q - 1 by omega) (by omega) I g)
 rw[aG U]at j;by_cases R:i<q /\q<=m
 ·rw[aL R]at g;exact hs p (q - 1) u v (by omega) (by omega) (by omega) j g
 rw[aG R]at g;by_cases e4:q=i
 ·rw[aL e4,hx]at g;cases g;rcases g1 with g1|⟨w,I,J⟩
  ·omega
  exact r.trans _ _ _ (hs.le r p1 (show p<=i - 1 by omega) (by omega) j I) J
 rw[aG e4]at g;exact hs p q u v p1 p2 (by omega) j g
def Xl (s m e:Nat)(l g:am α):Prop:= ∀p,g[p]? =if s<=p /\p<s+(e - m)then l[p+(m - s)]? else if s+(e - m)<=p /\p<e then l[p -(e - m)]? else l[p]?
theorem Xl.same {s m e:Nat}{l:am α}(g:s<=m)(i:m<=e)(h:s=m\/m=e):Xl s m e l l:=by
 intro p;rcases h with rfl|rfl
 ·split
  ·simp_all
  simp_all[aG]
 rw[aG (by omega)];split
 ·simp_all
 rfl
theorem aiH (r:CmpOK c){l P:am α}{a s m e b:Nat}(a1:a<=s)(a2:s<=m)(a3:m<=e)(a4:e<=b)(U:Xl s m e l P)(j:yv c a m l)(o:yv c m b l)
 (aa:s=a\/e=b\/ ∃x y,l[s - 1]? =some x /\l[e]? =some y /\c x y<=0) (ab:s=m\/e=m\/ ∃x y,l[e - 1]? =some x /\l[s]? =some y /\c x y<=0):
 yv c a s P /\yv c s (s+(e - m)) P /\yv c (s+(e - m)) e P /\yv c e b P /\LeW c a (s+(e - m)) (s+(e - m)) b P:=by
 refine⟨?_,?_,?_,?_,?_⟩
 ·intro p q u v J R p3 i g;rw[U,aG (by omega),aG (by omega)]at i g;exact j p q u v J R (by omega) i g
 ·intro p q u v J R p3 i g;rw[U,aL (by omega)]at i g;exact o _ _ u v (by omega) (by omega) (by omega) i g
 ·intro p q u v J R p3 i g;rw[U,aG (by omega),aL (by omega)]at i g;exact j _ _ u v (by omega) (by omega) (by omega) i g
 ·intro p q u v J R p3 i g;rw[U,aG (by omega),aG (by omega)]at i g;exact o p q u v (by omega) R p3 i g
 intro p q u v J R p3 p4 i g;rw[U]at i g;rw[aG (by omega)]at g;by_cases e1:p<s
 ·rw[aG (by omega),aG (by omega)]at i;by_cases e2:q<e
  ·rw[aL (by omega)]at g;exact j p _ u v J (by omega) (by omega) i g
  rw[aG (by omega)]at g;rcases aa with h|h|⟨x,y,hx,hy,I⟩
  ·omega
  ·omega
  exact r.trans _ _ _ (j.le r J (show p<=s - 1 by omega) (by omega) i hx) (r.trans _ _ _ I (o.le r (by omega) (show e<=q by omega) p4 hy g))
 rw[aL (by omega)]at i;by_cases e2:q<e
 ·rw[aL (by omega)]at g;rcases ab with h|h|⟨x,y,hx,hy,I⟩
  ·omega
  ·omega
  exact r.trans _ _ _ (o.le r (by omega) (show p+(m - s)<=e - 1 by omega) (by omega) i hx) (r.trans _ _ _ I (j.le r (by omega) (show s<=q -(e - m)by omega) (by omega) hy g))
 rw[aG (by omega)]at g;exact o _ q u v (by omega) (by omega) p4 i g
theorem aaT {l:am α}{s m e:Nat}(g:s<=m)(o:m<=e)(p:e<=l.length):l.take s++(l.drop s).take (m - s)++(l.drop m).take (e - m)++l.drop e=l:=by
 have r:l.take s++(l.drop s).take (m - s)=l.take m:=by
  have:=List.take_add (l:=l) (i:=s) (j:=m - s);rw[<- this];congr 1;omega
 have I:l.take m++(l.drop m).take (e - m)=l.take e:=by
  have:=List.take_add (l:=l) (i:=m) (j:=e - m);rw[<- this];congr 1;omega
 grind[aT]
theorem ahH {l:am α}{s m e:Nat}(o:s<=m)(r:m<=e)(I:e<=l.length):Xl s m e l (l.take s++(l.drop m).take (e - m)++(l.drop s).take (m - s)++l.drop e):=by
 intro p;simp only[am.getElem?_append,aH,aZ,bE,am.getElem?_take,am.getElem?_drop];split
 ·split
  ·rename_i g i;split
   ·rename_i j;rw[aL (by omega),aG (by omega),aG (by omega)]
   rename_i j;rw[aL (by omega),aL (by omega)];congr 1;omega
  rename_i g i;rw[aL (by omega),aG (by omega),aL (by omega)];congr 1;omega
 rename_i g;rw[aG (by omega),aG (by omega)];congr 1;omega
theorem avJ {l:am α}{s m e:Nat}(i:s<=m)(j:m<=e)(o:e<=l.length):PermW s e l (l.take s++(l.drop m).take (e - m)++(l.drop s).take (m - s)++l.drop e):=by
 have r:=ahH i j o;refine⟨?_,?_,λp I=>?_,λp x J P g=>?_⟩
 ·simp;omega
 ·have:=aaT i j o<;>grind[List.Perm.append_right,List.Perm.append_left,List.perm_append_comm]
 ·rw[r,aG (by omega),aG (by omega)]
 rw[r]at g;split at g
 ·grind
 rw[aL (by omega)]at g
 grind
end
section
variable {α:Type}{R:α ->α ->Prop}{c:α ->α ->Int}
def gc (R:α ->α ->Prop)(a b g o:Nat)(l:am α):Prop:= ∀i j x y,a<=i ->i<b ->g<=j ->j<o ->l[i]? =some x ->l[j]? =some y ->R x y
def XY (R:α ->α ->Prop)(a b:Nat)(l:am α):Prop:= ∀i j x y,a<=i ->i<j ->j<b ->l[i]? =some x ->l[j]? =some y ->R x y
def aa4 (R:α ->α ->Prop)(a j:Nat)(l:am α):Prop:= ∀p x y,a<=p ->p<j ->l[p]? =some x ->l[j]? =some y ->R x y
theorem gc.same {a b g o:Nat}{l l':am α}(h:gc R a b g o l)(r: ∀i,(a<=i /\i<b)\/(g<=i /\i<o) ->l'[i]? =l[i]?):gc R a b g o l':=
 λi j x y p i2 i3 i4 i5 I=>h i j x y p i2 i3 i4 (by grind) (by grind)
theorem gc.rot {l o:am α}{a s m e b:Nat}(U:a<=s)(a2:s<=m)(a3:m<=e)(a4:e<=b)(j:Xl s m e l o)(h:gc R a m m b l):gc R a s s (s+(e - m)) o /\gc R (s+(e - m)) e e b o:=by
 refine⟨?_,?_⟩
 ·intro p q u v r J P I g i;rw[j,aG (by omega),aG (by omega)]at g;rw[j,aL (by omega)]at i;exact h p _ u v r (by omega) (by omega) (by omega) g i
 intro p q u v r J P I g i;rw[j,aG (by omega),aL (by omega)]at g;rw[j,aG (by omega),aG (by omega)]at i;exact h _ q u v (by omega) (by omega) (by omega) I g i
theorem XY.mono {a b g o:Nat}{l:am α}(h:XY R a b l)(p:a<=g)(r:o<=b):XY R g o l:=λi j x y I i2 i3=>h i j x y (by omega) i2 (by omega)
theorem aa4.start {a b i:Nat}{l o:am α}(h:XY R a b l)(g:PermW a i l o)(hi:i<b):aa4 R a i o:=by
 intro p x y I J r j;obtain⟨q,P,U,q3⟩:=g.mem p x I J r;rw[g.out i (.inr (aA _))]at j;exact h q i x y P U hi q3 j
theorem aa4.step {a j:Nat}{l:am α}{x y:α}(h:aa4 R a j l)(r:a<j)(I:l[j - 1]? =some x)(o:l[j]? =some y):aa4 R a (j - 1) (QQ l j (j - 1) y x):=by
 intro p u v J P g i;rw[Ug o I]at g i;rw[aG (by omega),aG (by omega)]at g;rw[aL rfl]at i;cases i;exact h p u y J (by omega) g o
def Cut (g i j:Nat):Prop:= ∃k,i<k*g /\k*g<=j
def agM (R:α ->α ->Prop)(g:Nat)(l:am α):Prop:= ∀i j x y,Cut g i j ->l[i]? =some x ->l[j]? =some y ->R x y
def Y8 (R:α ->α ->Prop)(g a:Nat)(l:am α):Prop:= ∀i j x y,Cut (2*g) i j\/(a<=i /\Cut g i j) ->l[i]? =some x ->l[j]? =some y ->R x y
theorem agM.pass {g:Nat}{l:am α}(h:agM R g l):Y8 R g 0 l:=by
 rintro i j x y (⟨k,p,r⟩|⟨_,o⟩)
 ·exact h i j x y ⟨k*2,by grind,by grind⟩
 exact h i j x y o
theorem Y8.blk {g a:Nat}{l:am α}(h:Y8 R g a l):agM R (2*g) l:=λi j x y o=>h i j x y (.inl o)
theorem Y8.rel {g q e:Nat}{l:am α}(h:Y8 R g (q*(2*g)) l):gc R (q*(2*g)) (q*(2*g)+g) (q*(2*g)+g) e l:=by
 intro i j x y o i2 i3 i4;refine h i j x y (.inr ⟨o,2*q+1,?_,?_⟩)
 ·grind
 grind
theorem Y8.next {g q e n:Nat}{l l':am α}(h:Y8 R g (q*(2*g)) l)(J:PermW (q*(2*g)) e l l')(h2:e<=(q+1)*(2*g))(hn:e=(q+1)*(2*g)\/(e=n /\l.length=n)):Y8 R g ((q+1)*(2*g)) l':=by
 intro i j x y U hx hy;have key: ∀i0 o:Nat,(q*(2*g)<=i0 /\i0<e /\q*(2*g)<=i /\i<e)\/i0=i ->(q*(2*g)<=o /\o<e /\q*(2*g)<=j /\j<e)\/o=j ->Cut (2*g) i0 o\/(q*(2*g)<=i0 /\Cut g i0 o):=by
  intro i0 o hi I;rcases U with⟨k,k1,k2⟩|⟨ha,U⟩
  ·left
   refine⟨k,?_,?_⟩
   ·rcases hi with⟨P,i2,i3,i4⟩|rfl
    ·have:q<k:=by
      rcases bR q k with p|p
      ·exact p
      have:=aO (2*g) p;omega
     have:=aO (2*g) (show q+1<=k from this);omega
    exact k1
   rcases I with⟨P,i2,i3,i4⟩|rfl
   ·have:k<=q:=by
     rcases bR q k with p|p
     ·have:=aO (2*g) (show q+1<=k from p);omega
     exact p
    have:=aO (2*g) this;omega
   exact k2
  right
  have e0:(q+1)*(2*g)=q*(2*g)+2*g:=aX _ _;obtain⟨k,k1,k2⟩:=U;rcases hi with⟨P,i2,i3,i4⟩|rfl
  ·omega
  rcases I with⟨j1,j2,j3,j4⟩|rfl
  ·omega
  exact⟨by omega,k,k1,k2⟩
 have hi: ∃i0,((q*(2*g)<=i0 /\i0<e /\q*(2*g)<=i /\i<e)\/i0=i)/\l[i0]? =some x:=by
  by_cases r:q*(2*g)<=i /\i<e
  ·obtain⟨i0,P,i2,i3⟩:=J.mem i x r.1 r.2 hx
   grind
  rw[J.out i (by omega)]at hx
  grind
 have I: ∃o,((q*(2*g)<=o /\o<e /\q*(2*g)<=j /\j<e)\/o=j)/\l[o]? =some y:=by
  by_cases r:q*(2*g)<=j /\j<e
  ·obtain⟨i0,P,i2,i3⟩:=J.mem j y r.1 r.2 hy
   grind
  rw[J.out j (by omega)]at hy
  grind
 obtain⟨i0,aa,ab⟩:=hi;obtain⟨o,ac,ad⟩:=I;exact h i0 o x y (key i0 o aa ac) ab ad
def uf (R:α ->α ->Prop)(g e:Nat)(l:am α):Prop:= ∀i j x y,i<j ->(Cut g i j\/e<=j) ->l[i]? =some x ->l[j]? =some y ->R x y
theorem uf.start {g n:Nat}{l:am α}(h:XY R 0 n l)(I:l.length=n):uf R g 0 l:=by
 intro i j x y o _ p r;exact h i j x y (aP _) o (by grind) p r
theorem uf.pair {g e n:Nat}{l:am α}(h:uf R g e l):XY R e n l:=λi j x y o i2 _=>h i j x y i2 (.inr (by omega))
theorem uf.next {g q e:Nat}{l l':am α}(h:uf R g (q*g) l)(o:PermW (q*g) e l l')(h0:q*g<=e)(h2:e<=(q+1)*g):uf R g e l':=by
 intro i j x y J P p r;by_cases U:q*g<=j /\j<e
 ·obtain⟨j0,j1,j2,j3⟩:=o.mem j y U.1 U.2 r;rcases P with⟨k,k1,k2⟩|P
  ·have hk:k<=q:=by
    rcases bR q k with I|I
    ·have:=aO g (show q+1<=k from I);omega
    exact I
   have aa:=aO g hk;rw[o.out i (.inl (by omega))]at p;exact h i j0 x y (by omega) (.inr j1) p j3
  omega
 rw[o.out j (by omega)]at r;by_cases hi:q*g<=i /\i<e
 ·obtain⟨i0,i1,i2,i3⟩:=o.mem i x hi.1 hi.2 p;exact h i0 j x y (by omega) (.inr (by omega)) i3 r
 rw[o.out i (by omega)]at p;refine h i j x y J ?_ p r<;>grind
theorem uf.blk {g e:Nat}{l:am α}(h:uf R g e l):agM R g l:=λi j x y o=>h i j x y (by obtain⟨k,p,r⟩:=o;omega) (.inl o)
end
section
variable {α:Type}
def YI (c:α ->α ->Int)(x:α):am α ->am α
 | []=> [x]
 |y::r=>if c x y<0 then x::y::r else y::YI c x r
def yS (c:α ->α ->Int)(l:am α):am α:=l.foldl (λg x=>YI c x g) []
def Jv (c:α ->α ->Int)(l:am α):Prop:=List.Pairwise (λx y=>c x y<=0) l
theorem XI (c:α ->α ->Int)(x:α): ∀l:am α,(YI c x l).Perm (x::l)
 | []=>cn _
 |y::r=>by
  unfold YI;split
  ·exact cn _
  exact((XI c x r).cons y).trans (List.Perm.swap x y r)
theorem ait {c:α ->α ->Int}(i:CmpOK c)(x:α): ∀{l:am α},Jv c l ->Jv c (YI c x l)
 | [],_=>bX _ _
 |y::r,h=>by
  unfold YI;have j: ∀z∈r,c y z<=0:=λz g=>bG h g
  have o:=bM h;split
  ·rename_i I;refine cC (λz g=>?_) h;simp only[bD]at g;rcases g with rfl|g
   ·omega
   exact i.trans _ _ _ (by omega:c x y<=0) (j z g)
  rename_i p;refine cC (λz g=>?_) (ait i x o);have g:=(XI c x r).mem_iff.1 g;simp only[bD]at g;rcases g with rfl|g
  ·exact i.ge.1 (by omega)
  grind
theorem aqj (c:α ->α ->Int)(l:am α)(x:α):yS c (l++[x])=YI c x (yS c l):=by simp[yS]
theorem agt (c:α ->α ->Int){l:am α}{i:Nat}{x:α}(h:l[i]? =some x):yS c (l.take (i+1))=YI c x (yS c (l.take i)):=by
 grind[List.take_add_one,aqj]
theorem JG (c:α ->α ->Int)(i:CmpOK c): ∀(l g:am α),Jv c g ->(l.foldl (λg x=>YI c x g) g).Perm (g++l)/\Jv c (l.foldl (λg x=>YI c x g) g)
 | [],g,h=>⟨by simp,h⟩
 |x::r,g,h=>by
  obtain⟨j,o⟩:=JG c i r (YI c x g) (ait i x h);refine⟨j.trans ?_,o⟩;exact((XI c x g).append_right r).trans (List.perm_middle.symm)
theorem u0 {c:α ->α ->Int}(g:CmpOK c)(l:am α):(yS c l).Perm l:=(JG c g l [] bW).1
theorem aqk {c:α ->α ->Int}(g:CmpOK c)(l:am α):Jv c (yS c l):=(JG c g l [] bW).2
def uJ (c:α ->α ->Int)(x y:α×Nat):Int:=if c x.1 y.1=0 then(if x.2<y.2 then -1 else if y.2<x.2 then 1 else 0)else c x.1 y.1
theorem kY {c:α ->α ->Int}(g:CmpOK c):CmpOK (uJ c):=by
 refine⟨λx=>?_,λx y=>?_,λx y z j l=>?_⟩
 ·simp[uJ,g.refl]
 ·have h0:=g.zero (x:=x.1) (y:=y.1);have j:=g.anti x.1 y.1;unfold uJ;omega
 have h0:=g.zero (x:=x.1) (y:=y.1);have r:=g.zero (x:=y.1) (y:=z.1);have I:=g.trans x.1 y.1 z.1;unfold uJ at j l⊢;by_cases p:c x.1 y.1=0
 ·by_cases i:c y.1 z.1=0
  ·omega
  rw[aG i]at l;have o:=g.lt_of2 (x:=x.1) (y:=y.1) (z:=z.1) (by omega) (by omega);omega
 rw[aG p]at j;by_cases i:c y.1 z.1=0
 ·have o:=g.lt_of (x:=x.1) (y:=y.1) (z:=z.1) (by omega) (by omega);omega
 rw[aG i]at l;have o:=g.lt_of (x:=x.1) (y:=y.1) (z:=z.1) (by omega) (by omega);omega
theorem ahZ {c:α ->α ->Int}(g:CmpOK c){x y:α×Nat}(h:x.2<y.2):c y.1 x.1<0↔uJ c y x<0:=by
 unfold uJ;omega
theorem ali (c:α ->α ->Int)(x:α)(n:Nat): ∀l:am (α×Nat),(∀y∈l,y.2<n) ->(YI (uJ c) (x,n) l).map bT=YI c x (l.map bT)
 | [],_=>rfl
 |y::r,h=>by
  have g:=h y (bK ..);have o:=ali c x n r (λz i=>h z (bP _ i));have e:uJ c (x,n) y<0↔c x y.1<0:=by
   unfold uJ;by_cases e:c x y.1=0
   ·rw[aL e,aG (by grind),aL (show y.2<n from g)];omega
   simp_all
  simp only[YI,List.map_cons];by_cases j:c x y.1<0
  ·simp_all
  simp_all[aG]
def qy (l:am α):am (α×Nat):=l.zipIdx
theorem asE {c:α ->α ->Int}(r:CmpOK c)(l:am α):(yS (uJ c) (qy l)).map bT=yS c l:=by
 have h: ∀n,n<=l.length ->(yS (uJ c) ((qy l).take n)).map bT=yS c (l.take n)/\ ∀y∈yS (uJ c) ((qy l).take n),y.2<n:=by
  intro n;induction n with
  |zero=>grind[yS]
  |succ n p=>
   intro I;obtain⟨i,j⟩:=p (by omega);have g:(qy l)[n]? =some (l[n],n):=by
    grind[qy]
   rw[agt _ g,agt c (am.getElem?_eq_getElem (by omega:n<l.length)),ali c _ _ _ j,i];refine⟨rfl,λy o=>?_⟩;have:=(XI _ _ _).mem_iff.1 o;simp only[bD]at this;rcases this with rfl|h
   ·simp_all
   grind
 have:=(h l.length (aA _)).1<;>simp_all[aR,qy]
theorem awJ {c:α ->α ->Int}{l:am α}{n:Nat}(h:yv c 0 n l)(p:l.length=n):Jv c l:=by
 refine bU.2 λi j hi o g=>?_
 exact h i j _ _ (aP _) g (by omega) (am.getElem?_eq_getElem hi) (am.getElem?_eq_getElem o)
theorem KN (l:am α)(n:Nat):XY (λx y:α×Nat=>x.2<y.2) 0 n (qy l):=by
 intro i j x y _ g _ o p<;>grind[qy]
theorem V4 (l:am α):(qy l).length=l.length:=by simp[qy]
theorem QB (l:am α):(qy l).map bT=l:=by
 simp_all[qy]
theorem asY {c:α ->α ->Int}(j:CmpOK c){x y:α×Nat}(i:uJ c x y<=0)(g:uJ c y x<=0):x.2=y.2:=by
 have h0:=j.zero (x:=x.1) (y:=y.1);unfold uJ at i g;by_cases e:c x.1 y.1=0
 ·omega
 rw[aG e]at i;rw[aG (λe'=>e (h0.2 e'))]at g;have:=j.ge.2 g;omega
theorem acv {c:α ->α ->Int}(o:CmpOK c){l:am α}{l':am (α×Nat)}{n:Nat}(hn:l.length=n)(j:PermW 0 n (qy l) l')(hs:yv (uJ c) 0 n l'):l'.map bT=yS c l:=by
 have ab:l'.length=n:=by rw[j.len,V4,hn]
 rw[<- asE o l];congr 1
 have p:l'.Perm (yS (uJ c) (qy l)):=j.perm.trans (u0 (kY o) _).symm;have aa: ∀x∈l',∀y∈l',x.2=y.2 ->x=y:=by
  intro x g y i e;have g:=j.perm.mem_iff.1 g;have i:=j.perm.mem_iff.1 i;have g:=List.mem_zipIdx g;have i:=List.mem_zipIdx i<;>grind
 have gen: ∀{u v:am (α×Nat)},Jv (uJ c) u ->Jv (uJ c) v ->u.Perm v ->(∀x∈u,∀y∈u,x.2=y.2 ->x=y) ->u=v:=by
  intro u;induction u with
  |nil=>grind[List.Perm.nil_eq]
  |cons x r ih=>
   intro v P R j U;cases v with
   |nil=>exact absurd j.length_eq (by simp)
   |cons y r'=>
    have I:x=y:=by
     have g:x∈y::r':=j.mem_iff.1 (bK ..);have i:y∈x::r:=j.mem_iff.2 (bK ..);have J:=i;simp only[bD]at g i;rcases g with g|g
     ·exact g
     rcases i with i|i
     ·grind
     exact U _ (bK ..) _ J (asY o (bG P i) (bG R g))
    subst I;rw[ih (bM P) (bM R) (List.Perm.cons_inv j) (λa ha b hb=>U a (bP _ ha) b (bP _ hb))]
 grind[awJ,aqk,kY]
end
section
open Go Go.AM
attribute [local irreducible] Sat zA zY
theorem ale (i j:Nat)(h:i+j<=4611686018427387904):aB.wrap (Ka false IntKind.u64 (IntKind.u64.wrap (aB.wrap ((i:Int)+(j:Int)))) 1)=(((i+j)/2:Nat):Int):=by
 grind[yk,IntKind.wrap,IntKind.bits,Ka]
theorem Zm {a b c d:Nat}(h:(decide ((a:Int)<(b:Int))&&decide ((c:Int)<(d:Int)))=true):a<b /\c<d:=by
 simp_all
theorem Zl {a b c d:Nat}(h:(decide ((a:Int)<(b:Int))&&decide ((c:Int)<(d:Int)))=false):b<=a\/d<=c:=by
 grind
section
variable {α:Type}{c:α ->α ->Int}
def uD (c:α ->α ->Int)(g e:Nat)(l:am α):Prop:= ∀k,yv c (k*g) (min ((k+1)*g) e) l
def W6 (c:α ->α ->Int)(g a n:Nat)(l:am α):Prop:= ∀k,a<=k*g ->yv c (k*g) (min ((k+1)*g) n) l
theorem uD.zero (g:Nat)(l:am α):uD c g 0 l:=λk=>yv.one _ _ _ (by omega)
theorem uD.ext {g q e:Nat}{l l':am α}(h:uD c g (q*g) l)(p:PermW (q*g) e l l')(hs:yv c (q*g) e l')(o:q*g<=e)(r:e<=(q+1)*g):uD c g e l':=by
 intro k;rcases Nat.lt_trichotomy k q with hk|hk|hk
 ·have j:(k+1)*g<=q*g:=aO _ hk;have:=h k;rw[bH j]at this;rw[bH (aQ j o)];exact this.same λi _ i2=>p.out i (.inl (by omega))
 ·grind
 have j:(q+1)*g<=k*g:=aO _ hk
 grind[yv.one]
theorem uD.blkF {g n:Nat}{l:am α}(h:uD c g n l):W6 c g 0 n l:=λk _=>h k
theorem W6.next {g a e n:Nat}{l l':am α}(h:W6 c g a n l)(j:PermW a e l l')(o:a<=e):W6 c g e n l':=λk hk=>(h k (by omega)).same λi p _=>j.out i (.inr (by omega))
theorem W6.at0 {g q n:Nat}{l:am α}(h:W6 c g (q*(2*g)) n l):yv c (q*(2*g)) (min (q*(2*g)+g) n) l:=by
 have i:q*(2*g)=(2*q)*g:=by grind
 have j:(2*q+1)*g=2*q*g+g:=aX (2*q) g;have:=h (2*q) (by omega)<;>grind
theorem W6.at1 {g q n:Nat}{l:am α}(h:W6 c g (q*(2*g)) n l):yv c (q*(2*g)+g) (min (q*(2*g)+g+g) n) l:=by
 have i:q*(2*g)=(2*q)*g:=by grind
 have j:(2*q+1)*g=2*q*g+g:=aX (2*q) g;have o:(2*q+1+1)*g=2*q*g+g+g:=by grind
 have:=h (2*q+1) (by grind)
 grind
end
namespace So
def eL {α:Type}(en:α ->am D)(l:am α):am (am D):=l.map en
section
variable {α:Type}(en:α ->am D)
theorem ww {l:am α}{i:Nat}{x:α}(h:l[i]? =some x):(eL en l)[i]? =some (en x):=by simp[eL,h]
theorem Uy (l:am α)(i:Nat)(x:α):(eL en l).set i (en x)=eL en (l.set i x):=by simp[eL]
theorem afw {l:am α}{i j:Nat}{x y:α}(h:l[j]? =some y): ∃z:α,((eL en l).set i (en x))[j]? =some (en z):=by
 have g:j<l.length:=(am.getElem?_eq_some_iff.1 h).1;rw[Uy];exact⟨(l.set i x)[j]'(by simpa using g),ww en (am.getElem?_eq_getElem _)⟩
theorem amO {l:am α}{i j:Nat}(x y:α):((eL en l).set i (en y)).set j (en x)=eL en (QQ l i j x y):=by rw[Uy,Uy];rfl
end
structure Rt (α:Type) where
 P:am α
 A:am α
 B:am α
 S:am α
def Rt.l {α:Type}(x:Rt α):am α:=x.P++x.A++x.B++x.S
def Rt.t {α:Type}(x:Rt α):am α:=x.P++x.B++x.A++x.S
def ayH (sz:Nat)(f:W)(n a b i:Nat)(g:am (am D)):S:=⟨[(0,cV (.own 100000 sz n)),(1,zl a),(2,zl b),(3,.w f),(8,zl i)],[(100000,.arr sz g false)]⟩
def axt (sz:Nat)(f:W)(n a b i j:Nat)(g:am (am D)):S:=⟨[(0,cV (.own 100000 sz n)),(1,zl a),(2,zl b),(3,.w f),(8,zl i),(9,zl j)],[(100000,.arr sz g false)]⟩
def swS (sz n a b k i:Nat)(g:am (am D)):S:=⟨[(0,cV (.own 100000 sz n)),(1,zl a),(2,zl b),(3,zl k),(10,zl i)],[(100000,.arr sz g false)]⟩
def al0 (sz:Nat)(f:W)(n m i j:Nat)(g:am (am D)):S:=⟨[(0,cV (.own 100000 sz n)),(2,zl m),(4,.w f),(10,zl i),(11,zl j)],[(100000,.arr sz g false)]⟩
def ay7 (sz:Nat)(f:W)(n a i j:Nat)(g:am (am D)):S:=⟨[(0,cV (.own 100000 sz n)),(1,zl a),(4,.w f),(10,zl i),(11,zl j)],[(100000,.arr sz g false)]⟩
def axL (sz n i k:Nat)(g:am (am D)):S:=⟨[(0,cV (.own 100000 sz n)),(10,zl i),(13,zl k)],[(100000,.arr sz g false)]⟩
def ay8 (sz:Nat)(f:W)(n m i j:Nat)(g:am (am D)):S:=⟨[(0,cV (.own 100000 sz n)),(2,zl m),(4,.w f),(14,zl i),(15,zl j)],[(100000,.arr sz g false)]⟩
def axM (sz n i k:Nat)(g:am (am D)):S:=⟨[(0,cV (.own 100000 sz n)),(14,zl i),(17,zl k)],[(100000,.arr sz g false)]⟩
def axN (sz:Nat)(f:W)(N a m b i n s r p:Nat)(g:am (am D)):S:=⟨[(0,cV (.own 100000 sz N)),(1,zl a),(2,zl m),(3,zl b),(4,.w f),(18,zl i),(19,zl n),(20,zl s),(21,zl r),(22,zl p)],[(100000,.arr sz g false)]⟩
def stS (sz:Nat)(f:W)(N n i a b:Nat)(g:am (am D)):S:=⟨[(0,cV (.own 100000 sz N)),(1,zl n),(2,.w f),(6,zl i),(7,zl a),(8,zl b)],[(100000,.arr sz g false)]⟩
def stT (sz:Nat)(f:W)(N n i:Nat)(g:am (am D)):S:=⟨[(0,cV (.own 100000 sz N)),(1,zl n),(2,.w f),(6,zl i)],[(100000,.arr sz g false)]⟩
section
variable {α:Type}(k sz:Nat) (en:α ->am D) (cal:α ->α ->am W) (clo:FuncId ->W)
def ae6 (g:FuncId)(c:α ->α ->Int)(R:α ->α ->Prop):Prop:= ∀x y:α,R x y ->Sat Pg g (cal y x) (λr=> ∃z,r=rI z /\(z<0↔c y x<0))
def akm (c:α ->α ->Int)(a b:Nat)(l:am α)(r:Res):Prop:= ∃l':am α,PermW a b l l' /\yv c a b l' /\r=⟨.tup [],[.arr sz (eL en l') false]⟩
def KV:Prop:= ∀(g:FuncId) (c:α ->α ->Int) (_:CmpOK c) (R:α ->α ->Prop) (_:ae6 cal g c R) (l:am α) (a b:Nat) (_:a<=b) (_:b<=l.length) (_:l.length<=1000000) (_:XY R a b l),
    zA Pg k [.c (.own 0 sz l.length),.c (int a),.c (int b),clo g] [.arr sz (eL en l) false] (akm sz en c a b l)
def WC:Prop:= ∀(g:FuncId) (P X M Y S:am α) (_:X.length=Y.length) (N a b n:Nat) (_:N=(P++X++M++Y++S).length) (_:a=P.length) (_:n=X.length) (_:b=P.length+X.length+M.length) (_:N<=1000000),
    zA Pg k [.c (.own 0 sz N),.c (int a),.c (int b),.c (int n),clo g] [.arr sz (eL en (P++X++M++Y++S)) false] (λr=>r=⟨.tup [],[.arr sz (eL en (P++Y++M++X++S)) false]⟩)
def aa6:Prop:= ∀(g:FuncId) (i:Rt α) (N a m b:Nat) (_:N=i.l.length) (_:a=i.P.length) (_:m=a+i.A.length) (_:b=m+i.B.length) (_:0<i.A.length) (_:0<i.B.length) (_:N<=1000000),
    zA Pg k [.c (.own 0 sz N),.c (int a),.c (int m),.c (int b),clo g] [.arr sz (eL en i.l) false] (λr=>r=⟨.tup [],[.arr sz (eL en i.t) false]⟩)
def ayy (g:FuncId)(c:α ->α ->Int)(R:α ->α ->Prop)(N n:Nat):Prop:= ∀(l:am α) (a m b:Nat),b - a<=n ->a<m ->m<b ->b<=l.length ->l.length=N ->yv c a m l ->yv c m b l ->gc R a m m b l ->
    zA Pg k [.c (.own 0 sz N),.c (int a),.c (int m),.c (int b),clo g] [.arr sz (eL en l) false] (akm sz en c a b l)
def ad6:Prop:= ∀(g:FuncId) (c:α ->α ->Int) (_:CmpOK c) (R:α ->α ->Prop) (_:ae6 cal g c R) (N:Nat) (_:N<=1000000) (n:Nat),ayy k sz en clo g c R N n
def akn:Prop:= ∀(g:FuncId) (c:α ->α ->Int) (_:CmpOK c) (R:α ->α ->Prop) (_:ae6 cal g c R) (l:am α) (n:Nat) (_:l.length=n) (_:n<=1000000) (_:XY R 0 n l),
    zA Pg k [.c (.own 0 sz n),.c (int n),clo g] [.arr sz (eL en l) false] (akm sz en c 0 n l)
def SortStable:Prop:= ∀(g:FuncId) (c:α ->α ->Int) (_:CmpOK c) (R:α ->α ->Prop) (_:ae6 cal g c R) (l:am α) (n:Nat) (_:l.length=n) (_:n<=1000000) (_:XY R 0 n l),
    zA Pg k [.c (.own 0 sz n),clo g] [.arr sz (eL en l) false] (akm sz en c 0 n l)
variable {k sz en cal clo}
theorem KV.p (r:KV k sz en cal clo)(g:FuncId)(c:α ->α ->Int)(j:CmpOK c)(R:α ->α ->Prop)(P:ae6 cal g c R)(N:Nat)(l:am α)(a b:Nat)(I:l.length=N)(i:a<=b)(J:b<=N)(U:N<=1000000)(o:XY R a b l):
 zA Pg k [.c (.own 0 sz N),.c (int a),.c (int b),clo g] [.arr sz (eL en l) false] (akm sz en c a b l):=by
 subst I;exact r g c j R P l a b i J U o
theorem WC.p (o:WC k sz en clo)(g:FuncId)(P X M Y S l l':am α)(i:l=P++X++M++Y++S)(j:l'=P++Y++M++X++S)(h:X.length=Y.length)(N a b n:Nat)(I:N=l.length)(J:a=P.length)(hn:n=X.length)(R:b=P.length+X.length+M.length)(U:N<=1000000):
 zA Pg k [.c (.own 0 sz N),.c (int a),.c (int b),.c (int n),clo g] [.arr sz (eL en l) false] (λr=>r=⟨.tup [],[.arr sz (eL en l') false]⟩):=by
 subst i j;exact o g P X M Y S h N a b n I J hn R U
def W7 (c:α ->α ->Int)(l:am α)(i j:Nat):Prop:= ∃u v,l[i]? =some u /\l[j]? =some v /\c u v<=0
def aeJ (s m e:Nat)(l:am α):am α:=l.take s++(l.drop m).take (e - m)++(l.drop s).take (m - s)++l.drop e
theorem aa6.p (I:aa6 k sz en clo)(g:FuncId)(l:am α)(N s m e:Nat)(i:s<m)(j:m<e)(o:e<=l.length)(J:l.length=N)(P:N<=1000000):
 zA Pg k [.c (.own 0 sz N),.c (int s),.c (int m),.c (int e),clo g] [.arr sz (eL en l) false] (λr=>r=⟨.tup [],[.arr sz (eL en (aeJ s m e l)) false]⟩):=by
 have h:=I g ⟨l.take s,(l.drop s).take (m - s),(l.drop m).take (e - m),l.drop e⟩ N s m e;simp only[Rt.l,Rt.t,aaT (Nat.le_of_lt i) (Nat.le_of_lt j) o]at h;refine h J.symm ?_ ?_ ?_ ?_ ?_ P<;>simp<;>omega
theorem wI {c:α ->α ->Int}{l o p j:am α}{a r g e b:Nat}(hw:PermW r e l o)(P:a<=r)(R:e<=b)(J:PermW a g o p)(I:PermW g b p j)(U:a<=g)(h4:g<=b)
 (t2:yv c a g p) (t3:yv c g b j) (s5:LeW c a g g b o):PermW a b l j /\yv c a b j:=
 ⟨(hw.mono P R).trans ((J.mono (aA _) h4).trans (I.mono U (aA _))),yv.glue (t2.same λi _ i2=>I.out i (.inl i2)) t3 ((s5.perm J).perm2 I)⟩
end
end So
namespace So
theorem acD {p:Prop}(h:p:=by
 intro g c aa R hg l a b ae hb hl ac;have wa:Go.IntKind.i64.wrap ((a:Int)+1)=((a+1:Nat):Int):=zC (n:=1000001) (by omega) (by omega);refine xX T8 cI_ok (by kernel_rfl) (by simp) ?_
 conv=>whnf
 refine yq (P:=Pg) (f:=T8.f) (body:=cI_L1) (λx:Nat×List α=>ayH sz (clo E g) l.length a b x.1 (eL (en E) x.2)) (λx=>b - x.1)
  (λx=>a<x.1 /\(x.1<=b\/(x.1=a+1 /\x.2=l))/\PermW a x.1 l x.2 /\yv c a x.1 x.2)
  ⟨(a+1,l),⟨by show a<a+1;omega,.inr ⟨rfl,rfl⟩,PermW.refl _ _ _,yv.one _ _ _ (Nat.le_refl _)⟩,ze ?_⟩ ?_
 ·(conv=>whnf);rw[wa];rfl
 rintro⟨i,l1⟩ hR;have hS:a<i /\(i<=b\/(i=a+1 /\l1=l))/\PermW a i l l1 /\yv c a i l1:=hR;clear hR;obtain⟨g1,g2,g3,g4⟩:=hS;refine zi (λh1=>?_) (λh1=>?_)
 ·have r:i<b:=by have h1:decide ((i:Int)<(b:Int))=true:=h1;have:=of_decide_eq_true h1;omega
  have wi:Go.IntKind.i64.wrap ((i:Int)+1)=((i+1:Nat):Int):=zC r (by omega);(conv=>whnf)
  refine yq (P:=Pg) (f:=T8.f) (body:=cI_L0) (λx:Nat×List α=>axt sz (clo E g) l.length a b i x.1 (eL (en E) x.2)) (λx=>x.1)
   (λx=>a<=x.1 /\x.1<=i /\PermW a (i+1) l x.2 /\Ki c a i x.1 x.2 /\aa4 R a x.1 x.2)
   ⟨(i,l1),⟨by show a<=i;omega,Nat.le_refl _,g3.mono (Nat.le_refl _) (by omega),Ki.start g4,aa4.start ac g3 r⟩,ze ?_⟩ ?_
  ·exact rfl
  rintro⟨j,o⟩ hR;have hS:a<=j /\j<=i /\PermW a (i+1) l o /\Ki c a i j o /\aa4 R a j o:=hR;clear hR;obtain⟨k1,k2,k3,k4,k6⟩:=hS;have k5:=k3.len;refine zi (λh2=>?_) (λh2=>?_)
  ·have I:a<j:=by have h2:decide ((j:Int)>(a:Int))=true:=h2;have:=of_decide_eq_true h2;omega
   have wj:Go.IntKind.i64.wrap ((j:Int) - 1)=((j - 1:Nat):Int):=akh (by omega) (by omega);obtain⟨x,J⟩:=vM (l:=o) (i:=j - 1) (by omega);obtain⟨y,U⟩:=vM (l:=o) (i:=j) (by omega);refine xW ?_ (hA:=by show(0:Int)<=(j:Int);omega) (hB:=by show(j:Int)<(l.length:Int);omega);refine⟨_,ww (en E) U,?_⟩;(conv=>whnf);rw[wj];refine xW ?_ (hA:=by omega) (hB:=by omega);refine⟨_,ww (en E) J,?_⟩;(conv=>whnf);refine Go.AM.Sat.mono (hg x y (k6 (j - 1) x y (by omega) (by omega) J U)) ?_;rintro _ ⟨z,rfl,hz⟩;refine zi (λh3=>?_) (λh3=>?_)
   ·have ab:c y x<0:=hz.1 (of_decide_eq_true h3);(conv=>whnf);rw[wj];refine xW ?_ (hA:=by omega) (hB:=by omega);refine⟨_,ww (en E) J,?_⟩;(conv=>whnf);refine xW ?_ (hA:=by show(0:Int)<=(j:Int);omega) (hB:=by show(j:Int)<(l.length:Int);omega);refine⟨_,ww (en E) U,?_⟩;(conv=>whnf);refine xW ?_ (hA:=by show(0:Int)<=(j:Int);omega) (hB:=by show(j:Int)<(l.length:Int);omega);refine⟨_,ww (en E) U,Nat.le_refl _,?_⟩;refine xW ?_ (hA:=by omega) (hB:=by omega);obtain⟨z1,ad⟩:=afw (en E) (i:=j) (x:=x) J;(conv=>whnf);refine⟨_,ad,Nat.le_refl _,?_⟩;(conv=>whnf);refine⟨(j - 1,QQ o j (j - 1) y x),⟨⟨by show a<=j - 1;omega,by show j - 1<=i;omega,k3.trans (aqs U J (by omega) (by omega) (by omega) (by omega)),k4.step aa I k2 J U ab,k6.step I J U⟩,by show j - 1<j;omega⟩,ze ?_⟩;(conv=>whnf);rw[wj];have e:((eL (en E) o).set j (en E x)).set (j - 1) (en E y)=eL (en E) (QQ o j (j - 1) y x):=by rw[Uy,Uy];rfl
    exact congrArg (axt sz (clo E g) l.length a b i (j - 1)) e
   have af: ¬c y x<0:=λh=>(of_decide_eq_false h3: ¬z<0) (hz.2 h)
   (conv=>whnf);refine⟨(i+1,o),⟨⟨by show a<i+1;omega,.inl (by show i+1<=b;omega),k3,?_⟩,by show b -(i+1)<b - i;omega⟩,ze ?_⟩
   ·exact k4.stop aa k2 (.inr ⟨x,y,J,U,by omega⟩)
   (conv=>whnf);rw[wi];rfl
  have I:j<=a:=by have h2:decide ((j:Int)>(a:Int))=false:=h2;have:=of_decide_eq_false h2;omega
  (conv=>whnf);refine⟨(i+1,o),⟨⟨by show a<i+1;omega,.inl (by show i+1<=b;omega),k3,?_⟩,by show b -(i+1)<b - i;omega⟩,ze ?_⟩
  ·exact k4.stop aa k2 (.inl I)
  (conv=>whnf);rw[wi];rfl
 have r:b<=i:=by have h1:decide ((i:Int)<(b:Int))=false:=h1;have:=of_decide_eq_false h1;omega
 (conv=>whnf);refine⟨l1,?_,g4.mono (Nat.le_refl _) r,rfl⟩;rcases g2 with g2|⟨_,g2⟩
 ·exact g3.mono (Nat.le_refl _) g2
 rw[g2];exact PermW.refl _ _ _):p:=h
theorem KT {p:Prop}(h:p:=by
 intro g P X M Y S h N a b n hN ha hn hb hl;have ab:P.length+X.length+M.length+Y.length+S.length=N:=by rw[hN];simp;omega
 obtain⟨l0,o⟩: ∃l0,l0=P++X++M++Y++S:=⟨_,rfl⟩;rw[<- o];refine xX T8 cW_ok (by kernel_rfl) (by simp) ?_
 conv=>whnf
 refine yx (P:=Pg) (f:=T8.f) (body:=cW_L0) n (λi=>swS sz N a b n i (eL (en E) (VI P X M Y S i))) (λ_=>True) ⟨trivial,ze ?_⟩ ?_
 ·(conv=>whnf);rw[o,<- avi];rfl
 intro i hi _;have r:=awR P X M Y S i h (by omega);rw[<- hN]at r;refine zi (λj=>?_) (λj=>?_)
 ·have I:i<n:=by have j:decide ((i:Int)<(n:Int))=true:=j;have:=of_decide_eq_true j;omega
  obtain⟨x,y,J,R,hs⟩:=avh P X M Y S i h (by omega);rw[<- hb]at R hs;rw[<- ha]at J hs;have wi:Go.IntKind.i64.wrap ((i:Int)+1)=((i+1:Nat):Int):=zC I (by omega);have wa:Go.IntKind.i64.wrap ((a:Int)+(i:Int))=((a+i:Nat):Int):=by rw[yk (by omega) (by omega)];omega
  have wb:Go.IntKind.i64.wrap ((b:Int)+(i:Int))=((b+i:Nat):Int):=by rw[yk (by omega) (by omega)];omega
  (conv=>whnf);rw[wb];refine xW ?_ (hA:=by omega) (hB:=by omega);refine⟨_,ww (en E) R,?_⟩;(conv=>whnf);rw[wa];refine xW ?_ (hA:=by omega) (hB:=by omega);refine⟨_,ww (en E) J,?_⟩;(conv=>whnf);refine xW ?_ (hA:=by omega) (hB:=by omega);refine⟨_,ww (en E) J,Nat.le_refl _,?_⟩;refine xW ?_ (hA:=by omega) (hB:=by omega);obtain⟨z1,U⟩:=afw (en E) (i:=a+i) (x:=y) R;(conv=>whnf);refine⟨_,U,Nat.le_refl _,?_⟩;refine y6 I trivial ?_;rw[wi];have e:((eL (en E) (VI P X M Y S i)).set (a+i) (en E y)).set (b+i) (en E x)=eL (en E) (VI P X M Y S (i+1)):=by rw[Uy,Uy,<- hs];rfl
  exact congrArg (swS sz N a b n (i+1)) e
 have aa:n<=i:=by have j:decide ((i:Int)<(n:Int))=false:=j;have:=of_decide_eq_false j;omega
 obtain rfl:i=n:=by omega
 (conv=>whnf);have e:=awQ P X M Y S h;rw[<- hn]at e;exact congrArg (λl=>(⟨.tup [],[.arr sz (eL (en E) l) false]⟩:Res)) e):p:=h
theorem ae4 {p:Prop}(h:p:=by
 intro g j N a m b hN ha hm hb hA hB hl;have ag:j.P.length+j.A.length+j.B.length+j.S.length=N:=by rw[hN];simp[Rt.l];omega
 have w1:Go.IntKind.i64.wrap ((m:Int) -(a:Int))=((j.A.length:Nat):Int):=by rw[yk (by omega) (by omega)];omega
 have w2:Go.IntKind.i64.wrap ((b:Int) -(m:Int))=((j.B.length:Nat):Int):=by rw[yk (by omega) (by omega)];omega
 refine xX T8 cO_ok (by kernel_rfl) (by simp) ?_
 conv=>whnf
 refine yq (P:=Pg) (f:=T8.f) (body:=cO_L0) (λx:Rt α=>al0 sz (clo E g) N m x.A.length x.B.length (eL (en E) x.l)) (λx=>x.A.length+x.B.length)
  (λx=>x.P.length+x.A.length=m /\0<x.A.length /\0<x.B.length /\x.l.length=N /\x.t=j.t)
  ⟨j,⟨by omega,hA,hB,hN.symm,rfl⟩,ze ?_⟩ ?_
 ·(conv=>whnf);rw[w1,w2];rfl
 rintro⟨P,A,B,S⟩ hR;have hS:P.length+A.length=m /\0<A.length /\0<B.length /\(P++A++B++S).length=N /\P++B++A++S=j.t:=hR;clear hR;obtain⟨g1,g2,g3,g4,g5⟩:=hS;have g6:P.length+A.length+B.length+S.length=N:=by rw[<- g4];simp;omega
 have J:Go.IntKind.i64.wrap ((m:Int) -(A.length:Int))=((P.length:Nat):Int):=by rw[yk (by omega) (by omega)];omega
 refine zi (λo=>?_) (λo=>?_)
 ·have af:A.length≠B.length:=by
   intro e;have o:(((A.length:Nat):Int) !=((B.length:Nat):Int))=true:=o;rw[e]at o;simp at o
  refine zi (λI=>?_) (λI=>?_)
  ·have ad:B.length<A.length:=by have I:decide ((A.length:Int)>(B.length:Int))=true:=I;have:=of_decide_eq_true I;omega
   have aa:Go.IntKind.i64.wrap ((A.length:Int) -(B.length:Int))=(((A.drop B.length).length:Nat):Int):=by rw[yk (by omega) (by omega),List.length_drop];omega
   have r:(A.take B.length).length=B.length:=by rw[List.length_take];omega
   have R:(A.drop B.length).length=A.length - B.length:=List.length_drop;have U:A.take B.length++A.drop B.length=A:=List.take_append_drop _ _;(conv=>whnf);rw[J];obtain⟨l',i⟩: ∃l',l'=(P++B)++A.drop B.length++A.take B.length++S:=⟨_,rfl⟩;refine zA.mono (swapRange' E g P (A.take B.length) (A.drop B.length) B S (P++A++B++S) l' ?_ i r N P.length m B.length g4.symm rfl r.symm (by omega) hl) ?_
   ·rw[List.append_assoc P (A.take _),U]
   rintro _ rfl;(conv=>whnf);refine⟨⟨P++B,A.drop B.length,A.take B.length,S⟩,⟨⟨?_,?_,?_,?_,?_⟩,?_⟩,ze ?_⟩
   ·show(P++B).length+(A.drop B.length).length=m;rw[R,List.length_append];omega
   ·show 0<(A.drop B.length).length;omega
   ·show 0<(A.take B.length).length;omega
   ·show((P++B)++A.drop B.length++A.take B.length++S).length=N;simp only[List.length_append,r,R];omega
   ·show(P++B)++A.take B.length++A.drop B.length++S=j.t;rw[<- g5,List.append_assoc (P++B) (A.take _),U]
   ·show(A.drop B.length).length+(A.take B.length).length<A.length+B.length;omega
   (conv=>whnf);rw[aa];show al0 sz (clo E g) N m (A.drop B.length).length B.length (eL (en E) l')=al0 sz (clo E g) N m (A.drop B.length).length (A.take B.length).length (eL (en E) ((P++B)++A.drop B.length++A.take B.length++S));rw[r,i]
  have ae:A.length<B.length:=by have I:decide ((A.length:Int)>(B.length:Int))=false:=I;have:=of_decide_eq_false I;omega
  have r:(B.take (B.length - A.length)).length=B.length - A.length:=by rw[List.length_take];omega
  have R:(B.drop (B.length - A.length)).length=A.length:=by rw[List.length_drop];omega
  have U:B.take (B.length - A.length)++B.drop (B.length - A.length)=B:=List.take_append_drop _ _;have ab:Go.IntKind.i64.wrap ((B.length:Int) -(A.length:Int))=(((B.take (B.length - A.length)).length:Nat):Int):=by rw[yk (by omega) (by omega),r];omega
  have ac:Go.IntKind.i64.wrap ((m:Int)+(B.length:Int))=((m+B.length:Nat):Int):=by rw[yk (by omega) (by omega)];omega
  have wk:Go.IntKind.i64.wrap (((m+B.length:Nat):Int) -(A.length:Int))=((m+B.length - A.length:Nat):Int):=by rw[yk (by omega) (by omega)];omega
  (conv=>whnf);rw[J,ac,wk];obtain⟨l',i⟩: ∃l',l'=P++B.drop (B.length - A.length)++B.take (B.length - A.length)++(A++S):=⟨_,rfl⟩;refine zA.mono (swapRange' E g P A (B.take (B.length - A.length)) (B.drop (B.length - A.length)) S (P++A++B++S) l' ?_ ?_ R.symm N P.length (m+B.length - A.length) A.length g4.symm rfl rfl (by omega) hl) ?_
  ·rw[List.append_assoc (P++A) (B.take _),U]
  ·rw[i];simp only[List.append_assoc]
  rintro _ rfl;(conv=>whnf);refine⟨⟨P,B.drop (B.length - A.length),B.take (B.length - A.length),A++S⟩,⟨⟨?_,?_,?_,?_,?_⟩,?_⟩,ze ?_⟩
  ·show P.length+(B.drop (B.length - A.length)).length=m;omega
  ·show 0<(B.drop (B.length - A.length)).length;omega
  ·show 0<(B.take (B.length - A.length)).length;omega
  ·show(P++B.drop (B.length - A.length)++B.take (B.length - A.length)++(A++S)).length=N;simp only[List.length_append,r,R];omega
  ·show P++B.take (B.length - A.length)++B.drop (B.length - A.length)++(A++S)=j.t;rw[<- g5,List.append_assoc P (B.take _),U];simp only[List.append_assoc]
  ·show(B.drop (B.length - A.length)).length+(B.take (B.length - A.length)).length<A.length+B.length;omega
  (conv=>whnf);rw[ab];show al0 sz (clo E g) N m A.length (B.take (B.length - A.length)).length (eL (en E) l')=al0 sz (clo E g) N m (B.drop (B.length - A.length)).length (B.take (B.length - A.length)).length (eL (en E) (P++B.drop (B.length - A.length)++B.take (B.length - A.length)++(A++S)));rw[R,i]
 have heq:A.length=B.length:=by
  have o:(((A.length:Nat):Int) !=((B.length:Nat):Int))=false:=o;rw[bne_eq_false_iff_eq]at o;omega
 (conv=>whnf);rw[J];refine zA.mono (swapRange' E g P A [] B S (P++A++B++S) (P++B++A++S) (by simp) (by simp) heq N P.length m A.length g4.symm rfl rfl (by simp;omega) hl) ?_;rintro _ rfl;(conv=>whnf);exact congrArg (λl=>(⟨.tup [],[.arr sz (eL (en E) l) false]⟩:Res)) g5):p:=h
theorem aat {p:Prop}(h:p:=by
 intro g c ac R hg N hl;intro k;induction k with
 |zero=>intro l a m b h0 h1 h2;omega
 |succ k ih=>
 intro l a m b h0 h1 h2 hb hN ar au ae;refine xX T8 cM_ok (by kernel_rfl) (by simp) ?_;refine zi (λe1=>?_) (λe1=>?_)
 ·have hm:m=a+1:=by
   have e1:(Go.IntKind.i64.wrap ((m:Int) -(a:Int))==1)=true:=e1;rw[yk (by omega) (by omega)]at e1;have:=eq_of_beq e1;omega
  obtain⟨x,hx⟩:=vM (l:=l) (i:=a) (by omega);(conv=>whnf)
  refine yq (P:=Pg) (f:=T8.f) (body:=cM_L0) (λz:Nat×Nat=>ay7 sz (clo E g) N a z.1 z.2 (eL (en E) l)) (λz=>z.2 - z.1)
   (λz=>m<=z.1 /\z.1<=z.2 /\z.2<=b /\(z.1=m\/ ∃u,l[z.1 - 1]? =some u /\c u x<=0)/\(z.2=b\/ ∃u,l[z.2]? =some u /\c x u<=0))
   ⟨(m,b),⟨by omega,by omega,by omega,.inl rfl,.inl rfl⟩,ze ?_⟩ ?_
  ·exact rfl
  rintro⟨i,j⟩ hR;have hS:m<=i /\i<=j /\j<=b /\(i=m\/ ∃u,l[i - 1]? =some u /\c u x<=0)/\(j=b\/ ∃u,l[j]? =some u /\c x u<=0):=hR;clear hR;obtain⟨g1,g2,g3,g4,g5⟩:=hS;refine zi (λk1=>?_) (λk1=>?_)
  ·have aa:i<j:=by have k1:decide ((i:Int)<(j:Int))=true:=k1;have:=of_decide_eq_true k1;omega
   have wh:=ale i j (by omega);obtain⟨h,hh⟩: ∃h,h=(i+j)/2:=⟨_,rfl⟩;rw[<- hh]at wh;obtain⟨u,hu⟩:=vM (l:=l) (i:=h) (by omega);have w1:Go.IntKind.i64.wrap ((h:Int)+1)=((h+1:Nat):Int):=zC (n:=b) (by omega) (by omega);(conv=>whnf);refine⟨by decide,?_⟩;(conv=>whnf);rw[wh];refine xW ?_ (hA:=by omega) (hB:=by omega);refine⟨_,ww (en E) hu,?_⟩;(conv=>whnf);refine xW ?_ (hA:=by omega) (hB:=by omega);refine⟨_,ww (en E) hx,?_⟩;(conv=>whnf);refine Go.AM.Sat.mono (hg x u (ae a h x u (Nat.le_refl _) (by omega) (by omega) (by omega) hx hu)) ?_;rintro _ ⟨z,rfl,hz⟩;refine zi (λk2=>?_) (λk2=>?_)
   ·have an:c u x<0:=hz.1 (of_decide_eq_true k2);(conv=>whnf);refine⟨(h+1,j),⟨⟨by show m<=h+1;omega,by show h+1<=j;omega,g3,.inr ⟨u,hu,by omega⟩,g5⟩,by show j -(h+1)<j - i;omega⟩,ze ?_⟩;(conv=>whnf);rw[w1];rfl
   have ak: ¬c u x<0:=λh=>(of_decide_eq_false k2: ¬z<0) (hz.2 h)
   (conv=>whnf);refine⟨(i,h),⟨⟨g1,by show i<=h;omega,by show h<=b;omega,g4,.inr ⟨u,hu,ac.ge.1 (by omega)⟩⟩,by show h - i<j - i;omega⟩,ze ?_⟩;exact rfl
  have aa:j=i:=by have k1:decide ((i:Int)<(j:Int))=false:=k1;have:=of_decide_eq_false k1;omega
  subst aa;have wi:Go.IntKind.i64.wrap ((j:Int) - 1)=((j - 1:Nat):Int):=akh (by omega) (by omega);(conv=>whnf)
  refine yq (P:=Pg) (f:=T8.f) (body:=cM_L1) (λz:Nat×List α=>axL sz N j z.1 (eL (en E) z.2)) (λz=>j - z.1)
   (λz=>a<=z.1 /\z.1<=j - 1 /\PermW a b l z.2 /\ ∀p,z.2[p]? =if a<=p /\p<z.1 then l[p+1]? else if p=z.1 then l[a]? else l[p]?)
   ⟨(a,l),⟨Nat.le_refl _,by omega,PermW.refl _ _ _,λp=>?_⟩,ze ?_⟩ ?_
  ·rw[if_neg (by omega)];split
   ·rename_i e;rw[e]
   rfl
  ·exact rfl
  rintro⟨q,l1⟩ hR;have hS:a<=q /\q<=j - 1 /\PermW a b l l1 /\ ∀p,l1[p]? =if a<=p /\p<q then l[p+1]? else if p=q then l[a]? else l[p]? :=hR
  clear hR;obtain⟨r1,r2,r3,r4⟩:=hS;have r5:=r3.len;refine zi (λk3=>?_) (λk3=>?_)
  ·have hq:q<j - 1:=by
    have k3:decide ((q:Int)<Go.IntKind.i64.wrap ((j:Int) - 1))=true:=k3;rw[wi]at k3;have:=of_decide_eq_true k3;omega
   have wq:Go.IntKind.i64.wrap ((q:Int)+1)=((q+1:Nat):Int):=zC (n:=b) (by omega) (by omega);obtain⟨u,hu⟩:=vM (l:=l1) (i:=q) (by omega);obtain⟨v,hv⟩:=vM (l:=l1) (i:=q+1) (by omega);obtain⟨z,hz⟩:=afw (en E) (i:=q) (x:=v) hv;(conv=>whnf);rw[wq];refine xW ?_ (hA:=by omega) (hB:=by omega);refine⟨_,ww (en E) hv,?_⟩;(conv=>whnf);refine xW ?_ (hA:=by show(0:Int)<=(q:Int);omega) (hB:=by show(q:Int)<(N:Int);omega);refine⟨_,ww (en E) hu,?_⟩;(conv=>whnf);refine xW ?_ (hA:=by show(0:Int)<=(q:Int);omega) (hB:=by show(q:Int)<(N:Int);omega);refine⟨_,ww (en E) hu,Nat.le_refl _,?_⟩;refine xW ?_ (hA:=by omega) (hB:=by omega);refine⟨_,hz,Nat.le_refl _,?_⟩;(conv=>whnf);refine⟨(q+1,QQ l1 q (q+1) u v),⟨⟨by show a<=q+1;omega,by show q+1<=j - 1;omega,r3.trans (aqs hu hv (by omega) (by omega) (by omega) (by omega)),λp=>?_⟩,by show j -(q+1)<j - q;omega⟩,ze ?_⟩
   ·rw[r4]at hu hv;rw[if_neg (by omega),if_pos rfl]at hu;rw[if_neg (by omega),if_neg (by omega)]at hv;show(QQ l1 q (q+1) u v)[p]? =if a<=p /\p<q+1 then l[p+1]? else if p=q+1 then l[a]? else l[p]?
    have av:l1[q]? =some u:=by rw[r4,if_neg (by omega),if_pos rfl];exact hu
    have aw:l1[q+1]? =some v:=by rw[r4,if_neg (by omega),if_neg (by omega)];exact hv
    rw[Ug av aw,r4 p];by_cases p1:p=q+1
    ·rw[if_pos p1,if_neg (by omega),if_pos p1,hu]
    rw[if_neg p1];by_cases J:p=q
    ·rw[if_pos J,if_pos (by omega),J,hv]
    rw[if_neg J];by_cases p3:a<=p /\p<q
    ·rw[if_pos p3,if_pos (by omega)]
    rw[if_neg p3,if_neg J,if_neg (by omega),if_neg p1]
   (conv=>whnf);rw[wq];exact congrArg (axL sz N j (q+1)) (amO (en E) u v)
  have hq:q=j - 1:=by
   have k3:decide ((q:Int)<Go.IntKind.i64.wrap ((j:Int) - 1))=false:=k3;rw[wi]at k3;have:=of_decide_eq_false k3;omega
  subst hq;(conv=>whnf);exact⟨l1,r3,awK ac hx (by omega) g3 (au.mono (by omega) (Nat.le_refl _)) r4 (by rcases g4 with g4|g4;exact .inl (by omega);exact .inr g4) g5,rfl⟩
 have hm:a+1<m:=by
  have e1:(Go.IntKind.i64.wrap ((m:Int) -(a:Int))==1)=false:=e1;rw[yk (by omega) (by omega),beq_eq_false_iff_ne]at e1;omega
 refine zi (λe2=>?_) (λe2=>?_)
 ·have ax:b=m+1:=by
   have e2:(Go.IntKind.i64.wrap ((b:Int) -(m:Int))==1)=true:=e2;rw[yk (by omega) (by omega)]at e2;have:=eq_of_beq e2;omega
  obtain⟨x,hx⟩:=vM (l:=l) (i:=m) (by omega);(conv=>whnf)
  refine yq (P:=Pg) (f:=T8.f) (body:=cM_L2) (λz:Nat×Nat=>ay8 sz (clo E g) N m z.1 z.2 (eL (en E) l)) (λz=>z.2 - z.1)
   (λz=>a<=z.1 /\z.1<=z.2 /\z.2<=m /\(z.1=a\/ ∃u,l[z.1 - 1]? =some u /\c u x<=0)/\(z.2=m\/ ∃u,l[z.2]? =some u /\c x u<=0))
   ⟨(a,m),⟨by omega,by omega,by omega,.inl rfl,.inl rfl⟩,ze ?_⟩ ?_
  ·exact rfl
  rintro⟨i,j⟩ hR;have hS:a<=i /\i<=j /\j<=m /\(i=a\/ ∃u,l[i - 1]? =some u /\c u x<=0)/\(j=m\/ ∃u,l[j]? =some u /\c x u<=0):=hR;clear hR;obtain⟨g1,g2,g3,g4,g5⟩:=hS;refine zi (λk1=>?_) (λk1=>?_)
  ·have aa:i<j:=by have k1:decide ((i:Int)<(j:Int))=true:=k1;have:=of_decide_eq_true k1;omega
   have wh:=ale i j (by omega);obtain⟨h,hh⟩: ∃h,h=(i+j)/2:=⟨_,rfl⟩;rw[<- hh]at wh;obtain⟨u,hu⟩:=vM (l:=l) (i:=h) (by omega);have w1:Go.IntKind.i64.wrap ((h:Int)+1)=((h+1:Nat):Int):=zC (n:=b) (by omega) (by omega);(conv=>whnf);refine⟨by decide,?_⟩;refine xW ?_ (hA:=by omega) (hB:=by omega);refine⟨_,ww (en E) hx,?_⟩;(conv=>whnf);rw[wh];refine xW ?_ (hA:=by omega) (hB:=by omega);refine⟨_,ww (en E) hu,?_⟩;(conv=>whnf);refine Go.AM.Sat.mono (hg u x (ae h m u x (by omega) (by omega) (Nat.le_refl _) (by omega) hu hx)) ?_;rintro _ ⟨z,rfl,hz⟩;refine zi (λk2=>?_) (λk2=>?_)
   ·have ak: ¬c x u<0:=by
     have k2:(!decide (z<0))=true:=k2;rw[<- hz];simpa using k2
    (conv=>whnf);refine⟨(h+1,j),⟨⟨by show a<=h+1;omega,by show h+1<=j;omega,g3,.inr ⟨u,hu,ac.ge.1 (by omega)⟩,g5⟩,by show j -(h+1)<j - i;omega⟩,ze ?_⟩;(conv=>whnf);rw[w1];rfl
   have an:c x u<0:=by
    have k2:(!decide (z<0))=false:=k2;rw[<- hz];simpa using k2
   (conv=>whnf);refine⟨(i,h),⟨⟨g1,by show i<=h;omega,by show h<=m;omega,g4,.inr ⟨u,hu,by omega⟩⟩,by show h - i<j - i;omega⟩,ze ?_⟩;exact rfl
  have aa:j=i:=by have k1:decide ((i:Int)<(j:Int))=false:=k1;have:=of_decide_eq_false k1;omega
  subst aa;(conv=>whnf)
  refine yq (P:=Pg) (f:=T8.f) (body:=cM_L3) (λz:Nat×List α=>axM sz N j z.1 (eL (en E) z.2)) (λz=>z.1)
   (λz=>j<=z.1 /\z.1<=m /\PermW a b l z.2 /\ ∀p,z.2[p]? =if z.1<p /\p<=m then l[p - 1]? else if p=z.1 then l[m]? else l[p]?)
   ⟨(m,l),⟨g3,Nat.le_refl _,PermW.refl _ _ _,λp=>?_⟩,ze ?_⟩ ?_
  ·rw[if_neg (by omega)];split
   ·rename_i e;rw[e]
   rfl
  ·exact rfl
  rintro⟨q,l1⟩ hR;have hS:j<=q /\q<=m /\PermW a b l l1 /\ ∀p,l1[p]? =if q<p /\p<=m then l[p - 1]? else if p=q then l[m]? else l[p]? :=hR
  clear hR;obtain⟨r1,r2,r3,r4⟩:=hS;have r5:=r3.len;refine zi (λk3=>?_) (λk3=>?_)
  ·have hq:j<q:=by
    have k3:decide ((q:Int)>(j:Int))=true:=k3;have:=of_decide_eq_true k3;omega
   have wq:Go.IntKind.i64.wrap ((q:Int) - 1)=((q - 1:Nat):Int):=akh (by omega) (by omega);obtain⟨u,hu⟩:=vM (l:=l1) (i:=q) (by omega);obtain⟨v,hv⟩:=vM (l:=l1) (i:=q - 1) (by omega);obtain⟨z,hz⟩:=afw (en E) (i:=q) (x:=v) hv;(conv=>whnf);rw[wq];refine xW ?_ (hA:=by omega) (hB:=by omega);refine⟨_,ww (en E) hv,?_⟩;(conv=>whnf);refine xW ?_ (hA:=by show(0:Int)<=(q:Int);omega) (hB:=by show(q:Int)<(N:Int);omega);refine⟨_,ww (en E) hu,?_⟩;(conv=>whnf);refine xW ?_ (hA:=by show(0:Int)<=(q:Int);omega) (hB:=by show(q:Int)<(N:Int);omega);refine⟨_,ww (en E) hu,Nat.le_refl _,?_⟩;refine xW ?_ (hA:=by omega) (hB:=by omega);refine⟨_,hz,Nat.le_refl _,?_⟩;(conv=>whnf);refine⟨(q - 1,QQ l1 q (q - 1) u v),⟨⟨by show j<=q - 1;omega,by show q - 1<=m;omega,r3.trans (aqs hu hv (by omega) (by omega) (by omega) (by omega)),λp=>?_⟩,by show q - 1<q;omega⟩,ze ?_⟩
   ·rw[r4]at hu hv;rw[if_neg (by omega),if_pos rfl]at hu;rw[if_neg (by omega),if_neg (by omega)]at hv;show(QQ l1 q (q - 1) u v)[p]? =if q - 1<p /\p<=m then l[p - 1]? else if p=q - 1 then l[m]? else l[p]?
    have av:l1[q]? =some u:=by rw[r4,if_neg (by omega),if_pos rfl];exact hu
    have aw:l1[q - 1]? =some v:=by rw[r4,if_neg (by omega),if_neg (by omega)];exact hv
    rw[Ug av aw,r4 p];by_cases p1:p=q - 1
    ·rw[if_pos p1,if_neg (by omega),if_pos p1,hu]
    rw[if_neg p1];by_cases J:p=q
    ·rw[if_pos J,if_pos (by omega),J,hv]
    rw[if_neg J];by_cases p3:q<p /\p<=m
    ·rw[if_pos p3,if_pos (by omega)]
    rw[if_neg p3,if_neg J,if_neg (by omega),if_neg p1]
   (conv=>whnf);rw[wq];exact congrArg (axM sz N j (q - 1)) (amO (en E) u v)
  have hq:q=j:=by
   have k3:decide ((q:Int)>(j:Int))=false:=k3;have:=of_decide_eq_false k3;omega
  subst hq;(conv=>whnf);exact⟨l1,r3,by rw[ax];exact asF ac hx g1 g3 ar r4 g4 g5,rfl⟩
 have ax:m+1<b:=by
  have e2:(Go.IntKind.i64.wrap ((b:Int) -(m:Int))==1)=false:=e2;rw[yk (by omega) (by omega),beq_eq_false_iff_ne]at e2;omega
 have wh:=ale a b (by omega);obtain⟨o,ay⟩: ∃o,o=(a+b)/2:=⟨_,rfl⟩;rw[<- ay]at wh;have wn:Go.IntKind.i64.wrap ((o:Int)+(m:Int))=((o+m:Nat):Int):=by rw[yk (by omega) (by omega)];omega
 have a0:Go.IntKind.i64.wrap (((o+m:Nat):Int) -(b:Int))=((o+m - b:Nat):Int)\/m<=o:=by
  by_cases h:m<=o
  ·exact .inr h
  exact .inl (by rw[yk (by omega) (by omega)];omega)
 have wp:Go.IntKind.i64.wrap (((o+m:Nat):Int) - 1)=((o+m - 1:Nat):Int):=akh (by omega) (by omega);(conv=>whnf);refine⟨by decide,?_⟩;(conv=>whnf);rw[wh];refine zw (λe3=>?_) (λe3=>?_)
 ·have az:o<m:=by
   have e3:decide ((m:Int)>(o:Int))=true:=e3;have:=of_decide_eq_true e3;omega
  (conv=>whnf);rw[wn]
  refine yq (P:=Pg) (f:=T8.f) (body:=cM_L4) (λz:Nat×Nat=>axN sz (clo E g) N a m b o (o+m) z.1 z.2 (o+m - 1) (eL (en E) l)) (λz=>z.2 - z.1)
   (λz=>o+m - b<=z.1 /\z.1<=z.2 /\z.2<=o /\(z.1=o+m - b\/W7 c l (z.1 - 1) (o+m - z.1))/\(z.2=o\/W7 c l (o+m - 1 - z.2) z.2))
   ⟨(o+m - b,o),⟨Nat.le_refl _,by show o+m - b<=o;omega,Nat.le_refl _,.inl rfl,.inl rfl⟩,ze ?_⟩ ?_
  ·(conv=>whnf);rw[wp,a0.resolve_right (by omega)];rfl
  rintro⟨s,r⟩ hR;have hS:o+m - b<=s /\s<=r /\r<=o /\(s=o+m - b\/W7 c l (s - 1) (o+m - s))/\(r=o\/W7 c l (o+m - 1 - r) r):=hR;clear hR;obtain⟨g1,g2,g3,g4,g5⟩:=hS;refine zi (λk1=>?_) (λk1=>?_)
  ·have aa:s<r:=by have k1:decide ((s:Int)<(r:Int))=true:=k1;have:=of_decide_eq_true k1;omega
   have wq:=ale s r (by omega);obtain⟨h,hh⟩: ∃h,h=(s+r)/2:=⟨_,rfl⟩;rw[<- hh]at wq;obtain⟨u,hu⟩:=vM (l:=l) (i:=h) (by omega);obtain⟨v,hv⟩:=vM (l:=l) (i:=o+m - 1 - h) (by omega);have w1:Go.IntKind.i64.wrap ((h:Int)+1)=((h+1:Nat):Int):=zC (n:=b) (by omega) (by omega);have wv:Go.IntKind.i64.wrap (((o+m - 1:Nat):Int) -(h:Int))=((o+m - 1 - h:Nat):Int):=by rw[yk (by omega) (by omega)];omega
   (conv=>whnf);refine⟨by decide,?_⟩;(conv=>whnf);rw[wq,wv];refine xW ?_ (hA:=by omega) (hB:=by omega);refine⟨_,ww (en E) hv,?_⟩;(conv=>whnf);refine xW ?_ (hA:=by omega) (hB:=by omega);refine⟨_,ww (en E) hu,?_⟩;(conv=>whnf);refine Go.AM.Sat.mono (hg u v (ae h (o+m - 1 - h) u v (by omega) (by omega) (by omega) (by omega) hu hv)) ?_;rintro _ ⟨z,rfl,hz⟩;refine zi (λk2=>?_) (λk2=>?_)
   ·have ak: ¬c v u<0:=by
     have k2:(!decide (z<0))=true:=k2;rw[<- hz];simpa using k2
    (conv=>whnf);refine⟨(h+1,r),⟨⟨by show o+m - b<=h+1;omega,by show h+1<=r;omega,g3,.inr ⟨u,v,hu,?_,ac.ge.1 (by omega)⟩,g5⟩,by show r -(h+1)<r - s;omega⟩,ze ?_⟩
    ·rw[<- hv];congr 1;show o+m -(h+1)=_;omega
    (conv=>whnf);rw[w1];rfl
   have an:c v u<0:=by
    have k2:(!decide (z<0))=false:=k2;rw[<- hz];simpa using k2
   (conv=>whnf);refine⟨(s,h),⟨⟨g1,by show s<=h;omega,by show h<=o;omega,g4,.inr ⟨v,u,hv,hu,by omega⟩⟩,by show h - s<r - s;omega⟩,ze ?_⟩;exact rfl
  have aa:r=s:=by have k1:decide ((s:Int)<(r:Int))=false:=k1;have:=of_decide_eq_false k1;omega
  subst aa;obtain⟨e,he⟩: ∃e,e=o+m - r:=⟨_,rfl⟩;have we:Go.IntKind.i64.wrap (((o+m:Nat):Int) -(r:Int))=(e:Int):=by rw[yk (by omega) (by omega)];omega
  have ai:r=a\/e=b\/W7 c l (r - 1) e:=by
   rcases g4 with g4|⟨u,v,q1,q2,q3⟩
   ·right;left;omega
   exact .inr (.inr ⟨u,v,q1,by rw[he];exact q2,q3⟩)
  have aj:r=m\/e=m\/W7 c l (e - 1) r:=by
   rcases g5 with g5|⟨u,v,q1,q2,q3⟩
   ·right;left;omega
   refine .inr (.inr ⟨u,v,?_,q2,q3⟩);rw[<- q1];congr 1;omega
  have ab:=λ(l1:List α) (hr:Xl r m e l l1)=>aiH ac (show a<=r by omega) (show r<=m by omega) (show m<=e by omega) (show e<=b by omega) hr ar au ai aj
  have af:r+(e - m)=o:=by omega
  simp only[af]at ab;have ad:=λ(l1:List α) (hr:Xl r m e l l1)=>ae.rot (show a<=r by omega) (show r<=m by omega) (show m<=e by omega) (show e<=b by omega) hr
  simp only[af]at ad;(conv=>whnf);rw[we];refine zw (λf1=>?_) (λf1=>?_)
  ·have f1:r<m /\m<e:=Zm f1;(conv=>whnf);refine zA.mono (rotate' E g l N r m e f1.1 f1.2 (by omega) hN hl) ?_;rintro _ rfl;have ag:Xl r m e l (aeJ r m e l):=ahH (by omega) (by omega) (by omega);have ah:PermW r e l (aeJ r m e l):=avJ (by omega) (by omega) (by omega);obtain⟨l1,al⟩: ∃l1,l1=aeJ r m e l:=⟨_,rfl⟩;rw[<- al]at ag ah⊢;have hr:=ag;have hw:=ah;have hrel:=ad l1 hr;obtain⟨s1,s2,s3,s4,s5⟩:=ab l1 hr;have ao:=hw.len;refine zi (λf2=>?_) (λf2=>?_)
   ·have f2:a<r /\r<o:=Zm f2;(conv=>whnf);refine zA.mono (ih l1 a r o (by omega) f2.1 f2.2 (by omega) (by omega) s1 s2 hrel.1) ?_;rintro _ ⟨l2,J,t2,rfl⟩;have aq:=J.len;refine zi (λI=>?_) (λI=>?_)
    ·have I:o<e /\e<b:=Zm I;(conv=>whnf);refine zA.mono (ih l2 o e b (by omega) I.1 I.2 (by omega) (by omega) (s3.same λi U _=>J.out i (.inr U)) (s4.same λi U _=>J.out i (.inr (by omega))) (hrel.2.same λi hi=>J.out i (.inr (by omega)))) ?_;rintro _ ⟨l3,p3,t3,rfl⟩;have fin:=wI hw (show a<=r by omega) (show e<=b by omega) J p3 (by omega) (by omega) t2 t3 s5;(conv=>whnf);exact⟨l3,fin.1,fin.2,rfl⟩
    have I:e<=o\/b<=e:=Zl I;have t3:yv c o b l2:=by
     rcases I with I|I
     ·exact(s4.mono (show e<=o by omega) (Nat.le_refl _)).same λi U _=>J.out i (.inr U)
     exact(s3.mono (Nat.le_refl _) (show b<=e by omega)).same λi U _=>J.out i (.inr U)
    have fin:=wI hw (show a<=r by omega) (show e<=b by omega) J (PermW.refl o b l2) (by omega) (by omega) t2 t3 s5;(conv=>whnf);exact⟨l2,fin.1,fin.2,rfl⟩
   have f2:r<=a\/o<=r:=Zl f2;have J:PermW a o l1 l1:=PermW.refl _ _ _;have t2:yv c a o l1:=by
    rcases f2 with f2|f2
    ·exact s2.mono (show r<=a by omega) (Nat.le_refl _)
    exact s1.mono (Nat.le_refl _) (show o<=r by omega)
   refine zi (λI=>?_) (λI=>?_)
   ·have I:o<e /\e<b:=Zm I;(conv=>whnf);refine zA.mono (ih l1 o e b (by omega) I.1 I.2 (by omega) (by omega) (s3.same λi U _=>J.out i (.inr U)) (s4.same λi U _=>J.out i (.inr (by omega))) (hrel.2.same λi hi=>J.out i (.inr (by omega)))) ?_;rintro _ ⟨l3,p3,t3,rfl⟩;have fin:=wI hw (show a<=r by omega) (show e<=b by omega) J p3 (by omega) (by omega) t2 t3 s5;(conv=>whnf);exact⟨l3,fin.1,fin.2,rfl⟩
   have I:e<=o\/b<=e:=Zl I;have t3:yv c o b l1:=by
    rcases I with I|I
    ·exact(s4.mono (show e<=o by omega) (Nat.le_refl _)).same λi U _=>J.out i (.inr U)
    exact(s3.mono (Nat.le_refl _) (show b<=e by omega)).same λi U _=>J.out i (.inr U)
   have fin:=wI hw (show a<=r by omega) (show e<=b by omega) J (PermW.refl o b l1) (by omega) (by omega) t2 t3 s5;(conv=>whnf);exact⟨l1,fin.1,fin.2,rfl⟩
  have f1:m<=r\/e<=m:=Zl f1;have hr:Xl r m e l l:=Xl.same (by omega) (by omega) (by omega);have hw:PermW r e l l:=PermW.refl _ _ _;have hrel:=ad l hr;obtain⟨s1,s2,s3,s4,s5⟩:=ab l hr;have ao:=hw.len;refine zi (λf2=>?_) (λf2=>?_)
  ·have f2:a<r /\r<o:=Zm f2;(conv=>whnf);refine zA.mono (ih l a r o (by omega) f2.1 f2.2 (by omega) (by omega) s1 s2 hrel.1) ?_;rintro _ ⟨l2,J,t2,rfl⟩;have aq:=J.len;refine zi (λI=>?_) (λI=>?_)
   ·have I:o<e /\e<b:=Zm I;(conv=>whnf);refine zA.mono (ih l2 o e b (by omega) I.1 I.2 (by omega) (by omega) (s3.same λi U _=>J.out i (.inr U)) (s4.same λi U _=>J.out i (.inr (by omega))) (hrel.2.same λi hi=>J.out i (.inr (by omega)))) ?_;rintro _ ⟨l3,p3,t3,rfl⟩;have fin:=wI hw (show a<=r by omega) (show e<=b by omega) J p3 (by omega) (by omega) t2 t3 s5;(conv=>whnf);exact⟨l3,fin.1,fin.2,rfl⟩
   have I:e<=o\/b<=e:=Zl I;have t3:yv c o b l2:=by
    rcases I with I|I
    ·exact(s4.mono (show e<=o by omega) (Nat.le_refl _)).same λi U _=>J.out i (.inr U)
    exact(s3.mono (Nat.le_refl _) (show b<=e by omega)).same λi U _=>J.out i (.inr U)
   have fin:=wI hw (show a<=r by omega) (show e<=b by omega) J (PermW.refl o b l2) (by omega) (by omega) t2 t3 s5;(conv=>whnf);exact⟨l2,fin.1,fin.2,rfl⟩
  have f2:r<=a\/o<=r:=Zl f2;have J:PermW a o l l:=PermW.refl _ _ _;have t2:yv c a o l:=by
   rcases f2 with f2|f2
   ·exact s2.mono (show r<=a by omega) (Nat.le_refl _)
   exact s1.mono (Nat.le_refl _) (show o<=r by omega)
  refine zi (λI=>?_) (λI=>?_)
  ·have I:o<e /\e<b:=Zm I;(conv=>whnf);refine zA.mono (ih l o e b (by omega) I.1 I.2 (by omega) (by omega) (s3.same λi U _=>J.out i (.inr U)) (s4.same λi U _=>J.out i (.inr (by omega))) (hrel.2.same λi hi=>J.out i (.inr (by omega)))) ?_;rintro _ ⟨l3,p3,t3,rfl⟩;have fin:=wI hw (show a<=r by omega) (show e<=b by omega) J p3 (by omega) (by omega) t2 t3 s5;(conv=>whnf);exact⟨l3,fin.1,fin.2,rfl⟩
  have I:e<=o\/b<=e:=Zl I;have t3:yv c o b l:=by
   rcases I with I|I
   ·exact(s4.mono (show e<=o by omega) (Nat.le_refl _)).same λi U _=>J.out i (.inr U)
   exact(s3.mono (Nat.le_refl _) (show b<=e by omega)).same λi U _=>J.out i (.inr U)
  have fin:=wI hw (show a<=r by omega) (show e<=b by omega) J (PermW.refl o b l) (by omega) (by omega) t2 t3 s5;(conv=>whnf);exact⟨l,fin.1,fin.2,rfl⟩
 have az:m<=o:=by
  have e3:decide ((m:Int)>(o:Int))=false:=e3;have:=of_decide_eq_false e3;omega
 (conv=>whnf);rw[wn]
 refine yq (P:=Pg) (f:=T8.f) (body:=cM_L4) (λz:Nat×Nat=>axN sz (clo E g) N a m b o (o+m) z.1 z.2 (o+m - 1) (eL (en E) l)) (λz=>z.2 - z.1)
  (λz=>a<=z.1 /\z.1<=z.2 /\z.2<=m /\(z.1=a\/W7 c l (z.1 - 1) (o+m - z.1))/\(z.2=m\/W7 c l (o+m - 1 - z.2) z.2))
  ⟨(a,m),⟨Nat.le_refl _,by show a<=m;omega,Nat.le_refl _,.inl rfl,.inl rfl⟩,ze ?_⟩ ?_
 ·(conv=>whnf);rw[wp];rfl
 rintro⟨s,r⟩ hR;have hS:a<=s /\s<=r /\r<=m /\(s=a\/W7 c l (s - 1) (o+m - s))/\(r=m\/W7 c l (o+m - 1 - r) r):=hR;clear hR;obtain⟨g1,g2,g3,g4,g5⟩:=hS;refine zi (λk1=>?_) (λk1=>?_)
 ·have aa:s<r:=by have k1:decide ((s:Int)<(r:Int))=true:=k1;have:=of_decide_eq_true k1;omega
  have wq:=ale s r (by omega);obtain⟨h,hh⟩: ∃h,h=(s+r)/2:=⟨_,rfl⟩;rw[<- hh]at wq;obtain⟨u,hu⟩:=vM (l:=l) (i:=h) (by omega);obtain⟨v,hv⟩:=vM (l:=l) (i:=o+m - 1 - h) (by omega);have w1:Go.IntKind.i64.wrap ((h:Int)+1)=((h+1:Nat):Int):=zC (n:=b) (by omega) (by omega);have wv:Go.IntKind.i64.wrap (((o+m - 1:Nat):Int) -(h:Int))=((o+m - 1 - h:Nat):Int):=by rw[yk (by omega) (by omega)];omega
  (conv=>whnf);refine⟨by decide,?_⟩;(conv=>whnf);rw[wq,wv];refine⟨by omega,by omega,?_⟩;(conv=>whnf);refine⟨_,ww (en E) hv,?_⟩;(conv=>whnf);refine xW ?_ (hA:=by omega) (hB:=by omega);refine⟨_,ww (en E) hu,?_⟩;(conv=>whnf);refine Go.AM.Sat.mono (hg u v (ae h (o+m - 1 - h) u v (by omega) (by omega) (by omega) (by omega) hu hv)) ?_;rintro _ ⟨z,rfl,hz⟩;refine zi (λk2=>?_) (λk2=>?_)
  ·have ak: ¬c v u<0:=by
    have k2:(!decide (z<0))=true:=k2;rw[<- hz];simpa using k2
   (conv=>whnf);refine⟨(h+1,r),⟨⟨by show a<=h+1;omega,by show h+1<=r;omega,g3,.inr ⟨u,v,hu,?_,ac.ge.1 (by omega)⟩,g5⟩,by show r -(h+1)<r - s;omega⟩,ze ?_⟩
   ·rw[<- hv];congr 1;show o+m -(h+1)=_;omega
   (conv=>whnf);rw[w1];rfl
  have an:c v u<0:=by
   have k2:(!decide (z<0))=false:=k2;rw[<- hz];simpa using k2
  (conv=>whnf);refine⟨(s,h),⟨⟨g1,by show s<=h;omega,by show h<=m;omega,g4,.inr ⟨v,u,hv,hu,by omega⟩⟩,by show h - s<r - s;omega⟩,ze ?_⟩;exact rfl
 have aa:r=s:=by have k1:decide ((s:Int)<(r:Int))=false:=k1;have:=of_decide_eq_false k1;omega
 subst aa;obtain⟨e,he⟩: ∃e,e=o+m - r:=⟨_,rfl⟩;have we:Go.IntKind.i64.wrap (((o+m:Nat):Int) -(r:Int))=(e:Int):=by rw[yk (by omega) (by omega)];omega
 have ai:r=a\/e=b\/W7 c l (r - 1) e:=by
  rcases g4 with g4|⟨u,v,q1,q2,q3⟩
  ·left;exact g4
  exact .inr (.inr ⟨u,v,q1,by rw[he];exact q2,q3⟩)
 have aj:r=m\/e=m\/W7 c l (e - 1) r:=by
  rcases g5 with g5|⟨u,v,q1,q2,q3⟩
  ·left;exact g5
  refine .inr (.inr ⟨u,v,?_,q2,q3⟩);rw[<- q1];congr 1;omega
 have ab:=λ(l1:List α) (hr:Xl r m e l l1)=>aiH ac (show a<=r by omega) (show r<=m by omega) (show m<=e by omega) (show e<=b by omega) hr ar au ai aj
 have af:r+(e - m)=o:=by omega
 simp only[af]at ab;have ad:=λ(l1:List α) (hr:Xl r m e l l1)=>ae.rot (show a<=r by omega) (show r<=m by omega) (show m<=e by omega) (show e<=b by omega) hr
 simp only[af]at ad;(conv=>whnf);rw[we];refine zw (λf1=>?_) (λf1=>?_)
 ·have f1:r<m /\m<e:=Zm f1;(conv=>whnf);refine zA.mono (rotate' E g l N r m e f1.1 f1.2 (by omega) hN hl) ?_;rintro _ rfl;have ag:Xl r m e l (aeJ r m e l):=ahH (by omega) (by omega) (by omega);have ah:PermW r e l (aeJ r m e l):=avJ (by omega) (by omega) (by omega);obtain⟨l1,al⟩: ∃l1,l1=aeJ r m e l:=⟨_,rfl⟩;rw[<- al]at ag ah⊢;have hr:=ag;have hw:=ah;have hrel:=ad l1 hr;obtain⟨s1,s2,s3,s4,s5⟩:=ab l1 hr;have ao:=hw.len;refine zi (λf2=>?_) (λf2=>?_)
  ·have f2:a<r /\r<o:=Zm f2;(conv=>whnf);refine zA.mono (ih l1 a r o (by omega) f2.1 f2.2 (by omega) (by omega) s1 s2 hrel.1) ?_;rintro _ ⟨l2,J,t2,rfl⟩;have aq:=J.len;refine zi (λI=>?_) (λI=>?_)
   ·have I:o<e /\e<b:=Zm I;(conv=>whnf);refine zA.mono (ih l2 o e b (by omega) I.1 I.2 (by omega) (by omega) (s3.same λi U _=>J.out i (.inr U)) (s4.same λi U _=>J.out i (.inr (by omega))) (hrel.2.same λi hi=>J.out i (.inr (by omega)))) ?_;rintro _ ⟨l3,p3,t3,rfl⟩;have fin:=wI hw (show a<=r by omega) (show e<=b by omega) J p3 (by omega) (by omega) t2 t3 s5;(conv=>whnf);exact⟨l3,fin.1,fin.2,rfl⟩
   have I:e<=o\/b<=e:=Zl I;have t3:yv c o b l2:=by
    rcases I with I|I
    ·exact(s4.mono (show e<=o by omega) (Nat.le_refl _)).same λi U _=>J.out i (.inr U)
    exact(s3.mono (Nat.le_refl _) (show b<=e by omega)).same λi U _=>J.out i (.inr U)
   have fin:=wI hw (show a<=r by omega) (show e<=b by omega) J (PermW.refl o b l2) (by omega) (by omega) t2 t3 s5;(conv=>whnf);exact⟨l2,fin.1,fin.2,rfl⟩
  have f2:r<=a\/o<=r:=Zl f2;have J:PermW a o l1 l1:=PermW.refl _ _ _;have t2:yv c a o l1:=by
   rcases f2 with f2|f2
   ·exact s2.mono (show r<=a by omega) (Nat.le_refl _)
   exact s1.mono (Nat.le_refl _) (show o<=r by omega)
  refine zi (λI=>?_) (λI=>?_)
  ·have I:o<e /\e<b:=Zm I;(conv=>whnf);refine zA.mono (ih l1 o e b (by omega) I.1 I.2 (by omega) (by omega) (s3.same λi U _=>J.out i (.inr U)) (s4.same λi U _=>J.out i (.inr (by omega))) (hrel.2.same λi hi=>J.out i (.inr (by omega)))) ?_;rintro _ ⟨l3,p3,t3,rfl⟩;have fin:=wI hw (show a<=r by omega) (show e<=b by omega) J p3 (by omega) (by omega) t2 t3 s5;(conv=>whnf);exact⟨l3,fin.1,fin.2,rfl⟩
  have I:e<=o\/b<=e:=Zl I;have t3:yv c o b l1:=by
   rcases I with I|I
   ·exact(s4.mono (show e<=o by omega) (Nat.le_refl _)).same λi U _=>J.out i (.inr U)
   exact(s3.mono (Nat.le_refl _) (show b<=e by omega)).same λi U _=>J.out i (.inr U)
  have fin:=wI hw (show a<=r by omega) (show e<=b by omega) J (PermW.refl o b l1) (by omega) (by omega) t2 t3 s5;(conv=>whnf);exact⟨l1,fin.1,fin.2,rfl⟩
 have f1:m<=r\/e<=m:=Zl f1;have hr:Xl r m e l l:=Xl.same (by omega) (by omega) (by omega);have hw:PermW r e l l:=PermW.refl _ _ _;have hrel:=ad l hr;obtain⟨s1,s2,s3,s4,s5⟩:=ab l hr;have ao:=hw.len;refine zi (λf2=>?_) (λf2=>?_)
 ·have f2:a<r /\r<o:=Zm f2;(conv=>whnf);refine zA.mono (ih l a r o (by omega) f2.1 f2.2 (by omega) (by omega) s1 s2 hrel.1) ?_;rintro _ ⟨l2,J,t2,rfl⟩;have aq:=J.len;refine zi (λI=>?_) (λI=>?_)
  ·have I:o<e /\e<b:=Zm I;(conv=>whnf);refine zA.mono (ih l2 o e b (by omega) I.1 I.2 (by omega) (by omega) (s3.same λi U _=>J.out i (.inr U)) (s4.same λi U _=>J.out i (.inr (by omega))) (hrel.2.same λi hi=>J.out i (.inr (by omega)))) ?_;rintro _ ⟨l3,p3,t3,rfl⟩;have fin:=wI hw (show a<=r by omega) (show e<=b by omega) J p3 (by omega) (by omega) t2 t3 s5;(conv=>whnf);exact⟨l3,fin.1,fin.2,rfl⟩
  have I:e<=o\/b<=e:=Zl I;have t3:yv c o b l2:=by
   rcases I with I|I
   ·exact(s4.mono (show e<=o by omega) (Nat.le_refl _)).same λi U _=>J.out i (.inr U)
   exact(s3.mono (Nat.le_refl _) (show b<=e by omega)).same λi U _=>J.out i (.inr U)
  have fin:=wI hw (show a<=r by omega) (show e<=b by omega) J (PermW.refl o b l2) (by omega) (by omega) t2 t3 s5;(conv=>whnf);exact⟨l2,fin.1,fin.2,rfl⟩
 have f2:r<=a\/o<=r:=Zl f2;have J:PermW a o l l:=PermW.refl _ _ _;have t2:yv c a o l:=by
  rcases f2 with f2|f2
  ·exact s2.mono (show r<=a by omega) (Nat.le_refl _)
  exact s1.mono (Nat.le_refl _) (show o<=r by omega)
 refine zi (λI=>?_) (λI=>?_)
 ·have I:o<e /\e<b:=Zm I;(conv=>whnf);refine zA.mono (ih l o e b (by omega) I.1 I.2 (by omega) (by omega) (s3.same λi U _=>J.out i (.inr U)) (s4.same λi U _=>J.out i (.inr (by omega))) (hrel.2.same λi hi=>J.out i (.inr (by omega)))) ?_;rintro _ ⟨l3,p3,t3,rfl⟩;have fin:=wI hw (show a<=r by omega) (show e<=b by omega) J p3 (by omega) (by omega) t2 t3 s5;(conv=>whnf);exact⟨l3,fin.1,fin.2,rfl⟩
 have I:e<=o\/b<=e:=Zl I;have t3:yv c o b l:=by
  rcases I with I|I
  ·exact(s4.mono (show e<=o by omega) (Nat.le_refl _)).same λi U _=>J.out i (.inr U)
  exact(s3.mono (Nat.le_refl _) (show b<=e by omega)).same λi U _=>J.out i (.inr U)
 have fin:=wI hw (show a<=r by omega) (show e<=b by omega) J (PermW.refl o b l) (by omega) (by omega) t2 t3 s5;(conv=>whnf);exact⟨l,fin.1,fin.2,rfl⟩):p:=h
theorem ae5 {p:Prop}(h:p:=by
 intro g c aa R hg l n hn hl ad;refine xX T8 cS_ok (by kernel_rfl) (by simp) ?_
 conv=>whnf
 refine yq (P:=Pg) (f:=T8.f) (body:=cS_L0) (λz:Nat×List α=>stS sz (clo E g) n n 20 (z.1*20) (z.1*20+20) (eL (en E) z.2)) (λz=>n - z.1*20)
  (λz=>z.1*20<=n /\PermW 0 n l z.2 /\uD c 20 (z.1*20) z.2 /\uf R 20 (z.1*20) z.2)
  ⟨(0,l),⟨by show 0*20<=n;omega,PermW.refl _ _ _,by show uD c 20 (0*20) l;rw[Nat.zero_mul];exact uD.zero _ _,by show uf R 20 (0*20) l;rw[Nat.zero_mul];exact uf.start ad hn⟩,ze ?_⟩ ?_
 ·exact rfl
 rintro⟨q,l1⟩ hR;have hS:q*20<=n /\PermW 0 n l l1 /\uD c 20 (q*20) l1 /\uf R 20 (q*20) l1:=hR;clear hR;obtain⟨g1,g2,g3,g6⟩:=hS;have g7:=g6.pair (n:=n);have g4:=g2.len;obtain⟨a,j⟩: ∃a,a=q*20:=⟨_,rfl⟩;show mwpR Pg T8.f cS_L0 _ (stS sz (clo E g) n n 20 (q*20) (q*20+20) (eL (en E) l1));rw[<- j]at g1 g3 g6 g7⊢;refine zi (λk1=>?_) (λk1=>?_)
 ·have I:a+20<=n:=by have k1:decide (((a+20:Nat):Int)<=(n:Int))=true:=k1;have:=of_decide_eq_true k1;omega
  have wb:Go.IntKind.i64.wrap (((a+20:Nat):Int)+((20:Nat):Int))=((a+20+20:Nat):Int):=by rw[yk (by omega) (by omega)];omega
  (conv=>whnf);refine zA.mono (insSort' E g c aa R hg n l1 a (a+20) (by omega) (by omega) I hl (g7.mono (Nat.le_refl _) I)) ?_;rintro _ ⟨U,o,r,rfl⟩;(conv=>whnf);have e1:(q+1)*20=a+20:=by omega
  refine⟨(q+1,U),⟨⟨by show(q+1)*20<=n;omega,g2.trans (o.mono (Nat.zero_le _) I),?_,?_⟩,by show n -(q+1)*20<n - a;omega⟩,ze ?_⟩
  ·show uD c 20 ((q+1)*20) U;rw[j]at g3 o r;exact g3.ext (e:=(q+1)*20) (by rw[Nat.succ_mul];exact o) (by rw[Nat.succ_mul];exact r) (by omega) (Nat.le_refl _)
  ·show uf R 20 ((q+1)*20) U;rw[j]at g6 o;exact g6.next (e:=(q+1)*20) (by rw[Nat.succ_mul];exact o) (by omega) (Nat.le_refl _)
  (conv=>whnf);rw[wb];show stS sz (clo E g) n n 20 (a+20) (a+20+20) (eL (en E) U)=stS sz (clo E g) n n 20 ((q+1)*20) ((q+1)*20+20) (eL (en E) U);rw[e1]
 have ac:n<a+20:=by have k1:decide (((a+20:Nat):Int)<=(n:Int))=false:=k1;have:=of_decide_eq_false k1;omega
 (conv=>whnf);refine zA.mono (insSort' E g c aa R hg n l1 a n (by omega) g1 (Nat.le_refl _) hl g7) ?_;rintro _ ⟨U,o,r,rfl⟩;have b2:uD c 20 n U:=by
  rw[j]at g3 o r;exact g3.ext o r (by omega) (by rw[Nat.succ_mul];omega)
 have b3:uf R 20 n U:=by
  rw[j]at g6 o g1;exact g6.next o g1 (by omega)
 have q2:PermW 0 n l U:=g2.trans (o.mono (Nat.zero_le _) (Nat.le_refl _));have b4:=b3.blk;clear o r g3 g2 g4 g6 g7 b3;(conv=>whnf)
 refine yq (P:=Pg) (f:=T8.f) (body:=cS_L2) (λz:Nat×List α=>stT sz (clo E g) n n z.1 (eL (en E) z.2)) (λz=>n - z.1)
  (λz=>0<z.1 /\z.1<=2000000 /\PermW 0 n l z.2 /\uD c z.1 n z.2 /\agM R z.1 z.2)
  ⟨(20,U),⟨by show 0<20;omega,by show 20<=2000000;omega,q2,b2,b4⟩,ze ?_⟩ ?_
 ·exact rfl
 rintro⟨i,l3⟩ hR;have hS:0<i /\i<=2000000 /\PermW 0 n l l3 /\uD c i n l3 /\agM R i l3:=hR;clear hR;obtain⟨g1,g2,g3,g4,g6⟩:=hS;refine zi (λk2=>?_) (λk2=>?_)
 ·have ab:i<n:=by have k2:decide ((i:Int)<(n:Int))=true:=k2;have:=of_decide_eq_true k2;omega
  have w2:Go.IntKind.i64.wrap (2*(i:Int))=((2*i:Nat):Int):=by rw[yk (by omega) (by omega)];omega
  have w3:Go.IntKind.i64.wrap ((i:Int)*2)=((2*i:Nat):Int):=by rw[yk (by omega) (by omega)];omega
  conv=>whnf
  refine yq (P:=Pg) (f:=T8.f) (body:=cS_L1) (λz:Nat×List α=>stS sz (clo E g) n n i (z.1*(2*i)) (z.1*(2*i)+2*i) (eL (en E) z.2)) (λz=>n - z.1*(2*i))
   (λz=>z.1*(2*i)<=n /\PermW 0 n l z.2 /\uD c (2*i) (z.1*(2*i)) z.2 /\W6 c i (z.1*(2*i)) n z.2 /\Y8 R i (z.1*(2*i)) z.2)
   ⟨(0,l3),⟨by show 0*(2*i)<=n;omega,g3,by show uD c (2*i) (0*(2*i)) l3;rw[Nat.zero_mul];exact uD.zero _ _,by show W6 c i (0*(2*i)) n l3;rw[Nat.zero_mul];exact g4.blkF,by show Y8 R i (0*(2*i)) l3;rw[Nat.zero_mul];exact g6.pass⟩,ze ?_⟩ ?_
  ·(conv=>whnf);rw[w2];show stS sz (clo E g) n n i 0 (2*i) (eL (en E) l3)=stS sz (clo E g) n n i (0*(2*i)) (0*(2*i)+2*i) (eL (en E) l3);rw[Nat.zero_mul,Nat.zero_add]
  rintro⟨q,l4⟩ hR;have hS:q*(2*i)<=n /\PermW 0 n l l4 /\uD c (2*i) (q*(2*i)) l4 /\W6 c i (q*(2*i)) n l4 /\Y8 R i (q*(2*i)) l4:=hR;clear hR;obtain⟨r1,r2,r3,r4,r6⟩:=hS;have r7:=λe=>r6.rel (e:=e)
  have r8:=r6.blk;have r9:=λe J=>r6.next (e:=e) (n:=n) (l':=J)
  have r5:=r2.len;have s1:=r4.at0;have r:=r4.at1;obtain⟨a,j⟩: ∃a,a=q*(2*i):=⟨_,rfl⟩;show mwpR Pg T8.f cS_L1 _ (stS sz (clo E g) n n i (q*(2*i)) (q*(2*i)+2*i) (eL (en E) l4));have ae:(q+1)*(2*i)=a+2*i:=by rw[Nat.succ_mul,j]
  rw[<- j]at r1 r3 r4 s1 r r7 r9⊢;rw[ae]at r9;have w4:Go.IntKind.i64.wrap ((a:Int)+(i:Int))=((a+i:Nat):Int):=by rw[yk (by omega) (by omega)];omega
  refine zi (λk3=>?_) (λk3=>?_)
  ·have I:a+2*i<=n:=by have k3:decide (((a+2*i:Nat):Int)<=(n:Int))=true:=k3;have:=of_decide_eq_true k3;omega
   have w5:Go.IntKind.i64.wrap (((a+2*i:Nat):Int)+((2*i:Nat):Int))=((a+2*i+2*i:Nat):Int):=by rw[yk (by omega) (by omega)];omega
   rw[Nat.min_eq_left (by omega)]at s1 r;(conv=>whnf);rw[w4];refine zA.mono (symMerge E g c aa R hg n hl _ l4 a (a+i) (a+2*i) (Nat.le_refl _) (by omega) (by omega) (by omega) (by omega) s1 (r.mono (Nat.le_refl _) (by omega)) (r7 _)) ?_;rintro _ ⟨J,p5,t5,rfl⟩;have e1:(q+1)*(2*i)=a+2*i:=by rw[Nat.succ_mul,j]
   (conv=>whnf);refine⟨(q+1,J),⟨⟨by show(q+1)*(2*i)<=n;omega,r2.trans (p5.mono (Nat.zero_le _) I),?_,?_,?_⟩,by show n -(q+1)*(2*i)<n - a;rw[e1];omega⟩,ze ?_⟩
   ·show uD c (2*i) ((q+1)*(2*i)) J;rw[e1];have e2:=e1;subst j;exact r3.ext p5 t5 (by omega) (by omega)
   ·show W6 c i ((q+1)*(2*i)) n J;rw[e1];exact r4.next p5 (by omega)
   ·show Y8 R i ((q+1)*(2*i)) J;rw[e1];exact r9 _ _ p5 (Nat.le_refl _) (.inl rfl)
   (conv=>whnf);rw[w2,w5];show stS sz (clo E g) n n i (a+2*i) (a+2*i+2*i) (eL (en E) J)=stS sz (clo E g) n n i ((q+1)*(2*i)) ((q+1)*(2*i)+2*i) (eL (en E) J);rw[e1]
  have ac:n<a+2*i:=by have k3:decide (((a+2*i:Nat):Int)<=(n:Int))=false:=k3;have:=of_decide_eq_false k3;omega
  have e1:(q+1)*(2*i)=a+2*i:=by rw[Nat.succ_mul,j]
  (conv=>whnf);rw[w4];refine zw (λk4=>?_) (λk4=>?_)
  ·have hm:a+i<n:=by have k4:decide (((a+i:Nat):Int)<(n:Int))=true:=k4;have:=of_decide_eq_true k4;omega
   rw[Nat.min_eq_left (by omega)]at s1;rw[Nat.min_eq_right (by omega)]at r;(conv=>whnf);refine zA.mono (symMerge E g c aa R hg n hl _ l4 a (a+i) n (Nat.le_refl _) (by omega) (by omega) (by omega) (by omega) s1 r (r7 _)) ?_;rintro _ ⟨J,p5,t5,rfl⟩;(conv=>whnf);refine⟨(2*i,J),⟨⟨by show 0<2*i;omega,by show 2*i<=2000000;omega,r2.trans (p5.mono (Nat.zero_le _) (Nat.le_refl _)),?_,(r9 _ _ p5 (by omega) (.inr ⟨rfl,by rw[r5];exact hn⟩)).blk⟩,by show n - 2*i<n - i;omega⟩,ze ?_⟩
   ·show uD c (2*i) n J;subst j;exact r3.ext p5 t5 r1 (by omega)
   (conv=>whnf);rw[w3];rfl
  have hm:n<=a+i:=by have k4:decide (((a+i:Nat):Int)<(n:Int))=false:=k4;have:=of_decide_eq_false k4;omega
  rw[Nat.min_eq_right (by omega)]at s1;(conv=>whnf);refine⟨(2*i,l4),⟨⟨by show 0<2*i;omega,by show 2*i<=2000000;omega,r2,?_,r8⟩,by show n - 2*i<n - i;omega⟩,ze ?_⟩
  ·show uD c (2*i) n l4;subst j;exact r3.ext (PermW.refl _ _ _) s1 r1 (by omega)
  (conv=>whnf);rw[w3];rfl
 have ab:n<=i:=by have k2:decide ((i:Int)<(n:Int))=false:=k2;have:=of_decide_eq_false k2;omega
 have s0:=g4 0;rw[Nat.zero_mul,Nat.zero_add,Nat.one_mul,Nat.min_eq_right ab]at s0;(conv=>whnf);exact⟨l3,g3,s0,rfl⟩):p:=h
theorem Jk {p:Prop}(h:p:=by
 intro g c i R I l n P J j;refine xX T8 cT_ok (by kernel_rfl) (by simp) ?_
 conv=>whnf
 refine zA.mono (stable E g c i R I l n P J j) ?_;rintro _ ⟨l',o,r,rfl⟩
 conv=>whnf
 exact⟨l',o,r,rfl⟩):p:=h
end So
namespace So.R
structure En (α:Type) where
 d:α ->D
 c0:am D
 c1:am D
abbrev en {α:Type}(E:En α)(x:α):am D:=[E.d x]
abbrev sz:Nat:=1
abbrev cal {α:Type}(E:En α)(x y:α):am W:=[.c (.d (E.d x)),.c (.d (E.d y)),.c (.fp E.c0),.c (.fp E.c1)]
abbrev clo {α:Type}(E:En α)(g:FuncId):W:=.c (.d (.fn g [E.c0,E.c1]))
noncomputable abbrev cI_L0:=(yP.l 0)
noncomputable abbrev cI_L1:=(yP.l 1)
abbrev cI_ok:=yP.ok
noncomputable abbrev cM_L0:=(yO.l 0)
noncomputable abbrev cM_L1:=(yO.l 1)
noncomputable abbrev cM_L2:=(yO.l 2)
noncomputable abbrev cM_L3:=(yO.l 3)
noncomputable abbrev cM_L4:=(yO.l 4)
abbrev cM_ok:=yO.ok
noncomputable abbrev cO_L0:=(jo.l 0)
abbrev cO_ok:=jo.ok
noncomputable abbrev cS_L0:=(yL.l 0)
noncomputable abbrev cS_L1:=(yL.l 1)
noncomputable abbrev cS_L2:=(yL.l 2)
abbrev cS_ok:=yL.ok
abbrev cT_ok:=uP.ok
noncomputable abbrev cW_L0:=(uj.l 0)
abbrev cW_ok:=uj.ok
theorem kf {α:Type}(E:En α):KV vz sz (en E) (cal E) (clo E):=acD
abbrev insSort' {α:Type}(E:En α):=(kf E).p
theorem W4 {α:Type}(E:En α):WC Xv sz (en E) (clo E):=KT
abbrev swapRange' {α:Type}(E:En α):=(W4 E).p
theorem ab3 {α:Type}(E:En α):aa6 QI sz (en E) (clo E):=ae4
abbrev rotate' {α:Type}(E:En α):=(ab3 E).p
theorem symMerge {α:Type}(E:En α):ad6 XX sz (en E) (cal E) (clo E):=aat
theorem stable {α:Type}(E:En α):akn jr sz (en E) (cal E) (clo E):=ae5
theorem SortStable {α:Type}(E:En α):SortStable wz sz (en E) (cal E) (clo E):=Jk
end So.R
abbrev axm {α:Type}(d:α ->D)(l:am α):am (am D):=l.map λx=> [d x]
abbrev aeQ {α:Type}(d:α ->D)(g i:am D):=So.R.SortStable ⟨d,g,i⟩
def aha (s:Srt)(x y:Val):Int:=bif s.desc then xP y x else xP x y
def Ks:am Srt ->am Val ->am Val ->Int
 |s::r,x::xs,y::ys=>bif aha s x y !=0 then aha s x y else Ks r xs ys
 |_,_,_=>0
theorem awN {l:am Srt}{i:Nat}(h:i<l.length):(xQ l)[((i:Nat):Int).toNat]? =some l[i].ds:=by
 grind[xQ]
theorem ahL (l:am Srt)(i:Nat)(hi:i<l.length)(x y:Val):Sat Pg ZR [.c (int i),x.w,y.w,.c (.fp [.sl (xQ l)])] (λr=>r=rI (aha l[i] x y)):=by
 have g:=awN hi;obtain⟨p,I,J⟩:=x;obtain⟨P,R,U⟩:=y;unfold aha;generalize l[i]=s at*;obtain⟨o,j⟩:=s;refine abj.s T8 ?_;refine yu g ?_;cases j
 ·exact rfl
 exact rfl
def cpS (l:am Srt)(xs ys:am Val)(n i:Nat):S:=⟨[(0,.w (yt xs)),(1,.w (yt ys)),(2,.w (.c (.d (.fn ZR [[.sl (xQ l)]])))),(13,zl n),(14,zl i)],[]⟩
theorem amc (l:am Srt)(xs ys:am Val)(U:xs.length=l.length)(hy:ys.length=l.length)(hl:l.length<=1000000):
 Sat Pg KA [yt xs,yt ys,.c (.d (.fn ZR [[.sl (xQ l)]]))] (λr=>r=rI (Ks l xs ys)):=by
 have R:zU false (rowD xs).length (rowD ys).length=(l.length:Int):=by
  grind[zt,avG]
 have hC:yZ (l.length:Int) l.length=0:=by simp[yZ]
 refine jg.s T8 ?_;rw[R];refine WS T8 (jg.l 0) l.length (λi=>cpS l xs ys l.length i) (λi=>Ks l xs ys=Ks (l.drop i) (xs.drop i) (ys.drop i)) ?_
 intro i hi g;have g:Ks l xs ys=Ks (l.drop i) (xs.drop i) (ys.drop i):=g;show mwpR Pg T8.f (jg.l 0) _ (cpS l xs ys l.length i);unfold cpS;refine jH (λj=>?_) (λp=>?_)
 ·have P:=ahL l i j xs[i] ys[i];have I:=xj (r:=xs) (i:=i) (by omega);have J:=xj (r:=ys) (i:=i) (by omega);rw[zq j,zq (show i<xs.length by omega),zq (show i<ys.length by omega)]at g;simp only[Ks]at g;generalize aha l[i] xs[i] ys[i]=c at*;generalize xs[i]=x at*;generalize ys[i]=y at*;obtain⟨x1,x2,x3⟩:=x;obtain⟨y1,y2,y3⟩:=y;refine yu I ?_;refine yu J ?_;refine aI P ?_;refine zw (λo=>?_) (λo=>?_)
  ·rw[show(c !=0)=true from o]at g;(conv=>whnf);exact bB rI g.symm
  rw[show(c !=0)=false from o]at g;refine y6 j g ?_;rw[zC j (by omega)];rfl
 rw[aC p]at g;have g:Ks l xs ys=0:=g;rw[g];(conv=>whnf);rw[zt,zt,U,hy];rw[hC];rfl
def kyS (row:am Val)(at_:am Int)(i:Nat)(g:am Val):S:=⟨[(0,.w (yt row)),(4,cV (.own 19 3 g.length)),(7,.w (.c (.d (.sl (zg at_))))),(8,zl (zg at_).length),(9,zl i)],
 [(19,.arr 3 (rowD g) false)]⟩
theorem amg (row:am Val)(at_:am Int)(hn:at_.length<=1000000)(R:zQ row.length at_):Sat Pg jR [yt row,.c (.fp [.sl (zg at_)])] (λr=>r=rC (.d (.sl (rowD (zn row at_))))):=by
 refine zD ?_;refine Xo.s T8 ?_;refine yx (P:=Pg) (f:=T8.f) (body:=(Xo.l 0)) at_.length (λi=>kyS row at_ i (zn row (at_.take i))) (λ_=>True) ⟨trivial,⟨_,zW 4 19 3 (by omega) (by omega) rfl,?_⟩⟩ ?_
 ·exact rfl
 intro i hi _;have aa:(zn row (at_.take i)).length=i:=by grind[zn]
 have j: ∀h:i<at_.length,zn row (at_.take (i+1))=zn row (at_.take i)++[at0 row (at_[i]).toNat]:=λh=>by
  grind[zn,zR]
 have o:at_.length<=i ->zn row at_=zn row (at_.take i):=λh=>by grind
 show mwpR Pg T8.f (Xo.l 0) _ (kyS row at_ i (zn row (at_.take i)));generalize zn row (at_.take i)=T at*;have p:(rowD T).take T.length=rowD T:=by grind[zt]
 unfold kyS;refine zi (λU=>?_) (λU=>?_)
 ·have g:i<at_.length:=by simp_all[zB]
  have hg:=y5 g;have j:=j g;have hk:=R _ (aM g);generalize at_[i]=k at*;have J:(rowD row)[k.toNat]? =some (at0 row k.toNat).ds:=by
   grind[at0,rowD]
  generalize at0 row k.toNat=v at*;obtain⟨v1,v2,v3⟩:=v;refine yu hg ?_;refine yu J ?_ (hA:=hk.1);refine wu ?_;refine y6 g trivial ?_;rw[zC g (by omega),p,j,<- vT,aH];rfl
 have I:at_.length<=i:=by grind[zB]
 rw[o I];refine aw1 ?_;show Res.mk (.w (.c (.d (.sl ((rowD T).take T.length))))) []=_;rw[p];rfl
def jE (at_:am Int)(l:am Srt)(a b:am Val):Int:=Ks l (zn a at_) (zn b at_)
theorem al6 (at_:am Int)(l:am Srt)(a b:am Val)(o:zQ a.length at_)(p:zQ b.length at_)(J:at_.length=l.length)(I:l.length<=1000000):
 Sat Pg Xw [yt a,yt b,.c (.fp [.fn jR [[.sl (zg at_)]]]),.c (.fp [.sl (xQ l)])] (λr=>r=rI (jE at_ l a b)):=by
 have g:=amg a at_ (by omega) o;have i:=amg b at_ (by omega) p;have j:=amc l (zn a at_) (zn b at_) (by grind[zn]) (by grind[zn]) I;unfold jE;generalize Ks l (zn a at_) (zn b at_)=c at*;generalize zn a at_=x at*;generalize zn b at_=y at*;refine aek.s T8 ?_
 repeat' (first
  |(refine And.intro ?_ ?_<;>conv=>whnf)
  |(refine bA g ?_;rintro _ rfl;conv=>whnf)
  |(refine bA i ?_;rintro _ rfl;conv=>whnf)
  |(refine bA j ?_;rintro _ rfl;conv=>whnf))
 all_goals rfl
theorem CmpOK.both {α:Type}{c d:α ->α ->Int}(h:CmpOK c)(k:CmpOK d):CmpOK (λx y=>bif c x y !=0 then c x y else d x y):=by
 have e: ∀x y,(bif c x y !=0 then c x y else d x y)=if c x y=0 then d x y else c x y:=λx y=>by
  simp_all
 refine⟨λx=>?_,λx y=>?_,λx y z j i=>?_⟩
 ·simp only[e];rw[aL (h.refl x)];exact k.refl x
 ·simp only[e];have p:=h.anti x y;have a2:=h.anti y x;have a3:=k.anti x y;omega
 simp only[e]at j i⊢;by_cases l:c x y=0
 ·rw[aL l]at j;by_cases g:c y z=0
  ·rw[aL g]at i;have r:=h.trans x y z (by omega) (by omega);have o:=h.trans z y x (by have:=h.zero.1 g;omega) (by have:=h.zero.1 l;omega);have I:=h.ge.2 o;rw[aL (by omega)];exact k.trans _ _ _ j i
  rw[aG g]at i;have:=h.lt_of2 (x:=x) (y:=y) (z:=z) (by omega) (by omega);omega
 rw[aG l]at j;by_cases g:c y z=0
 ·have:=h.lt_of (x:=x) (y:=y) (z:=z) (by omega) (by omega);omega
 rw[aG g]at i;have:=h.lt_of (x:=x) (y:=y) (z:=z) (by omega) (by omega);omega
theorem CmpOK.onF {α β:Type}{c:α ->α ->Int}(h:CmpOK c)(f:β ->α):CmpOK (λx y=>c (f x) (f y)):=⟨λx=>h.refl _,λx y=>h.anti _ _,λx y z=>h.trans _ _ _⟩
theorem CmpOK.flip {α:Type}{c:α ->α ->Int}(h:CmpOK c):CmpOK (λx y=>c y x):=⟨λx=>h.refl _,λx y=>h.anti _ _,λx y z g i=>h.trans _ _ _ i g⟩
theorem av7 (s:Srt):CmpOK (aha s):=by
 obtain⟨i,g⟩:=s;cases g
 ·exact ahy
 exact ahy.flip
theorem Q3: ∀(at_:am Int) (l:am Srt),CmpOK (jE at_ l)
 | [],l=>by
   have e:jE [] l= λ_ _=>0:=by funext a b;cases l<;>rfl
   rw[e];exact⟨λ_=>rfl,λ_ _=>by omega,λ_ _ _ _ _=>cj _⟩
 |k::at_,[]=>by
  have e:jE (k::at_) []= λ_ _=>0:=by funext a b;rfl
  rw[e];exact⟨λ_=>rfl,λ_ _=>by omega,λ_ _ _ _ _=>cj _⟩
 |k::at_,s::l=>((av7 s).onF (λrow=>at0 row k.toNat)).both (Q3 at_ l)
theorem asg (l:am (am Val)): ∀x∈zf l,x.length=1:=by
 grind[zf]
theorem VF (l:am (am Val))(g:l.length<=1000000):Sat Pg kr [.c (.d (.sl (zf l)))] (λr=>(l=[]/\r=rC .nil)\/r=ab0 1 (zf l)):=by
 refine K0.s T8 ?_;refine⟨λh=>?_,?_⟩
 ·conv=>whnf
  left
  refine⟨?_,rfl⟩;cases l with
  |nil=>rfl
  |cons a r=>cases h
 (conv=>whnf);refine⟨asg l,by grind[ym,zx],by grind[zx],?_⟩;(conv=>whnf)
 right
 show Res.mk (.w (.c (.own 0 1 (([]:am (am D)).length+(zf l).length)))) [.arr 1 (([]:am (am D)).take ([]:am (am D)).length++zf l) false]=_;simp_all[ab0]
theorem anM (g:FuncId)(cp:am (am D)):zA Pg vz [.c .nil,.c (int 0),.c (int 0),.c (.d (.fn g cp))] [] (λr=>r=⟨.tup [],[]⟩):=by
 refine xX T8 yP.ok (by kernel_rfl) (by simp) ?_
 conv=>whnf
 refine yq (P:=Pg) (f:=T8.f) (body:=(yP.l 1)) (λ_:Unit=>⟨[(0,cV .nil),(1,zl 0),(2,zl 0),(3,.w (.c (.d (.fn g cp)))),(8,zl 1)],[]⟩) (λ_=>0) (λ_=>True) ⟨(),trivial,ze ?_⟩ ?_
 ·exact rfl
 rintro _ _;exact rfl
theorem ahU (g:FuncId)(cp:am (am D)):zA Pg jr [.c .nil,.c (int 0),.c (.d (.fn g cp))] [] (λr=>r=⟨.tup [],[]⟩):=by
 refine xX T8 yL.ok (by kernel_rfl) (by simp) ?_
 conv=>whnf
 refine yq (P:=Pg) (f:=T8.f) (body:=(yL.l 0)) (λ_:Unit=>⟨[(0,cV .nil),(1,zl 0),(2,.w (.c (.d (.fn g cp)))),(6,zl 20),(7,zl 0),(8,zl 20)],[]⟩) (λ_=>0) (λ_=>True) ⟨(),trivial,ze ?_⟩ ?_
 ·exact rfl
 rintro _ _;(conv=>whnf);refine zA.mono (anM g cp) ?_;rintro _ rfl;(conv=>whnf);refine yq (P:=Pg) (f:=T8.f) (body:=(yL.l 2)) (λ_:Unit=>⟨[(0,cV .nil),(1,zl 0),(2,.w (.c (.d (.fn g cp)))),(6,zl 20)],[]⟩) (λ_=>0) (λ_=>True) ⟨(),trivial,ze ?_⟩ ?_
 ·exact rfl
 rintro _ _;exact rfl
theorem WZ (g:FuncId)(cp:am (am D)):zA Pg wz [.c .nil,.c (.d (.fn g cp))] [] (λr=>r=⟨.tup [],[]⟩):=by
 refine xX T8 uP.ok (by kernel_rfl) (by simp) ?_
 conv=>whnf
 refine zA.mono (ahU g cp) ?_;rintro _ rfl;exact rfl
end
section
open Go Go.AM
theorem qi (a b:ByteArray):zo a b=decide (a.data=b.data):=by
 by_cases h:a=b
 ·grind[AM.beqS_self]
 have g:zo a b=false:=by
  grind[AM.beqS_iff]
 rw[g];have:a.data≠b.data:=λe=>h (by cases a;simp_all)
 grind
def xn (n:Int):Val:=⟨2,n,⟨#[]⟩⟩
def sA:ByteArray:=⟨#[97]⟩
def sN:ByteArray:=⟨#[110]⟩
def ex0:Ex:=⟨0,⟨#[]⟩,⟨0,0,⟨#[]⟩⟩,[]⟩
end
section
open Go Go.AM
attribute [local irreducible] Sat zA zY zo
theorem gm {α:Type}{e:α ->α ->Bool}(h: ∀x,e x x=true): ∀l:am α,vd e l l=true
 | []=>rfl
 |x::r=>by simp only[vd,h,Bool.not_true,aF];exact gm h r
theorem atC (v:Val):qI v v=true:=by grind[qI,AM.beqS_self]
theorem atB (v:Col):eqC v v=true:=by grind[eqC,AM.beqS_self]
theorem al5 (r:am Val):xN r r=true:=by
 grind[xN,gm,atC]
theorem agi (t:Tbl):agh t t=true:=by
 grind[agh,gm,atB,al5]
end
section
open Go Go.AM
theorem ahp:CmpOK un:=aoz
def SortG (gs:am Gr):Prop:=gs.Pairwise λa b=>un a.key b.key<0
theorem aee (p:Nat ->Bool)(n:Nat)(J: ∀a b,a<=b ->b<n ->p b=true ->p a=true): ∀(f i j:Nat),(∀a,a<i ->p a=true) ->(∀a,j<=a ->a<n ->p a=false) ->j - i<=f ->i<=j ->j<=n ->
 (∀a,a<vp p f i j ->p a=true)/\(∀a,vp p f i j<=a ->a<n ->p a=false)
 |0,i,j,o,r,R,I,g=>by
  have e:i=j:=by omega
  subst e;exact⟨o,r⟩
 |f+1,i,j,o,r,R,I,g=>by
  simp only[vp];by_cases l:i<j
  ·rw[b9 l,aK];cases U:p ((i+j)/2)
   ·exact aee p n J f i ((i+j)/2) o (λa P hn=>by
     grind) (by omega) (by omega) (by omega)
   exact aee p n J f ((i+j)/2+1) j (λa P=>J a ((i+j)/2) (by omega) (by omega) U) r (by omega) (by omega) g
  rw[bN l,aF]
  grind
theorem JP {gs:am Gr}(k:am Val){a:Nat}(h:a<gs.length):qL (gs.map Gr.gp) k a=decide (un gs[a].key k<0):=by
 unfold qL;rw[am.getElem?_map,am.getElem?_eq_getElem h];rfl
theorem aoM {gs:am Gr}(hs:SortG gs){a b:Nat}(g:a<b)(i:b<gs.length):un (gs[a]'(by omega)).key gs[b].key<0:=by
 grind[SortG,bU]
theorem asa {gs:am Gr}(hs:SortG gs)(k:am Val):(∀a (h:a<gs.length),a<qu gs k ->un gs[a].key k<0)/\(∀a (h:a<gs.length),qu gs k<=a -> ¬un gs[a].key k<0):=by
 have J:(gs.map Gr.gp).length=gs.length:=bQ _;have h:=aee (qL (gs.map Gr.gp) k) gs.length (λa b p l i=>by
  rw[JP k l]at i;rw[JP k (by omega)];have i:=aD i;by_cases e:a=b
  ·grind
  exact b9 (ahp.lt_of (aoM hs (by omega) l) (by omega))) gs.length 0 gs.length (λa h=>absurd h (Nat.not_lt_zero a)) (λa I o=>absurd o (by omega)) (by omega) (aP _) (aA _)
 have e:qu gs k=vp (qL (gs.map Gr.gp) k) gs.length 0 gs.length:=by grind[qu,Yn]
 rw[<- e]at h;refine⟨λa j g=>?_,λa j r=>?_⟩
 ·have:=h.1 a g;rw[JP k j]at this;exact aD this
 grind[JP]
theorem awf {gs:am Gr}{k:am Val}(h:qu gs k<gs.length):YH gs k=(un gs[qu gs k].key k==0):=by
 unfold YH Xd;rw[am.getElem?_map,am.getElem?_eq_getElem h];rfl
theorem arF {gs:am Gr}(hs:SortG gs)(k:am Val):SortG (ZM gs k):=by
 obtain⟨U,o⟩:=asa hs k;unfold ZM;cases hh:YH gs k with
 |true=>exact hs
 |false=>
  simp only[aF];have P:=kL gs k;have I: ∀a (h:a<gs.length),qu gs k<=a ->un k gs[a].key<0:=λa l r=>by
   have R:qu gs k<gs.length:=by omega
   have h3:=o _ R (aA _);have h4:un gs[qu gs k].key k≠0:=λe=>by
    grind[awf]
   have p:un k gs[qu gs k].key<0:=(ahp.anti _ _).2 (by omega);by_cases e:qu gs k=a
   ·grind
   exact ahp.lt_of p (by have:=aoM hs (show qu gs k<a by omega) l;omega)
  have e:gs.take (qu gs k)++gs.drop (qu gs k)=gs:=aT ..;have g:SortG (gs.take (qu gs k)++gs.drop (qu gs k)):=by grind
  unfold SortG at g⊢;rw[cq]at g;rw[aV,cq,List.singleton_append,List.pairwise_cons];refine⟨g.1,⟨λb i=>?_,g.2.1⟩,λa l b i=>?_⟩
  ·obtain⟨j,J,rfl⟩:=cA i;simp_all
  rcases bD.1 i with rfl|i
  ·obtain⟨j,J,rfl⟩:=cA l
   grind
  grind
theorem ao3 (gs:am Gr)(p:Nat)(row:am Val):(Z9 gs p row).map Gr.key=gs.map Gr.key:=by
 unfold Z9;split
 ·rename_i g i;obtain⟨h,rfl⟩:=am.getElem?_eq_some_iff.1 i;rw[List.map_set];apply List.ext_getElem
  ·simp
  grind
 rfl
theorem asG {gs g:am Gr}(h:gs.map Gr.key=g.map Gr.key)(hs:SortG gs):SortG g:=by
 have e: ∀l:am Gr,SortG l↔(l.map Gr.key).Pairwise λa b=>un a b<0:=λl=>by
  grind[SortG]
 grind
def sumG (gs:am Gr):Nat:=(gs.map λg=>g.rows.length).sum
theorem awP (a b:am Gr):sumG (a++b)=sumG a+sumG b:=by simp[sumG]
theorem atS (gs:am Gr)(k:am Val):sumG (ZM gs k)=sumG gs:=by
 unfold ZM;cases YH gs k
 ·simp only[aF,awP]
  grind[aT,sumG]
 rfl
theorem aqY (gs:am Gr)(p:Nat)(g:p<gs.length)(row:am Val):sumG (Z9 gs p row)=sumG gs+1:=by
 unfold Z9;rw[am.getElem?_eq_getElem g];simp only;rw[List.set_eq_take_append_cons_drop,aL g]
 grind[List.drop_eq_getElem_cons,aT,sumG]
theorem aom (at_:am Int)(rows:am (am Val)): ∀i,i<=rows.length ->SortG (vQ at_ (rows.take i))/\sumG (vQ at_ (rows.take i))=i /\(∀g∈vQ at_ (rows.take i),g.key.length=at_.length /\ ∀r∈g.rows,r∈rows)
 |0,_=>⟨bW,rfl,λg j=>by cases j⟩
 |i+1,h=>by
  obtain⟨o,I,p⟩:=aom at_ rows i (by omega);rw[gI at_ (by omega)];unfold WK;have hk:(zn rows[i] at_).length=at_.length:=by simp[zn]
  have hi:=alj (vQ at_ (rows.take i)) (zn rows[i] at_);refine⟨asG (ao3 ..).symm (arF o _),by grind[aqY,atS],?_⟩;have l: ∀g∈ZM (vQ at_ (rows.take i)) (zn rows[i] at_),g.key.length=at_.length /\ ∀r∈g.rows,r∈rows:=by
   unfold ZM;cases YH (vQ at_ (rows.take i)) (zn rows[i] at_)
   ·intro g j;simp only[aF,bZ,bJ]at j
    grind
   exact p
  grind[Z9]
end
section
open Go Go.AM
attribute [local irreducible] Sat zA zY zo
theorem aaO (d:am Nmd)(t:Tbl)(st:Stp)(p:yI d=0)(l:zL t≠0):Sat Pg wx [.c (.d (.sl (zu d))),t.w,st.w] (λr=>r=rNT (zL t)):=by
 have o:=qM d;have hk:=qb t;rw[p]at o;have l:(zL t !=0)=true:=by grind
 generalize zL t=e at*;obtain⟨tc,U⟩:=t;obtain⟨op,⟨J,P,⟨vk,vn,vs⟩,ks⟩,g,I,i,j,R,tb⟩:=st;refine ZH.s T8 ?_;refine aI o ?_;refine aI hk ?_;rw[l];exact rfl
def uH (m:Int):Stp:=⟨5,ex0,[],[],[],[],m,⟨#[]⟩⟩
theorem aiJ {cols:am Col}: ∀{rows:am (am Val)},Xg cols rows=0 -> ∀r∈rows,r.length=cols.length
 | [],_,r,hr=>by cases hr
 |x::j,h,r,hr=>by
  simp only[Xg]at h;cases g:(((x.length:Int)) !=cols.length)
  ·rw[g,aF]at h;cases i:(ue cols x !=0)
   ·rw[i,aF]at h;rcases bD.1 hr with rfl|hr
    ·have:((r.length:Int))=cols.length:=by simpa using g
     omega
    exact aiJ h r hr
   simp_all
  grind
theorem q9 {t:Tbl}(h:zL t=0): ∀r∈t.rows,r.length=t.cols.length:=by
 unfold zL at h;obtain⟨_,h⟩:=yl (by omega) h;cases g:(Yd t.cols 0 t.cols !=0)
 ·rw[g,aF]at h;exact aiJ h
 simp_all
theorem ah0 {cols:am Col}{g:am ByteArray}(h:takeErr cols g=false):zQ cols.length (zh cols g):=by
 intro k hk<;>grind[zh,takeErr,qY]
structure GOK (rows:am (am Val))(n:Nat)(G:am Gr):Prop where
 srt:SortG G
 sum:sumG G=rows.length
 key: ∀g∈G,g.key.length=n
 mem: ∀g∈G,∀r∈g.rows,r∈rows
 few:G.length<=rows.length+1
 cnt: ∀g∈G,g.rows.length<=rows.length
theorem abt (at_:am Int)(rows:am (am Val)):GOK rows at_.length (wW at_ rows):=by
 unfold wW;by_cases h:at_=[]
 ·subst h;rw[aL rfl];refine⟨bX _ _,by simp[sumG],λg i=>?_,λg i=>?_,by simp,λg i=>?_⟩;all_goals rw[bJ.1 i]
  ·rfl
  ·grind
  simp_all
 rw[aG h];obtain⟨l,o,j⟩:=aom at_ rows rows.length (aA _);have r:=Q7 at_ rows rows.length;have p:=gH at_ rows rows.length;rw[aN]at l o j r p;exact⟨l,o,λg i=>(j g i).1,λg i=>(j g i).2,by omega,p⟩
theorem aou {m:Int}(h0:0<=m)(j:m<=50):(uH m).err=0:=by
 have g:(uH m).uses=true:=by
  show V5 5 ex0.zero 0 0 0 0 m ⟨#[]⟩=true;have i:ex0.zero=true:=by
   grind[ex0,Ex.zero,Kf,qI,AM.beqS_self]
  unfold V5;rw[AM.beqS_self,i];rfl
 unfold Stp.err;rw[g];show(bif decide (m<0)||decide (m>20000)then(2:Int)else 0)=0
 grind
end
section
open Go Go.AM
attribute [local irreducible] Sat zA zY
def u6 (cols:am Col)(l:am Srt):am Int:=l.map λs=>zj cols s.col
def wS (cols:am Col)(l:am Srt):Bool:=l.any λs=>decide (zj cols s.col<0)
def akd (t:Tbl)(l:am Srt):Res:=bif zL t !=0 then qE ⟨[],[]⟩ (zL t)else bif wS t.cols l then qE ⟨[],[]⟩ 16 else qE ⟨t.cols,yS (jE (u6 t.cols l) l) t.rows⟩ 0
def soS (cols:am Col)(rows:D)(l:am Srt)(i:Nat):am Int ->S
 | []=>⟨[(2,cV (.ptr 2 0)),(3,cV (.ptr 3 0)),(4,cV (.ptr 4 0)),(7,cV (.ptr 7 0)),(19,.w (.c (.d (.sl (xQ l))))),(20,zl l.length),(21,zl i)],
  [(2,.box [.d (.sl (zm cols)),.d rows]),(3,.box [.d (.sl (xQ l))]),(4,.box [.nil,.nil]),(7,.box [.nil])]⟩
 |a::r=>⟨[(2,cV (.ptr 2 0)),(3,cV (.ptr 3 0)),(4,cV (.ptr 4 0)),(7,cV (.ptr 7 0)),(19,.w (.c (.d (.sl (xQ l))))),(20,zl l.length),(21,zl i)],
   [(2,.box [.d (.sl (zm cols)),.d rows]),(3,.box [.d (.sl (xQ l))]),(4,.box [.nil,.nil]),(7,.box [.own 35 1 (a::r).length]),(35,.arr 1 (zg (a::r)) false)]⟩
theorem acp (at_:am Int)(l:am Srt)(rows:am (am Val))(n:Nat)(hn:rows.length=n)(p:n<=1000000)(o: ∀r∈rows,zQ r.length at_)(I:at_.length=l.length)(J:l.length<=1000000):
 zA Pg wz [.c (.own 0 1 n),.c (.d (.fn Xw [[.fn jR [[.sl (zg at_)]]],[.sl (xQ l)]]))] [.arr 1 (zf rows) false]
  (λr=>r=⟨.tup [],[.arr 1 (zf (yS (jE at_ l) rows)) false]⟩):=by
 have aa: ∀L:am (am Val×Nat),axm (λx:am Val×Nat=>D.sl (rowD x.1)) L=zf (L.map bT):=λL=>by simp_all[zf]
 have e:zf rows=axm (λx:am Val×Nat=>D.sl (rowD x.1)) (qy rows):=by grind[QB]
 rw[e];refine zA.mono (aeQ (λx:am Val×Nat=>D.sl (rowD x.1)) [.fn jR [[.sl (zg at_)]]] [.sl (xQ l)] Xw (uJ (jE at_ l)) (kY (Q3 at_ l)) (λx y=>x.2<y.2 /\zQ x.1.length at_ /\zQ y.1.length at_) (λx y g=>?_) (qy rows) n (by grind[V4]) p ?_) ?_
 ·refine(al6 at_ l y.1 x.1 g.2.2 g.2.1 I J).mono ?_;rintro _ rfl;exact⟨_,rfl,ahZ (Q3 at_ l) g.1⟩
 ·intro i j x y P R h3 hx hy;have U: ∀(k:Nat) (z:am Val×Nat),(qy rows)[k]? =some z ->z.1∈rows:=λk z hz=>by
   have:=cg hz;have h:=cz (f:=bT) this
   grind[QB]
  exact⟨KN rows n i j x y P R h3 hx hy,o _ (U i x hx),o _ (U j y hy)⟩
 rintro _ ⟨l',P,R,rfl⟩<;>grind[So.eL,acv,Q3]
theorem agl (t:Tbl)(l:am Srt)(hl:l.length<=1000000)(hr:t.rows.length<=1000000)(U:t.cols.length<=1000000):Sat Pg kD [t.w,.c (.d (.sl (xQ l)))] (λr=>r=akd t l):=by
 have hk:=qb t;have hw:=@q9 t;unfold akd;generalize zL t=e at*;obtain⟨tc,g⟩:=t;refine zD ?_;refine Q0.s T8 ?_;refine aI hk ?_;refine zw (λh1=>?_) (λh1=>?_)
 ·rw[show(e !=0)=true from h1];exact⟨rfl,rfl⟩
 rw[show(e !=0)=false from h1];have hw: ∀r∈g,r.length=tc.length:=hw (by grind);have hr:g.length<=1000000:=hr;have U:tc.length<=1000000:=U;(conv=>whnf);rw[Z4];refine WS T8 (Q0.l 0) l.length (λi=>soS tc (.sl (zf g)) l i (u6 tc (l.take i))) (λi=>wS tc (l.take i)=false) ?_
 intro i hi hR;have hR:wS tc (l.take i)=false:=hR;have ag:(u6 tc (l.take i)).length=i:=by grind[u6]
 have J: ∀h:i<l.length,u6 tc (l.take (i+1))=u6 tc (l.take i)++[zj tc l[i].col]:=λh=>by
  grind[u6,zR]
 have p: ∀h:i<l.length,wS tc (l.take (i+1))=decide (zj tc l[i].col<0):=λh=>by
  grind[wS,zR]
 have I: ∀h:i<l.length,decide (zj tc l[i].col<0)=true ->wS tc l=true:=λh hb=>by
  grind[wS]
 have aa:l.length<=i ->u6 tc l=u6 tc (l.take i)/\wS tc l=false:=λh=>by
  grind
 show mwpR Pg T8.f (Q0.l 0) _ (soS tc (.sl (zf g)) l i (u6 tc (l.take i)));generalize u6 tc (l.take i)=A at*;have ae:(zg A).take A.length=zg A:=by grind[zB]
 cases A with
 |nil=>
  unfold soS;refine jH (λj=>?_) (λac=>?_)
  ·have hg:=Jc j;have J:=J j;have p:=p j;have I:=I j;have o:=λs=>xz tc (.d (.sl (zf g))) s ⟨_,rfl⟩
   generalize l[i]=s at*;obtain⟨sc,sd⟩:=s;have o:=o sc;generalize hc:zj tc sc=c at*;refine yu hg ?_;refine aI o ?_;refine zw (λh3=>?_) (λh3=>?_)
   ·rw[I (show decide (c<0)=true from h3)];exact⟨rfl,rfl⟩
   have p:wS tc (l.take (i+1))=false:=p.trans h3;refine wu ?_ (hA:=by simp) (hB:=by grind[ym]) (hC:=by simp);refine y6 j p ?_;rw[zC j (by omega),J];rfl
  obtain⟨e1,e2⟩:=aa ac;rw[e2,e1];have ad:=λhz=>acp [] l g (zf g).length (zx g).symm (by grind[zx]) (λr hr k hk=>by cases hk) (by grind) hz
  have hS:(zf (yS (jE [] l) g)).take (zf g).length=zf (yS (jE [] l) g):=by
   rw[zx,<-(u0 (Q3 [] l) g).length_eq,<- zx,aN]
  have ab:g=[] ->yS (jE [] l) g=[]:=λh=>by rw[h];rfl
  generalize yS (jE [] l) g=S at*;have P:=w6 tc U;(conv=>whnf);refine bA (VF g hr) ?_;rintro _ (⟨R,rfl⟩|rfl)
  ·rw[ab R];(conv=>whnf);refine zA.mono (WZ _ _) ?_;rintro _ rfl;refine aI P ?_;exact⟨rfl,rfl⟩
  (conv=>whnf);refine zA.mono (ad hl) ?_;rintro _ rfl;refine aI P ?_;refine⟨rfl,?_⟩;refine Eq.trans (b:=⟨.tup [.agg [.d (.sl (zm tc)),.d (.sl ((zf S).take (zf g).length))],.c (int 0)],[]⟩) rfl ?_;rw[hS];rfl
 |cons a A=>
  unfold soS;refine jH (λj=>?_) (λac=>?_)
  ·have hg:=Jc j;have J:=J j;have p:=p j;have I:=I j;have o:=λs=>xz tc (.d (.sl (zf g))) s ⟨_,rfl⟩
   generalize l[i]=s at*;obtain⟨sc,sd⟩:=s;have o:=o sc;generalize hc:zj tc sc=c at*;generalize hA:(a::A)=B at*;refine yu hg ?_;refine aI o ?_;refine zw (λh3=>?_) (λh3=>?_)
   ·rw[I (show decide (c<0)=true from h3)];exact⟨rfl,rfl⟩
   have p:wS tc (l.take (i+1))=false:=p.trans h3;refine wu ?_;refine y6 j p ?_;have e5:zg B++List.take [[D.lit (Value.int aB c)]].length [[D.lit (Value.int aB c)]]=zg (B++[c]):=by simp[zg]
   have e6:B.length+(List.take [[D.lit (Value.int aB c)]].length [[D.lit (Value.int aB c)]]).length=(B++[c]).length:=by simp
   rw[zC j (by omega),ae,J,e5,e6];subst hA;rfl
  obtain⟨e1,e2⟩:=aa ac;have af:zQ tc.length (u6 tc l):=by
   intro k hk;unfold u6 at hk;obtain⟨s,hs,rfl⟩:=List.mem_map.1 hk
   grind[wS,qY]
  rw[e2,e1];rw[e1]at af;generalize hA:(a::A)=B at*;have ad:=λhz=>acp B l g (zf g).length (zx g).symm (by grind[zx]) (λr hr=>by grind) (by grind) hz
  have hS:(zf (yS (jE B l) g)).take (zf g).length=zf (yS (jE B l) g):=by
   rw[zx,<-(u0 (Q3 B l) g).length_eq,<- zx,aN]
  have ab:g=[] ->yS (jE B l) g=[]:=λh=>by rw[h];rfl
  generalize yS (jE B l) g=S at*;have P:=w6 tc U;(conv=>whnf);refine bA (VF g hr) ?_;rintro _ (⟨R,rfl⟩|rfl)
  ·rw[ab R];(conv=>whnf);refine zA.mono (WZ _ _) ?_;rintro _ rfl;refine aI P ?_;exact⟨rfl,rfl⟩
  rw[ae];(conv=>whnf);refine zA.mono (ad hl) ?_;rintro _ rfl;refine aI P ?_;refine⟨rfl,?_⟩;refine Eq.trans (b:=⟨.tup [.agg [.d (.sl (zm tc)),.d (.sl ((zf S).take (zf g).length))],.c (int 0)],[]⟩) rfl ?_;rw[hS];rfl
structure Stp.OK (st:Stp):Prop where
 sorts:st.sorts.length<=1000000
 cols:st.cols.length<=1000000
 aggs:st.aggs.length<=100000
 items:st.items.length<=1000000
def Vr (op:Int):am ByteArray:=bif op==7 then [sFrom,sTo]else bif op==8 then [sFrom]else []
def whT (cols:am Col)(e:Ex):Int×am Col:=bif aqC cols e !=0 then(aqC cols e,[])else(0,cols)
def soT (cols:am Col)(l:am Srt):Int×am Col:=bif wS cols l then(16,[])else(0,cols)
def grT (cols:am Col)(i:am ByteArray)(g:am Agg):Int×am Col:=
 bif takeErr cols i then(16,[])else bif (xu cols g).1 !=0 then((xu cols g).1,[])else(0,takeC cols i++(xu cols g).2)
def apH (i:am ByteArray)(cols g:am Col)(cs:am ByteArray):Int×am Col:=
 bif jnErr cols g cs !=0 then(jnErr cols g cs,[])else bif intErr cols i !=0 then(intErr cols i,[])else bif intErr g i !=0 then(intErr g i,[])else
 bif dupL [] (cols++keepS i cs g)then(4,[])else bif decide (((cols++keepS i cs g).length:Int)>32)then(7,[])else(0,cols++keepS i cs g)
def Wb (g:am ByteArray)(d:am Nmd)(cols:am Col)(cs:am ByteArray)(tb:ByteArray):Int×am Col:=match zZ tb d with
 |none=>(17,[])
 |some t=>bif g.any (hasB cs)then(4,[])else apH g cols t.cols cs
theorem agY {b:Bool}{x y:Int×am Col}:(bif b then xF x else xF y)=xF (bif b then x else y):=by grind
theorem aos (g:am ByteArray)(d:am Nmd)(cols:am Col)(cs:am ByteArray)(tb:ByteArray):ahg g d cols cs tb=xF (Wb g d cols cs tb):=by
 unfold ahg Wb;cases zZ tb d with
 |none=>rfl
 |some t=>
  simp only[apF,apG,apH,<- agY];rfl
theorem arN (cs:am ByteArray)(l:am Col):keepS [] cs l=wA cs l:=by
 unfold keepS wA;congr 1
 funext c;simp_all[hasB]
theorem axw (d:am Nmd)(cols:am Col)(cs:am ByteArray)(tb:ByteArray):jnT d cols cs tb=xF (Wb [] d cols cs tb):=by
 unfold jnT Wb;cases zZ tb d with
 |none=>rfl
 |some t=>
  simp only[jnQ,apH,arN,<- agY];rfl
theorem axr (cols:am Col)(i:am ByteArray)(g:am Agg):apz cols i g=xF (grT cols i g):=by
 unfold apz grT;simp only[<- agY];rfl
def ye (d:am Nmd)(cols:am Col)(st:Stp):Int×am Col:=
 bif st.err !=0 then(st.err,[])else bif st.op==1 then whT cols st.cond else bif st.op==2 then uc cols st.items else bif st.op==3 then grT cols st.cols st.aggs else
 bif st.op==4 then soT cols st.sorts else bif st.op==5 then(0,cols)else bif st.op==9 then coT cols st.cols else Wb (Vr st.op) d cols st.cols st.table
theorem aqd (d:am Nmd)(cols:am Col)(st:Stp)(hs:st.sorts.length<=1000000)(l:(st.err !=0)=true):Sat Pg zK [.c (.d (.sl (zu d))),.c (.d (.sl (zm cols))),st.w] (λr=>r=xF (st.err,[])):=by
 have o:=ut st hs;refine zD ?_;obtain⟨op,⟨I,J,⟨R,U,vs⟩,ks⟩,g,p,i,j,P,tb⟩:=st;refine xg.s T8 ?_;refine aI o ?_;rw[l];exact⟨rfl,rfl⟩
theorem auT (d:am Nmd)(cols:am Col)(st:Stp)(g:st.op=2)(hs:st.sorts.length<=1000000)(o:(st.err !=0)=false)(x:Int×am Col)(p:Sat Pg VC [.c (.d (.sl (zm cols))),.c (.d (.sl (yW st.items)))] (λr=>r=xF x)):Sat Pg zK [.c (.d (.sl (zu d))),.c (.d (.sl (zm cols))),st.w] (λr=>r=xF x):=by
 have I:=ut st hs;refine zD ?_;obtain⟨op,⟨P,R,⟨vk,vn,vs⟩,ks⟩,i,J,j,l,U,tb⟩:=st;subst g;refine xg.s T8 ?_;refine aI I ?_;rw[o];refine aI p ?_;exact⟨rfl,rfl⟩
theorem auU (d:am Nmd)(cols:am Col)(st:Stp)(g:st.op=3)(hs:st.sorts.length<=1000000)(o:(st.err !=0)=false)(x:Int×am Col)(p:Sat Pg UP [.c (.d (.sl (zm cols))),.agg st.cs] (λr=>r=xF x)):Sat Pg zK [.c (.d (.sl (zu d))),.c (.d (.sl (zm cols))),st.w] (λr=>r=xF x):=by
 have I:=ut st hs;refine zD ?_;obtain⟨op,⟨P,R,⟨vk,vn,vs⟩,ks⟩,i,J,j,l,U,tb⟩:=st;subst g;refine xg.s T8 ?_;refine aI I ?_;rw[o];refine aI p ?_;exact⟨rfl,rfl⟩
theorem au0 (d:am Nmd)(cols:am Col)(st:Stp)(g:st.op=9)(hs:st.sorts.length<=1000000)(o:(st.err !=0)=false)(x:Int×am Col)(p:Sat Pg WQ [.c (.d (.sl (zm cols))),.agg st.cs] (λr=>r=xF x)):Sat Pg zK [.c (.d (.sl (zu d))),.c (.d (.sl (zm cols))),st.w] (λr=>r=xF x):=by
 have I:=ut st hs;refine zD ?_;obtain⟨op,⟨P,R,⟨vk,vn,vs⟩,ks⟩,i,J,j,l,U,tb⟩:=st;subst g;refine xg.s T8 ?_;refine aI I ?_;rw[o];refine aI p ?_;exact⟨rfl,rfl⟩
theorem auX (d:am Nmd)(cols:am Col)(st:Stp)(g:st.op=6)(hs:st.sorts.length<=1000000)(o:(st.err !=0)=false)(x:Int×am Col)(p:Sat Pg vK [.c (.d (.sl (zu d))),.c (.d (.sl (zm cols))),.agg st.cs] (λr=>r=xF x)):Sat Pg zK [.c (.d (.sl (zu d))),.c (.d (.sl (zm cols))),st.w] (λr=>r=xF x):=by
 have I:=ut st hs;refine zD ?_;obtain⟨op,⟨P,R,⟨vk,vn,vs⟩,ks⟩,i,J,j,l,U,tb⟩:=st;subst g;refine xg.s T8 ?_;refine aI I ?_;rw[o];refine aI p ?_;exact⟨rfl,rfl⟩
theorem auY (d:am Nmd)(cols:am Col)(st:Stp)(g:st.op=7)(hs:st.sorts.length<=1000000)(o:(st.err !=0)=false)(x:Int×am Col)(p:Sat Pg vK [.c (.d (.sl (zu d))),.c (.d (.sl (zm cols))),.agg st.cs] (λr=>r=xF x)):Sat Pg zK [.c (.d (.sl (zu d))),.c (.d (.sl (zm cols))),st.w] (λr=>r=xF x):=by
 have I:=ut st hs;refine zD ?_;obtain⟨op,⟨P,R,⟨vk,vn,vs⟩,ks⟩,i,J,j,l,U,tb⟩:=st;subst g;refine xg.s T8 ?_;refine aI I ?_;rw[o];refine aI p ?_;exact⟨rfl,rfl⟩
theorem auZ (d:am Nmd)(cols:am Col)(st:Stp)(g:st.op=8)(hs:st.sorts.length<=1000000)(o:(st.err !=0)=false)(x:Int×am Col)(p:Sat Pg vK [.c (.d (.sl (zu d))),.c (.d (.sl (zm cols))),.agg st.cs] (λr=>r=xF x)):Sat Pg zK [.c (.d (.sl (zu d))),.c (.d (.sl (zm cols))),st.w] (λr=>r=xF x):=by
 have I:=ut st hs;refine zD ?_;obtain⟨op,⟨P,R,⟨vk,vn,vs⟩,ks⟩,i,J,j,l,U,tb⟩:=st;subst g;refine xg.s T8 ?_;refine aI I ?_;rw[o];refine aI p ?_;exact⟨rfl,rfl⟩
theorem auS (d:am Nmd)(cols:am Col)(st:Stp)(p:st.op=1)(hs:st.sorts.length<=1000000)(g:(st.err !=0)=false)(hl:cols.length<=1000000)(he:st.cond.err=0):Sat Pg zK [.c (.d (.sl (zu d))),.c (.d (.sl (zm cols))),st.w] (λr=>r=xF (whT cols st.cond)):=by
 have o:=ut st hs;have l:=J9 cols st.cond he;have hK:=w6 cols hl;unfold whT aqC;generalize Ex.ty cols st.cond=t at*;obtain⟨U,t2⟩:=t;refine zD ?_;obtain⟨op,⟨eo,nm,⟨vk,vn,vs⟩,ks⟩,I,aa,J,P,sn,tb⟩:=st;subst p;have R:=Wm U 1;generalize vq U 1=f at*;cases h2:(t2 !=0)with
 |true=>
  have i:(t2==0)=false:=by
   grind
  simp only[aK,h2];refine xg.s T8 ?_;refine aI o ?_;rw[g];refine aI l ?_;refine zw (λc=>?_) (λc=>?_)
  ·have c:(t2==0)=true:=c;rw[i]at c;cases c
  refine zi (λd=>?_) (λd=>?_)
  ·exact⟨rfl,rfl⟩
  grind
 |false=>
  have j:t2=0:=by grind
  subst j;cases f with
  |true=>
   refine xg.s T8 ?_;refine aI o ?_;rw[g];refine aI l ?_;refine aI R ?_;refine aI hK ?_;exact⟨rfl,rfl⟩
  |false=>
   refine xg.s T8 ?_;refine aI o ?_;rw[g];refine aI l ?_;refine aI R ?_;exact⟨rfl,rfl⟩
theorem auW (d:am Nmd)(cols:am Col)(st:Stp)(g:st.op=5)(hs:st.sorts.length<=1000000)(i:(st.err !=0)=false)(j:cols.length<=1000000):Sat Pg zK [.c (.d (.sl (zu d))),.c (.d (.sl (zm cols))),st.w] (λr=>r=xF (0,cols)):=by
 have h:=ams d cols st g hs j;rw[i]at h;exact h
theorem auV (d:am Nmd)(cols:am Col)(st:Stp)(R:st.op=4)(hs:st.sorts.length<=1000000)(h1:(st.err !=0)=false)(hl:cols.length<=1000000):Sat Pg zK [.c (.d (.sl (zu d))),.c (.d (.sl (zm cols))),st.w] (λr=>r=xF (soT cols st.sorts)):=by
 have hS:=ut st hs;have hK:=w6 cols hl;unfold soT;refine zD ?_;obtain⟨op,⟨eo,nm,⟨vk,vn,vs⟩,ks⟩,U,ab,aa,g,sn,tb⟩:=st;simp only at*;subst R;refine xg.s T8 ?_;refine aI hS ?_;rw[h1];refine WS T8 (xg.l 0) g.length (λi=>⟨[(1,.w (.c (.d (.sl (zm cols))))),(57,.w (.c (.d (.sl (xQ g))))),(58,zl (xQ g).length),(59,zl i)],[]⟩) (λi=>wS cols (g.take i)=false) ?_
 intro i hi hR;have p: ∀h:i<g.length,wS cols (g.take (i+1))=decide (zj cols g[i].col<0):=λh=>by
  grind[wS,zR]
 have j: ∀h:i<g.length,decide (zj cols g[i].col<0)=true ->wS cols g=true:=λh hb=>by
  exact List.any_eq_true.2 ⟨g[i],aM h,hb⟩
 refine zi (λh2=>?_) (λh2=>?_)
 ·have o:i<g.length:=by simp_all[Z4]
  have hg:=Jc o;have p:=p o;have j:=j o;have I:=xJ cols g[i].col;have wi:=zC o (by omega);generalize g[i]=s at*;obtain⟨sc,sd⟩:=s;generalize zj cols sc=c at*;refine yu hg ?_;refine aI I ?_;refine zw (λJ=>?_) (λJ=>?_)
  ·rw[j (show decide (c<0)=true from J)];exact⟨rfl,rfl⟩
  have p:wS cols (g.take (i+1))=false:=p.trans J;refine y6 o p ?_;rw[wi];rfl
 have P:g.length<=i:=by grind[Z4]
 rw[aR P]at hR;rw[hR];refine aI hK ?_;exact⟨rfl,rfl⟩
theorem atE {st:Stp}(h:st.err=0):st.uses=true:=by
 unfold Stp.err at h;have:=(yl (by omega) h).1<;>simp_all
theorem abo {st:Stp}(h:st.err=0):1<=st.op /\st.op<=9:=by
 have g:=atE h<;>grind[Stp.uses,V5]
theorem ayd {st:Stp}(h:st.err=0)(g:st.op=1):st.cond.err=0:=by
 unfold Stp.err at h;have h:=(yl (by omega) h).2<;>simp_all[V8]
theorem abB: ∀(l:am Itm) (g:am ByteArray),x8 g l=0 -> ∀x∈l,x.e.chk=0
 | [],_,_,x,i=>by cases i
 |y::r,g,h,x,i=>by
  simp only[x8]at h;cases j:(y.e.chk !=0)
  ·rw[j,aF]at h;cases o:(yp g y.nm !=0)
   ·rw[o,aF]at h;rcases bD.1 i with rfl|i
    ·simpa using j
    exact abB r _ h x i
   simp_all
  simp_all
theorem aye {st:Stp}(h:st.err=0)(g:st.op=2): ∀x∈st.items,x.e.chk=0:=by
 unfold Stp.err at h;have h:=(yl (by omega) h).2;rw[g]at h;have h:(bif uz st.items.length 1 !=0 then uz st.items.length 1 else x8 [] st.items)=0:=h;cases i:(uz st.items.length 1 !=0)
 ·rw[i,aF]at h
  grind[abB]
 simp_all
theorem jU (d:am Nmd)(cols:am Col)(st:Stp)(hk:st.OK)(o:cols.length<=1000000)(l: ∀t,zZ st.table d=some t ->t.cols.length<=1000000):Sat Pg zK [.c (.d (.sl (zu d))),.c (.d (.sl (zm cols))),st.w] (λr=>r=xF (ye d cols st)):=by
 unfold ye;cases j:(st.err !=0)with
 |true=>exact aqd d cols st hk.sorts j
 |false=>
  have h0:st.err=0:=by grind
  have g:=abo h0;have g:st.op=1\/st.op=2\/st.op=3\/st.op=4\/st.op=5\/st.op=6\/st.op=7\/st.op=8\/st.op=9:=by omega
  rcases g with g|g|g|g|g|g|g|g|g
  ·have:=auS d cols st g hk.sorts j o (ayd h0 g)
   grind
  ·have:=auT d cols st g hk.sorts j _ (amm cols st.items (λx p=>V8 (aye h0 g x p)) hk.items)
   grind
  ·have i:=amp cols st hk.cols hk.aggs;rw[axr]at i;have:=auU d cols st g hk.sorts j _ i
   grind
  ·have:=auV d cols st g hk.sorts j o
   grind
  ·have:=auW d cols st g hk.sorts j o
   grind
  ·have i:=anQ d cols st g hk.cols o l;rw[axw]at i;have:=auX d cols st g hk.sorts j _ i;rw[g];exact this
  ·have i:=amq d cols st g hk.cols o l;rw[aos]at i;have:=auY d cols st g hk.sorts j _ i;rw[g];exact this
  ·have i:=amr d cols st g hk.cols o l;rw[aos]at i;have:=auZ d cols st g hk.sorts j _ i;rw[g];exact this
  have:=au0 d cols st g hk.sorts j _ (ajK cols st hk.cols)
  grind
def aap (d:am Nmd)(cols:am Col):am Stp ->Int×am Col
 | []=>(0,cols)
 |s::r=>bif (ye d cols s).1 !=0 then((ye d cols s).1,[])else aap d (ye d cols s).2 r
def VJ (d:am Nmd)(q:Qry):Int×am Col:=
 bif yI d !=0 then(yI d,[])else bif q.err !=0 then(q.err,[])else match zZ q.src d with
 |none=>(17,[])
 |some t=>aap d t.cols q.steps
def adf (cols:am Col)(rows:D)(j:am ByteArray)(i:Nat)(g:am Int):S:=⟨[(2,cV (.ptr 2 0)),(5,cV (.own 19 1 g.length)),(8,.w (.c (.d (.sl (zp j))))),(9,zl (zp j).length),(10,zl i)],
 [(2,.box [.d (.sl (zm cols)),.d rows]),(19,.arr 1 (zg g) false)]⟩
theorem qp (cols:am Col)(rows:D)(g:am ByteArray)(hn:g.length<=1000000):Sat Pg adt [.agg [.d (.sl (zm cols)),.d rows],.c (.d (.sl (zp g)))] (λr=>r=rC (.d (.sl (zg (zh cols g))))):=by
 refine zD ?_;refine YF.s T8 ?_;refine yx (P:=Pg) (f:=T8.f) (body:=(YF.l 0)) g.length (λi=>adf cols rows g i (zh cols (g.take i))) (λ_=>True) ⟨trivial,⟨_,zW 5 19 1 (by omega) (by omega) rfl,?_⟩⟩ ?_
 ·exact rfl
 intro i hi _;have aa:(zh cols (g.take i)).length=i:=by grind[zh]
 have R: ∀h:i<g.length,zh cols (g.take (i+1))=zh cols (g.take i)++[zj cols g[i]]:=λh=>by
  grind[zh,zR]
 have p:g.length<=i ->zh cols g=zh cols (g.take i):=λh=>by grind
 show mwpR Pg T8.f (YF.l 0) _ (adf cols rows g i (zh cols (g.take i)));generalize zh cols (g.take i)=T at*;have I:(zg T).take T.length=zg T:=by grind[zB]
 unfold adf;refine zi (λU=>?_) (λU=>?_)
 ·have j:i<g.length:=by simp_all[zF]
  have hg:=wL j;have o:=xz cols (.d rows) g[i] ⟨rows,rfl⟩;refine yu hg ?_;refine aI o ?_;refine wu ?_;refine y6 j trivial ?_;rw[zC j (by omega),I,R,<- vu,aH];rfl
 have J:g.length<=i:=by grind[zF]
 rw[p J];refine⟨rfl,?_⟩;show Res.mk (.w (.c (.d (.sl ((zg T).take T.length))))) []=_;rw[I];rfl
def k7 (row:am Val)(at_:am Int)(i:Nat)(g:am Val):S:=⟨[(0,.w (yt row)),(5,cV (.own 20 3 g.length)),(8,.w (.c (.d (.sl (zg at_))))),(9,zl (zg at_).length),(10,zl i)],
 [(20,.arr 3 (rowD g) false)]⟩
theorem ub (row:am Val)(at_:am Int)(hn:at_.length<=1000000)(R:zQ row.length at_):Sat Pg afS [yt row,.c (.d (.sl (zg at_)))] (λr=>r=rC (.d (.sl (rowD (zn row at_))))):=by
 refine zD ?_;refine xq T8 Qa.ok (by kernel_rfl) ?_;refine yx (P:=Pg) (f:=T8.f) (body:=(Qa.l 0)) at_.length (λi=>k7 row at_ i (zn row (at_.take i))) (λ_=>True) ⟨trivial,⟨_,zW 5 20 3 (by omega) (by omega) rfl,?_⟩⟩ ?_
 ·exact rfl
 intro i hi _;have aa:(zn row (at_.take i)).length=i:=by grind[zn]
 have j: ∀h:i<at_.length,zn row (at_.take (i+1))=zn row (at_.take i)++[at0 row (at_[i]).toNat]:=λh=>by
  grind[zn,zR]
 have o:at_.length<=i ->zn row at_=zn row (at_.take i):=λh=>by grind
 show mwpR Pg T8.f (Qa.l 0) _ (k7 row at_ i (zn row (at_.take i)));generalize zn row (at_.take i)=T at*;have p:(rowD T).take T.length=rowD T:=by grind[zt]
 unfold k7;refine zi (λU=>?_) (λU=>?_)
 ·have g:i<at_.length:=by simp_all[zB]
  have hg:=y5 g;have j:=j g;have hk:=R _ (aM g);generalize at_[i]=k at*;have J:(rowD row)[k.toNat]? =some (at0 row k.toNat).ds:=by
   grind[at0,rowD]
  refine yu hg ?_;refine yu J ?_ (hA:=hk.1);refine wu ?_;refine y6 g trivial ?_;rw[zC g (by omega),p,j,<- vT,aH];rfl
 have I:at_.length<=i:=by grind[zB]
 rw[o I];refine⟨rfl,?_⟩;show Res.mk (.w (.c (.d (.sl ((rowD T).take T.length))))) []=_;rw[p];rfl
def trS (cols:am Col)(j:am ByteArray)(i:Nat)(g:am Int):S:=⟨[(1,.w (.c (.d (.sl (zp j))))),(5,cV (.own 24 1 g.length)),(9,.w (.c (.d (.sl (zm cols))))),(10,zl cols.length),(11,zl i)],[(24,.arr 1 (zg g) false)]⟩
theorem aeZ (cols:am Col)(rows:D)(g:am ByteArray)(aa:cols.length<=1000000):Sat Pg Zu [.agg [.d (.sl (zm cols)),.d rows],.c (.d (.sl (zp g)))] (λr=>r=rC (.d (.sl (zg (oth g 0 cols))))):=by
 refine zD ?_;refine Qb.s T8 ?_;rw[zV];refine yq (P:=Pg) (f:=T8.f) (body:=(Qb.l 0)) (λx:Nat×am Int=>trS cols g x.1 x.2) (λx=>cols.length - x.1) (λx=>x.1<=cols.length /\x.2.length<=x.1 /\oth g 0 cols=x.2++oth g x.1 (cols.drop x.1)) ⟨(0,[]),⟨aP _,aA _,rfl⟩,⟨_,zW 5 24 1 (by omega) (by omega) rfl,?_⟩⟩ ?_
 ·exact rfl
 rintro⟨i,A⟩ hx;obtain⟨hi,hA,o⟩:i<=cols.length /\A.length<=i /\oth g 0 cols=A++oth g i (cols.drop i):=hx;show mwpR Pg T8.f (Qb.l 0) _ (trS cols g i A);have p:(zg A).take A.length=zg A:=by grind[zB]
 unfold trS;refine jH (λj=>?_) (λJ=>?_)
 ·rw[zq j]at o;simp only[oth]at o;have hg:=xC j;have U:=zC j (by omega);have R:=yi g cols[i].name;generalize cols[i]=c at*;obtain⟨c1,c2⟩:=c;generalize hasB g c1=b at*;refine yu hg ?_;refine aI R ?_;refine zw (b:=!b) (λI=>?_) (λI=>?_)
  ·rw[I,aK]at o;refine wu ?_;refine⟨(i+1,A++[(i:Int)]),⟨⟨j,by simp;omega,?_⟩,by grind⟩,ze ?_⟩
   ·grind
   (conv=>whnf);rw[U,p];show _=trS cols g (i+1) (A++[(i:Int)]);unfold trS;rw[aH,<- vu];rfl
  rw[I,aF,List.nil_append]at o;refine⟨(i+1,A),⟨⟨j,by grind,o⟩,by grind⟩,ze ?_⟩;rw[U];rfl
 rw[aC J]at o;have o:oth g 0 cols=A:=by grind[oth]
 rw[o];refine⟨rfl,?_⟩;show Res.mk (.w (.c (.d (.sl ((zg A).take A.length))))) []=_;rw[p];rfl
def ZB (a b:am Val):Bool:=xN a b&& !a.any (qI yf)
theorem acf (a b:am Val):Sat Pg aev [yt a,yt b] (λr=>r=rB (ZB a b)):=by
 have g:=Zy a b;have i:=Z0 a yf;unfold ZB;generalize xN a b=s at*;cases s
 ·refine Uv.s T8 ?_;refine aI g ?_;rfl
 refine Uv.s T8 ?_;refine aI g ?_;refine aI i ?_;rfl
theorem vW (l:am ByteArray)(g:l.length<=1000000):Sat Pg ku [.c (.d (.sl (zp l)))] (λr=>(l=[]/\r=rC .nil)\/r=ab0 1 (zp l)):=by
 refine xq T8 K1.ok (by kernel_rfl) ?_;refine⟨λh=>?_,?_⟩
 ·conv=>whnf
  left
  refine⟨?_,rfl⟩;cases l with
  |nil=>rfl
  |cons a r=>cases h
 (conv=>whnf);refine⟨avg l,by grind[ym,zF],by grind[zF],?_⟩
 right
 show Res.mk (.w (.c (.own 0 1 (([]:am (am D)).length+(zp l).length)))) [.arr 1 (([]:am (am D)).take ([]:am (am D)).length++zp l) false]=_;simp_all[ab0]
def xK (a b:Val):Bool:=a.k==2&&b.k==2&&decide (a.n<b.n)
def QA (a b:Val):Res:=⟨.tup [.agg [int a.n,int b.n],.c (bool (xK a b))],[]⟩
theorem U8 (row:am Val)(p q:Int)(l:0<=p /\p<row.length)(o:0<=q /\q<row.length):Sat Pg afT [yt row,.c (.d (.sl (zg [p,q])))] (λr=>r=QA (at0 row p.toNat) (at0 row q.toNat)):=by
 have g: ∀k:Int,0<=k /\k<row.length ->(rowD row)[k.toNat]? =some (at0 row k.toNat).ds:=λk hk=>by
  grind[at0,rowD]
 have i:=g p l;have j:=g q o;generalize at0 row p.toNat=a at*;generalize at0 row q.toNat=b at*;obtain⟨I,a2,a3⟩:=a;obtain⟨J,P,R⟩:=b;refine afq.s T8 ?_
 repeat' (first
  |(refine⟨by omega,[.lit (.int .i64 p)],rfl,rfl,?_⟩;conv=>whnf)
  |(refine⟨by omega,[.lit (.int .i64 q)],rfl,rfl,?_⟩;conv=>whnf)
  |(refine⟨l.1,_,i,rfl,?_⟩;conv=>whnf)
  |(refine⟨o.1,_,j,rfl,?_⟩;conv=>whnf)
  |(refine And.intro ?_ ?_<;>conv=>whnf))
 all_goals refine zw (λh=>?_) (λh=>?_)
 all_goals conv=>whnf
 all_goals repeat' (first
  |(refine And.intro ?_ ?_<;>conv=>whnf))
 all_goals have h:(I==2&&J==2)=_:=h
 all_goals simp only[QA,xK,h,cB,ck]
 all_goals rfl
def WY:ByteArray:=⟨#[98]⟩
def jW (op:Int)(g:am ByteArray)(tb:ByteArray):Stp:=⟨op,.mk 0 ⟨#[]⟩ ⟨0,0,⟨#[]⟩⟩ [],[],g,[],[],0,tb⟩
def Jf (op:Int)(g:am ByteArray)(a:Tbl):Int×am Col:=bif zL a !=0 then(zL a,[])else ye [] a.cols (jW op g ⟨#[]⟩)
def jV (op:Int)(g:am ByteArray)(a b:Tbl):Int×am Col:=bif zL a !=0 then(zL a,[])else bif zL b !=0 then(zL b,[])else ye [⟨WY,b⟩] a.cols (jW op g WY)
theorem amQ (op:Int)(g:am ByteArray)(tb:ByteArray)(h:g.length<=1000000):(jW op g tb).OK:=⟨aP _,h,aP _,aP _⟩
theorem aqc (op:Int)(g:am ByteArray)(a:Tbl)(o:g.length<=1000000)(j:a.cols.length<=1000000):Sat Pg WP [.c (int op),.c (.d (.sl (zp g))),.c (.d (.sl [a.ds]))] (λr=>r=xF (Jf op g a)):=by
 have hk:=qb a;have p:=jU [] a.cols (jW op g ⟨#[]⟩) (amQ op g _ o) j (λt I=>by cases I);unfold Jf;generalize zL a=e at*;generalize ye [] a.cols (jW op g ⟨#[]⟩)=x at*;obtain⟨U,x2⟩:=x;obtain⟨J,R⟩:=a;refine zD ?_;refine uQ.s T8 ?_;refine wB (P:=Pg) (f:=T8.f) (body:=(uQ.l 0)) 2 ?_;refine vw ?_;refine aI hk ?_;refine zw (λi=>?_) (λi=>?_)
 ·rw[show(e !=0)=true from i];exact⟨rfl,rfl⟩
 rw[show(e !=0)=false from i];refine vw ?_;refine aI p ?_;exact⟨rfl,rfl⟩
theorem aaj (op:Int)(g:am ByteArray)(a b:Tbl)(I:g.length<=1000000)(o:a.cols.length<=1000000)(aa:b.cols.length<=1000000):Sat Pg WP [.c (int op),.c (.d (.sl (zp g))),.c (.d (.sl [a.ds,b.ds]))] (λr=>r=xF (jV op g a b)):=by
 have hk:=qb a;have p:=qb b;have hT:=jU [⟨WY,b⟩] a.cols (jW op g WY) (amQ op g _ I) o (λt ht=>by
  grind[zZ])
 unfold jV;generalize zL a=e at*;generalize zL b=J at*;generalize ye [⟨WY,b⟩] a.cols (jW op g WY)=x at*;obtain⟨x1,x2⟩:=x;obtain⟨R,U⟩:=a;obtain⟨bc,br⟩:=b;refine zD ?_;refine uQ.s T8 ?_;refine wB (P:=Pg) (f:=T8.f) (body:=(uQ.l 0)) 3 ?_;refine vw ?_;refine aI hk ?_;refine zw (λi=>?_) (λi=>?_)
 ·rw[show(e !=0)=true from i];exact⟨rfl,rfl⟩
 rw[show(e !=0)=false from i];(conv=>whnf);refine⟨by decide,_,rfl,rfl,?_⟩;refine aI p ?_;refine zw (λj=>?_) (λj=>?_)
 ·rw[show(J !=0)=true from j];exact⟨rfl,rfl⟩
 rw[show(J !=0)=false from j];(conv=>whnf)
 repeat' (first
  |(refine⟨by decide,[.sl (zm bc),.sl (zf br)],rfl,rfl,?_⟩;conv=>whnf)
  |(refine⟨by decide,[.sl (zm R),.sl (zf U)],rfl,rfl,?_⟩;conv=>whnf)
  |(refine And.intro ?_ ?_<;>conv=>whnf))
 all_goals refine bA hT ?_
 all_goals rintro _ rfl
 all_goals conv=>whnf
 all_goals exact⟨rfl,rfl⟩
end
section
open Go Go.AM
theorem akk {ι:Nat ->Gh}{pl:am (Nat×Pl)}{q:Nat}{cs i:am C}(h:aget pl q=some (.box cs))(b:Nat):Owns ι (yD q (.box i) pl) b↔Owns ι pl b:=by
 constructor
 ·rintro⟨p,x,g,l,j⟩;rw[yA]at g;split at g
  ·rename_i e;subst e;cases g;exact⟨q,_,h,rfl,j⟩
  exact⟨p,x,g,l,j⟩
 rintro⟨p,x,g,l,j⟩;by_cases e:q=p
 ·subst e;rw[h]at g;cases g;exact⟨q,.box i,by rw[yA,aL rfl],rfl,j⟩
 exact⟨p,x,by rw[yA,aG e];exact g,l,j⟩
theorem asd {F:Fr}{N:Nat}{ι:Nat ->Gh}{s:S}{a:Act}{w:aY}(hr:Rel F N ι s a w){q:Nat}{cs i:am C}(h:aget s.pl q=some (.box cs))
 (hc: ∀vs,CRs ι w (F.ok ι s.pl w) cs vs ->CRs ι w (F.ok ι s.pl w) i vs):Rel F N ι (s.withPl (yD q (.box i) s.pl)) a w:=by
 have o:F.ok ι (yD q (.box i) s.pl) w=F.ok ι s.pl w:=by
  funext b;unfold Fr.ok;rw[propext (akk h b)]
 refine⟨hr.room,λk v hv=>?_,λp x l=>?_,λp r x y b l hy ab hl hb=>?_,λb hb=>hr.mine b ((akk h b).1 hb),hr.defers,hr.grows,hr.foreign,hr.handed,hr.few,hr.hdom,λp x g l hg=>?_⟩
 ·show∃x,a.tmps[k]? =some x /\VR ι w (F.ok ι (yD q (.box i) s.pl) w) v x;rw[o];exact hr.slots k v hv
 ·show PR ι w (F.ok ι (yD q (.box i) s.pl) w) p x;rw[o];have j:aget (yD q (.box i) s.pl) p=some x:=l;clear l;rw[yA]at j;split at j
  ·rename_i e;subst e;cases j;obtain⟨b,J,P,R,U⟩:=hr.places q _ h;exact⟨b,J,P,R,hc _ U⟩
  exact hr.places p x j
 ·have get: ∀{p:Nat}{x:Pl},aget (s.withPl (yD q (.box i) s.pl)).pl p=some x -> ∃I,aget s.pl p=some I /\I.live=x.live /\ ∀b,foot ι p x b ->foot ι p I b:=fun{p x} l=>by
   have j:aget (yD q (.box i) s.pl) p=some x:=l;clear l;rw[yA]at j;split at j
   ·rename_i e;subst e;cases j;exact⟨_,h,rfl,λ_ h=>h⟩
   exact⟨x,j,rfl,λ_ h=>h⟩
  obtain⟨I,P,R,h4⟩:=get l;obtain⟨y',U,_,h5⟩:=get hy;exact λaa=>hr.inj p r I y' b P U ab (R.trans hl) (h4 b hb) (h5 b aa)
 have l:aget (yD q (.box i) s.pl) p=some x:=l;rw[yA]at l;split at l
 ·rename_i e;subst e;exact hr.hkeep q _ g h hg
 exact hr.hkeep p x g l hg
theorem anW {ι:Nat ->Gh}{w:aY}{ok:Nat ->Prop}{j:C}(l: ∀v,CR ι w ok .nil v ->CR ι w ok j v): ∀(cs:am C) (vs:am Value) (i:Nat),cs[i]? =some .nil ->CRs ι w ok cs vs ->CRs ι w ok (cs.set i j) vs
 | [],_,i,h,_=>by cases i<;>cases h
 |c::r,[],_,_,h=>h.elim
 |c::r,v::vs,0,h,g=>by
  have h:c= .nil:=by simpa using h
  subst h;exact⟨l v g.1,g.2⟩
 |c::r,v::vs,i+1,h,g=>⟨g.1,anW l r vs i (by simpa using h) g.2⟩
def an5 (pl:am (Nat×Pl))(q i:Nat):Option C:=match aget pl q with
 |some (.box cs)=>cs[i]?
 |_=>none
def asB (pl:am (Nat×Pl))(q i:Nat)(c:C):am (Nat×Pl):=match aget pl q with
 |some (.box cs)=>yD q (.box (cs.set i c)) pl
 |_=>pl
def S.boxNil (s:S)(q i p sz:Nat):S:=(s.redo [p] [(p,.arr sz [] false)]).withPl (asB (s.redo [p] [(p,.arr sz [] false)]).pl q i (.own p sz 0))
theorem jm {s:S}(q i p sz:Nat)(j:0<sz)(J:p<100000)(h:an5 (s.redo [p] [(p,.arr sz [] false)]).pl q i=some .nil):X0 s (S.boxNil s q i p sz):=by
 intro F N ι a w hr;have I:F.h p=none:=by
  cases e:F.h p with
  |none=>rfl
  |some g=>have:=hr.hdom p g e;omega
 have hrel:=hr.noRow (d:=p) [p] (by simp[isin]) j I;unfold S.boxNil;generalize s.redo [p] [(p,.arr sz [] false)]=t at*;unfold an5 at h;unfold asB;cases l:aget t.pl q with
 |none=>rw[l]at h;cases h
 |some x=>
  rw[l]at h;cases x with
  |box cs=>
   refine⟨_,asd hrel l λvs r=>anW (λv o=>?_) cs vs i h r⟩;have o:v= .slice none 0 0:=o;exact .inl ⟨by rw[zJ],rfl,o⟩
  |arr a b c=>cases h
  |fbox a=>cases h
  |deep a=>cases h
  |gone=>cases h
end
end Go.Proofs.YtkdijaiaplkliaaGreatDoor
