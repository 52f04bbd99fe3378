import Derived.ProofKit
import Derived.ChangeArms
import Derived.DataReads
import Derived.Carry
import Derived.Below
import Derived.ChangeSame
import Derived.WalkKit
import Derived.OpenShut
import Derived.JoinedOf
import Derived.Sort.Statements
import Derived.Test.YtnlbmefhdiabcaaGreatZt8
set_option linter.unusedSimpArgs false
set_option linter.unusedVariables false
set_option maxRecDepth 100000
set_option maxHeartbeats 4000000
open _root_ renaming List->am,of_decide_eq_false->aD,of_decide_eq_true->aE,if_neg->aF,cond_false->aG,cond_true->aJ,if_pos->aL,congrArg->bC,decide_eq_false->bQ,Option->co,beq_eq_false_iff_ne->cH,bne_self_eq_false->cN
open Nat renaming le_refl->aA,le_trans->aN,mul_le_mul_right->aO,zero_le->aT,succ_mul->aY,eq_of_beq_eq_true->bF,zero_mul->bG,min_eq_left->bJ,lt_or_ge->bT,lt_of_lt_of_le->bV,min_eq_right->cc,zero_add->cP
open Go.IntKind renaming i64->aB,wrap_i64->cR
open List renaming drop_eq_nil_of_le->aC,length_append->aI,getElem_mem->aM,take_length->aP,append_nil->aQ,mem_cons_self->aR,take_of_length_le->aS,map_append->aU,replicate->aV,mem_cons_of_mem->aW,append_assoc->bA,map_take->bE,rel_of_pairwise_cons->bH,take_succ_eq_append_getElem->bL,take_append_drop->bM,length_take->bO,length_drop->bP,mem_cons->bZ,mem_append->cA,mem_append_right->cC,mem_append_left->cD,take_add->cJ,mem_singleton->cK
open Go renaming IntKind->aH,FuncId->aX,DataW->aZ,heap_alloc_old->bK,MemPlace->bU
open Go.AM.Sat renaming w->aK,mono->bI
open Bool renaming and_eq_true->bB,or_false->bY,or_eq_true->cB,or_eq_false_iff->cE
open Go.Value renaming okWide->bD
open List.Pairwise renaming of_cons->bN,cons->cM,nil->cQ
open Go.AM.RD renaming keep->bR
open Go.DataW renaming TrodAll->bS
open Go.Proofs.YtnlbmefhdiabcaaGreat.GW renaming gr->bW
open Int renaming le_refl->bX
open List.Perm renaming refl->cF
open Prod renaming fst->cG
open Go.World renaming grownBy_alloc->cI
open Go.Proofs.YtnlbmefhdiabcaaGreat.Ex renaming val->cL
namespace Go.Proofs.YtnlbmefhdiabcaaGreat
section
open Go Go.AM Go.Proofs Go.RowKit
theorem Wg{W:World}{B e s n:Nat}{v}{xs}(h:W.ownsRow B e s v n xs)(l:n≠0):∃j cap,v=.slice (some ⟨j,0,none⟩) n cap:=by
 rcases h.2 with⟨_,h0⟩|⟨g,cap,i,rfl,_⟩
 .grind
 grind
theorem GInv.grow{A:Nat->Prop}{B}{W W'}{v}{gs:am GW}{E:Nat->Prop}(h:GInv A B W v gs E)(hB:B<=W.heap.size)(i:Grows (λ_=>False) W W'):GInv A B W' v gs (λb=>(E b\/W.heap.size<=b)/\b<W'.heap.size):=
 h.more hB i.size (λb g=>i.block b g λh=>h) (λb g=>⟨.inl g,bV (h.dlt b g) i.size⟩) (λb g=>⟨g.2,g.1⟩)
theorem GInv.kg{A:Nat->Prop}{B}{W W'}{v}{gs:am GW}{E:Nat->Prop}(h:GInv A B W v gs E)(i:Grows (λ_=>False) W W'):zP W W' E (λb=>(E b\/W.heap.size<=b)/\b<W'.heap.size):=
 λb g=>⟨⟨.inl g,bV (h.dlt b g) i.size⟩,i.block b (h.dlt b g) λh=>h⟩
theorem YJ{B}{w W W'}(h:Below B w W)(hB:B<=W.heap.size)(g:Grows (λ_=>False) W W'):Below B w W':=
 ⟨g.os.trans h.os,g.tape.trans h.tape,g.output.1.trans h.output,aN h.size g.size,λk hk=>(g.block k (bV hk hB) λh=>h).trans (h.block k hk)⟩
theorem ae1{A:Nat->Prop}{w W}(hA:(∀b,A b->b<w.heap.size)/\Glb A w)(h:Below w.heap.size w W):Glb A W:=λk hk=>by obtain⟨g,m,i⟩:=hA.2 k hk;exact⟨g,m,(h.cell (p:=⟨k,0,none⟩) (hA.1 k g)).trans i⟩
theorem avn{A:Nat->Prop}{B}{w W}{l cap}{gs}{E:Nat->Prop}(h:GInv A B W (.slice (some ⟨l,0,none⟩) gs.length cap) gs E)(hB:B<=W.heap.size){p}(hp:p<gs.length){x}{o j}(hx:RD W E (.sl (rowD x)) o){r}{g}(hg:gs[p]=g)
 (R:r.ownsRow B tR 1 j (g.rows.length+1) (g.rvs++[o])) (I:(W.alloc (.cells #[o] tR)).grownBy r g.rv.ownBlock) (hd:(W.alloc (.cells #[o] tR)).drawn<=r.drawn/\WJ (W.alloc (.cells #[o] tR)) g.rv j) (P:Below B w W) (ac:w.drawn<=W.drawn):
 r.cell? ⟨l,p*2+1,none⟩=some g.rv/\r.frozen? ⟨l,p*2+1,none⟩=false/\GInv A B (r.setCell ⟨l,p*2+1,none⟩ j) (.slice (some ⟨l,0,none⟩) gs.length cap) (gs.set p ⟨g.key,g.rows++[x],g.kv,j,g.rvs++[o]⟩) E/\
  Below B w (r.setCell ⟨l,p*2+1,none⟩ j)/\w.drawn<=(r.setCell ⟨l,p*2+1,none⟩ j).drawn:=by
 subst hg;have ha:GInv A B (W.alloc (.cells #[o] tR)) (.slice (some ⟨l,0,none⟩) gs.length cap) gs E:=
  h.more hB ep (λb J=>bK W _ J) (λ_ h=>h) (λb J=>⟨by have:=h.dlt b J;simp;omega,.inl J⟩)
 have af:RD (W.alloc (.cells #[o] tR)) E (.sl (rowD x)) o:=bR (λb J=>⟨J,bK W _ (h.dlt b J)⟩) _ _ hx;have T:gs[p]∈gs:=aM hp;have ae:gs[p].rv.ownBlock≠some l:=h.apart _ T l rfl;have i:=ha.own.kept I (.inr λe=>ae e.symm);have hc:=J8 hp;rw[show p*2+1=2*p+1 by omega];have ad:=ha.addRow hp af R I hd.2;obtain⟨s1,s2⟩:=i.stored (2*p+1) j;have U:Below B w (W.alloc (.cells #[o] tR)):=P.grown (cI W _ none) hB (λk e=>by cases e);have aa:Below B w r:=U.grown I ew (λk e=>((h.rows _ T).1.lt k e).1);have ab:=aa.grown s2 (aN ew I.size) (λk e=>by cases e;exact(h.own.lt l rfl).1);exact⟨by rw[i.cellAt (2*p+1) ej];exact hc.2,i.frozenAt _,ad,ab,aN ac hd.1⟩
theorem GInv.rvCell{A:Nat->Prop}{B}{W}{i cap}{gs}{E:Nat->Prop}(h:GInv A B W (.slice (some ⟨i,0,none⟩) gs.length cap) gs E){p}(l:p<gs.length){g}(j:gs[p]=g):W.cell? ⟨i,p*2+1,none⟩=some g.rv:=by subst j;rw[show p*2+1=2*p+1 by omega,h.own.cellAt (2*p+1) ej];simp_all[J8]
theorem aqD{gs:am GW}{p}(l:p<gs.length){g}(j:gs[p]=g)(x)(i)(rvs):(gs.set p ⟨g.key,g.rows++[x],g.kv,i,rvs⟩).map bW=YS (gs.map bW) p x:=by subst j;unfold YS;rw[am.getElem?_map,am.getElem?_eq_getElem l,List.map_set];rfl
theorem awq{gs}{p}{x}{n}(h:∀g∈gs,g.rows.length<=n):∀g∈YS gs p x,g.rows.length<=n+1:=by grind[YS]
theorem azQ{gs}{k}{n}(h:∀g∈gs,g.rows.length<=n):∀g∈vu gs k,g.rows.length<=n:=by
 unfold vu;cases uN gs k
 .intro g i;simp only[aG,cA,cK]at i;rcases i with(i|rfl)|i
  .grind
  .simp_all
  grind
 exact h
theorem acS(at_)(rows:am (am Val)):∀i,∀g∈vO at_ (rows.take i),g.rows.length<=i
 |0=>by simp[vO]
 |i+1=>by
  by_cases h:i<rows.length
  .rw[acT at_ h];exact awq (azQ (acS at_ rows i))
  rw[aS ej];have:=acS at_ rows i<;>grind[aS]
theorem aiF{w:World}{x}{t}:∀j u,[x][j]?=some u->(w.alloc (.cells #[x] t)).cell? ((⟨w.heap.size,0,none⟩:Addr).add j)=some u:=by
 intro j u g
 match j,g with
 |0,g=>simp_all[Addr.add]
 |(j+1),g=>grind
theorem ab5{w}{ok:Nat->Prop}{l}{v}(h:RD w ok (.sl l) v):∃a n c,v=.slice a n c:=by obtain⟨a,n,c,rfl,_⟩:=h<;>grind
theorem aAr{w}{ok:Nat->Prop}{l}{v}(h:RD w ok (.sl l) v):∀u∈ [v],u.oneCell'=true:=by intro u g;simp at g;subst g;obtain⟨a,n,c,rfl,_⟩:=h;rfl
theorem avB{a:Type}(l:am a){p}(i:p<=l.length)(g):(l.take p++[g]++l.drop p).length=l.length+1/\∃h:p<(l.take p++[g]++l.drop p).length,(l.take p++[g]++l.drop p)[p]=g:=ek
theorem GInv.ins{A:Nat->Prop}{B}{W W'}{v}{gs}{E:Nat->Prop}(h:GInv A B W v gs E)(hB:B<=W.heap.size){p}(R:p<=gs.length){key}{j}(I:RD W E (.sl (rowD key)) j){o}{P cap}{g}(r:gs.take p++[⟨key,[],j,.slice none 0 0,[]⟩]++gs.drop p=g)
 (J:W'.ownsRow B tG 2 (.slice (some ⟨P,0,none⟩) (gs.length+1) cap) (gs.length+1) ((cellsG gs).take (2*p)++[j,.slice none 0 0]++(cellsG gs).drop (2*p))) (l:(W.alloc o).grownBy W' v.ownBlock) (hf:WJ (W.alloc o) v (.slice (some ⟨P,0,none⟩) (gs.length+1) cap)):
 g.length=gs.length+1/\GInv A B W' (.slice (some ⟨P,0,none⟩) g.length cap) g E/\(∀d u,RD W E d u->RD W' E d u)/\∃h:p<g.length,g[p]=⟨key,[],j,.slice none 0 0,[]⟩:=by
 subst r;have T:=(avB gs R (⟨key,[],j,.slice none 0 0,[]⟩:GW)).1;have U:GInv A B (W.alloc o) v gs E:=h.more hB ep (λb i=>bK W _ i) (λ_ h=>h) (λb i=>⟨by have:=h.dlt b i;simp;omega,.inl i⟩);have hk:RD (W.alloc o) E (.sl (rowD key)) j:=bR (λb i=>⟨i,bK W _ (h.dlt b i)⟩) _ _ I;refine⟨T,?_,λd u hd=>?_,(avB gs R _).2⟩
 .rw[T];exact U.insert R hk J l hf
 refine bR (λb i=>⟨i,?_⟩) _ _ hd;rw[l.block b (by have:=h.dlt b i;simp;omega) λe=>h.vD b e.symm i];exact bK W _ (h.dlt b i)
theorem aE9(gs:am GW)(p)(key)(g):(gs.take p++[(⟨key,[],g,.slice none 0 0,[]⟩:GW)]++gs.drop p).map bW=(gs.map bW).take p++[⟨key,[]⟩]++(gs.map bW).drop p:=by grind[bW,bE,List.map_drop]
set_option maxRecDepth 100000 in
set_option maxHeartbeats 4000000 in
theorem aud(w:World)(A:Nat->Prop)(hA:(∀b,A b->b<w.heap.size)/\Glb A w)(cv:Value)(rb ro rc:Nat)(ao:co Addr)(an ac:Nat)(at_:am Int)(rows:am (am Val))(b0:an≠0)(b7:rows.length<=1000000)
 (a6:RD w A (.sl (zB at_)) (.slice ao an ac)) (bs:A rb) (aa:∀(i:Nat) (h:i<rows.length),∃u,w.cell? ⟨rb,ro+i,none⟩=some u/\RD w A (.sl (rowD rows[i])) u)
 (au:∀r∈rows,yB r.length at_) (a7:at_.length<=1000000)
 (I:∀(i:Nat) (h:i<rows.length),uN (vO at_ (rows.take i)) (pickL rows[i] at_)=false->aqe (vO at_ (rows.take i)).length (xl (vO at_ (rows.take i)) (pickL rows[i] at_))):
 Calls Tryz.prog 218 #[.agg #[cv,.slice (some ⟨rb,ro,none⟩) rows.length rc],.slice ao an ac] w λe w'=>∃v gs E,e=.returned v/\GInv A w.heap.size w' v gs E/\gs.map bW=vO at_ rows/\Below w.heap.size w w'/\w.drawn<=w'.drawn:=by
 have bk:=hA.1 rb bs;obtain⟨ir,bf,bh,bi,bj⟩:=info_parts aEm
 go_enter Tryz.func218,Tryz.ntmps218
 go_wp2
 rw[show((an:Int)==0)=false by grind]
 go_loopw [5,21] (λv i wr=>∃(k:Nat) (gs:am GW) (E:Nat->Prop),k<=rows.length/\i=.int .i64 k/\GInv A w.heap.size wr v gs E/\gs.map bW=vO at_ (rows.take k)/\Below w.heap.size w wr/\w.drawn<=wr.drawn) (λ_ i _=>rows.length-(intOf i).toNat)
 case atStart=>exact⟨0,[],A,aT _,rfl,GInv.nil (λb hb=>by have:=hA.1 b hb;simp;omega),rfl,(Below.refl _ _).alloc (aA _) _,aA _⟩
 case round=>
  obtain⟨k,gs,E,hk,rfl,o,ae,l,a0⟩:=hrel;have hB:=l.size;by_cases ad:k<rows.length
  .obtain⟨xv,a8,bl⟩:=aa k ad;have hc:wr.cell? ⟨rb,ro+k,none⟩=some xv:=(l.cell (p:=⟨rb,ro+k,none⟩) bk).trans a8;have a5:zP w wr A E:=λb hb=>⟨o.dA b hb,l.block b (hA.1 b hb)⟩
   have hx:RD wr E (.sl (rowD rows[k])) xv:=bR a5 _ _ bl;have al:RD wr E (.sl (zB at_)) (.slice ao an ac):=bR a5 _ _ a6;obtain⟨xa,xn,xc,rfl⟩:=ab5 hx;have aq:Glb A wr:=ae1 hA l;have ag:Calls Tryz.prog 221 #[.slice xa xn xc,.slice ao an ac] wr λe w'=>∃v,e=.returned v/\RD w' (λb=>(E b\/wr.heap.size<=b)/\b<w'.heap.size) (.sl (rowD (pickL rows[k] at_))) v/\Grows (λ_=>False) wr w':=
    aDo (adp rows[k] at_ a7 (au _ (aM ad))) wr E [.slice xa xn xc,.slice ao an ac] ⟨o.dlt,λk hk=>⟨o.dA _ (aq k hk).1,(aq k hk).2⟩⟩ ⟨hx,al,trivial⟩
   have b4:gs.length<=k:=by grind[Kw]
   have I:=I k ad;rw[<-ae]at I;have T:=acT at_ ad;have ak:=acS at_ rows k;rw[<-ae]at ak;have ak:∀g∈gs,g.rows.length<=k:=λg hg=>ak g.gr (List.mem_map_of_mem hg)
   rw[<-ae]at T;clear aa au a8 bl al a6;generalize rows[k]=x at*;unfold ji vu at T;generalize b6:pickL x at_=key at*;cases hh:uN (gs.map bW) key with
   |true=>
    rw[hh]at T;have hp:=avy hh;rw[List.length_map]at hp;obtain⟨gb,cap,rfl⟩:=Wg o.own ej;have R:∀(W2:World) (E2:Nat->Prop) (kv:Value),GInv A w.heap.size W2 (.slice (some ⟨gb,0,none⟩) gs.length cap) gs E2->Glb A W2->RD W2 E2 (.sl (rowD key)) kv->Calls Tryz.prog 257 #[.slice (some ⟨gb,0,none⟩) gs.length cap,kv,.func (.func 258) #[] #[]] W2 λe w'=>e=.returned (.tuple #[.int .i64 (xl (gs.map bW) key),.bool true])/\Grows (λ_=>False) W2 w':=λW2 E2 kv h1 h2 h3=>by have:=h1.search h2 ej h3<;>grind
    generalize xl (gs.map bW) key=p at*;clear I;obtain⟨g,hg⟩:∃g,gs[p]=g:=⟨_,rfl⟩;have bd:g∈gs:=hg▸aM hp;have b5:=ak g bd
    go_wp2_with (first
     |(go_at_call 221;refine ag.mono ?_;rintro e w1 ⟨kv,rfl,ab,j⟩;obtain⟨ka,kn,kc,rfl⟩:=ab5 ab)
     |(go_at_call 257;have h1:=o.grow hB j;refine(R w1 _ _ h1 (ae1 hA (YJ l hB j)) ab).mono ?_;rintro e w2 ⟨rfl,J⟩;have h2:=h1.grow (aN hB j.size) J;have ah:=aN hB (aN j.size J.size);have av:=YJ (YJ l hB j) (aN hB j.size) J;have ay:=aN a0 (aN j.output.2 J.output.2);have ax:=h2.rvCell hp hg;have a3:=bR (h1.kg J) _ _ (bR (o.kg j) _ _ hx))
     |(at_builtin;refine Zp _ rfl (.tmp 48) (.tmp 50) 30 rfl w.heap.size tR ir (.slice none 0 0) 1 24 Tryz.underlying30 bf bh bi bj rfl et _ _ _ rfl (((h2.rows g bd).1).alloc _) ⟨w2.heap.size,0,none⟩ 1 1 [.slice xa xn xc] rfl rfl aiF (aAr hx) (by simp only[maxLen];omega) ej ew ?_;intro b8 w3 P U a9 _;obtain⟨bw,bu,rfl⟩:=Wg P ej;obtain⟨b1,bc,ai,aw,az⟩:=avn h2 ah hp a3 hg P U a9 av ay))
    go_roundw
    case rel=>
     exact⟨k+1,_,_,ad,by go_num,ai,(aqD hp hg x _ _).trans T.symm,aw,az⟩
    case measure=>simp[intOf];omega
   |false=>
    rw[hh]at T;have hp:=KA (gs.map bW) key;have I:=I hh;rw[List.length_map]at hp I;have R:∀(W2:World) (E2:Nat->Prop) (kv:Value),GInv A w.heap.size W2 u5 gs E2->Glb A W2->RD W2 E2 (.sl (rowD key)) kv->Calls Tryz.prog 257 #[u5,kv,.func (.func 258) #[] #[]] W2 λe w'=>e=.returned (.tuple #[.int .i64 (xl (gs.map bW) key),.bool false])/\Grows (λ_=>False) W2 w':=λW2 E2 kv h1 h2 h3=>by have:=h1.search h2 ej h3<;>grind
    generalize xl (gs.map bW) key=p at*
    go_wp2_with (first
     |(go_at_call 221;refine ag.mono ?_;rintro e w1 ⟨kv,rfl,ab,j⟩;obtain⟨ka,kn,kc,rfl⟩:=ab5 ab)
     |(go_at_call 257;have h1:=o.grow hB j;refine(R w1 _ _ h1 (ae1 hA (YJ l hB j)) ab).mono ?_;rintro e w2 ⟨rfl,J⟩;have h2:=h1.grow (aN hB j.size) J;have ah:=aN hB (aN j.size J.size);have av:=YJ (YJ l hB j) (aN hB j.size) J;have ay:=aN a0 (aN j.output.2 J.output.2);have a3:=bR (h1.kg J) _ _ (bR (o.kg j) _ _ hx);have bg:=bR (h1.kg J) _ _ ab)
     |(go_at_call 259;refine(I _ w.heap.size u5 (cellsG gs) (h2.own.alloc _) ew h2.ones w2.heap.size _ _ (heap_alloc_new w2 _) (λe=>Nat.lt_irrefl _ (h2.own.lt _ e).2) rfl rfl).mono ?_;rintro e w3 ⟨v3,rfl,P,U,bb,bc⟩;obtain⟨gb,cap,rfl⟩:=Wg P ej;obtain⟨a4,ar⟩:∃a4,gs.take p++[⟨key,[],Value.slice ka kn kc,.slice none 0 0,[]⟩]++gs.drop p=a4:=⟨_,rfl⟩;obtain⟨bq,h3,aj,a2,a1⟩:=h2.ins ah hp bg ar P U bc;have ax:w3.cell? ⟨gb,p*2+1,none⟩=some (.slice none 0 0):=h3.rvCell a2 a1;have bt:=aj _ _ a3;have bm:w.heap.size<=w3.heap.size:=aN ew U.size;have aw:Below w.heap.size w w3:=(av.grown (cI w2 _ none) ah (λk e=>by cases e)).grown U ew (λk e=>(h2.own.lt k e).1);have az:w.drawn<=w3.drawn:=aN ay bb)
     |(at_builtin;refine Zp _ rfl (.tmp 48) (.tmp 50) 30 rfl w.heap.size tR ir (.slice none 0 0) 1 24 Tryz.underlying30 bf bh bi bj rfl et _ _ _ rfl (World.ownsRow_nil _ _ _ _) ⟨w3.heap.size,0,none⟩ 1 1 [.slice xa xn xc] rfl rfl aiF (aAr hx) (by simp only[maxLen];omega) ej ew ?_;intro b9 w4 af be ba _;obtain⟨bz,bv,rfl⟩:=Wg af ej;obtain⟨b2,b3,ai,bn,bo⟩:=avn h3 bm a2 bt a1 af be ba aw az))
    go_roundw
    case rel=>
     rw[bq]at ai;exact⟨k+1,_,_,ad,by go_num,ai,((aqD a2 a1 x _ _).trans (by rw[<-ar,aE9];rfl)).trans T.symm,bn,bo⟩
    case measure=>simp[intOf];omega
  have bp:k=rows.length:=ej
  subst bp;rw[aP]at ae;clear aa
  go_wp2
  go_ret
  exact⟨_,gs,E,rfl,o,ae,l,a0⟩
def K8(gs:am Gr):=gs.map λg=> [D.sl (rowD g.key),D.sl (zd g.rows)]
theorem aCe(l):(K8 l).length=l.length:=by simp[K8]
theorem aCd{r}{i:Nat}(h:i<r.length):(K8 r)[((i:Int)).toNat]?=some [D.sl (rowD r[i].key),D.sl (zd r[i].rows)]:=by grind[K8]
def vh(at_)(rows):=if at_=[]then [⟨[],rows⟩]else vO at_ rows
theorem ahA{w w'}(h:Below w.heap.size w w')(j:w.drawn<=w'.drawn):Grows (λ_=>False) w w':=by
 refine⟨h.os,h.tape,⟨h.output,j⟩,h.size,λb i _=>h.block b i,λb t m hs=>?_⟩;have g:b<w.heap.size:=by
  rcases bT b w.heap.size with h|h
  .exact h
  simp[World.shape?,Array.getElem?_eq_none h]at hs
 simp only[World.shape?,h.block b g];exact hs
theorem aC5{w w':World}{A:Nat->Prop}{d}{v}(h:RD w' (λb=>(A b\/w.heap.size<=b)/\b<w'.heap.size) d v):acp ⟨w,A,λ_=>False,λ_=>none⟩ w' (rC (.d d)) v:=by
 refine⟨aA _,λ_=>⟨none,0⟩,?_,?_,?_,?_,?_,?_⟩
 .show RD w' _ d v;refine bR (λb i=>⟨⟨?_,i.2,?_⟩,rfl⟩) _ _ h
  .grind
  rintro⟨p,x,g,_⟩;cases g
 .intro p y g;cases g
 .grind
 .grind
 .intro p y g;cases g
 grind
theorem aya(cols)(rows)(at_)(ar:rows.length<=1000000)(I:∀r∈rows,yB r.length at_)(ab:at_.length<=1000000)
 (p:∀(i:Nat) (h:i<rows.length),uN (vO at_ (rows.take i)) (pickL rows[i] at_)=false->aqe (vO at_ (rows.take i)).length (xl (vO at_ (rows.take i)) (pickL rows[i] at_))):
 ex XO [.agg [.d (.sl (zj cols)),.d (.sl (zd rows))],.c (.d (.sl (zB at_)))] (rC (.d (.sl (K8 (vh at_ rows))))):=by
 by_cases T:at_=[]
 .subst T;refine zJ ?_;show Sat Pg XO _ (DQ (rC (.d (.sl [[.sl [],.sl (zd rows)]]))));clear p I;refine z7 T8 VU.ok er ?_;exact⟨rfl,rfl⟩
 have ak:at_.length≠0:=λh=>T (List.eq_nil_of_length_eq_zero h)
 have hq:vh at_ rows=vO at_ rows:=aF T;rw[hq];by_cases hr:rows=[]
 .subst hr;refine zJ ?_;show Sat Pg XO _ (DQ (rC (.d (.sl []))));have e:(((zB at_).length:Int)==0)=false:=by grind[xg]
  clear p I;refine VU.s T8 ?_;rw[e];(conv=>whnf);refine jp (P:=Pg) (f:=T8.f) (body:=(VU.l 0)) 1 ?_;exact⟨rfl,rfl⟩
 refine⟨er,λw A ai hA J=>?_⟩
 match ai,J with
 |[],J=>exact J.elim
 |[_],J=>exact J.2.elim
 |_::_::_::_,J=>exact J.2.2.elim
 |[tv,av],J=>
 obtain⟨au,aw,_⟩:=J;obtain⟨vs,rfl,j⟩:=au
 match vs,j with
 |[],j=>exact j.elim
 |[_],j=>exact j.2.elim
 |_::_::_::_,j=>exact j.2.2.elim
 |[cv,rv],j=>
 have ah:RD w A (.sl (zd rows)) rv:=j.2.1;have U:RD w A (.sl (zB at_)) av:=aw;have ad:=U;simp only[RD]at ah U;obtain⟨a,n,c,rfl,hn,_,_,ag⟩:=ah;obtain⟨ao,an,ac,rfl,aa,_⟩:=U;rw[zq]at hn;subst hn;rw[xg]at aa;subst aa;rcases ag with h|⟨b,o,sz,rfl,aj,ag⟩
 .simp_all[zd]
 have R:∀(i:Nat) (h:i<rows.length),∃u,w.cell? ⟨b,o+i,none⟩=some u/\RD w A (.sl (rowD rows[i])) u:=by
  have gen:∀(rows:am (am Val)) (o:Nat),RDs w A b sz o (zd rows)->∀(i:Nat) (h:i<rows.length),∃u,w.cell? ⟨b,o+i,none⟩=some u/\RD w A (.sl (rowD rows[i])) u:=by
   intro rows;induction rows with
   |nil=>grind
   |cons x r ih=>
    intro o hd i h;simp only[zd,List.map_cons,RDs,RDc]at hd;obtain⟨h1,⟨⟨u,h2,h3⟩,_⟩,h4⟩:=hd;have hs:sz=1:=ek
    subst hs;cases i with
    |zero=>grind
    |succ i=>
     obtain⟨u,h5,h6⟩:=ih (o+1) h4 i (by simpa using h);exact⟨u,by rw[<-h5];congr 2;omega,h6⟩
  grind
 refine(aud w A hA cv b o c ao at_.length ac at_ rows ak ar ad aj R I ab p).mono ?_;rintro e w' ⟨v,gs,E,rfl,af,aq,ae,al⟩;refine⟨v,_,rfl,rfl,aC5 ?_,ahA ae al⟩;have:=af.data;have e:K8 (vO at_ rows)=gs.map λg=> [D.sl (rowD g.key),D.sl (zd g.rows)]:=by rw[<-aq];simp[K8,bW]
 grind
end
section
open Go Go.AM
attribute [local irreducible] Sat zH z6
def gI(h n):=aB.wrap (h+Wy false .i64 n 32)
def loI(l n):=aB.wrap (l+WQ .and .i64 n 4294967295)
def kL:Int->Int->am Val->co (Int×Int)
 |h,l,[]=>some (h,l)
 |h,l,v::r=>bif v.k !=2 then none else kL (gI h v.n) (loI l v.n) r
def anr(h l):=
 bif decide (gI h l>1048576)||decide (gI h l< -1048576)then zF else
 qp (aB.wrap (Wy true .i64 (gI h l) 32+WQ .and .i64 l 4294967295)) (inB (aB.wrap (Wy true .i64 (gI h l) 32+WQ .and .i64 l 4294967295)))
def XE(l:am Val):Val:=match kL 0 0 l with
 |some (h,x)=>anr h x
 |none=>zF
theorem aFz(l):ex aku [zE l] (rV (XE l)):=by
 refine yZ 0 er rfl λo=>?_
 rw[zp]at o;refine ajP.s T8 ?_;refine yD (P:=Pg) (f:=T8.f) (body:=(ajP.l 0)) (λx:Nat×Int×Int=>⟨[(2,cV (.ptr 2 0)),(3,zh x.2.1),(4,zh x.2.2),(8,.w (zE l)),(9,zh (rowD l).length),(10,zh x.1)],[(2,.box [int 0,int 0,str ⟨#[]⟩])]⟩) (λx=>l.length-x.1) (λx=>x.1<=l.length/\kL 0 0 l=kL x.2.1 x.2.2 (l.drop x.1)) ⟨(0,0,0),⟨aT _,rfl⟩,zi ?_⟩ ?_
 .exact rfl
 rintro⟨i,h,I⟩ hx;obtain⟨hi,g⟩:i<=l.length/\kL 0 0 l=kL h I (l.drop i):=hx;refine zg (λJ=>?_) (λJ=>?_)
 .have j:i<l.length:=by have J:decide ((i:Int)<((rowD l).length:Int))=true:=J;simp_all[zp]
  have U:=yq j;rw[zm j]at g;simp only[kL]at g;have wi:=zu j o;generalize l[i]=v at*;obtain⟨v1,T,v3⟩:=v;simp only at g;refine zw U ?_;refine zg (b:=v1 !=2) (λp=>?_) (λp=>?_)
  .rw[p,aJ]at g;have hs:XE l=zF:=by grind[XE]
   rw[hs];exact rfl
  rw[p,aG]at g;(conv=>whnf);refine⟨ej,?_⟩;(conv=>whnf);refine⟨(i+1,gI h T,loI I T),⟨⟨j,g⟩,ek⟩,zi ?_⟩;(conv=>whnf);rw[wi];rfl
 have R:l.length<=i:=by grind[zp]
 rw[aC R]at g;have hs:XE l=anr h I:=by unfold XE;rw[g];rfl
 rw[hs];unfold anr;clear hs g;(conv=>whnf);refine⟨ej,?_⟩;refine zg (b:=decide (gI h I>1048576)||decide (gI h I< -1048576)) (λp=>?_) (λp=>?_)
 .rw[p];exact rfl
 rw[p];simp only[aG];(conv=>whnf);refine⟨ej,?_⟩;(conv=>whnf);unfold gI;generalize aB.wrap (Wy true .i64 (aB.wrap (h+Wy false .i64 I 32)) 32+WQ .and .i64 I 4294967295)=z;cases inB z<;>rfl
def vX(m:Val):am Val->Val
 |[]=>m
 |v::r=>vX (bif decide (zS v m<0)then v else m) r
def Z6(m:Val):am Val->Val
 |[]=>m
 |v::r=>Z6 (bif decide (zS v m>0)then v else m) r
theorem aFv(l)(h0:0<l.length):ex Zz [zE l,.c (.d (.fn qe []))] (rV (vX l[0] (l.drop 1))):=by
 refine yZ 0 er rfl λo=>?_
 rw[zp]at o;have p:=yq h0;have e0:decide (((rowD l).length:Int)<1)=false:=bQ ek;generalize l[0]=m0 at*;obtain⟨m1,m2,m3⟩:=m0;refine Qt.s T8 ?_;rw[e0];refine zw p ?_;refine yD (P:=Pg) (f:=T8.f) (body:=(Qt.l 0)) (λx:Nat×Val=>⟨[(0,.w (zE l)),(1,.w (.c (.d (.fn qe [])))),(4,cV (.ptr 4 0)),(5,cV (.ptr 5 0)),(6,zh x.1)],[(4,.box [int 0,int 0,str ⟨#[]⟩]),(5,.box [int x.2.k,int x.2.n,str x.2.s])]⟩) (λx=>l.length-x.1) (λx=>x.1<=l.length/\vX ⟨m1,m2,m3⟩ (l.drop 1)=vX x.2 (l.drop x.1)) ⟨(1,⟨m1,m2,m3⟩),⟨h0,rfl⟩,zi ?_⟩ ?_
 .exact rfl
 rintro⟨i,⟨I,J,R⟩⟩ hx;obtain⟨hi,j⟩:i<=l.length/\vX ⟨m1,m2,m3⟩ (l.drop 1)=vX ⟨I,J,R⟩ (l.drop i):=hx;clear e0 p;refine zg (λT=>?_) (λT=>?_)
 .have g:i<l.length:=by have T:decide ((i:Int)<((rowD l).length:Int))=true:=T;simp_all[zp]
  have hg:=yq g;rw[zm g]at j;simp only[vX]at j;have wi:=zu g o;generalize l[i]=v at*;obtain⟨v1,v2,v3⟩:=v;have hc:=uE ⟨v1,v2,v3⟩ ⟨I,J,R⟩;generalize zS ⟨v1,v2,v3⟩ ⟨I,J,R⟩=c at*;refine zw hg ?_;refine aK hc ?_;refine zt (b:=decide (c<0)) (λU=>?_) (λU=>?_)
  .rw[U,aJ]at j;refine zw hg ?_;refine⟨(i+1,⟨v1,v2,v3⟩),⟨⟨g,j⟩,ek⟩,zi ?_⟩;(conv=>whnf);rw[wi];rfl
  rw[U,aG]at j;(conv=>whnf);refine⟨(i+1,⟨I,J,R⟩),⟨⟨g,j⟩,ek⟩,zi ?_⟩;(conv=>whnf);rw[wi];rfl
 have aa:l.length<=i:=by grind[zp]
 rw[aC aa]at j;simp only[vX]at j;rw[j];exact rfl
theorem aFu(l)(h0:0<l.length):ex Zy [zE l,.c (.d (.fn qe []))] (rV (Z6 l[0] (l.drop 1))):=by
 refine yZ 0 er rfl λo=>?_
 rw[zp]at o;have p:=yq h0;have e0:decide (((rowD l).length:Int)<1)=false:=bQ ek;generalize l[0]=m0 at*;obtain⟨m1,m2,m3⟩:=m0;refine Qs.s T8 ?_;rw[e0];refine zw p ?_;refine yD (P:=Pg) (f:=T8.f) (body:=(Qs.l 0)) (λx:Nat×Val=>⟨[(0,.w (zE l)),(1,.w (.c (.d (.fn qe [])))),(4,cV (.ptr 4 0)),(5,cV (.ptr 5 0)),(6,zh x.1)],[(4,.box [int 0,int 0,str ⟨#[]⟩]),(5,.box [int x.2.k,int x.2.n,str x.2.s])]⟩) (λx=>l.length-x.1) (λx=>x.1<=l.length/\Z6 ⟨m1,m2,m3⟩ (l.drop 1)=Z6 x.2 (l.drop x.1)) ⟨(1,⟨m1,m2,m3⟩),⟨h0,rfl⟩,zi ?_⟩ ?_
 .exact rfl
 rintro⟨i,⟨I,J,R⟩⟩ hx;obtain⟨hi,j⟩:i<=l.length/\Z6 ⟨m1,m2,m3⟩ (l.drop 1)=Z6 ⟨I,J,R⟩ (l.drop i):=hx;clear e0 p;refine zg (λT=>?_) (λT=>?_)
 .have g:i<l.length:=by have T:decide ((i:Int)<((rowD l).length:Int))=true:=T;simp_all[zp]
  have hg:=yq g;rw[zm g]at j;simp only[Z6]at j;have wi:=zu g o;generalize l[i]=v at*;obtain⟨v1,v2,v3⟩:=v;have hc:=uE ⟨v1,v2,v3⟩ ⟨I,J,R⟩;generalize zS ⟨v1,v2,v3⟩ ⟨I,J,R⟩=c at*;refine zw hg ?_;refine aK hc ?_;refine zt (b:=decide (c>0)) (λU=>?_) (λU=>?_)
  .rw[U,aJ]at j;refine zw hg ?_;refine⟨(i+1,⟨v1,v2,v3⟩),⟨⟨g,j⟩,ek⟩,zi ?_⟩;(conv=>whnf);rw[wi];rfl
  rw[U,aG]at j;(conv=>whnf);refine⟨(i+1,⟨I,J,R⟩),⟨⟨g,j⟩,ek⟩,zi ?_⟩;(conv=>whnf);rw[wi];rfl
 have aa:l.length<=i:=by grind[zp]
 rw[aC aa]at j;simp only[Z6]at j;rw[j];exact rfl
def zK(l:am Val):=l.filter λv=>v.k !=0
def vj:ByteArray:=⟨#[99,111,117,110,116]⟩
def aaY:ByteArray:=⟨#[115,117,109]⟩
def ak8:ByteArray:=⟨#[102,105,114,115,116]⟩
def amW:ByteArray:=⟨#[109,105,110]⟩
def amV:ByteArray:=⟨#[109,97,120]⟩
def vS(fn)(l):=
 bif zl fn vj then⟨2,l.length,⟨#[]⟩⟩else bif zl fn aaY then XE (zK l)else
 bif zl fn ak8&&decide ((l.length:Int)>0)then at0 l 0 else
 bif zl fn amW&&decide (((zK l).length:Int)>0)then vX (at0 (zK l) 0) ((zK l).drop 1)else
 bif zl fn amV&&decide (((zK l).length:Int)>0)then Z6 (at0 (zK l) 0) ((zK l).drop 1)else zF
def agS(fn:ByteArray)(l:am Val)(i:Nat)(g:am Val):S:=⟨[(0,.w (.c (str fn))),(1,.w (zE l)),(4,cV (.ptr 4 0)),(5,cV (.own 20 3 g.length)),(8,.w (zE l)),(9,zh (rowD l).length),(10,zh i)],
 [(4,.box [int 0,int 0,str ⟨#[]⟩]),(20,.arr 3 (rowD g) false)]⟩
theorem Kt{l}{i}(h:i<l.length):at0 l i=l[i]:=by grind[at0]
theorem aFs(fn)(l)(ae:l.length<=1000000):ex acX [.c (str fn),zE l] (rV (vS fn l)):=by
 have U:=aFz (zK l);have J:=λh=>aFv (zK l) h
 have I:=λh=>aFu (zK l) h
 have hA:∀h:0<(zK l).length,(zK l)[0]=at0 (zK l) 0:=λh=>(Kt h).symm
 have J:0<(zK l).length->ex Zz [zE (zK l),.c (.d (.fn qe []))] (rV (vX (at0 (zK l) 0) ((zK l).drop 1))):=λh=>ek
 have I:0<(zK l).length->ex Zy [zE (zK l),.c (.d (.fn qe []))] (rV (Z6 (at0 (zK l) 0) ((zK l).drop 1))):=λh=>ek
 have o:decide ((l.length:Int)>0)=true->(rowD l)[((0:Int)).toNat]?=some (at0 l 0).ds:=λh=>by
  have h:=aE h;have:=yq (r:=l) (i:=0) ej
  grind[Kt]
 unfold vS;refine acw.s T8 ?_;refine zX (P:=Pg) (f:=T8.f) (body:=(acw.l 0)) l.length (λi=>agS fn l i (zK (l.take i))) (λ_=>True) ⟨trivial,⟨_,zx 5 20 3 ej ej rfl,?_⟩⟩ ?_
 .exact rfl
 intro i hi _;have ac:(zK (l.take i)).length<=i:=by grind[zK]
 have g:∀h:i<l.length,zK (l.take (i+1))=zK (l.take i)++(bif l[i].k !=0 then [l[i]]else []):=λh=>ud (λv:Val=>v.k !=0) h
 have j:l.length<=i->zK l=zK (l.take i):=λh=>ek
 show mwpR Pg T8.f (acw.l 0) _ (agS fn l i (zK (l.take i)));generalize zK (l.take i)=T at*;have R:(rowD T).take T.length=rowD T:=by grind[zp]
 unfold agS;refine zg (λh1=>?_) (λh1=>?_)
 .have p:i<l.length:=by have h1:decide ((i:Int)<((rowD l).length:Int))=true:=h1;have:=aE h1;grind[zp]
  have hg:=yq p;have g:=g p;have wi:=zu p ej;clear U J I hA o j;generalize l[i]=v at*;obtain⟨v1,v2,v3⟩:=v;simp only at g;refine zw hg ?_;refine zg (b:=v1 !=0) (λh2=>?_) (λh2=>?_)
  .rw[h2,aJ]at g;refine yQ ?_;refine zI p trivial ?_;rw[wi,R,g,<-jr,aI];rfl
  rw[h2,aG,aQ]at g;refine zI p trivial ?_;rw[wi,g];rfl
 have ad:l.length<=i:=by grind[zp]
 have j:=j ad;subst j;clear g ac;refine zg (b:=zl fn vj) (λq1=>?_) (λq1=>?_)
 .rw[q1];(conv=>whnf);rw[zp];rfl
 rw[q1];simp only[aG];refine zg (b:=zl fn aaY) (λq2=>?_) (λq2=>?_)
 .rw[q2];simp only[aJ];have ab:ex aku [.c (.d (.sl ((rowD (zK l)).take (zK l).length)))] (rV (XE (zK l))):=by rw[R];exact U
  generalize XE (zK l)=u at*;obtain⟨u1,u2,u3⟩:=u;refine aK ab ?_;rfl
 rw[q2];simp only[aG];refine zg (b:=zl fn ak8&&decide (((rowD l).length:Int)>0)) (λq3=>?_) (λq3=>?_)
 .rw[zp]at q3;rw[q3];simp only[aJ];have hf:=o eu;generalize at0 l 0=u at*;obtain⟨u1,u2,u3⟩:=u;refine zw hf ?_;exact rfl
 rw[zp]at q3;rw[q3];simp only[aG];refine zg (b:=zl fn amW&&decide (((zK l).length:Int)>0)) (λq4=>?_) (λq4=>?_)
 .rw[q4];simp only[aJ];have h0:0<(zK l).length:=eu
  have aa:ex Zz [.c (.d (.sl ((rowD (zK l)).take (zK l).length))),.c (.d (.fn qe []))] (rV (vX (at0 (zK l) 0) ((zK l).drop 1))):=by rw[R];exact J h0
  generalize vX (at0 (zK l) 0) ((zK l).drop 1)=u at*;obtain⟨u1,u2,u3⟩:=u;refine aK aa ?_;rfl
 rw[q4];simp only[aG];refine zg (b:=zl fn amV&&decide (((zK l).length:Int)>0)) (λq5=>?_) (λq5=>?_)
 .rw[q5];simp only[aJ];have h0:0<(zK l).length:=eu
  have aa:ex Zy [.c (.d (.sl ((rowD (zK l)).take (zK l).length))),.c (.d (.fn qe []))] (rV (Z6 (at0 (zK l) 0) ((zK l).drop 1))):=by rw[R];exact I h0
  generalize Z6 (at0 (zK l) 0) ((zK l).drop 1)=u at*;obtain⟨u1,u2,u3⟩:=u;refine aK aa ?_;rfl
 rw[q5];simp only[aG];exact rfl
theorem Yn(l)(g:l.length<=1000000):Sat Pg acZ [zE l] (λr=>(l=[]/\r=rC .nil)\/r=aaU 3 (rowD l)):=by
 refine z7 T3 acy.ok er ?_;refine⟨λh=>?_,?_⟩
 .conv=>whnf
  left
  refine⟨?_,rfl⟩;cases l with
  |nil=>rfl
  |cons a r=>cases h
 (conv=>whnf);refine⟨Un l,by grind[zW,zp],by grind[zp],?_⟩
 right
 show Res.mk (.w (.c (.own 0 3 (([]:am (am D)).length+(rowD l).length)))) [.arr 3 (([]:am (am D)).take ([]:am (am D)).length++rowD l) false]=_;simp_all[aaU]
def vV(cols:am Col)(rows:am (am Val))(a:Agg):=
 bif decide (ze cols a.col>=0)&&!zl a.fn vj then rows.map λr=>at0 r (ze cols a.col).toNat else aV rows.length zF
def Yd(cols:am Col)(rows:am (am Val))(g:am Agg):=g.map λa=>vS a.fn (vV cols rows a)
def qI(cols:am Col)(i:am Agg)(g:Gr):=g.key++Yd cols g.rows i
def Stp.cs(s:Stp):am C:=match s.cond with|.mk g j v i=>wE s.op g j v i (yI s.items) (zo s.cols) (ql s.aggs) (yU s.sorts) s.n s.table
def gdA(cols:am Col)(rows:D)(st:Stp)(gs:am Gr)(i:Nat)(g:am (am Val)):S:=⟨[(2,cV (.ptr 2 0)),(3,cV (.ptr 3 0)),(5,cV (.own 78 1 g.length)),(20,.w (.c (.d (.sl (K8 gs))))),(21,zh gs.length),(22,zh i)],
 [(2,.box [.d (.sl (zj cols)),.d rows]),(3,.box st.cs),(78,.arr 1 (zd g) false)]⟩
def gdB(cols:am Col)(rows:D)(st:Stp)(gs:am Gr)(i:Nat)(o:am (am Val))(g:Gr)(l:am Agg)(j:Nat)(row:am Val):S:=⟨[(2,cV (.ptr 2 0)),(3,cV (.ptr 3 0)),(5,cV (.own 78 1 o.length)),(7,cV (.ptr 7 0)),(8,cV (.own 73 3 row.length)),(20,.w (.c (.d (.sl (K8 gs))))),(21,zh gs.length),(22,zh i),(30,.w (.c (.d (.sl (ql l))))),(31,zh l.length),(32,zh j)],
 [(2,.box [.d (.sl (zj cols)),.d rows]),(3,.box st.cs),(7,.box [.d (.sl (rowD g.key)),.d (.sl (zd g.rows))]),(73,.arr 3 (rowD row) false),(78,.arr 1 (zd o) false)]⟩
def gdC(cols:am Col)(rows:D)(st:Stp)(gs:am Gr)(i:Nat)(p:am (am Val))(g:Gr)(o:am Agg)(j:Nat)(row:am Val)(a:Agg)(k:Int)(m:Nat)(l:am Val):S:=⟨[(2,cV (.ptr 2 0)),(3,cV (.ptr 3 0)),(5,cV (.own 78 1 p.length)),(7,cV (.ptr 7 0)),(8,cV (.own 73 3 row.length)),(10,cV (.ptr 10 0)),(11,cV (.own 39 3 g.rows.length)),(12,zh k),(20,.w (.c (.d (.sl (K8 gs))))),(21,zh gs.length),(22,zh i),(30,.w (.c (.d (.sl (ql o))))),(31,zh o.length),(32,zh j),(52,.w (.c (.d (.sl (zd g.rows))))),(53,zh g.rows.length),(54,zh m)],
 [(2,.box [.d (.sl (zj cols)),.d rows]),(3,.box st.cs),(7,.box [.d (.sl (rowD g.key)),.d (.sl (zd g.rows))]),(10,.box [str a.fn,str a.col,str a.nm]),(39,.arr 3 (rowD l) false),(73,.arr 3 (rowD row) false),(78,.arr 1 (zd p) false)]⟩
def y5(s:S)(k:Nat)(v:V):S:=⟨s.sl++[(k,v)],s.pl⟩
theorem aDi(l)(i)(v):(rowD l).set i v.ds=rowD (l.set i v):=by grind[rowD,List.map_set]
def part(rows:am (am Val))(k:Int)(m):=(rows.take m).map (λr=>at0 r k.toNat)++aV (rows.length-m) zF
theorem aCX(rows)(k){m}(h:m<=rows.length):(part rows k m).length=rows.length:=by grind[part]
theorem aCY(rows)(k){m}(h:m<rows.length):(part rows k m).set m (at0 rows[m] k.toNat)=part rows k (m+1):=by
 unfold part;have g:((rows.take m).map λr=>at0 r k.toNat).length=m:=ew
 rw[List.set_append_right _ _ ej,g,Nat.sub_self,zD h,aU];obtain⟨n,i⟩:∃n,rows.length-m=n+1:=⟨rows.length-m-1,ej⟩
 grind
theorem aHx{Q:E->S->Prop}{s}(cols:am Col)(rows)(st)(gs:am Gr)(i)(I:am (am Val))(g:Gr)(o:am Agg)(j)(row:am Val)(a)(k:Int)(hk:0<=k/\k<cols.length)(ac:g.rows.length<=500000)(hw:∀r∈g.rows,r.length=cols.length)
 (h0:xO s [2,3,5,7,8,10,11,12,20,21,22,30,31,32,52,53,54] (· =gdC cols rows st gs i I g o j row a k 0 (aV g.rows.length zF)))
 (hQ:Q (.exit 4) (y5 (gdC cols rows st gs i I g o j row a k g.rows.length (g.rows.map λr=>at0 r k.toNat)) 55 (yf (decide ((g.rows.length:Int)<g.rows.length))))):
 z6 (mwpR Pg T8.f (qX.l 0)) [2,3,5,7,8,10,11,12,20,21,22,30,31,32,52,53,54] Q s:=by
 refine zX (P:=Pg) (f:=T8.f) (body:=(qX.l 0)) g.rows.length (λm=>gdC cols rows st gs i I g o j row a k m (part g.rows k m)) (λ_=>True) ⟨trivial,?_⟩ ?_
 .grind[part]
 intro m hm _;have J:=λh:m<g.rows.length=>aCY g.rows k h
 have ab:=aCX g.rows k hm;have T:m=g.rows.length->part g.rows k m=g.rows.map λr=>at0 r k.toNat:=λh=>by simp_all[part]
 show mwpR Pg T8.f (qX.l 0) _ (gdC cols rows st gs i I g o j row a k m (part g.rows k m));generalize part g.rows k m=l at*;obtain⟨key,R⟩:=g;obtain⟨op,⟨eo,nm,⟨v1,v2,v3⟩,ks⟩,ad,ai,ae,af,sn,tb⟩:=st;simp only at J ab T hm ac hw hQ;unfold gdC Stp.cs wE;refine zg (λh1=>?_) (λh1=>?_)
 .have p:m<R.length:=by have h1:decide ((m:Int)<(R.length:Int))=true:=h1;simp_all
  have hg:=zZ p;have J:=J p;have ah:=hw _ (aM p);have wi:=zu p ej;generalize R[m]=r at*;have aa:(rowD r)[k.toNat]?=some (at0 r k.toNat).ds:=by grind[Kt,rowD]
  generalize at0 r k.toNat=v at*;obtain⟨u1,u2,u3⟩:=v;have ag:(m:Int)<(rowD l).length:=by grind[zp]
  refine zw hg ?_;refine zw aa ?_ (hA:=hk.1);refine aw2 ?_ (hB:=ek);refine⟨_,yq (r:=l) (i:=m) ej,aA _,?_⟩;refine zI p trivial ?_;rw[wi,<-J,<-aDi];rfl
 have U:m=R.length:=ek
 have hf:=T U;subst U;subst hf;exact hQ
theorem arm(cols)(rows)(a):(vV cols rows a).length=rows.length:=by grind[vV]
theorem aHy{Q:E->S->Prop}{s}(cols)(rows)(st)(gs:am Gr)(i)(J:am (am Val))(g:Gr)(R:st.aggs.length<=100000)(ao:g.key.length<=500000)(aj:g.rows.length<=500000)(hw:∀r∈g.rows,r.length=cols.length)
 (h0:xO s [2,3,5,7,8,20,21,22,30,31,32] (· =gdB cols (.sl (zd rows)) st gs i J g st.aggs 0 g.key))
 (hQ:Q (.exit 2) (y5 (gdB cols (.sl (zd rows)) st gs i J g st.aggs st.aggs.length (qI cols st.aggs g)) 33 (yf (decide ((st.aggs.length:Int)<st.aggs.length))))):
 z6 (mwpR Pg T8.f (qX.l 1)) [2,3,5,7,8,20,21,22,30,31,32] Q s:=by
 refine zX (P:=Pg) (f:=T8.f) (body:=(qX.l 1)) st.aggs.length (λj=>gdB cols (.sl (zd rows)) st gs i J g st.aggs j (g.key++Yd cols g.rows (st.aggs.take j))) (λ_=>True) ⟨trivial,?_⟩ ?_
 .grind[Yd]
 intro j hj _;have an:(g.key++Yd cols g.rows (st.aggs.take j)).length=g.key.length+j:=by grind[Yd]
 have I:∀h:j<st.aggs.length,g.key++Yd cols g.rows (st.aggs.take (j+1))=(g.key++Yd cols g.rows (st.aggs.take j))++[vS (st.aggs[j]).fn (vV cols g.rows st.aggs[j])]:=λh=>by grind[Yd,zD]
 have ad:j=st.aggs.length->qI cols st.aggs g=g.key++Yd cols g.rows (st.aggs.take j):=λh=>by rw[h,aP];rfl
 show mwpR Pg T8.f (qX.l 1) _ (gdB cols (.sl (zd rows)) st gs i J g st.aggs j (g.key++Yd cols g.rows (st.aggs.take j)));generalize au:g.key++Yd cols g.rows (st.aggs.take j)=T at*;have ak:(rowD T).take T.length=rowD T:=by grind[zp]
 have al:=λ(Q':E->S->Prop) (s':S) (a:Agg) (k:Int) (hk:0<=k/\k<cols.length)=>aHx (Q:=Q') (s:=s') cols (.sl (zd rows)) st gs i J g st.aggs j T a k hk aj hw
 obtain⟨key,o⟩:=g;obtain⟨op,⟨eo,nm,⟨v1,v2,v3⟩,ks⟩,aq,aw,p,ar,sn,tb⟩:=st;simp only at I ad hj ao aj hw hQ an R;unfold gdB Stp.cs wE;refine zg (λh1=>?_) (λh1=>?_)
 .have ab:j<p.length:=by have h1:decide ((j:Int)<(p.length:Int))=true:=h1;have:=aE h1;omega
  have hg:=Y7 ab;have I:=I ab;have wi:=zu ab ej;generalize p[j]=a at*;have ac:=vN cols (.d (.sl (zd rows))) a.col ⟨_,rfl⟩;have av:=arm cols o a;have R:=aFs a.fn (vV cols o a) ej;have af:=Xg (λx=>zl x.name a.col) cols 0 (bX _);have af:0<=ze cols a.col->ze cols a.col<cols.length:=λh=>by grind[ze]
  have aa:vV cols o a=bif decide (ze cols a.col>=0)&&!zl a.fn vj then o.map (λr=>at0 r (ze cols a.col).toNat)else aV o.length zF:=rfl
  have ae:(rowD (vV cols o a)).take o.length=rowD (vV cols o a):=by grind[zp]
  have ag:rowD (aV o.length zF)=aV o.length zF.ds:=by simp[rowD]
  generalize vV cols o a=l at*;obtain⟨a1,a2,a3⟩:=a;simp only at ac R af aa I;generalize ze cols a2=k at*;refine zw hg ?_;rw[show(zd (Gr.mk key o).rows).length=o.length from zq o];refine⟨ej,ej,by unfold zW;simp;omega,ej,?_⟩;refine aK ac ?_;refine zt (b:=decide (k>=0)&&!zl a1 vj) (λh2=>?_) (λh2=>?_)
  .rw[h2,aJ]at aa;(conv=>whnf);have ai:0<=k:=eu
   refine al _ _ ⟨a1,a2,a3⟩ k ⟨ai,af ai⟩ (zi ?_) ?_
   ·(conv=>whnf);unfold gdC;rw[ag,zq];rfl
   simp only[];rw[<-aa];have U:ex acX [.c (str a1),.c (.d (.sl ((rowD l).take o.length)))] (rV (vS a1 l)):=by rw[ae];exact R
   generalize vS a1 l=u at*;obtain⟨u1,u2,u3⟩:=u;refine aK U ?_;refine yQ ?_;refine zI ab trivial ?_;rw[wi,ak,I,<-jr,aI];rfl
  rw[h2,aG]at aa;rw[<-aa]at ag;have U:ex acX [.c (str a1),.c (.d (.sl ((aV o.length zF.ds).take o.length)))] (rV (vS a1 l)):=by rw[<-ag,ae];exact R
  refine aK U ?_;refine yQ ?_;refine zI ab trivial ?_;rw[wi,ak,I,<-jr,aI];rfl
 have ah:j=p.length:=ek
 rw[ad ah]at hQ;subst ah;exact hQ
theorem auJ(cols)(rows)(st:Stp)(gs)
 (ae:st.cols.length<=1000000) (ad:st.aggs.length<=100000) (au:gs.length<=1000000) (ab:∀g∈gs,g.key.length<=500000) (ao:∀g∈gs,g.rows.length<=500000) (hw:∀g∈gs,∀r∈g.rows,r.length=cols.length)
 (af:ex XO [.agg [.d (.sl (zj cols)),.d (.sl (zd rows))],.c (.d (.sl (zB (zf cols st.cols))))] (rC (.d (.sl (K8 gs))))):
 ex gN [.agg [.d (.sl (zj cols)),.d (.sl (zd rows))],.agg st.cs] (rC (.d (.sl (zd (gs.map (qI cols st.aggs)))))):=by
 have ag:=adq cols (.sl (zd rows)) st.cols ae;have aa:=λ(Q:E->S->Prop) (s:S) (i:Nat) (aj:am (am Val)) (g:Gr) (h1:g.key.length<=500000) (h2:g.rows.length<=500000) (h3:∀r∈g.rows,r.length=cols.length)=>aHy (Q:=Q) (s:=s) cols rows st gs i aj g ad h1 h2 h3
 have p:∀i,∀h:i<gs.length,(gs.take (i+1)).map (qI cols st.aggs)=(gs.take i).map (qI cols st.aggs)++[qI cols st.aggs gs[i]]:=λi h=>by grind[zD]
 have I:∀i,gs.length<=i->gs.map (qI cols st.aggs)=(gs.take i).map (qI cols st.aggs):=λi h=>by rw[aS h]
 refine zJ ?_;obtain⟨op,⟨eo,nm,⟨v1,v2,v3⟩,ks⟩,J,ai,j,U,sn,tb⟩:=st;simp only at p I ae ad ag af;unfold Stp.cs wE;refine qX.s T8 ?_;refine aK ag ?_;refine aK af ?_;rw[aCe];refine zX (P:=Pg) (f:=T8.f) (body:=(qX.l 2)) gs.length (λi=>gdA cols (.sl (zd rows)) ⟨op,⟨eo,nm,⟨v1,v2,v3⟩,ks⟩,J,ai,j,U,sn,tb⟩ gs i ((gs.take i).map (qI cols j))) (λ_=>True) ⟨trivial,⟨_,zx 5 78 1 ej ej rfl,?_⟩⟩ ?_
 .exact rfl
 intro i hi _;show mwpR Pg T8.f (qX.l 2) _ (gdA cols (.sl (zd rows)) ⟨op,⟨eo,nm,⟨v1,v2,v3⟩,ks⟩,J,ai,j,U,sn,tb⟩ gs i ((gs.take i).map (qI cols j)));have ar:((gs.take i).map (qI cols j)).length=i:=ew
 have p:=p i;have I:=I i;generalize(gs.take i).map (qI cols j)=T at*;have ac:(zd T).take T.length=zd T:=by grind[zq]
 unfold gdA Stp.cs wE;refine xL (λo=>?_) (λal=>?_)
 .have hg:=aCd o;have p:=p o;have aa:=λQ s=>aa Q s i T gs[i] (ab _ (aM o)) (ao _ (aM o)) (hw _ (aM o))
  have ab:=ab _ (aM o);have wi:=zu o ej;generalize gs[i]=g at*;have ah:(rowD (qI cols j g)).take (qI cols j g).length=rowD (qI cols j g):=by rw[<-zp,aP]
  obtain⟨key,aq⟩:=g;have ak:=Yn key (by simp only at ab;omega);refine zw hg ?_;refine bI ak ?_;rintro _ (⟨an,rfl⟩|rfl)
  ·(conv=>whnf);refine aa _ _ ⟨_,zx 8 73 3 ej ej rfl,?_⟩ ?_
   ·(conv=>whnf);unfold gdB;rw[wR];simp only[an];rfl
   simp only[];unfold y5 gdB Stp.cs wE;generalize qI cols j ⟨key,aq⟩=R at*;refine yQ ?_;refine zI o trivial ?_;rw[wi,ac,ah,p,qR,aI];rfl
  (conv=>whnf);refine aa _ _ ⟨_,wY 8 600448 73 3 _ _ ej rfl rfl,?_⟩ ?_
  ·(conv=>whnf);rw[wR,zp];rfl
  refine yQ ?_;refine zI o trivial ?_;rw[wi,ac,ah,p,qR,aI];rfl
 rw[I al];refine UP ?_;show Res.mk (.w (.c (.d (.sl ((zd T).take T.length))))) []=_;rw[ac];rfl
structure Nmd where
 nm:ByteArray
 t:Tbl
def Nmd.ds(x:Nmd):am D:=[.lit (.string x.nm),.sl (zj x.t.cols),.sl (zd x.t.rows)]
def zL(l:am Nmd):=l.map Nmd.ds
theorem xZ(l):(zL l).length=l.length:=by simp[zL]
theorem jq{r}{i:Nat}(h:i<r.length):(zL r)[((i:Int)).toNat]?=some (r[i]).ds:=by grind[zL]
theorem az7(l)(i):(zL l).take i=zL (l.take i):=by grind[zL,bE]
def zC(g:ByteArray):am Nmd->co Tbl
 |[]=>none
 |x::r=>bif zl x.nm g then some x.t else zC g r
def rF(x:co Tbl):Res:=match x with
 |some t=>⟨.tup [t.w,.c (bool true)],[]⟩
 |none=>⟨.tup [.agg [.nil,.nil],.c (bool false)],[]⟩
theorem w8(d)(p):ex asf [.c (.d (.sl (zL d))),.c (str p)] (rF (zC p d)):=by
 refine yZ 0 er rfl λo=>?_
 rw[xZ]at o;refine aeO.s T8 ?_;rw[xZ];refine xm T8 (aeO.l 0) d.length (λi=>⟨[(1,.w (.c (str p))),(4,cV (.ptr 4 0)),(8,.w (.c (.d (.sl (zL d))))),(9,zh d.length),(10,zh i)],[(4,.box [.nil,.nil])]⟩) (λi=>zC p d=zC p (d.drop i)) ?_
 intro i T g;refine xL (λj=>?_) (λJ=>?_)
 .rw[zm j]at g;simp only[zC]at g;have P:=jq j;have R:=zu j o;generalize d[i]=x at*;obtain⟨xn,⟨U,xr⟩⟩:=x;simp only at g;refine zw P ?_;refine zg (b:=zl xn p) (λI=>?_) (λI=>?_)
  .rw[I,aJ]at g;(conv=>whnf);rw[g];rfl
  rw[I,aG]at g;refine zI j g ?_;rw[R];rfl
 rw[aC J]at g;(conv=>whnf);rw[g];rfl
def YL(x:co Tbl):Bool:=match x with|some _=>true|none=>false
def wL(pre:am Nmd):am Nmd->Int
 |[]=>0
 |x::r=>bif qj x.nm !=0 then qj x.nm else bif YL (zC x.nm pre)then 4 else bif tblErr x.t !=0 then tblErr x.t else wL (pre++[x]) r
def yt(d):=bif decide ((d.length:Int)>32)then 7 else wL [] d
theorem ju(d):ex ku [.c (.d (.sl (zL d)))] (rI (yt d)):=by
 refine yZ 0 er rfl λo=>?_
 rw[xZ]at o;unfold yt;refine KY.s T8 ?_;rw[xZ];refine zt (b:=decide ((d.length:Int)>32)) (λh0=>?_) (λh0=>?_)
 .rw[h0];exact rfl
 rw[h0];simp only[aG];(conv=>whnf);rw[xZ];refine xm T8 (KY.l 0) d.length (λi=>⟨[(0,.w (.c (.d (.sl (zL d))))),(12,.w (.c (.d (.sl (zL d))))),(13,zh d.length),(14,zh i)],[]⟩) (λi=>wL [] d=wL (d.take i) (d.drop i)) ?_
 intro i hi g;refine xL (λj=>?_) (λR=>?_)
 .rw[zm j]at g;simp only[wL]at g;rw[<-zD j]at g;have hg:=jq j;have wi:=zu j o;have I:=qk d[i].t;have p:=w8 (d.take i) d[i].nm;have T:=aag d[i].nm;rw[<-az7]at p;generalize d[i]=x at*;obtain⟨xn,⟨xc,xr⟩⟩:=x;simp only at g I p T;generalize zC xn (d.take i)=f,tblErr ⟨xc,xr⟩=te,aa:wL (d.take (i+1)) (d.drop (i+1))=rest at*;refine zw hg ?_;refine zg (b:=qj xn !=0) (λJ=>?_) (λJ=>?_)
  .rw[J,aJ]at g;(conv=>whnf);rw[g];rfl
  rw[J,aG]at g;have ab:i<=(zL d).length:=ek
  refine aw2 ?_ (hA:=by show(0:Int)<=(i:Int);omega) (hB:=by show(i:Int)<=((zL d).length:Int);omega);refine Sat.cal (p) ?_;cases f with
  |some U=>
   obtain⟨fc,fr⟩:=U;simp only[YL,aJ]at g;(conv=>whnf);rw[g];rfl
  |none=>
   simp only[YL,aG]at g;refine aK I ?_;refine zt (b:=te !=0) (λP=>?_) (λP=>?_)
   .rw[P,aJ]at g;(conv=>whnf);rw[g];rfl
   rw[P,aG]at g;refine zI j g ?_;rw[wi];rfl
 rw[aC R]at g;simp only[wL]at g;(conv=>whnf);rw[g];rfl
end
end Go.Proofs.YtnlbmefhdiabcaaGreat
namespace Go.AM
def axw(P:Program):Nat->am Field->co Nat
 |o,[]=>some o
 |o,f::r=>bif Nat.beq f.offset o then axw P (o+P.cellsOf f.type) r else none
def aen{a β:Type}(R:a->β->Prop):am a->am β->Prop
 |[],[]=>True
 |x::xs,y::ys=>R x y/\aen R xs ys
 |_,_=>False
section
variable {H:Type}{enc:TypeId×Value->H}{P:Program}{w:World}{yS:Nat}{spare:Nat->Bool}{held:Bool}{z:Nat->Gh}
def Okw(w:World)(b):=b<w.heap.size
theorem ayY(a:Addr)(j)(h:a.spot=none):a.add j=⟨a.block,a.off+j,none⟩:=by cases a<;>grind[wZ]
theorem ay9{a}{v}(h:w.cell? a=some v):a.spot=none/\a.block<w.heap.size:=by
 unfold World.cell? at h;split at h
 .rename_i g;cases hs:a.spot<;>grind
 cases h
theorem ajC{b}:∀{g:am D}{vs:am Value}{o:Nat},CRs z w (Okw w) (g.map .d) vs->(∀j v,vs[j]?=some v->w.cell? ⟨b,o+j,none⟩=some v)->RDc w (Okw w) b o g
 |[],_,_,_,_=>by grind[RDc]
 |d::g,[],_,h,_=>h.elim
 |d::g,v::vs,o,h,i=>by simp only[RDc];refine⟨⟨v,i 0 v rfl,h.1⟩,ajC h.2 λj u l=>?_⟩;rw[show o+1+j=o+(j+1)by omega];exact i (j+1) u (by simpa using l)
theorem ayS{b sz}:∀(g) (o:Nat),(∀(i) (e:am D),g[i]?=some e->e.length=sz/\RDc w (Okw w) b (o+i*sz) e)->RDs w (Okw w) b sz o g
 |[],_,_=>by grind[RDs]
 |e::r,o,h=>by
  simp only[RDs];refine⟨(h 0 e rfl).1,by simpa using (h 0 e rfl).2,ayS r (o+sz) λi x j=>?_⟩;have:=h (i+1) x ek;refine⟨this.1,?_⟩;rw[show o+sz+i*sz=o+(i+1)*sz by rw[Nat.add_mul,Nat.one_mul];omega]
  grind
end
section
variable {H:Type}{enc:TypeId×Value->H}{P:Program}{w:World}{yS:Nat}{spare:Nat->Bool}{held:Bool}{z:Nat->Gh}
theorem aEz{ok:Nat->Prop}:∀{g:am D}{vs:am Value},CRs z w ok (g.map .d) vs->g.length=vs.length:=λh=>by have:=h.length<;>grind
theorem abt{R:am D->Prop}{ok:Nat->Prop}{g:Nat->co (am Value)}:∀(len),(∀i,i<len->∃cs p,g i=some cs/\R p/\CRs z w ok (p.map .d) cs)->
 ∃j:am (am D),j.length=len/\(∀y∈j,R y)/\∀i e,j[i]?=some e->∃cs,g i=some cs/\CRs z w ok (e.map .d) cs
 |0,_=>⟨[],rfl,λ_ h=>(by cases h),λi e h=>(by simp at h)⟩
 |n+1,h=>by
  obtain⟨j,I,J,P⟩:=abt (R:=R) (ok:=ok) (g:=g) n (λi r=>h i ej);obtain⟨cs,p,T,U,h6⟩:=h n ej;refine⟨j++[p],by simp[I],λy o=>?_,λi e l=>?_⟩
  .rcases cA.1 o with o|o
   .exact J y o
   simp at o;subst o;exact U
  by_cases r:i<j.length
  .rw[am.getElem?_append_left r]at l;exact P i e l
  rw[am.getElem?_append_right ej]at l;have:i-j.length=0:=by
   rcases Nat.eq_zero_or_pos (i-j.length)with h|h
   .exact h
   rw[am.getElem?_eq_none ew]at l;cases l
  rw[this]at l;simp at l;subst l;rw[show i=n by omega];exact⟨cs,T,h6⟩
end
section
variable {H:Type}{enc:TypeId×Value->H}{P:Program}{w:World}{yS:Nat}{spare:Nat->Bool}{held:Bool}{z:Nat->Gh}
end
section
open Go.RowKit Go.WideShapes Go.ChangeShapes
section
variable {H:Type}{enc:TypeId×Value->H}{P:Program}
def Ud(P:Program)(t:TypeId):Bool:=match P.underlying t with|some (.struct _)=>true|some (.array _ _)=>true|_=>false
theorem at9{W}{i}{t}{v}(g:bD P W .any i t v)(j:Ud P t=false):v.cells= #[v]:=by
 unfold bD at g;unfold Ud at j;split at g
 .grind
 .grind
 cases v with
 |agg cs=>
  simp_all[Cell.okWide,Cell.ok]
 |_=>rfl
theorem ay0{W}{i}{t}{v}(g:bD P W .any i t v)(j:Ud P t=true):∃cs,v=.agg cs:=by grind[bD,Ud]
theorem aqW{W W'}(U:laidOutB P=true)(T:Below W.heap.size W W')(J:Nat->Bool):∀(l:am TypeId) (vs:am Value) (o:am (aZ H)) (p:am bU),(∀t∈l,P.readableRec t=true/\t<P.types.size)->
 (∀x∈p,J x.block=true)->(∀x∈p,x.block<W.heap.size)->bS enc P W 0 (λ_=>true) true l vs o p->bS enc P W' 0 J true l vs o p
 |[],vs,o,p,_,_,_,h=>by obtain⟨rfl,rfl,rfl⟩:=trodAll_nil h;exact rfl
 |t::l,vs,o,p,I,j,i,h=>by
  obtain⟨v,R,d,r,a,b,rfl,rfl,rfl,h1,h2⟩:=trodAll_cons h
  exact⟨a,b,WideElems.Trod_stays U (I t aR).1 (I t aR).2 h1 (λx g=>T.same (i x (cD _ g))) (λx g=>j x (cD _ g)),
   aqW U T J l R r b (λt h=>I t (aW _ h)) (λx g=>j x (cC _ g)) (λx g=>i x (cC _ g)) h2,rfl⟩
theorem apS{f}{s:ChangeSpec}{i fresh l T}{W W'}{args}{v}{ds gs}{g pa pv}
 (hW:DataW.Whole enc P f.params.toList s.vars i W args.toList ds gs g)
 (R:∀(b:Nat) (U:Nat->Bool) (hd:Bool),bS enc P W' b U hd f.resultTypes.toList (v.resultList f.resultTypes.size) (s.fn H (ds++gs)).results [])
 (o:∀U:Nat->Bool,(∀p∈g,U p.block=true)->bS enc P W' 0 U true f.params.toList args.toList (s.fn H (ds++gs)).args pa)
 (I:∀U:Nat->Bool,(∀p∈g,U p.block=true)->DataW.TrodVars enc P W' U s.vars (s.fn H (ds++gs)).vars pv)
 (ad:g=pa++pv) (hb:Below W.heap.size W W')
 (ac:∀(j:Nat) (t:TypeId) (r:Value),f.resultTypes[j]?=some t->(v.resultList f.resultTypes.size)[j]?=some r->bD P W' .any 0 t r):
 s.post enc P f i fresh l T W args v W':=by
 have ab:∀p∈g,p.block<W.heap.size:=λp hp=>hW.lt p hp
 have J:∀p∈g,(λb=>decide (b<W.heap.size)) p.block=true:=λp hp=>ek
 refine⟨ds,gs,g,[],pa,pv,hW,R _ _ _,o _ J,I _ J,World.keptBut_mono (λp hp=>⟨hp,?_⟩) (hb.frame (· ∈g)),λ_=>?_⟩
 .grind
 obtain⟨_,_,_,_,_,hz,hn⟩:=hW;refine⟨ac,_,_,([]++pa)++pv,⟨[]++pa,pv,trodAll_append (o _ (λ_ _=>rfl)) (R _ _ _),I _ (λ_ _=>rfl),rfl,?_,?_⟩,?_⟩
 .intro b off hp;have aa:MemPlace.cell b off∈g:=ek
  rw[hb.frozen (ab _ aa)];exact hz b off aa
 .grind
 grind
def av9:Res:=⟨.w (.c (.d (.lit (.bool true)))),[]⟩
end
inductive Fd where
 |bool
 |int (k:aH)
 |str
 |ref (i:Nat)
inductive Sh where
 |sl (e:Fd)
 |st (fs:am Fd)
def yO(tab:am Sh):Nat->Fd->am D->Prop
 |_,.bool,g=>∃b,g=[.lit (.bool b)]
 |_,.int k,g=>∃m,g=[.lit (.int k m)]/\(Lit.int k m).wf=true
 |_,.str,g=>∃s:ByteArray,g=[.lit (.string s)]/\s.size<=maxLen
 |0,.ref _,_=>False
 |n+1,.ref i,g=>match tab[i]? with
  |some (.sl e)=>∃j,g=[.sl j]/\j.length<=maxLen/\∀y∈j,yO tab n e y
  |some (.st o)=>∃l:am (am D),g=l.flatten/\aen (λf d=>yO tab n f d) o l
  |none=>False
def Wf(P:Program)(nums:am TypeId)(t:TypeId):Fd->Bool
 |.bool=>match P.underlying t with|some .bool=>true|_=>false
 |.int k=>match P.underlying t with|some (.int g)=>Z4 g k|_=>false
 |.str=>match P.underlying t with|some .string=>true|_=>false
 |.ref i=>match nums[i]? with|some u=>Nat.beq t u|none=>false
def aqo(P:Program)(nums:am TypeId):am Field->am Fd->Bool
 |[],[]=>true
 |f::i,d::g=>Wf P nums f.type d&&aqo P nums i g
 |_,_=>false
def asw(P:Program)(nums:am TypeId)(t:TypeId):Sh->Bool
 |.sl e=>match P.underlying t with
   |some (.slice u)=>Nat.blt 0 (P.cellsOf u)&&Wf P nums u e
   |_=>false
 |.st g=>match P.underlying t with
   |some (.struct l)=>(match axw P 0 l.toList with|some m=>Nat.beq m (P.cellsOf t)|none=>false)&&aqo P nums l.toList g
   |_=>false
def akV(P:Program)(nums:am TypeId):am TypeId->am Sh->Bool
 |[],[]=>true
 |t::i,s::g=>asw P nums t s&&akV P nums i g
 |_,_=>false
def agF(P)(nums)(tab):=akV P nums nums tab
theorem adb{P}{nums}:∀{j:am TypeId}{l:am Sh}{i:Nat}{t:TypeId},akV P nums j l=true->j[i]?=some t->∃s,l[i]?=some s/\asw P nums t s=true
 |[],_,i,t,_,h=>by simp at h
 |t::j,[],i,u,h,_=>by cases h
 |t::j,s::l,i,u,h,g=>by
  simp only[akV,bB]at h;cases i with
  |zero=>simp at g;subst g;exact⟨s,rfl,h.1⟩
  |succ i=>
   simp at g;obtain⟨x,p,o⟩:=adb h.2 g;exact⟨x,by simpa using p,o⟩
section
variable {H:Type}{enc:TypeId×Value->H}{P:Program}{w:World}{yS:Nat}{spare:Nat->Bool}{held:Bool}{z:Nat->Gh}{nums:am TypeId}{tab:am Sh}
theorem avm{ok:Nat->Prop}{n}(cs:am Value):∀(l) (gs:am Fd) (o m:Nat),axw P o l=some m->m<=cs.length->aqo P nums l gs=true->
 (∀f∈l,∀g,Wf P nums f.type g=true->∃p,yO tab n g p/\CRs z w ok (p.map .d) ((cs.drop f.offset).take (P.cellsOf f.type)))->
 o<=m/\∃i:am (am D),aen (λf d=>yO tab n f d) gs i/\CRs z w ok (i.flatten.map .d) ((cs.drop o).take (m-o))
 |[],[],o,m,h,_,_,_=>by cases h;exact⟨aA _,[],trivial,by simp;trivial⟩
 |[],_::_,_,_,_,_,h,_=>by cases h
 |_::_,[],_,_,_,_,h,_=>by cases h
 |f::l,g::gs,o,m,h,hm,I,j=>by
  simp only[aqo,bB]at I;simp only[axw]at h;cases r:Nat.beq f.offset o with
  |false=>grind
  |true=>
   rw[r]at h;have r:=bF r;obtain⟨p,R,T⟩:=j f aR g I.1;obtain⟨h3,i,U,h5⟩:=avm cs l gs _ m h hm I.2 λJ hf=>j J (aW _ hf)
   refine⟨ej,p::i,⟨R,U⟩,?_⟩;rw[r]at T;rw[List.flatten_cons,aU];have:(cs.drop o).take (m-o)=(cs.drop o).take (P.cellsOf f.type)++(cs.drop (o+P.cellsOf f.type)).take (m-(o+P.cellsOf f.type)):=by rw[show m-o=P.cellsOf f.type+(m-(o+P.cellsOf f.type))by omega,cJ,List.drop_drop]
   grind[CRs.append]
theorem azY{a b}(h:Z4 a b=true):a=b:=by cases a<;>cases b<;>first|rfl|cases h
theorem aHK(an:agF P nums tab=true):∀(I) (t:TypeId) (g:Fd),Wf P nums t g=true->∀(cs) (x:aZ H×am bU),DataW.trod enc P w yS spare held I t cs=some x->
 ∃ds,yO tab I g ds/\CRs z w (Okw w) (ds.map .d) cs:=by
 intro I;induction I with
 |zero=>simp_all[DataW.trod]
 |succ n ih=>
  intro t g p cs x hx;cases g with
  |bool=>
   simp only[Wf]at p;split at p
   .rename_i hu;obtain⟨b,rfl,_⟩:=DataW.trod_bool hu hx;exact⟨[.lit (.bool b)],by grind[yO],⟨by simp only[CR,RD];exact⟨trivial,rfl⟩,trivial⟩⟩
   cases p
  |int k=>
   simp only[Wf]at p;split at p
   .rename_i k1 hu;have:=azY p;subst this;obtain⟨m,rfl,_,hw⟩:=DataW.trod_int hu hx;exact⟨[.lit (.int k1 m)],by grind[yO],⟨by simp only[CR,RD];exact⟨trivial,rfl⟩,trivial⟩⟩
   cases p
  |str=>
   simp only[Wf]at p;split at p
   .rename_i hu;obtain⟨s,rfl,_,hw⟩:=DataW.trod_string hu hx;exact⟨[.lit (.string s)],by grind[yO],⟨by simp only[CR,RD];exact⟨trivial,rfl⟩,trivial⟩⟩
   cases p
  |ref i=>
   simp only[Wf]at p;split at p
   .rename_i u al;have:=bF p;subst this;obtain⟨s,hs,l⟩:=adb an al;cases s with
    |sl e=>
     simp only[asw]at l;split at l
     .rename_i u hu;rw[bB]at l;have ag:0<P.cellsOf u:=Nat.le_of_ble_eq_true l.1;simp only[yO,hs];rcases DataW.trod_slice hu hx with⟨rfl,_⟩|⟨a,len,cap,ah,rest,m,aa,rfl,_,hb,hl,hm,ae,aj,_,_⟩
      .exact⟨_,⟨[],rfl,aT _,λ_ h=>(by cases h)⟩,⟨by simp only[CR,RD];exact⟨none,0,0,rfl,rfl,aA _,aT _,.inl trivial⟩,trivial⟩⟩
      cases aa;obtain⟨U,h1,h2,h3⟩:=abt (w:=w) (z:=z) (R:=yO tab n e) (ok:=Okw w) (g:=λi=>w.cells? yS (a.add (i*P.cellsOf u)) (P.cellsOf u)) len (λi hi=>by
       have h:=aj i hi;rw[am.getElem?_eq_getElem ej]at h;obtain⟨J,g1,g2⟩:=Option.bind_eq_some_iff.1 h
       grind)
      refine⟨_,⟨U,rfl,ej,h2⟩,⟨?_,trivial⟩⟩;simp only[CR,RD];refine⟨some a,len,cap,rfl,h1.symm,hl,hm,?_⟩;cases ad:U with
      |nil=>grind
      |cons e0 r=>
       right
       have T:∀i y,U[i]?=some y->∃J,J.length=P.cellsOf u/\(∀j,j<P.cellsOf u->w.cell? ((a.add (i*P.cellsOf u)).add j)=J[j]?)/\CRs z w (Okw w) (y.map .d) J:=λi y hy=>by
        obtain⟨J,g1,g2⟩:=h3 i y hy;obtain⟨_,g3,g4⟩:=World.cells?_some g1
        grind
       obtain⟨aq,c1,c2,_⟩:=T 0 e0 ek;have ai:=c2 0 ag;rw[am.getElem?_eq_getElem ej]at ai;have ab:a.spot=none/\a.block<w.heap.size:=by grind[ay9,Addr.add]
       refine⟨a.block,a.off,P.cellsOf u,?_,ab.2,?_⟩
       .obtain⟨b,o,s⟩:=a<;>grind
       rw[<-ad];refine ayS U a.off λi y hy=>?_
       obtain⟨J,g1,g2,g3⟩:=T i y hy
       grind[aEz,ajC,ayY,wZ]
     grind
    |st gs=>
     simp only[asw]at l;split at l
     .rename_i fs hu;rw[bB]at l;obtain⟨af,ao⟩:=l;split at af
      .rename_i m hm;have ar:=bF af;obtain⟨xs,k,aa,_,ae,au,hf⟩:=DataW.trod_struct hu hx;cases aa;simp only[yO,hs];obtain⟨_,ac,h1,h2⟩:=avm (w:=w) (z:=z) (ok:=Okw w) (n:=n) (tab:=tab) (nums:=nums) cs fs.toList gs 0 m hm ej ao (λf ak g p=>by
        obtain⟨i,hi⟩:=am.getElem?_of_mem ak
        grind)
       refine⟨ac.flatten,⟨ac,rfl,h1⟩,?_⟩;simp_all[aS]
      grind
     grind
   cases p
def Fd.isAgg(tab:am Sh):Fd->Bool
 |.ref i=>match tab[i]? with|some (.st _)=>true|_=>false
 |_=>false
def aeo(tab:am Sh)(g:Fd)(x:W):=∃n i,yO tab n g i/\(g.isAgg tab=true->x=.agg (i.map .d))/\(g.isAgg tab=false->∃d,i=[d]/\x=.c (.d d))
theorem arS(o:agF P nums tab=true){t}{g}(j:Wf P nums t g=true):g.isAgg tab=Ud P t:=by
 unfold Ud;cases g with
 |bool=>
  simp only[Wf]at j;split at j
  .rename_i h;rw[h];rfl
  cases j
 |int k=>
  simp only[Wf]at j;split at j
  .rename_i h;rw[h];rfl
  cases j
 |str=>
  simp only[Wf]at j;split at j
  .rename_i h;rw[h];rfl
  cases j
 |ref i=>
  simp only[Wf]at j;split at j
  .rename_i u l;have:=bF j;subst this;obtain⟨s,hs,p⟩:=adb o l;simp only[Fd.isAgg,hs];cases s<;>grind[asw]
  cases j
theorem aC3(I:agF P nums tab=true){W}{R}{t}{g}{v}{d:aZ H}{p:am bU}{z:Nat->Gh}(U:Wf P nums t g=true)(l:bD P W .any R t v)
 (h:DataW.Trod enc P W 0 (λ_=>true) true t v d p):∃x,aeo tab g x/\WR z W (Okw W) x v:=by
 obtain⟨j,T⟩:=h;obtain⟨r,o,i⟩:=aHK (z:=z) I j t g U _ _ T;cases J:Ud P t with
 |true=>
  obtain⟨cs,rfl⟩:=ay0 l J;refine⟨.agg (r.map .d),⟨j,r,o,λ_=>rfl,λh=>(by grind[arS])⟩,cs.toList,ep,?_⟩
  grind[Value.cells]
 |false=>
  rw[at9 l J]at i
  match r,i with
  |[d],i=>exact⟨.c (.d d),⟨j,[d],o,λh=>(by grind[arS]),λ_=>⟨d,rfl,rfl⟩⟩,i.1⟩
  |[],i=>exact i.elim
  |_::_::_,i=>exact i.2.elim
def agE(P:Program)(nums:am TypeId):am TypeId->am Fd->Bool
 |[],[]=>true
 |t::i,g::gs=>Wf P nums t g&&agE P nums i gs
 |_,_=>false
theorem aoj(o:agF P nums tab=true){W}{b0}{z:Nat->Gh}:∀(l:am TypeId) (gs:am Fd) (vs:am Value) (J:am (aZ H)) (p:am bU),agE P nums l gs=true->
 (∀(j:Nat) t v,l[j]?=some t->vs[j]?=some v->bD P W .any b0 t v)->bS enc P W 0 (λ_=>true) true l vs J p->
 ∃xs,aen (aeo tab) gs xs/\qN z W (Okw W) xs vs/\J.length=l.length
 |[],[],vs,J,p,_,_,h=>by obtain⟨rfl,rfl,rfl⟩:=trodAll_nil h;exact⟨[],trivial,trivial,rfl⟩
 |[],_::_,_,_,_,h,_,_=>by cases h
 |_::_,[],_,_,_,h,_,_=>by cases h
 |t::l,g::gs,vs,J,p,T,i,h=>by simp only[agE,bB]at T;obtain⟨v,ab,d,R,a,b,rfl,rfl,rfl,h1,h2⟩:=trodAll_cons h;obtain⟨x,U,aa⟩:=aC3 (z:=z) o T.1 (i 0 t v rfl rfl) h1;obtain⟨xs,r,I,hl⟩:=aoj (z:=z) o l gs ab R b T.2 (λj t v hj hv=>i (j+1) t v hj hv) h2;exact⟨x::xs,⟨U,r⟩,⟨aa,I⟩,by simp[hl]⟩
def avD(P:Program)(g:am TypeId):=g.all λt=>P.readableRec t&&decide (t<P.types.size)
theorem azZ{f:aX}{fn}{s:ChangeSpec}{tb}{gs0}(hl:laidOutB P=true)(ah:agF P nums tab=true)(aa:agE P nums fn.params.toList gs0=true)(l:avD P fn.params.toList=true)(o:s.vars=[])(T:fn.resultTypes= #[tb])(hb:P.underlying tb=some .bool)
 (ac:∀(H:Type) (J:am (aZ H)),J.length=fn.params.toList.length->(s.fn H J).results=[.lit (.bool true)]/\(s.fn H J).args=J/\(s.fn H J).vars=[])
 (af:∀xs,aen (aeo tab) gs0 xs->Sat P f xs (λr=>r=av9)) {g fresh i U}
 (W) (ae:Glb (Okw W) W) (yS) (args) (J gs) (I)
 (ag:∀(j:Nat) t v,fn.params[j]?=some t->args[j]?=some v->bD P W .any yS t v)
 (hW:DataW.Whole enc P fn.params.toList s.vars g W args.toList J gs I):
 Calls P f args W λe W'=>∃v,e=.returned v/\s.post enc P fn g fresh i U W args v W':=by
 have ad:=hW;obtain⟨p,q,hA,hV,rfl,aj,ak⟩:=hW;rw[o]at hV;obtain⟨rfl,rfl⟩:=trodVars_none hV;simp only[avD,List.all_eq_true,bB,decide_eq_true_eq]at l;obtain⟨xs,h1,h2,h3⟩:=aoj (z:=λ_=>⟨none,0⟩) ah fn.params.toList gs0 args.toList J p aa (λj t v hj hv=>ag j t v ek ek) hA;have hc:=(af xs h1).2 W (Okw W) args.toList ⟨λb h=>h,ae⟩ h2;rw[Array.toArray_toList]at hc;refine hc.mono λe W' ⟨v,r,he,hr,ab,hg⟩=>⟨v,he,?_⟩
 subst hr;obtain⟨_,z,hv,_⟩:=ab;have hv:v=.bool true:=by grind[VR,WR,CR,RD,av9]
 subst hv;obtain⟨s1,s2,s3⟩:=ac H (J++[]) ek;have R:Below W.heap.size W W':=⟨hg.os,hg.tape,hg.output.1,hg.size,λk hk=>hg.block k hk λh=>h⟩;refine apS (pa:=p) (pv:=[]) ad ?_ ?_ ?_ ep R ?_
 .intro b sp hd;rw[s1,T];exact trodAll_cons_mk (shut_bool hb _) trodAll_mk0
 .intro sp ai;rw[s2,aQ];exact aqW hl R sp _ _ _ _ (λt ht=>⟨(l t ht).1,(l t ht).2⟩) (λx hx=>ai x ek) (λx hx=>ad.lt x ek) hA
 .intro sp _;rw[s3,o];rfl
 exact ok_one T rfl (okWide_bool_mk hb _)
theorem jb{α β}{R:α->β->Prop}{xs}(h:aen R [] xs):xs=[]:=by cases xs with|nil=>rfl|cons _ _=>exact h.elim
theorem yC{α β}{R:α->β->Prop}{a}{l}{xs}(h:aen R (a::l) xs):∃x r,xs=x::r/\R a x/\aen R l r:=by cases xs with|nil=>exact h.elim|cons x r=>exact⟨x,r,rfl,h.1,h.2⟩
theorem Vl{a:Type}{f:a->am D}{R:am D->Prop}(h:∀y,R y->∃x,y=f x):∀{g:am (am D)},(∀y∈g,R y)->∃l:am a,g=l.map f
 |[],_=>⟨[],rfl⟩
 |e::r,hr=>by
  obtain⟨l,j⟩:=Vl (f:=f) h λy i=>hr y (aW _ i)
  obtain⟨x,o⟩:=h e (hr e aR);exact⟨x::l,ek⟩
end
end
end Go.AM
namespace Go.Proofs.YtnlbmefhdiabcaaGreat
open Go Go.AM
def yd:am Sh:=[.st [.int .i64,.int .i64,.str],.sl (.ref 0),.sl (.ref 1),.st [.str,.int .i64],.sl (.ref 3),.st [.ref 4,.ref 2],.st [.int .i64,.int .i64,.str],.sl (.ref 0),
 .st [.int .i64,.str,.ref 0,.ref 9],.sl (.ref 8),.st [.ref 8,.str],.sl (.ref 10),.sl .str,.st [.str,.str,.str],.sl (.ref 13),.st [.str,.bool],.sl (.ref 15),
 .st [.int .i64,.ref 8,.ref 11,.ref 12,.ref 14,.ref 16,.int .i64,.str],.sl (.ref 17),.st [.str,.ref 18],.st [.str,.ref 5],.sl (.ref 20)]
def au4:am TypeId:=[41,66,30,72,29,32,41,66,
 44,42,84,45,46,76,47,116,48,50,23,25,60,22]
theorem own:ownKnob Pg.godebug=none:=er
theorem aFd:laidOutB Pg=true:=er
theorem aGb:agF Pg au4 yd=true:=er
theorem acl{n}{g}(h:yO yd n (.int .i64) g):∃x,g=[.lit (.int .i64 x)]:=by grind[yO]
theorem VA{n}{g}(h:yO yd n .str g):∃x,g=[.lit (.string x)]:=by grind[yO]
theorem aFS{n}{g}(h:yO yd n .bool g):∃x,g=[.lit (.bool x)]:=by grind[yO]
theorem aBb{n}{g}(h:yO yd n (.ref 0) g):∃x:Val,g=x.ds:=by
 cases n with
 |zero=>grind[yO]
 |succ n=>
  simp only[yO,show yd[0]?=some (.st [.int .i64,.int .i64,.str])from rfl]at h;obtain⟨i,rfl,h⟩:=h;obtain⟨I,_,rfl,h0,h⟩:=yC h;obtain⟨J,_,rfl,j,h⟩:=yC h;obtain⟨P,_,rfl,l,h⟩:=yC h;cases jb h;obtain⟨o,rfl⟩:=acl h0;obtain⟨p,rfl⟩:=acl j;obtain⟨r,rfl⟩:=VA l;exact⟨⟨o,p,r⟩,rfl⟩
theorem aHd{n}{g}(h:yO yd n (.ref 1) g):∃x:am Val,g=[.sl (x.map Val.ds)]:=by
 cases n with
 |zero=>grind[yO]
 |succ n=>
  simp only[yO,show yd[1]?=some (.sl (.ref 0))from rfl]at h;obtain⟨i,rfl,_,h⟩:=h;obtain⟨l,rfl⟩:=Vl (f:=Val.ds) (R:=yO yd n (.ref 0)) (λy j=>aBb j) h
  grind
theorem awd{n}{g}(h:yO yd n (.ref 2) g):∃x:am (am Val),g=[.sl (zd x)]:=by
 cases n with
 |zero=>grind[yO]
 |succ n=>
  simp only[yO,show yd[2]?=some (.sl (.ref 1))from rfl]at h;obtain⟨i,rfl,_,h⟩:=h;obtain⟨l,rfl⟩:=Vl (f:=λr:am Val=> [D.sl (rowD r)]) (R:=yO yd n (.ref 1)) (λy j=>aHd j) h;exact⟨l,rfl⟩
theorem aHa{n}{g}(h:yO yd n (.ref 3) g):∃x:Col,g=x.ds:=by
 cases n with
 |zero=>grind[yO]
 |succ n=>
  simp only[yO,show yd[3]?=some (.st [.str,.int .i64])from rfl]at h;obtain⟨i,rfl,h⟩:=h;obtain⟨p,_,rfl,h0,h⟩:=yC h;obtain⟨r,_,rfl,j,h⟩:=yC h;cases jb h;obtain⟨l,rfl⟩:=VA h0;obtain⟨o,rfl⟩:=acl j;exact⟨⟨l,o⟩,rfl⟩
theorem aFT{n}{g}(h:yO yd n (.ref 4) g):∃x:am Col,g=[.sl (x.map Col.ds)]:=by
 cases n with
 |zero=>grind[yO]
 |succ n=>
  simp only[yO,show yd[4]?=some (.sl (.ref 3))from rfl]at h;obtain⟨i,rfl,_,h⟩:=h;obtain⟨l,rfl⟩:=Vl (f:=Col.ds) (R:=yO yd n (.ref 3)) (λy j=>aHa j) h
  grind
theorem aHe{n}{g}(h:yO yd n (.ref 5) g):∃x:Tbl,g=x.ds:=by
 cases n with
 |zero=>grind[yO]
 |succ n=>
  simp only[yO,show yd[5]?=some (.st [.ref 4,.ref 2])from rfl]at h;obtain⟨i,rfl,h⟩:=h;obtain⟨p,_,rfl,h0,h⟩:=yC h;obtain⟨r,_,rfl,j,h⟩:=yC h;cases jb h;obtain⟨l,rfl⟩:=aFT h0;obtain⟨o,rfl⟩:=awd j;exact⟨⟨l,o⟩,rfl⟩
theorem aEu:∀{n:Nat}{i:am D}(_:yO yd n (.ref 8) i),∃x:Ex,i=x.ds:=by
 intro n;induction n using Nat.strongRecOn with
 |ind n J=>
  intro i h;cases n with
  |zero=>grind[yO]
  |succ n=>
   simp only[yO,show yd[8]?=some (.st [.int .i64,.str,.ref 0,.ref 9])from rfl]at h;obtain⟨j,rfl,h⟩:=h;obtain⟨d0,_,rfl,h0,h⟩:=yC h;obtain⟨d1,_,rfl,p,h⟩:=yC h;obtain⟨d2,_,rfl,r,h⟩:=yC h;obtain⟨d3,_,rfl,g,h⟩:=yC h;cases jb h;obtain⟨P,rfl⟩:=acl h0;obtain⟨T,rfl⟩:=VA p;obtain⟨U,rfl⟩:=aBb r;cases n with
   |zero=>grind[yO]
   |succ n=>
    simp only[yO,show yd[9]?=some (.sl (.ref 8))from rfl]at g;obtain⟨o,rfl,_,g⟩:=g;obtain⟨l,rfl⟩:=Vl (f:=Ex.ds) (R:=yO yd n (.ref 8)) (λy I=>J n ej I) g;exact⟨⟨P,T,U,l⟩,by rw[<-acK];rfl⟩
theorem aHb{n}{g}(h:yO yd n (.ref 10) g):∃x:Itm,g=x.ds:=by
 cases n with
 |zero=>grind[yO]
 |succ n=>
  simp only[yO,show yd[10]?=some (.st [.ref 8,.str])from rfl]at h;obtain⟨i,rfl,h⟩:=h;obtain⟨p,_,rfl,h0,h⟩:=yC h;obtain⟨r,_,rfl,j,h⟩:=yC h;cases jb h;obtain⟨l,rfl⟩:=aEu h0;obtain⟨o,rfl⟩:=VA j;exact⟨⟨l,o⟩,rfl⟩
theorem aFU{n}{g}(h:yO yd n (.ref 11) g):∃x:am Itm,g=[.sl (x.map Itm.ds)]:=by
 cases n with
 |zero=>grind[yO]
 |succ n=>
  simp only[yO,show yd[11]?=some (.sl (.ref 10))from rfl]at h;obtain⟨i,rfl,_,h⟩:=h;obtain⟨l,rfl⟩:=Vl (f:=Itm.ds) (R:=yO yd n (.ref 10)) (λy j=>aHb j) h
  grind
theorem aFY{n}{g}(h:yO yd n (.ref 12) g):∃x:am ByteArray,g=[.sl (x.map (λb=> [D.lit (.string b)]))]:=by
 cases n with
 |zero=>grind[yO]
 |succ n=>
  simp only[yO,show yd[12]?=some (.sl .str)from rfl]at h;obtain⟨i,rfl,_,h⟩:=h;obtain⟨l,rfl⟩:=Vl (f:=(λb=> [D.lit (.string b)])) (R:=λy=>∃s:ByteArray,y=[D.lit (.string s)]/\s.size<=maxLen) (λy ⟨s,e,_⟩=>⟨s,e⟩) h
  grind
theorem aG9{n}{g}(h:yO yd n (.ref 13) g):∃x:Agg,g=x.ds:=by
 cases n with
 |zero=>grind[yO]
 |succ n=>
  simp only[yO,show yd[13]?=some (.st [.str,.str,.str])from rfl]at h;obtain⟨i,rfl,h⟩:=h;obtain⟨I,_,rfl,h0,h⟩:=yC h;obtain⟨J,_,rfl,j,h⟩:=yC h;obtain⟨P,_,rfl,l,h⟩:=yC h;cases jb h;obtain⟨o,rfl⟩:=VA h0;obtain⟨p,rfl⟩:=VA j;obtain⟨r,rfl⟩:=VA l;exact⟨⟨o,p,r⟩,rfl⟩
theorem aFR{n}{g}(h:yO yd n (.ref 14) g):∃x:am Agg,g=[.sl (x.map Agg.ds)]:=by
 cases n with
 |zero=>grind[yO]
 |succ n=>
  simp only[yO,show yd[14]?=some (.sl (.ref 13))from rfl]at h;obtain⟨i,rfl,_,h⟩:=h;obtain⟨l,rfl⟩:=Vl (f:=Agg.ds) (R:=yO yd n (.ref 13)) (λy j=>aG9 j) h
  grind
theorem aHc{n}{g}(h:yO yd n (.ref 20) g):∃x:Nmd,g=x.ds:=by
 cases n with
 |zero=>grind[yO]
 |succ n=>
  simp only[yO,show yd[20]?=some (.st [.str,.ref 5])from rfl]at h;obtain⟨i,rfl,h⟩:=h;obtain⟨p,_,rfl,h0,h⟩:=yC h;obtain⟨r,_,rfl,j,h⟩:=yC h;cases jb h;obtain⟨l,rfl⟩:=VA h0;obtain⟨o,rfl⟩:=aHe j;exact⟨⟨l,o⟩,rfl⟩
theorem aFV{n}{g}(h:yO yd n (.ref 21) g):∃x:am Nmd,g=[.sl (x.map Nmd.ds)]:=by
 cases n with
 |zero=>grind[yO]
 |succ n=>
  simp only[yO,show yd[21]?=some (.sl (.ref 20))from rfl]at h;obtain⟨i,rfl,_,h⟩:=h;obtain⟨l,rfl⟩:=Vl (f:=Nmd.ds) (R:=yO yd n (.ref 20)) (λy j=>aHc j) h
  grind
theorem aGc{g}{x}(h:aeo yd g x)(o:g.isAgg yd=true):∃n i,yO yd n g i/\x=.agg (i.map .d):=by obtain⟨n,i,j,l,_⟩:=h<;>grind
theorem au6{g}{x}(h:aeo yd g x)(o:g.isAgg yd=false):∃n d,yO yd n g [d]/\x=.c (.d d):=by obtain⟨n,i,j,_,l⟩:=h<;>grind
theorem aBy{x}(h:aeo yd (.ref 21) x):∃t,x=.c (.d (.sl (zL t))):=by obtain⟨n,d,g,rfl⟩:=au6 h rfl;clear h;have h:=g;clear g;obtain⟨t,h⟩:=aFV h;cases h;exact⟨t,rfl⟩
theorem aBA{x}(h:aeo yd (.ref 2) x):∃t:am (am Val),x=.c (.d (.sl (zd t))):=by obtain⟨n,d,g,rfl⟩:=au6 h rfl<;>grind[awd]
theorem awe{n}{g}(h:yO yd n .str g):∃x,g=[.lit (.string x)]/\x.size<=9223372036854775807:=by cases n<;>(simp only[yO]at h;obtain⟨m,h,hs⟩:=h;exact⟨m,h,hs⟩)
theorem aFW{n}{g}(h:yO yd n (.ref 15) g):∃x:{x:Srt //x.col.size<=9223372036854775807},g=x.1.ds:=by
 cases n with
 |zero=>grind[yO]
 |succ n=>
  simp only[yO,show yd[15]?=some (.st [.str,.bool])from rfl]at h;obtain⟨i,rfl,h⟩:=h;obtain⟨p,_,rfl,h0,h⟩:=yC h;obtain⟨r,_,rfl,j,h⟩:=yC h;cases jb h;obtain⟨l,rfl,hs⟩:=awe h0;obtain⟨o,rfl⟩:=aFS j;exact⟨⟨⟨l,o⟩,hs⟩,rfl⟩
def aqy(l:am Srt):=∀s∈l,s.col.size<=9223372036854775807
theorem aD6{n}{g}(h:yO yd n (.ref 16) g):∃x,g=[.sl (x.map Srt.ds)]/\aqy x:=by
 cases n with
 |zero=>grind[yO]
 |succ n=>
  simp only[yO,show yd[16]?=some (.sl (.ref 15))from rfl]at h;obtain⟨i,rfl,_,h⟩:=h;obtain⟨l,rfl⟩:=Vl (f:=λx:{x:Srt //x.col.size<=9223372036854775807}=>x.1.ds) (R:=yO yd n (.ref 15)) (λy j=>aFW j) h;refine⟨l.map (·.1),eu,λs hs=>?_⟩
  grind
theorem aFX{n}{g}(h:yO yd n (.ref 17) g):∃x:{x:Stp //aqy x.sorts},g=x.1.ds:=by
 cases n with
 |zero=>grind[yO]
 |succ n=>
  simp only[yO,show yd[17]?=some (.st [.int .i64,.ref 8,.ref 11,.ref 12,.ref 14,.ref 16,.int .i64,.str])from rfl]at h;obtain⟨i,rfl,h⟩:=h;obtain⟨d0,_,rfl,h0,h⟩:=yC h;obtain⟨d1,_,rfl,j,h⟩:=yC h;obtain⟨d2,_,rfl,l,h⟩:=yC h;obtain⟨d3,_,rfl,o,h⟩:=yC h;obtain⟨d4,_,rfl,p,h⟩:=yC h;obtain⟨d5,_,rfl,r,h⟩:=yC h;obtain⟨d6,_,rfl,I,h⟩:=yC h;obtain⟨d7,_,rfl,J,h⟩:=yC h;cases jb h;obtain⟨P,rfl⟩:=acl h0;obtain⟨R,rfl⟩:=aEu j;obtain⟨T,rfl⟩:=aFU l;obtain⟨U,rfl⟩:=aFY o;obtain⟨x4,rfl⟩:=aFR p;obtain⟨x5,rfl,hs⟩:=aD6 r;obtain⟨x6,rfl⟩:=acl I;obtain⟨x7,rfl⟩:=VA J;exact⟨⟨⟨P,R,T,U,x4,x5,x6,x7⟩,hs⟩,rfl⟩
theorem aD7{n}{g}(h:yO yd n (.ref 18) g):∃x:am Stp,g=[.sl (x.map Stp.ds)]/\∀s∈x,aqy s.sorts:=by
 cases n with
 |zero=>grind[yO]
 |succ n=>
  simp only[yO,show yd[18]?=some (.sl (.ref 17))from rfl]at h;obtain⟨i,rfl,_,h⟩:=h;obtain⟨l,rfl⟩:=Vl (f:=λx:{x:Stp //aqy x.sorts}=>x.1.ds) (R:=yO yd n (.ref 17)) (λy j=>aFX j) h;refine⟨l.map (·.1),eu,λs hs=>?_⟩
  grind
theorem aBz{x}(h:aeo yd (.ref 19) x):∃t:Qry,x=t.w/\t.src.size<=9223372036854775807/\∀s∈t.steps,aqy s.sorts:=by
 obtain⟨n,J,i,rfl⟩:=aGc h rfl;clear h;have h:=i;clear i;cases n with
 |zero=>grind[yO]
 |succ n=>
  simp only[yO,show yd[19]?=some (.st [.str,.ref 18])from rfl]at h;obtain⟨j,rfl,h⟩:=h;obtain⟨r,_,rfl,h0,h⟩:=yC h;obtain⟨I,_,rfl,l,h⟩:=yC h;cases jb h;obtain⟨o,rfl,hs⟩:=awe h0;obtain⟨p,rfl,g⟩:=aD7 l;exact⟨⟨o,p⟩,rfl,hs,g⟩
section
attribute [local irreducible] Sat zH z6 zl
def asu(n:Int):Val:=⟨2,n,⟨#[]⟩⟩
def yF(k:Int)(v):=v=zF\/(k=1/\∃b,v=yi b)\/(k=2/\∃n,inB n=true/\v=asu n)\/(k=3/\∃s:ByteArray,s.size<=200/\v=⟨3,0,s⟩)
theorem bs0:zl ⟨#[]⟩ ⟨#[]⟩=true:=AM.beqS_self _
theorem azJ(k):yF k zF:=.inl rfl
theorem Ka(b):yF 1 (yi b):=.inr (.inl ⟨rfl,b,rfl⟩)
theorem Zw{n}(h:inB n=true):yF 2 (asu n):=.inr (.inr (.inl ⟨rfl,n,h,rfl⟩))
theorem aoX{k}{v}(h:yF k v):yy k v=0:=by
 rcases h with rfl|⟨rfl,b,rfl⟩|⟨rfl,n,g,rfl⟩|⟨rfl,s,hs,rfl⟩
 .show yy k ⟨0,0,⟨#[]⟩⟩=0
  grind[yy,bs0]
 .cases b
  .show yy 1 ⟨1,0,⟨#[]⟩⟩=0
   grind[yy,bs0]
  show yy 1 ⟨1,1,⟨#[]⟩⟩=0
  grind[yy,bs0]
 .show yy 2 ⟨2,n,⟨#[]⟩⟩=0
  grind[yy,bs0]
 grind[yy]
theorem agp{k}{v}(h:yy k v=0):yF k v:=by
 obtain⟨j,n,s⟩:=v;obtain⟨r,h⟩:=zY ej h;obtain⟨l,h⟩:=zY ej h;obtain⟨o,h⟩:=zY ej h;obtain⟨J,h⟩:=zY ej h;obtain⟨i,h⟩:=zY ej h;obtain⟨I,_⟩:=zY ej h;by_cases g:j=0
 .subst g;have hs:=ayk (by simpa using i);have p:n=0:=ek
  subst hs p;exact .inl rfl
 have hk:j=k/\(k=1\/k=2\/k=3):=ek
 obtain⟨rfl,hk⟩:=hk;rcases hk with rfl|rfl|rfl
 .have hs:=ayk (by simpa using i);subst hs
  right;left
  refine UP ?_;by_cases g:n=0
  .subst g;exact⟨false,rfl⟩
  have:n=1:=by simpa[g]using l
  subst this;exact⟨true,rfl⟩
 .have hs:=ayk (by simpa using i);subst hs
  right;right;left
  exact⟨rfl,n,by simpa using o,rfl⟩
 right;grind
theorem yF.kind{k}{v}(h:yF k v)(g:v.k≠0):v.k=k/\(k=1\/k=2\/k=3):=by
 rcases h with rfl|⟨rfl,b,rfl⟩|⟨rfl,n,_,rfl⟩|⟨rfl,s,_,rfl⟩
 .exact absurd rfl g
 .exact⟨rfl,.inl rfl⟩
 .exact⟨rfl,.inr (.inl rfl)⟩
 grind
theorem yF.num{k}{v}(h:yF k v)(g:v.k≠0)(hk:qc k 2=true):∃n,inB n=true/\v=asu n:=by
 rcases h with rfl|⟨rfl,b,rfl⟩|⟨rfl,n,i,rfl⟩|⟨rfl,s,_,rfl⟩
 .exact absurd rfl g
 .cases hk
 .grind
 cases hk
theorem yF.text{k}{v}(h:yF k v)(g:v.k≠0)(hk:qc k 3=true):∃s,s.size<=200/\v=⟨3,0,s⟩:=by
 rcases h with rfl|⟨rfl,b,rfl⟩|⟨rfl,n,i,rfl⟩|⟨rfl,s,hs,rfl⟩
 .exact absurd rfl g
 .cases hk
 .cases hk
 grind
theorem yF.bl{k}{v}(h:yF k v)(hk:qc k 1=true):Bl v:=by
 rcases h with rfl|⟨rfl,b,rfl⟩|⟨rfl,n,g,rfl⟩|⟨rfl,s,hs,rfl⟩
 .exact .inl rfl
 .exact .inr ⟨b,rfl⟩
 .cases hk
 cases hk
theorem amd{v}(h:Bl v):yF 1 v:=by
 rcases h with rfl|⟨b,rfl⟩
 .exact .inl rfl
 grind[Ka]
theorem aby{n}(g: -1000000000000000<=n)(i:n<=1000000000000000):inB n=true:=by simp_all[inB]
theorem gB{n}{b}(h:b=true->inB n=true):yF 2 (qp n b):=by
 cases b
 .exact .inl rfl
 exact Zw (h rfl)
theorem atR{n}(h:inB n=true):aB.wrap (0-n)= -n:=by have:=xR h<;>grind[cR]
theorem aE6{n}(h:inB n=true):inB (-n)=true:=by grind[xR,aby]
theorem aD2{a b:Int}(h:inB a=true):inB (Int.tdiv a b)=true:=by
 have:=xR h;have g:=Int.natAbs_tdiv_le_natAbs a b
 grind[aby]
theorem aD3{a b:Int}(h:inB a=true):inB (Int.tmod a b)=true:=by
 have:=xR h;have g:(Int.tmod a b).natAbs<=a.natAbs:=by simp_all[Nat.mod_le]
 grind[aby]
theorem arB{a b}{rest}(h:inB a=true):yF 2 (Qd a b rest):=by
 unfold Qd;cases j:(b==0)
 .cases rest
  .simp only[aG];have g:=aD2 (b:=b) h;have i:=xR g;rw[show aB.wrap (Int.tdiv a b)=Int.tdiv a b by grind[cR]];exact Zw g
  exact Zw (aD3 h)
 exact .inl rfl
theorem aqH{a b}(h:qA a b=true):inB (a+b)=true:=by simp_all[qA]
theorem aCK{a b}(h:uA a b=true):inB (a*b)=true:=by simp_all[uA]
theorem KH{a b w}(h:xq [a,b] w=true):qc a w=true/\qc b w=true:=by grind[xq]
theorem ah3{a w}(h:xq [a] w=true):qc a w=true:=by grind[xq]
theorem aGq{op t}{p}{a}(i:yF t a)(o:a.k≠0)(g:op=3\/op=4)(l:qc t (bif op==3 then 1 else 2)=true):yF (bif op==3 then 1 else 2) (xp op p [a]):=by
 rcases g with rfl|rfl
 .exact amd (ay6 a (i.bl l))
 obtain⟨n,j,rfl⟩:=i.num o l;show yF 2 (qp (aB.wrap (0-n)) true);rw[atR j];exact Zw (aE6 j)
theorem aE3{op t u}{J}{a b}(o:yF t a)(p:yF u b)(i:a.k≠0)(j:b.k≠0)(g:5<=op/\op<=9)(r:qc t 2=true)(I:qc u 2=true):yF 2 (xp op J [a,b]):=by
 obtain⟨n,l,rfl⟩:=o.num i r;obtain⟨m,P,rfl⟩:=p.num j I;have g:op=5\/op=6\/op=7\/op=8\/op=9:=ej
 rcases g with rfl|rfl|rfl|rfl|rfl
 .show yF 2 (qp (bif qA n m then n+m else 0) (qA n m))
  grind[gB,aqH]
 .show yF 2 (qp (bif qA n (aB.wrap (0-m))then n+aB.wrap (0-m)else 0) (qA n (aB.wrap (0-m))))
  grind[gB,aqH]
 .show yF 2 (qp (bif uA n m then n*m else 0) (uA n m))
  grind[gB,aCK]
 .exact arB (rest:=false) l
 exact arB (rest:=true) l
theorem aB9{g}{I}{l}(hl:(l.length:Int)=y9 g)(hn:y9 g≠0)(J:I.length=l.length)(p:∀i (h1:i<I.length) (h2:i<l.length),yF I[i] l[i])(j:∀x∈l,x.k≠0)(r:(ZL g I).2=0):yF (ZL g I).1 (jD g l):=by
 unfold ZL at r⊢;unfold jD;unfold y9 at hl hn;have d1:zl g ⟨#[97,98,115]⟩=true->zl g ⟨#[109,105,110]⟩=false/\zl g ⟨#[109,97,120]⟩=false/\zl g ⟨#[104,97,115]⟩=false/\zl g ⟨#[115,116,97,114,116,115]⟩=false:=λh=>by grind[AM.beqS_iff]
 have d2:zl g ⟨#[108,101,110]⟩=true->zl g ⟨#[109,105,110]⟩=false/\zl g ⟨#[109,97,120]⟩=false/\zl g ⟨#[104,97,115]⟩=false/\zl g ⟨#[115,116,97,114,116,115]⟩=false:=λh=>by grind[AM.beqS_iff]
 have d3:zl g ⟨#[104,97,115]⟩=true->zl g ⟨#[109,105,110]⟩=false/\zl g ⟨#[109,97,120]⟩=false:=λh=>by grind[AM.beqS_iff]
 have d4:zl g ⟨#[115,116,97,114,116,115]⟩=true->zl g ⟨#[109,105,110]⟩=false/\zl g ⟨#[109,97,120]⟩=false:=λh=>by grind[AM.beqS_iff]
 generalize zl g ⟨#[97,98,115]⟩=T,zl g ⟨#[108,101,110]⟩=U at*;generalize zl g ⟨#[104,97,115]⟩=p3 at*;generalize zl g ⟨#[115,116,97,114,116,115]⟩=p4,zl g ⟨#[109,105,110]⟩=p5 at*;generalize zl g ⟨#[109,97,120]⟩=p6 at*;have h2:T=false->U=false->l.length=2:=ek
 have P:T=true\/U=true->l.length=1:=λh=>ek
 have h0:T=false->U=false->p3=false->p4=false->(p5||p6)=true:=ek
 cases T with
 |true=>
  obtain⟨rfl,rfl,rfl,rfl⟩:=d1 rfl;simp only[bY,aG,aJ]at r⊢;obtain⟨o,R⟩:=yW r;rw[R]
  match l,I,P,J,p,j,o with
  |[a],[t],_,_,p,j,o=>
    obtain⟨n,hi,rfl⟩:=(p 0 ep ep :yF t a).num (j _ ep) (ah3 o);show yF 2 (qp (yL true n (aB.wrap (0-n))) true);have hb:=xR hi;rw[atR hi,gY];exact Zw (aby ej ej)
 |false=>
  cases U with
  |true=>
   obtain⟨rfl,rfl,rfl,rfl⟩:=d2 rfl;simp only[bY,aG,aJ]at r⊢;obtain⟨o,R⟩:=yW r;rw[R]
   match l,I,P,J,p,j,o with
   |[a],[t],_,_,p,j,o=>
     obtain⟨s,hi,rfl⟩:=(p 0 ep ep :yF t a).text (j _ ep) (ah3 o);show yF 2 (qp (s.size:Int) true);exact Zw (aby ej ej)
  |false=>
   cases p3 with
   |true=>
    obtain⟨rfl,rfl⟩:=d3 rfl;simp only[bY,aG,aJ]at r⊢
    grind[yW,Ka]
   |false=>
    cases p4 with
    |true=>
     obtain⟨rfl,rfl⟩:=d4 rfl;simp only[bY,aG,aJ]at r⊢
     grind[yW,Ka]
    |false=>
     cases aa:(p5||p6)with
     |false=>
      grind
     |true=>
      rw[aa]at r;simp only[aJ]at r⊢;obtain⟨o,R⟩:=yW r;rw[R]
      match l,I,h2 rfl rfl,J,p,j,o with
      |[a,b],[t,u],_,_,p,j,o=>
        have fa:yF t a:=p 0 ep ep;have fb:yF u b:=p 1 ep ep;have na:=j a ep;have nb:=j b ep;have ka:=fa.kind na;have kb:=fb.kind nb;have hm:yL true t u=t/\yL true t u=u:=by
         rw[gY];simp only[cB]at o;rcases o with o|o
         .have:=KH o;unfold qc at this;simp only[cB,beq_iff_eq]at this;omega
         have:=KH o;unfold qc at this;simp only[cB,beq_iff_eq]at this;omega
        show yF (yL true t u) (bif decide (zS b a<0)==p5 then b else a)
        grind
theorem aB7{cols}{row}(g:Qe cols row=true){i}(h:i<cols.length):yF cols[i].t (at0 row i):=by obtain⟨l,j⟩:=azI g<;>grind[avo,at0,agp]
theorem anu{cols}{row}(hf:Qe cols row=true):∀(e:Ex),e.err=0->(e.ty cols).2=0->yF (e.ty cols).1 (e.val cols row)
 |.mk op l v g,he,P=>by
   have r:yK op l v g.length=0/\errL g=0:=by
    simp only[Ex.err]at he;cases hb:(yK op l v g.length !=0)
    .simp_all
    simp_all
   have T:=V9 r.2;obtain⟨J,i⟩:=agY P;have ac:=agW cols J;have ih:∀k∈g,yF (k.ty cols).1 (k.val cols row):=λk hk=>anu hf k (T k hk) (ac k hk)
   have hT:(Ex.ty cols (.mk op l v g))=uP cols op l v (g.map λk=>(k.ty cols).1):=by grind[Ex.ty,agV]
   rw[agV J]at i;rw[hT];obtain⟨aa,af,ag⟩:=Yl r.1;have ab:ym (valL cols row g)=false->∀x∈valL cols row g,x.k≠0:=λh x hx e=>by grind[ym]
   have o:cL cols row (.mk op l v g)=bif op==1 then v else bif op==2 then at0 row (ze cols l).toNat else
    bif op==14 then wW (at0 (valL cols row g) 0) (at0 (valL cols row g) 1)else
    bif op==15 then wg (wW (wg (at0 (valL cols row g) 0)) (wg (at0 (valL cols row g) 1)))else
    bif ym (valL cols row g)then zF else xp op l (valL cols row g):=by grind[cL]
   rw[o];have hn:=r.1;clear o hT he P;rw[Yq]at ab⊢;have hp:∀k,QM op l=k->(g.length:Int)=k:=λk h=>ek
   have ho:op=1\/op=2\/(op=3\/op=4)\/(5<=op/\op<=9)\/(10<=op/\op<=13)\/op=14\/op=15\/op=16:=ej
   have j:∀k:Int,op≠k->(op==k)=false:=λk h=>by simpa using h
   rcases ho with rfl|rfl|h|h|h|rfl|rfl|rfl
   .show yF v.k v;have hc:=aaR (by rfl) hn;refine agp ?_;unfold jZ at hc;cases hb:(yy v.k v !=0)
    .grind
    simp_all
   .have h2:(bif decide (ze cols l<0)then((0:Int),(16:Int))else(uu cols (ze cols l),0)).2=0:=i;have R:=Xg (λx=>zl x.name l) cols 0 (bX _);have I:¬ze cols l<0:=λh=>ek
    show yF (bif decide (ze cols l<0)then((0:Int),(16:Int))else(uu cols (ze cols l),0)).1 (at0 row (ze cols l).toNat);have h5:(ze cols l).toNat<cols.length:=by grind[ze]
    rw[bQ I];simp_all[uu,aB7]
   .have U:g.length=1:=by have:=hp 1 (by rcases h with rfl|rfl<;>rfl);omega
    match g,U with
    |[a],_=>
      have e:uP cols op l v ([a].map λk=>(k.ty cols).1)=uI (xq [(a.ty cols).1] (bif op==3 then 1 else 2)) (bif op==3 then 1 else 2):=by rcases h with rfl|rfl<;>rfl
      rw[e]at i⊢;obtain⟨R,I⟩:=yW i;rw[I,j 1 ej,j 2 ej,j 14 ej,j 15 ej];simp only[aG];cases hA:ym ([a].map (cL cols row))
      .grind[aGq,ah3]
      exact .inl rfl
   .have U:g.length=2:=by
     have p:op=5\/op=6\/op=7\/op=8\/op=9:=ej
     have:=hp 2 (by rcases p with rfl|rfl|rfl|rfl|rfl<;>rfl);omega
    match g,U with
    |[a,b],_=>
      have e:uP cols op l v ([a,b].map λk=>(k.ty cols).1)=uI (xq [(a.ty cols).1,(b.ty cols).1] 2) 2:=by
       have p:op=5\/op=6\/op=7\/op=8\/op=9:=ej
       rcases p with rfl|rfl|rfl|rfl|rfl<;>rfl
      rw[e]at i⊢;obtain⟨R,I⟩:=yW i;obtain⟨h5,h6⟩:=KH R;rw[I,j 1 ej,j 2 ej,j 14 ej,j 15 ej];simp only[aG];cases hA:ym ([a,b].map (cL cols row))
      .grind[aE3]
      exact .inl rfl
   .have e:(uP cols op l v (g.map λk=>(k.ty cols).1)).1=1:=by
     have p:op=10\/op=11\/op=12\/op=13:=ej
     rcases p with rfl|rfl|rfl|rfl
     .exact(yW i).2
     .exact(yW i).2
     .exact(yW i).2
     exact(yW i).2
    rw[e];rw[j 1 ej,j 2 ej,j 14 ej,j 15 ej];simp only[aG];cases hA:ym (g.map (cL cols row))
    .have p:op=10\/op=11\/op=12\/op=13:=ej
     rcases p with rfl|rfl|rfl|rfl<;>exact Ka _
    exact .inl rfl
   .have h2:=yW (show(uI (xq (g.map λk=>(k.ty cols).1) 1) 1).2=0 from i);show yF (uI (xq (g.map λk=>(k.ty cols).1) 1) 1).1 (wW _ _)
    grind[amd,au9]
   .have h2:=yW (show(uI (xq (g.map λk=>(k.ty cols).1) 1) 1).2=0 from i);show yF (uI (xq (g.map λk=>(k.ty cols).1) 1) 1).1 (wg (wW _ _))
    grind[amd,ay6,au9]
   have ae:=Kh rfl hn;have ad:(g.length:Int)=y9 l:=aa;have i:(ZL l (g.map λk=>(k.ty cols).1)).2=0:=i;show yF (ZL l (g.map λk=>(k.ty cols).1)).1 (bif ym (g.map (cL cols row))then zF else jD l (g.map (cL cols row)));cases hA:ym (g.map (cL cols row))with
   |true=>exact .inl rfl
   |false=>
    grind[aB9]
theorem azG{cols}{row}{e}{k}(l:Qe cols row=true)(h:e.tyE cols=(k,0)):yF k (exprV cols row e):=by
 unfold Ex.tyE at h;obtain⟨g,i⟩:e.chk=0/\e.ty cols=(k,0):=by cases j:(e.chk !=0)<;>simp_all
 grind[anu,V4,Ex.tyE,exprV]
end
section
attribute [local irreducible] Sat zH z6
def xW(cols:am Col)(i:Int):=cols.getD i.toNat ⟨⟨#[]⟩,0⟩
def takeErr(cols:am Col)(g:am ByteArray):=g.any λs=>decide (ze cols s<0)
def takeC(cols:am Col)(g:am ByteArray):=g.map λs=>xW cols (ze cols s)
def JS(e:Int):Res:=⟨.tup [.c (.d (.sl [])),.c (int e)],[]⟩
def rCs(l:am Col):Res:=⟨.tup [.c (.d (.sl (zj l))),.c (int 0)],[]⟩
theorem um{cols}{k}(h:0<=k)(g:k<cols.length):(zj cols)[k.toNat]?=some (xW cols k).ds:=by grind[xW,zj]
theorem xJ(cols)(s):¬ze cols s<0->0<=ze cols s/\ze cols s<cols.length:=λh=>by
 have:=Xg (λx=>zl x.name s) cols 0 (bX _)
 grind[ze]
def tkS(cols:am Col)(j:am ByteArray)(i:Nat)(g:am Col):S:=⟨[(0,.w (.c (.d (.sl (zj cols))))),(6,cV (.own 27 2 g.length)),(10,.w (.c (.d (.sl (zo j))))),(11,zh j.length),(12,zh i)],[(27,.arr 2 (zj g) false)]⟩
def rNE(e:Int):Res:=⟨.tup [.c .nil,.c (int e)],[]⟩
def rCo(l:am Col):Res:=⟨.tup [.c (.own 0 2 l.length),.c (int 0)],[.arr 2 (zj l) false]⟩
theorem af2(cols)(g)(hn:g.length<=1000000):ex apQ [.c (.d (.sl (zj cols))),.c (.d (.sl (zo g)))] (bif takeErr cols g then rNE 16 else rCo (takeC cols g)):=by
 refine Jn.s T8 ?_;rw[zA];refine zX (P:=Pg) (f:=T8.f) (body:=(Jn.l 0)) g.length (λi=>tkS cols g i (takeC cols (g.take i))) (λi=>takeErr cols (g.take i)=false) ⟨rfl,⟨_,zx 6 27 2 ej ej rfl,?_⟩⟩ ?_
 .exact rfl
 intro i hi hR;have ae:(takeC cols (g.take i)).length=i:=by grind[takeC]
 have R:∀h:i<g.length,takeC cols (g.take (i+1))=takeC cols (g.take i)++[xW cols (ze cols g[i])]:=λh=>by grind[takeC,zD]
 have I:∀h:i<g.length,takeErr cols (g.take (i+1))=decide (ze cols g[i]<0):=λh=>by grind[takeErr,zD]
 have ab:g.length<=i->(bif takeErr cols g then rNE 16 else rCo (takeC cols g))=rCo (takeC cols (g.take i)):=λh=>ek
 have o:∀h:i<g.length,decide (ze cols g[i]<0)=true->(bif takeErr cols g then rNE 16 else rCo (takeC cols g))=rNE 16:=λh U=>by grind[takeErr]
 show mwpR Pg T8.f (Jn.l 0) _ (tkS cols g i (takeC cols (g.take i)));generalize takeC cols (g.take i)=T at*;have ad:(zj T).take T.length=zj T:=by grind[zy]
 unfold tkS;refine xL (λj=>?_) (λac=>?_)
 .have hg:=xh j;have R:=R j;have I:=I j;have o:=o j;have aa:=qq cols g[i];have p:=xJ cols g[i];have wi:=zu j ej;have J:=λh=>um (p h).1 (p h).2
  generalize g[i]=x at*;generalize ze cols x=k at*;refine zw hg ?_;refine aK aa ?_;refine zt (b:=decide (k<0)) (λU=>?_) (λU=>?_)
  .rw[o U];exact rfl
  have h3:=aD U;have J:=J h3;have hb:=p h3;refine zw J ?_ (hA:=hb.1);refine yQ ?_;refine zI j (I.trans U) ?_;rw[wi,ad,R,aI];simp only[zj,aU];rfl
 rw[ab ac];exact rfl
def jJ(cols:am Col)(a:Agg):Int×Col:=
 bif !zl a.fn vj then
  bif decide (ze cols a.col<0)then(16,⟨a.nm,0⟩)else
  bif zl a.fn aaY&&(xW cols (ze cols a.col)).t !=2 then(14,⟨a.nm,0⟩)else(0,⟨a.nm,(xW cols (ze cols a.col)).t⟩)
 else(0,⟨a.nm,2⟩)
def yk(cols:am Col):am Agg->Int×am Col
 |[]=>(0,[])
 |a::r=>bif (jJ cols a).1 !=0 then((jJ cols a).1,[])else((yk cols r).1,(jJ cols a).2::(yk cols r).2)
def axg(cols)(i)(g):=
 bif takeErr cols i then JS 16 else bif (yk cols g).1 !=0 then JS (yk cols g).1 else rCs (takeC cols i++(yk cols g).2)
def tgS(cols:am Col)(g:am Agg)(j:Nat)(i:am Col):S:=⟨[(0,.w (.c (.d (.sl (zj cols))))),(6,cV (.own 65 2 i.length)),(24,.w (.c (.d (.sl (ql g))))),(25,zh g.length),(26,zh j)],[(65,.arr 2 (zj i) false)]⟩
theorem ati(cols)(st:Stp)(aa:st.cols.length<=1000000)(ag:st.aggs.length<=100000):ex kw [.c (.d (.sl (zj cols))),.agg st.cs] (axg cols st.cols st.aggs):=by
 have J:=af2 cols st.cols aa;have ab:(takeC cols st.cols).length=st.cols.length:=by simp[takeC]
 unfold axg;obtain⟨op,⟨eo,nm,⟨v1,v2,v3⟩,ks⟩,ai,af,g,aj,sn,tb⟩:=st;simp only at J ab aa ag;refine zJ ?_;unfold Stp.cs wE;simp only;cases ad:takeErr cols af with
 |true=>
  rw[ad,aJ]at J;refine Yf.s T8 ?_;refine aK J ?_;exact⟨rfl,rfl⟩
 |false=>
  rw[ad,aG]at J;simp only[aG];generalize takeC cols af=T0 at*;refine Yf.s T8 ?_;refine aK J ?_;rw[wR];refine yD (P:=Pg) (f:=T8.f) (body:=(Yf.l 0)) (λx:Nat×am Col=>tgS cols g x.1 x.2) (λx=>g.length-x.1) (λx=>x.1<=g.length/\x.2.length<=1000000+x.1/\(yk cols g).1=(yk cols (g.drop x.1)).1/\((yk cols (g.drop x.1)).1=0->T0++(yk cols g).2=x.2++(yk cols (g.drop x.1)).2)) ⟨(0,T0),⟨aT _,ek,rfl,λ_=>rfl⟩,⟨_,wY 6 600272 65 2 _ _ ej rfl rfl,?_⟩⟩ ?_
  .exact rfl
  rintro⟨j,T⟩ hx;obtain⟨hj,ak,i,o⟩:j<=g.length/\T.length<=1000000+j/\(yk cols g).1=(yk cols (g.drop j)).1/\((yk cols (g.drop j)).1=0->T0++(yk cols g).2=T++(yk cols (g.drop j)).2):=hx;show mwpR Pg T8.f (Yf.l 0) _ (tgS cols g j T);have R:(zj T).take T.length=zj T:=by grind[zy]
  unfold tgS;refine xL (λI=>?_) (λah=>?_)
  .have hg:=Y7 I;rw[zm I]at i o;simp only[yk]at i o;have wi:=zu I ej;generalize g[j]=a at*;obtain⟨a1,U,a3⟩:=a;unfold jJ at i o;simp only at i o;have p:=af2 cols [U] ep;have ae:takeErr cols [U]=decide (ze cols U<0):=by simp[takeErr]
   have ac:takeC cols [U]=[xW cols (ze cols U)]:=rfl;rw[ae,ac]at p;generalize xW cols (ze cols U)=c at*;obtain⟨c1,c2⟩:=c;simp only at i o;refine zw hg ?_;refine zg (b:=!zl a1 vj) (λh2=>?_) (λh2=>?_)
   .rw[h2]at i o;simp only[aJ]at i o;(conv=>whnf);cases hb:decide (ze cols U<0)with
    |true=>
     rw[hb]at i p;have i:(yk cols g).1=16:=i;rw[i];simp only[aJ]at p;refine aK p ?_;exact⟨rfl,rfl⟩
    |false=>
     rw[hb]at i o p;simp only[aG]at i o p;refine aK p ?_;refine zt (b:=zl a1 aaY) (λh3=>?_) (λh3=>?_)
     .rw[h3,Bool.true_and]at i o;refine aw2 ?_ (hB:=ek);refine⟨_,rfl,?_⟩;refine zg (b:=c2 !=2) (λh4=>?_) (λh4=>?_)
      .rw[h4]at i;have i:(yk cols g).1=14:=i;rw[i];exact⟨rfl,rfl⟩
      rw[h4]at i o;have i:(yk cols g).1=(yk cols (g.drop (j+1))).1:=i;have o:(yk cols (g.drop (j+1))).1=0->T0++(yk cols g).2=T++(⟨a3,c2⟩::(yk cols (g.drop (j+1))).2):=o;refine aw2 ?_ (hB:=ek);refine⟨_,rfl,?_⟩;refine yQ ?_;refine⟨(j+1,T++[⟨a3,c2⟩]),⟨⟨I,ek,i,λh=>ek⟩,ek⟩,zi ?_⟩;rw[wi,R,aI];simp only[zj,aU];rfl
     rw[h3,Bool.false_and]at i o;have i:(yk cols g).1=(yk cols (g.drop (j+1))).1:=i;refine aw2 ?_ (hB:=ek);refine⟨_,rfl,?_⟩;refine yQ ?_;refine⟨(j+1,T++[⟨a3,c2⟩]),⟨⟨I,ek,i,λh=>ek⟩,ek⟩,zi ?_⟩;rw[wi,R,aI];simp only[zj,aU];rfl
   rw[h2]at i o;refine yQ ?_;refine⟨(j+1,T++[⟨a3,2⟩]),⟨⟨I,by show(T++[(⟨a3,2⟩:Col)]).length<=1000000+(j+1);simp;omega,i,λh=>by rw[o h];simp⟩,by show g.length-(j+1)<g.length-j;omega⟩,zi ?_⟩;rw[wi,R,aI];simp only[zj,aU];rfl
  rw[aC ah]at i o;simp only[yk,aQ]at i o;simp only[forall_const]at o;rw[i,o];refine UP ?_;show Res.mk (.tup [.c (.d (.sl ((zj T).take T.length))),.c (int 0)]) []=_;rw[R];rfl
theorem JU(l)(g:l.length<=1000000):Sat Pg Wt [.c (.d (.sl (zj l)))] (λr=>(l=[]/\r=rC .nil)\/r=aaU 2 (zj l)):=by
 refine z7 T3 Wl.ok er ?_;refine⟨λh=>?_,?_⟩
 .conv=>whnf
  left
  refine⟨?_,rfl⟩;cases l with
  |nil=>rfl
  |cons a r=>cases h
 (conv=>whnf);refine⟨avf l,by grind[zW,zy],by grind[zy],?_⟩
 right
 show Res.mk (.w (.c (.own 0 2 (([]:am (am D)).length+(zj l).length)))) [.arr 2 (([]:am (am D)).take ([]:am (am D)).length++zj l) false]=_;simp_all[aaU]
theorem ahc(g)(cap):ex Y1 [.c (.d (.sl [])),.c (.d (.fn g cap))] (rI (-1)):=by refine z7 T8 vl.ok er ?_;refine jp (P:=Pg) (f:=T8.f) (body:=(vl.l 0)) 1 ?_;exact rfl
theorem adl(g)(cap):ex Z3 [.c (.d (.sl [])),.c (.d (.fn g cap))] (rB false):=by refine ZU.s T8 ?_;refine aK (ahc g cap) ?_;rfl
def jnErr(cols g:am Col):am ByteArray->Int
 |[]=>0
 |s::r=>bif decide (ze cols s<0)||decide (ze g s<0)then 16 else bif (xW cols (ze cols s)).t !=(xW g (ze g s)).t then 14 else jnErr cols g r
def vy(cs:am ByteArray)(l:am Col):=l.filter λc=>!hasB cs c.name
def dupL(pre:am Col):am Col->Bool
 |[]=>false
 |c::r=>bif decide (ze pre c.name>=0)then true else dupL (pre++[c]) r
def jnQ(cols g)(cs):=
 bif jnErr cols g cs !=0 then JS (jnErr cols g cs)else bif dupL [] (cols++vy cs g)then JS 4 else bif decide (((cols++vy cs g).length:Int)>32)then JS 7 else rCs (cols++vy cs g)
def jnT(d:am Nmd)(cols:am Col)(cs:am ByteArray)(g:ByteArray):Res:=match zC g d with
 |none=>JS 17
 |some t=>jnQ cols t.cols cs
def jfb(o:Int)(r:ByteArray)(v1 P:Int)(v3:ByteArray)(p:am Ex)(g:am Itm)(l:am ByteArray)(i:am Agg)(j:am Srt)(I:Int)(J:ByteArray):Pl:=
 .fbox [.lit (.int .i64 6),.lit (.int .i64 o),.lit (.string r),.lit (.int .i64 v1),.lit (.int .i64 P),.lit (.string v3),.sl (exsD p),.sl (yI g),.sl (zo l),.sl (ql i),.sl (yU j),.lit (.int .i64 I),.lit (.string J)]
def tjS(r:Int)(J:ByteArray)(v1 T:Int)(v3:ByteArray)(I:am Ex)(g:am Itm)(p:am ByteArray)(j:am Agg)(l:am Srt)(P:Int)(R:ByteArray)(tc:am Col)(i:Nat)(o:am Col):S:=
 ⟨[(5,cV (.ptr 5 0)),(10,cV .nil),(20,cV (.own 128 2 o.length)),(106,.w (.c (.d (.sl (zj tc))))),(107,zh tc.length),(108,zh i)],[(5,jfb r J v1 T v3 I g p j l P R),(128,.arr 2 (zj o) false)]⟩
theorem aEr{Q:E->S->Prop}{s}(U)(nm)(v1 v2)(v3)(ks:am Ex)(j)(g)(o)(p)(sn)(tb)(cols tc)(ae:cols.length<=1000000)(af:tc.length<=1000000)
 (h0:xO s [5,10,20,106,107,108] (· =tjS U nm v1 v2 v3 ks j g o p sn tb tc 0 cols))
 (hQ:Q (.exit 8) (y5 (tjS U nm v1 v2 v3 ks j g o p sn tb tc tc.length (cols++vy g tc)) 109 (yf (decide ((tc.length:Int)<tc.length))))):
 z6 (mwpR Pg T8.f (zQ.l 3)) [5,10,20,106,107,108] Q s:=by
 refine zX (P:=Pg) (f:=T8.f) (body:=(zQ.l 3)) tc.length (λi=>tjS U nm v1 v2 v3 ks j g o p sn tb tc i (cols++vy g (tc.take i))) (λ_=>True) ⟨trivial,?_⟩ ?_
 .grind[vy]
 intro i hi _;have ad:(cols++vy g (tc.take i)).length<=1000000+i:=by grind[vy]
 have r:∀h:i<tc.length,cols++vy g (tc.take (i+1))=(cols++vy g (tc.take i))++(bif !hasB g tc[i].name then [tc[i]]else []):=λh=>by grind[vy,ud]
 have J:i=tc.length->cols++vy g tc=cols++vy g (tc.take i):=λh=>ek
 show mwpR Pg T8.f (zQ.l 3) _ (tjS U nm v1 v2 v3 ks j g o p sn tb tc i (cols++vy g (tc.take i)));generalize cols++vy g (tc.take i)=T at*;have ac:(zj T).take T.length=zj T:=by grind[zy]
 unfold tjS jfb;refine Zc (λI=>?_) (λR=>?_)
 .have hg:=yN I;have r:=r I;have ab:=yJ g tc[i].name;have aa:=yJ [] tc[i].name;have wi:=zu I ej;generalize tc[i]=c at*;obtain⟨c1,c2⟩:=c;generalize hasB g c1=b at*;refine zw hg ?_;refine aK ab ?_;refine zt (b:=!b) (λh2=>?_) (λh2=>?_)
  .rw[h2,aJ]at r;refine aK aa ?_;refine yQ ?_;refine zI I trivial ?_;rw[wi,ac,r,aI];simp only[zj,aU];rfl
  rw[h2,aG,aQ]at r;refine zI I trivial ?_;rw[wi,r];rfl
 rw[J R]at hQ;subst R;exact hQ
theorem auM(d)(cols)(st:Stp)(ai:st.op=6)(aq:st.cols.length<=1000000)(ae:cols.length<=1000000)(R:∀t,zC st.table d=some t->t.cols.length<=1000000):
 ex uz [.c (.d (.sl (zL d))),.c (.d (.sl (zj cols))),.agg st.cs] (jnT d cols st.cols st.table):=by
 have T:=w8 d st.table;unfold jnT;obtain⟨op,⟨eo,nm,⟨v1,v2,v3⟩,ks⟩,U,p,aa,ab,sn,tb⟩:=st;simp only at ai aq R T;subst ai;refine zJ ?_;unfold Stp.cs wE;simp only;cases hf:zC tb d with
 |none=>
  rw[hf]at T;refine zQ.s T8 ?_;refine aK T ?_;exact⟨rfl,rfl⟩
 |some t=>
  rw[hf]at T;have R:=R t hf;obtain⟨tc,tr⟩:=t;simp only at R;unfold jnQ;refine zQ.s T8 ?_;refine aK T ?_;refine aK (adl JQ _) ?_;rw[zA];refine xm T8 (zQ.l 0) p.length (λi=>⟨[(1,.w (.c (.d (.sl (zj cols))))),(5,cV (.ptr 5 0)),(8,cV (.ptr 8 0)),(10,cV .nil),(46,.w (.c (.d (.sl (zo p))))),(47,zh p.length),(48,zh i)],[(5,jfb eo nm v1 v2 v3 ks U p aa ab sn tb),(8,.box [.d (.sl (zj tc)),.d (.sl (zd tr))])]⟩) (λi=>jnErr cols tc p=jnErr cols tc (p.drop i)) ?_
  intro i hi g;unfold jfb;refine xL (λj=>?_) (λJ=>?_)
  .rw[zm j]at g;simp only[jnErr]at g;have hg:=xh j;have wi:=zu j ej;have an:=qq cols p[i];have ao:=qq tc p[i];have ac:=xJ cols p[i];have ad:=xJ tc p[i];have ag:=λh=>um (ac h).1 (ac h).2
   have ah:=λh=>um (ad h).1 (ad h).2
   generalize p[i]=x at*;generalize ze cols x=k1 at*;generalize ze tc x=k2 at*;refine zw hg ?_;refine aK an ?_;refine aK ao ?_;refine zt (b:=decide (k1<0)||decide (k2<0)) (λI=>?_) (λI=>?_)
   .rw[I]at g;have g:jnErr cols tc p=16:=g;simp only[g];exact⟨rfl,rfl⟩
   rw[I,aG]at g;rw[cE]at I;have n1:=aD I.1;have n2:=aD I.2;have ac:=ac n1;have ad:=ad n2;have ag:=ag n1;have ah:=ah n2;generalize xW cols k1=c1,xW tc k2=c2 at*;obtain⟨au,aj⟩:=c1;obtain⟨av,ak⟩:=c2;simp only at g;refine zw ag ?_ (hA:=ac.1);refine zw ah ?_ (hA:=ad.1);refine zg (b:=aj !=ak) (λh3=>?_) (λh3=>?_)
   .rw[h3]at g;have g:jnErr cols tc p=14:=g;simp only[g];exact⟨rfl,rfl⟩
   rw[h3,aG]at g;refine zI j g ?_;rw[wi];rfl
  rw[aC J]at g;have g:jnErr cols tc p=0:=g;simp only[g];clear g;(conv=>whnf);refine jp (P:=Pg) (f:=T8.f) (body:=(zQ.l 2)) 3 ?_;refine aw2 ?_ (hB:=ek);refine⟨_,rfl,?_⟩;(conv=>whnf);refine jp (P:=Pg) (f:=T8.f) (body:=(zQ.l 1)) 1 ?_;refine aw2 ?_ (hA:=et) (hB:=by show(1:Int)<((2:Nat):Int);omega);refine⟨_,rfl,?_⟩;(conv=>whnf);refine jp (P:=Pg) (f:=T8.f) (body:=(zQ.l 1)) 1 ?_;(conv=>whnf);refine bI (JU cols ae) ?_;rintro _ (⟨ar,rfl⟩|rfl)
  ·(conv=>whnf);refine aEr eo nm v1 v2 v3 ks U p aa ab sn tb cols tc ae R ⟨_,zx 20 128 2 ej ej rfl,?_⟩ ?_
   ·(conv=>whnf);unfold tjS;rw[zy,ar];rfl
   unfold y5 tjS jfb;have al:(cols++vy p tc).length<=2000000:=by grind[vy]
   clear R ae T;generalize cols++vy p tc=O at*;(conv=>whnf);refine zX (P:=Pg) (f:=T8.f) (body:=(zQ.l 4)) O.length (λi=>⟨[(20,cV (.own 128 2 O.length)),(130,cV (.own 128 2 O.length)),(131,zh O.length),(132,zh i)],[(128,.arr 2 (zj O) false)]⟩) (λi=>dupL [] O=dupL (O.take i) (O.drop i)) ⟨rfl,zi ?_⟩ ?_
   .exact rfl
   intro i hi g;cases i with
   |zero=>
    refine zg (b:=decide ((0:Nat)<(O.length:Int))) (λh1=>?_) (λh1=>?_)
    .have j:0<O.length:=eu
     rw[zm j]at g;simp only[dupL]at g;rw[<-zD j]at g;have hg:=yN j;have wi:=zu j ej;have o:=qq (O.take (0)) O[0].name;have ht:zj (O.take (0))=(zj O).take (0):=by grind[zj]
     rw[ht]at o;generalize af:dupL (O.take (0+1)) (O.drop (0+1))=rest,O[0]=c at*;obtain⟨c1,c2⟩:=c;simp only at g o;generalize ze (O.take (0)) c1=k at*;(conv=>whnf);refine⟨ej,ej,?_⟩;(conv=>whnf);refine⟨_,hg,?_⟩;(conv=>whnf);refine⟨by show(0:Int)<=((0:Nat):Int);omega,by show((0:Nat):Int)<=(O.length:Int);omega,?_⟩;refine aK o ?_;refine zt (b:=decide (k>=0)) (λI=>?_) (λI=>?_)
     .rw[I]at g;have g:dupL [] O=true:=g;rw[g];exact⟨rfl,rfl⟩
     rw[I]at g;have g:dupL [] O=rest:=g;(conv=>whnf);refine⟨j,g,zi ?_⟩;(conv=>whnf);rw[wi];rfl
    have J:O.length<=0:=ek
    rw[aC J]at g;have g:dupL [] O=false:=g;rw[g];refine zg (b:=decide ((O.length:Int)>32)) (λh5=>?_) (λh5=>?_)
    .grind
    rw[h5];(conv=>whnf);refine⟨rfl,?_⟩;show Res.mk (.tup [.c (.d (.sl ((zj O).take O.length))),.c (int 0)]) []=_;rw[<-zy,aP];rfl
   |succ i=>
    refine zg (b:=decide ((i+1:Nat)<(O.length:Int))) (λh1=>?_) (λh1=>?_)
    .have j:i+1<O.length:=by have:=aE h1;omega
     rw[zm j]at g;simp only[dupL]at g;rw[<-zD j]at g;have hg:=yN j;have wi:=zu j ej;have o:=qq (O.take (i+1)) O[i+1].name;have ht:zj (O.take (i+1))=(zj O).take (i+1):=by grind[zj,bE]
     rw[ht]at o;generalize af:dupL (O.take (i+1+1)) (O.drop (i+1+1))=rest,O[i+1]=c at*;obtain⟨c1,c2⟩:=c;simp only at g o;generalize ze (O.take (i+1)) c1=k at*;(conv=>whnf);refine⟨ej,ej,?_⟩;(conv=>whnf);refine⟨_,hg,?_⟩;(conv=>whnf);refine⟨by show(0:Int)<=((i+1:Nat):Int);omega,by show((i+1:Nat):Int)<=(O.length:Int);omega,?_⟩;refine aK o ?_;refine zt (b:=decide (k>=0)) (λI=>?_) (λI=>?_)
     .rw[I]at g;have g:dupL [] O=true:=g;rw[g];exact⟨rfl,rfl⟩
     rw[I]at g;have g:dupL [] O=rest:=g;(conv=>whnf);refine⟨j,g,zi ?_⟩;(conv=>whnf);rw[wi];rfl
    have J:O.length<=i+1:=ek
    rw[aC J]at g;have g:dupL [] O=false:=g;rw[g];refine zg (b:=decide ((O.length:Int)>32)) (λh5=>?_) (λh5=>?_)
    .rw[h5];exact⟨rfl,rfl⟩
    rw[h5];(conv=>whnf);refine⟨rfl,?_⟩;show Res.mk (.tup [.c (.d (.sl ((zj O).take O.length))),.c (int 0)]) []=_;rw[<-zy,aP];rfl
  (conv=>whnf);refine aEr eo nm v1 v2 v3 ks U p aa ab sn tb cols tc ae R ⟨_,wY 20 601664 128 2 _ _ ej rfl rfl,?_⟩ ?_
  ·(conv=>whnf);unfold tjS;rw[zy,zy];rfl
  unfold y5 tjS jfb;have al:(cols++vy p tc).length<=2000000:=by grind[vy]
  clear R ae T;generalize cols++vy p tc=O at*;(conv=>whnf);refine zX (P:=Pg) (f:=T8.f) (body:=(zQ.l 4)) O.length (λi=>⟨[(20,cV (.own 128 2 O.length)),(130,cV (.own 128 2 O.length)),(131,zh O.length),(132,zh i)],[(128,.arr 2 (zj O) false)]⟩) (λi=>dupL [] O=dupL (O.take i) (O.drop i)) ⟨rfl,zi ?_⟩ ?_
  .exact rfl
  intro i hi g;cases i with
  |zero=>
   refine zg (b:=decide ((0:Nat)<(O.length:Int))) (λh1=>?_) (λh1=>?_)
   .have j:0<O.length:=eu
    rw[zm j]at g;simp only[dupL]at g;rw[<-zD j]at g;have hg:=yN j;have wi:=zu j ej;have o:=qq (O.take (0)) O[0].name;have ht:zj (O.take (0))=(zj O).take (0):=by grind[zj]
    rw[ht]at o;generalize af:dupL (O.take (0+1)) (O.drop (0+1))=rest,O[0]=c at*;obtain⟨c1,c2⟩:=c;simp only at g o;generalize ze (O.take (0)) c1=k at*;(conv=>whnf);refine⟨ej,ej,?_⟩;(conv=>whnf);refine⟨_,hg,?_⟩;(conv=>whnf);refine⟨by show(0:Int)<=((0:Nat):Int);omega,by show((0:Nat):Int)<=(O.length:Int);omega,?_⟩;refine aK o ?_;refine zt (b:=decide (k>=0)) (λI=>?_) (λI=>?_)
    .rw[I]at g;have g:dupL [] O=true:=g;rw[g];exact⟨rfl,rfl⟩
    rw[I]at g;have g:dupL [] O=rest:=g;(conv=>whnf);refine⟨j,g,zi ?_⟩;(conv=>whnf);rw[wi];rfl
   have J:O.length<=0:=ek
   rw[aC J]at g;have g:dupL [] O=false:=g;rw[g];refine zg (b:=decide ((O.length:Int)>32)) (λh5=>?_) (λh5=>?_)
   .grind
   rw[h5];(conv=>whnf);refine⟨rfl,?_⟩;show Res.mk (.tup [.c (.d (.sl ((zj O).take O.length))),.c (int 0)]) []=_;rw[<-zy,aP];rfl
  |succ i=>
   refine zg (b:=decide ((i+1:Nat)<(O.length:Int))) (λh1=>?_) (λh1=>?_)
   .have j:i+1<O.length:=by have:=aE h1;omega
    rw[zm j]at g;simp only[dupL]at g;rw[<-zD j]at g;have hg:=yN j;have wi:=zu j ej;have o:=qq (O.take (i+1)) O[i+1].name;have ht:zj (O.take (i+1))=(zj O).take (i+1):=by grind[zj,bE]
    rw[ht]at o;generalize af:dupL (O.take (i+1+1)) (O.drop (i+1+1))=rest,O[i+1]=c at*;obtain⟨c1,c2⟩:=c;simp only at g o;generalize ze (O.take (i+1)) c1=k at*;(conv=>whnf);refine⟨ej,ej,?_⟩;(conv=>whnf);refine⟨_,hg,?_⟩;(conv=>whnf);refine⟨by show(0:Int)<=((i+1:Nat):Int);omega,by show((i+1:Nat):Int)<=(O.length:Int);omega,?_⟩;refine aK o ?_;refine zt (b:=decide (k>=0)) (λI=>?_) (λI=>?_)
    .rw[I]at g;have g:dupL [] O=true:=g;rw[g];exact⟨rfl,rfl⟩
    rw[I]at g;have g:dupL [] O=rest:=g;(conv=>whnf);refine⟨j,g,zi ?_⟩;(conv=>whnf);rw[wi];rfl
   have J:O.length<=i+1:=ek
   rw[aC J]at g;have g:dupL [] O=false:=g;rw[g];refine zg (b:=decide ((O.length:Int)>32)) (λh5=>?_) (λh5=>?_)
   .rw[h5];exact⟨rfl,rfl⟩
   rw[h5];(conv=>whnf);refine⟨rfl,?_⟩;show Res.mk (.tup [.c (.d (.sl ((zj O).take O.length))),.c (int 0)]) []=_;rw[<-zy,aP];rfl
theorem Vt(a b):ex ac0 [zE a,zE b] (rB (xS a b)):=by
 refine yZ 0 er rfl λj=>?_
 rw[zp]at j;unfold xS;refine W8.s T8 ?_;rw[zp,zp];refine zt (λh=>?_) (λh=>?_)
 .rw[h];rfl
 rw[h];have P:=amA h;(conv=>whnf);rw[zp];refine xm T8 (W8.l 0) a.length (λi=>⟨[(0,.w (zE a)),(1,.w (zE b)),(12,zh a.length),(13,zh i)],[]⟩) (λi=>xB yH a b=xB yH (a.drop i) (b.drop i)) ?_
 intro i R o;refine xL (λg=>?_) (λJ=>?_)
 .have p:i<b.length:=ej
  rw[zm g,zm p]at o;refine zw (yq g) ?_;refine zw (yq p) ?_;refine zg (b:=!yH a[i] b[i]) (λI=>?_) (λI=>?_)
  .simp only[xB,I,aJ]at o;exact bC rB o.symm
  simp only[xB,I,aG]at o;refine zI g o ?_;rw[zu g j];rfl
 rw[UO _ J P]at o;exact bC rB o.symm
theorem alb(l)(v):ex ac3 [zE l,v.w] (rI (zO (yH v) 0 l)):=by
 refine yZ 0 er rfl λo=>?_
 rw[zp]at o;obtain⟨v1,p,v3⟩:=v;refine W9.s T8 ?_;rw[zp];refine xm T8 (W9.l 0) l.length (λi=>⟨[(0,.w (zE l)),(3,cV (.ptr 3 0)),(7,zh l.length),(8,zh i)],[(3,.box [int v1,int p,str v3])]⟩) (λi=>zO (yH ⟨v1,p,v3⟩) 0 l=zO (yH ⟨v1,p,v3⟩) i (l.drop i)) ?_
 intro i hi j;refine xL (λg=>?_) (λJ=>?_)
 .rw[zm g]at j;simp only[zO]at j;have P:=yq g;have R:=zu g o;generalize l[i]=x at*;obtain⟨T,U,x3⟩:=x;refine zw P ?_;refine zg (b:=yH ⟨v1,p,v3⟩ ⟨T,U,x3⟩) (λI=>?_) (λI=>?_)
  .rw[I]at j;rw[j];exact rfl
  rw[I]at j;refine zI g j ?_;rw[R];rfl
 rw[aC J]at j;rw[j];exact rfl
theorem U9(l)(v):ex kV [zE l,v.w] (rB (l.any (yH v))):=by have h:=alb l v;have g:decide (zO (yH v) 0 l>=0)=l.any (yH v):=Yg (yH v) l 0;rw[<-g];refine kT.s T8 ?_;refine aK h ?_;rfl
theorem aAx(a b):rowD a++rowD b=rowD (a++b):=by simp[rowD]
def aat:am D:=[.lit (.int .i64 0),.lit (.int .i64 0),.lit (.string ⟨#[]⟩)]
theorem amX(n:Nat)(j:n<=1000000):zH Pg aee [.c .nil,.c (int n)] [] (λr=>(n=0/\r=⟨.w (.c .nil),[]⟩)\/(0<n/\r=⟨.w (.c (.own 0 3 0)),[.arr 3 (aV n aat) false]⟩)):=by
 refine vF T8 aeb.ok er ep ?_;have h0:aB.wrap ((0:Int)-0)=0:=zT ej ej;have i:aB.wrap ((n:Int)-aB.wrap (0-0))=n:=by grind[zT]
 conv=>whnf
 rw[i];refine zt (λg=>?_) (λg=>?_)
 .have g:=aE g;refine⟨by simp[ye],by simp[ye],by simp[ye],?_⟩;refine⟨ej,by grind[zW],ej,?_⟩;refine aw2 ?_ (hA:=by simp[ye]) (hB:=by simp[ye]);exact .inr ⟨ej,rfl⟩
 have g:=aD g;exact .inl ⟨ej,rfl⟩
def cvC(xs ys:am Val):W:=.c (.d (.sl [[.sl (rowD xs)],[.sl (rowD ys)]]))
def cvS(xs ys:am Val)(a b:Int):S:=⟨[(0,.w (cvC xs ys)),(3,zh a),(9,.w (cvC xs ys)),(10,zh 2),(11,zh b)],[]⟩
def cvT(xs ys:am Val)(p n:Nat)(g:am (am D))(b:Int):S:=⟨[(6,cV (.own p 3 n)),(25,.w (cvC xs ys)),(26,zh 2),(27,zh b)],[(p,.arr 3 g false)]⟩
def cvF(xs ys:am Val)(x:Nat×am (am D)):S:=match x.1 with|0=>cvT xs ys 33 0 x.2 0|1=>cvT xs ys 33 xs.length x.2 1|_=>cvT xs ys 33 (xs++ys).length x.2 2
theorem avh{xs ys}(I:xs.length<=100000)(J:ys.length<=100000){Q:E->S->Prop}{s}(g)(h0:xO s [6,25,26,27] (· =cvT xs ys 33 0 g 0))
 (o:Q (.exit 2) ⟨[(6,cV (.own 33 3 (xs++ys).length)),(25,.w (cvC xs ys)),(26,zh 2),(27,zh 2),(28,yf (decide ((2:Int)<2)))],[(33,.arr 3 (rowD (xs++ys)) false)]⟩):
 z6 (mwpR Pg T8.f (uw.l 1)) [6,25,26,27] Q s:=by
 have v1:aB.wrap ((0:Int)+1)=1:=zT ej ej;have r:aB.wrap ((1:Int)+1)=2:=zT ej ej;refine yD (P:=Pg) (f:=T8.f) (body:=(uw.l 1)) (cvF xs ys) (λx=>2-x.1) (λx=>x.1=0\/(x.1=1/\x.2=rowD xs)\/(x.1=2/\x.2=rowD (xs++ys))) ⟨(0,g),.inl rfl,h0⟩ ?_;rintro⟨i,g⟩ p;have j:i=0\/(i=1/\g=rowD xs)\/(i=2/\g=rowD (xs++ys)):=p;rcases j with rfl|⟨rfl,j⟩|⟨rfl,j⟩
 .refine xK ?_;refine⟨Un xs,by grind[zW,zp],by grind[zp],?_⟩;(conv=>whnf);refine⟨(1,g.take 0++rowD xs),⟨.inr (.inl ⟨rfl,ep⟩),ek⟩,zi ?_⟩;rw[v1,cP,zp];rfl
 .refine xK ?_;refine⟨Un ys,by grind[zW,zp],by grind[zp],?_⟩;refine⟨(2,g.take xs.length++rowD ys),⟨.inr (.inr ⟨rfl,by grind[zp,aAx]⟩),ek⟩,zi ?_⟩;rw[r,zp,<-aI];rfl
 (conv=>whnf);subst j;exact o
theorem aiS(xs ys)(g:xs.length<=100000)(j:ys.length<=100000):
 ex abS [cvC xs ys] ⟨.w (.c (.own 0 3 (xs++ys).length)),[.arr 3 (rowD (xs++ys)) false]⟩:=by
 refine z7 T8 uw.ok er ?_;have p:aB.wrap ((0:Int)+((rowD xs).length:Nat))=((xs.length:Nat):Int):=by grind[zp,zT]
 have I:aB.wrap (((xs.length:Nat):Int)+((rowD ys).length:Nat))=((xs.length+ys.length:Nat):Int):=by grind[zp,zT]
 refine xm T8 (uw.l 0) 2 (λi=>match i with|0=>cvS xs ys 0 0|1=>cvS xs ys xs.length 1|_=>cvS xs ys ((xs.length+ys.length:Nat):Int) 2) (λ_=>True) ?_
 intro i J _;obtain rfl|rfl|rfl:i=0\/i=1\/i=2:=ej
 .refine xK ?_;rw[p];refine⟨ej,trivial,zi ?_⟩;rfl
 .refine xK ?_;rw[I];refine⟨ej,trivial,zi ?_⟩;rfl
 (conv=>whnf);refine zH.mono (amX (xs.length+ys.length) ej) ?_;rintro r (⟨o,rfl⟩|⟨o,rfl⟩)
 ·(conv=>whnf);refine avh g j [] ⟨_,zx 6 33 3 ej ej rfl,?_⟩ ?_
  .exact rfl
  exact rfl
 (conv=>whnf);refine avh g j (aV (xs.length+ys.length) aat) ⟨_,wY 6 600384 33 3 0 _ ej rfl rfl,?_⟩ ?_
 .exact rfl
 exact rfl
theorem auT(s)(p):VO s (s.withPl (vH s.pl p)):=λ_ _ z _ _ hr=>⟨z,hr.freeze p⟩
def oth(on:am ByteArray):Nat->am Col->am Int
 |_,[]=> []
 |i,c::r=>(bif !hasB on c.name then [(i:Int)]else [])++oth on (i+1) r
theorem amL(on):∀(l) (i:Nat),∀k∈oth on i l,(i:Int)<=k/\k<i+l.length
 |[],_,k,h=>by cases h
 |c::r,i,k,h=>by
  simp only[oth,cA]at h;rcases h with h|h
  .cases g:(!hasB on c.name)
   .grind
   rw[g,aJ,cK]at h;simp;omega
  have:=amL on r (i+1) k h<;>grind
def Zb(x:am Val)(key:am Val)(right g:am Int)(ys:am (am Val)):=(ys.filter λy=>xS key (pickL y right)).map λy=>x++pickL y g
def ait(left right g)(ys)(x):=bif (pickL x left).any (yH zF)then []else Zb x (pickL x left) right g ys
def vw(left right g:am Int)(xs ys:am (am Val)):=xs.flatMap (ait left right g ys)
theorem aog(x key)(right g)(ys):(Zb x key right g ys).length<=ys.length:=by grind[Zb]
theorem aCq(left right g)(ys)(x):(ait left right g ys x).length<=ys.length:=by unfold ait;cases(pickL x left).any (yH zF)<;>simp_all[aog]
theorem UY(left right g)(ys):∀xs,(vw left right g xs ys).length<=xs.length*ys.length
 |[]=>by simp[vw]
 |x::r=>by have j:=aCq left right g ys x;have i:=UY left right g ys r;simp only[vw,List.flatMap_cons,aI,List.length_cons]at i⊢;rw[Nat.add_mul];omega
def jnC(bc:am Col)(br:am (am Val))(left right g:am Int)(l:am (am Val))(i:Nat)(x key:am Val)(j:Nat)(out:am (am Val)):S:=
 ⟨[(4,cV (.ptr 4 0)),(8,.w (.c (.d (.sl (zB left))))),(9,.w (.c (.d (.sl (zB right))))),(10,cV (.own 41 1 g.length)),(13,cV (.own 80 1 out.length)),(15,.w (zE x)),(16,.w (zE key)),(44,.w (.c (.d (.sl (zd l))))),(45,zh l.length),(46,zh i),(57,.w (.c (.d (.sl (zd br))))),(58,zh br.length),(59,zh j)],
 [(4,.box [.d (.sl (zj bc)),.d (.sl (zd br))]),(41,.arr 1 (zB g) true),(80,.arr 1 (zd out) false)]⟩
theorem aHA{Q:E->S->Prop}{s}(bc:am Col)(br)(left right g:am Int)(ar:am (am Val))(i)(x key:am Val)(out:am (am Val))
 (ag:out.length+br.length<=20000) (aj:right.length<=100000) (ai:g.length<=100000) (af:x.length<=100000) (hr:∀y∈br,yB y.length right) (ho:∀y∈br,yB y.length g)
 (h0:xO s [4,8,9,10,13,15,16,44,45,46,57,58,59] (· =jnC bc br left right g ar i x key 0 out))
 (hQ:Q (.exit 4) (y5 (jnC bc br left right g ar i x key br.length (out++Zb x key right g br)) 60 (yf (decide ((br.length:Int)<br.length))))):
 z6 (mwpR Pg T8.f (vd.l 1)) [4,8,9,10,13,15,16,44,45,46,57,58,59] Q s:=by
 refine zX (P:=Pg) (f:=T8.f) (body:=(vd.l 1)) br.length (λj=>jnC bc br left right g ar i x key j (out++Zb x key right g (br.take j))) (λ_=>True) ⟨trivial,?_⟩ ?_
 .grind[Zb]
 intro j hj _;have ah:(out++Zb x key right g (br.take j)).length<=out.length+j:=by grind[aog]
 have p:∀h:j<br.length,out++Zb x key right g (br.take (j+1))=(out++Zb x key right g (br.take j))++(bif xS key (pickL br[j] right)then [x++pickL br[j] g]else []):=λh=>by grind[Zb,ud]
 have J:j=br.length->out++Zb x key right g br=out++Zb x key right g (br.take j):=λh=>ek
 show mwpR Pg T8.f (vd.l 1) _ (jnC bc br left right g ar i x key j (out++Zb x key right g (br.take j)));generalize out++Zb x key right g (br.take j)=T at*;have ad:(zd T).take T.length=zd T:=by grind[zq]
 have ae:(zB g).take g.length=zB g:=by grind[xg]
 unfold jnC;refine Zc (λo=>?_) (λR=>?_)
 .have hg:=zZ o;have p:=p o;have ab:=adp br[j] right ej (hr _ (aM o));have U:=adp br[j] g ej (ho _ (aM o));have heq:=Vt key (pickL br[j] right);have aa:=aiS x (pickL br[j] g) af (by grind[pickL]);have wi:=zu o ej;have I:((T.length:Int)==20000)=false:=ew
  rw[<-ae]at U;generalize br[j]=y at*;generalize xS key (pickL y right)=b at*;refine zw hg ?_;refine aK ab ?_;refine aK heq ?_;cases b with
  |true=>
   have ac:(rowD (x++pickL y g)).take (x++pickL y g).length=rowD (x++pickL y g):=by grind[zp]
   refine zg (λr=>?_) (λr=>?_)
   .have r:((T.length:Int)==20000)=true:=r;rw[I]at r;cases r
   refine aK U ?_;refine aK aa ?_;refine yQ ?_;refine zI o trivial ?_;rw[wi,ad,ac,p,qR,aI];rfl
  |false=>
   rw[aG,aQ]at p;refine zI o trivial ?_;rw[wi,p];rfl
 rw[J R]at hQ;subst R;exact hQ
def jnA(ac:am Col)(j:am (am Val))(on:am ByteArray)(bc:am Col)(br:am (am Val))(left right:am Int)(i:Nat)(g:am Int):S:=
 ⟨[(2,.w (.c (.d (.sl (zo on))))),(3,cV (.ptr 3 0)),(4,cV (.ptr 4 0)),(8,.w (.c (.d (.sl (zB left))))),(9,.w (.c (.d (.sl (zB right))))),(10,cV (.own 41 1 g.length)),(26,.w (.c (.d (.sl (zj bc))))),(27,zh bc.length),(28,zh i)],
 [(3,.box [.d (.sl (zj ac)),.d (.sl (zd j))]),(4,.box [.d (.sl (zj bc)),.d (.sl (zd br))]),(41,.arr 1 (zB g) false)]⟩
def jnB(bc:am Col)(br:am (am Val))(left right g:am Int)(j:am (am Val))(i:Nat)(out:am (am Val)):S:=
 ⟨[(4,cV (.ptr 4 0)),(8,.w (.c (.d (.sl (zB left))))),(9,.w (.c (.d (.sl (zB right))))),(10,cV (.own 41 1 g.length)),(13,cV (.own 80 1 out.length)),(44,.w (.c (.d (.sl (zd j))))),(45,zh j.length),(46,zh i)],
 [(4,.box [.d (.sl (zj bc)),.d (.sl (zd br))]),(41,.arr 1 (zB g) true),(80,.arr 1 (zd out) false)]⟩
theorem auL(ac)(g)(bc)(br)(on)(az:on.length<=100000)(aw:bc.length<=100000)
 (aq:g.length*br.length<=20000) (av:g.length<=1000000) (af:∀x∈g,x.length=ac.length) (ao:ac.length<=100000) (ag:∀y∈br,y.length=bc.length) (ax:yB ac.length (zf ac on)) (a0:yB bc.length (zf bc on)):
 Sat Pg abF [.agg [.d (.sl (zj ac)),.d (.sl (zd g))],.agg [.d (.sl (zj bc)),.d (.sl (zd br))],.c (.d (.sl (zo on)))]
  (λr=>r=⟨.tup [.c (.d (.sl (zd (vw (zf ac on) (zf bc on) (oth on 0 bc) g br)))),.c (bool true)],[]⟩):=by
 have ai:=adq ac (.sl (zd g)) on ej;have aj:=adq bc (.sl (zd br)) on ej;have ay:(zf ac on).length=on.length:=by simp[zf]
 have a1:(zf bc on).length=on.length:=by simp[zf]
 have ae:=amL on bc 0;have aa:(oth on 0 bc).length<=bc.length:=by
  have gen:∀(l:am Col) (i:Nat),(oth on i l).length<=l.length:=by
   intro l;induction l with
   |nil=>intro i;exact aA _
   |cons c r ih=>
    grind[oth]
  grind
 generalize zf ac on=left,zf bc on=right at*;refine zJ ?_;refine vd.s T8 ?_;refine aK ai ?_;refine aK aj ?_;rw[zy];refine yD (P:=Pg) (f:=T8.f) (body:=(vd.l 0)) (λx:Nat×am Int=>jnA ac g on bc br left right x.1 x.2) (λx=>bc.length-x.1) (λx=>x.1<=bc.length/\x.2.length<=x.1/\oth on 0 bc=x.2++oth on x.1 (bc.drop x.1)) ⟨(0,[]),⟨aT _,aA _,rfl⟩,⟨_,zx 10 41 1 ej ej rfl,?_⟩⟩ ?_
 .exact rfl
 rintro⟨i,T⟩ hx;obtain⟨hi,au,p⟩:i<=bc.length/\T.length<=i/\oth on 0 bc=T++oth on i (bc.drop i):=hx;show mwpR Pg T8.f (vd.l 0) _ (jnA ac g on bc br left right i T);have al:(zB T).take T.length=zB T:=by grind[xg]
 unfold jnA;refine xL (λj=>?_) (λR=>?_)
 .rw[zm j]at p;simp only[oth]at p;have hg:=yN j;have wi:=zu j ej;have ab:=yJ on bc[i].name;generalize bc[i]=c at*;obtain⟨c1,c2⟩:=c;simp only at p ab;generalize hasB on c1=b at*;refine zw hg ?_;refine aK ab ?_;cases b with
  |false=>
   have p:oth on 0 bc=T++([(i:Int)]++oth on (i+1) (bc.drop (i+1))):=p;refine yQ ?_;refine⟨(i+1,T++[(i:Int)]),⟨⟨j,ek,ek⟩,ek⟩,zi ?_⟩;(conv=>whnf);rw[wi,al,aI,<-Wr];rfl
  |true=>
   have p:oth on 0 bc=T++oth on (i+1) (bc.drop (i+1)):=p;(conv=>whnf);refine⟨(i+1,T),⟨⟨j,ek,p⟩,ek⟩,zi ?_⟩;(conv=>whnf);rw[wi];rfl
 rw[aC R]at p;have p:oth on 0 bc=T:=by rw[p];exact aQ _
 rw[p]at ae aa⊢;(conv=>whnf);rw[zq];refine zX (P:=Pg) (f:=T8.f) (body:=(vd.l 2)) g.length (λk=>jnB bc br left right T g k (vw left right T (g.take k) br)) (λ_=>True) ⟨trivial,⟨_,(auT _ 41).trans (zx 13 80 1 ej ej rfl),?_⟩⟩ ?_
 .exact rfl
 intro k hk _;have o:∀h:k<g.length,vw left right T (g.take (k+1)) br=vw left right T (g.take k) br++ait left right T br g[k]:=λh=>by grind[vw,zD]
 have ad:g.length<=k->vw left right T g br=vw left right T (g.take k) br:=λh=>ek
 have J:k<g.length->(vw left right T (g.take k) br).length+br.length<=20000:=λh=>by
  have h1:=UY left right T br (g.take k);rw[bO,bJ ej]at h1;have h2:(k+1)*br.length<=g.length*br.length:=aO _ h
  grind
 have I:=λ(Q':E->S->Prop) (s':S) (x key:am Val)=>aHA (Q:=Q') (s:=s') bc br left right T g k x key (vw left right T (g.take k) br)
 show mwpR Pg T8.f (vd.l 2) _ (jnB bc br left right T g k (vw left right T (g.take k) br));generalize vw left right T (g.take k) br=U at*;have an:(zd U).take U.length=zd U:=by grind[zq]
 refine xL (λj=>?_) (λR=>?_)
 .have hg:=zZ j;have o:=o j;have J:=J j;have a2:=af _ (aM j);have wi:=zu j ej;have ak:=adp g[k] left ej ek;have ah:=U9 (pickL g[k] left) zF;generalize g[k]=x at*;unfold ait at o;generalize pickL x left=key at*;have I:=λQ' s'=>I Q' s' x key J ej ej ej (λy hy=>ek) (λy hy=>by rw[ag y hy];intro z hz;grind)
  generalize key.any (yH zF)=b at*;refine zw hg ?_;refine aK ak ?_;refine aK ah ?_;cases b with
  |true=>
   have o:vw left right T (g.take (k+1)) br=U:=by rw[o];exact aQ _
   refine zI j trivial ?_;rw[wi,o];rfl
  |false=>
   have o:vw left right T (g.take (k+1)) br=U++Zb x key right T br:=o;(conv=>whnf);refine I _ _ (zi ?_) ?_
   ·(conv=>whnf);unfold jnC;rw[zq];rfl
   refine zI j trivial ?_;rw[wi,o];rfl
 rw[ad R];refine UP ?_;show Res.mk (.tup [.c (.d (.sl ((zd U).take U.length))),.c (bool true)]) []=_;rw[an]
theorem atl(d)(cols)(st:Stp)(i:st.op=5)(hs:st.sorts.length<=1000000)(g:cols.length<=1000000):ex xu [.c (.d (.sl (zL d))),.c (.d (.sl (zj cols))),st.w] (bif st.err !=0 then JS st.err else rCs cols):=by
 have I:=jv st hs;have hC:=w7 cols g;generalize st.err=e at*;refine zJ ?_;obtain⟨op,⟨P,T,⟨vk,vn,vs⟩,R⟩,j,J,l,o,U,tb⟩:=st;subst i;cases p:(e !=0)with
 |true=>
  refine xT.s T8 ?_;refine aK I ?_;rw[p];exact⟨rfl,rfl⟩
 |false=>
  refine xT.s T8 ?_;refine aK I ?_;rw[p];refine aK hC ?_;exact⟨rfl,rfl⟩
theorem axz(a b):yL false a b=min a b:=by show(if b<a then b else a)=_;omega
def rRT(l:am (am Val)):Res:=⟨.tup [.c (.d (.sl (zd l))),.c (bool true)],[]⟩
theorem ang(d)(t:Tbl)(st:Stp)(g:st.op=3)(gs:am Gr)(o:ex gN [.agg [.d (.sl (zj t.cols)),.d (.sl (zd t.rows))],.agg st.cs] (rC (.d (.sl (zd (gs.map (qI t.cols st.aggs))))))):ex Z1 [.c (.d (.sl (zL d))),t.w,.agg st.cs] (rRT (gs.map (qI t.cols st.aggs))):=by refine zJ ?_;obtain⟨op,⟨I,P,⟨U,vn,vs⟩,J⟩,i,p,j,l,R,T⟩:=st;subst g;refine qE.s T8 ?_;refine aK o ?_;exact⟨rfl,rfl⟩
theorem anh(d)(t:Tbl)(st:Stp)(i:st.op=5)(R:0<=st.n):ex Z1 [.c (.d (.sl (zL d))),t.w,.agg st.cs] (rRT (t.rows.take (yL false st.n t.rows.length).toNat)):=by
 refine zJ ?_;obtain⟨tc,tr⟩:=t;obtain⟨op,⟨J,U,⟨vk,vn,vs⟩,T⟩,l,I,o,p,g,tb⟩:=st;simp only at*;subst i;refine qE.s T8 ?_;rw[zq];have P:=axz g tr.length;have j:zd (tr.take (yL false g tr.length).toNat)=((zd tr).drop 0).take ((yL false g tr.length).toNat-0):=by grind[zd,bE]
 refine aw2 ?_ (hA:=by show(0:Int)<=yL false g tr.length;omega) (hB:=by show yL false g tr.length<=(tr.length:Int);omega);exact⟨rfl,by unfold rRT;rw[j];rfl⟩
theorem aqd(d)(t:Tbl)(st:Stp)(g:st.op=6)(b)(p:zC st.table d=some b)(R)(I:ex abF [.agg [.d (.sl (zj t.cols)),.d (.sl (zd t.rows))],.agg [.d (.sl (zj b.cols)),.d (.sl (zd b.rows))],.c (.d (.sl (zo st.cols)))] (rRT R)):ex Z1 [.c (.d (.sl (zL d))),t.w,.agg st.cs] (rRT (R)):=by have o:=w8 d st.table;rw[p]at o;refine zJ ?_;obtain⟨op,⟨P,U,⟨vk,vn,vs⟩,T⟩,i,J,j,l,sn,tb⟩:=st;subst g;refine qE.s T8 ?_;refine aK o ?_;refine aK I ?_;exact⟨rfl,rfl⟩
theorem auH(d)(t)(st:Stp)(g)(R)(p:yt d=0)(I:tblErr t=0)(P:ex xu [.c (.d (.sl (zL d))),.c (.d (.sl (zj t.cols))),st.w] (rCs g))
 (J:ex jj [.c (.d (.sl (zL d))),t.w,.agg st.cs,.c (.d (.sl (zj g)))] (qQ R 0)):
 ex Xn [.c (.d (.sl (zL d))),t.w,st.w] (qQ R 0):=by have o:=ju d;have hk:=qk t;rw[p]at o;rw[I]at hk;obtain⟨op,⟨U,nm,⟨vk,vn,vs⟩,ks⟩,i,T,j,l,sn,tb⟩:=st;refine WV.s T8 ?_;refine aK o ?_;refine aK hk ?_;refine aK P ?_;refine aK J ?_;rfl
theorem as3(d)(t)(st:Stp)(e)(p:yt d=0)(I:tblErr t=0)(o:e≠0)(J:ex xu [.c (.d (.sl (zL d))),.c (.d (.sl (zj t.cols))),st.w] (JS e)):
 ex Xn [.c (.d (.sl (zL d))),t.w,st.w] (rNT e):=by
 have l:=ju d;have hk:=qk t;rw[p]at l;rw[I]at hk;have o:(e !=0)=true:=ek
 obtain⟨op,⟨R,U,⟨vk,vn,vs⟩,T⟩,g,P,i,j,sn,tb⟩:=st;refine WV.s T8 ?_;refine aK l ?_;refine aK hk ?_;refine aK J ?_;rw[o];exact rfl
theorem ZD{s}(d)(c)(x)(j)(h:aget s.sl d=some (cV c))(I:VN s.pl c=some (x,j)):VO s ((s.withPl j).put (some d) (cV (.d x))):=by
 intro F N z a w hr;obtain⟨y,l,o⟩:=hr.slots d _ h;obtain⟨i,r,p⟩:=af9 hr (c:=c) (v:=y) o I;refine⟨z,{i with slots:=λk v g=>?_}⟩;have g:aget (xf d (cV (.d x)) s.sl) k=some v:=g;rw[yR]at g;by_cases e:d=k
 .rw[aL e]at g;cases g;subst e;exact⟨y,l,p⟩
 rw[aF e]at g;exact i.slots k v g
def qD:ACode->ACode
 |.seq _ b=>b
 |x=>x
def sFrom:ByteArray:=⟨#[102,114,111,109]⟩
def sTo:ByteArray:=⟨#[116,111]⟩
theorem ado(g:aX)(cap)(p:ByteArray->Bool)(U:∀x:ByteArray,ex g [.c (str x),.c (.fp cap)] (rB (p x)))(l)(R:l.length<=1000000):
 ex Y1 [.c (.d (.sl (zo l))),.c (.d (.fn g [cap]))] (rI (zO p 0 l)):=by
 refine z7 T8 vl.ok er ?_
 refine zX (P:=Pg) (f:=T8.f) (body:=(vl.l 0)) l.length (λi=>⟨[(0,.w (.c (.d (.sl (zo l))))),(1,.w (.c (.d (.fn g [cap])))),(7,zh (zo l).length),(8,zh i)],[]⟩)
  (λi=>zO p 0 l=zO p i (l.drop i)) ⟨rfl,zi ?_⟩ ?_
 .exact rfl
 intro i hi o;refine zg (λT=>?_) (λT=>?_)
 .have j:i<l.length:=by simp_all[zA]
  refine⟨ej,_,xh j,rfl,?_⟩;refine Sat.cal (U l[i]) ?_;rw[zm j]at o;refine zg (λI=>?_) (λI=>?_)
  .simp only[zO,I,aJ]at o;exact bC rI o.symm
  simp only[zO,I,aG]at o;refine zI j o ?_;rw[zu j ej];rfl
 have J:l.length<=i:=by grind[zA]
 rw[aC J]at o;exact bC rI o.symm
theorem X9(g:aX)(cap)(p:ByteArray->Bool)(j:∀x:ByteArray,ex g [.c (str x),.c (.fp cap)] (rB (p x)))(l)(i:l.length<=1000000):
 ex Z3 [.c (.d (.sl (zo l))),.c (.d (.fn g [cap]))] (rB (l.any p)):=by refine ZU.s T8 ?_;refine aK (ado g cap p j l i) ?_;exact bC rB (Yg _ l 0)
theorem afU(x)(i j l o p I J P)(g)(rest):ex JQ [.c (str x),.c (.fp (i::j::l::o::p::I::J::P:: .sl (zo g)::rest))] (rB (hasB g x)):=by refine ag3.s T8 ?_;refine aK (yJ g x) ?_;rfl
def colInt(cols:am Col)(s:ByteArray):Int:=bif decide (ze cols s<0)then 16 else bif (xW cols (ze cols s)).t !=2 then 14 else 0
theorem UJ(cols)(s):ex aiB [.c (.d (.sl (zj cols))),.c (str s)] (rI (colInt cols s)):=by
 have p:=qq cols s;have i:=xJ cols s;have l:=λh=>um (i h).1 (i h).2
 unfold colInt;generalize ze cols s=k at*;refine aig.s T8 ?_;refine aK p ?_;refine zt (b:=decide (k<0)) (λg=>?_) (λg=>?_)
 .rw[g];exact rfl
 rw[g];have l:=l (aD g);have i:=i (aD g);generalize xW cols k=c at*;obtain⟨I,o⟩:=c;refine zw l ?_ (hA:=i.1);refine zg (b:=o !=2) (λj=>?_) (λj=>?_)
 .simp only[j];exact rfl
 simp only[j];exact rfl
def intErr(cols:am Col):am ByteArray->Int
 |[]=>0
 |s::r=>bif colInt cols s !=0 then colInt cols s else intErr cols r
def keepS(g cs:am ByteArray)(l:am Col):=l.filter λc=>!hasB cs c.name&&!hasB g c.name
def axr(i)(cols g)(cs):=
 bif jnErr cols g cs !=0 then JS (jnErr cols g cs)else bif intErr cols i !=0 then JS (intErr cols i)else bif intErr g i !=0 then JS (intErr g i)else
 bif dupL [] (cols++keepS i cs g)then JS 4 else bif decide (((cols++keepS i cs g).length:Int)>32)then JS 7 else rCs (cols++keepS i cs g)
def axq(i)(cols g)(cs):=bif i.any (hasB cs)then JS 4 else axr i cols g cs
def ami(g:am ByteArray)(d:am Nmd)(cols:am Col)(cs:am ByteArray)(i:ByteArray):Res:=match zC i d with
 |none=>JS 17
 |some t=>axq g cols t.cols cs
def Js(op:Int)(o:Int)(r:ByteArray)(v1 P:Int)(v3:ByteArray)(p:am Ex)(g:am Itm)(l:am ByteArray)(i:am Agg)(j:am Srt)(I:Int)(J:ByteArray):Pl:=
 .fbox [.lit (.int .i64 op),.lit (.int .i64 o),.lit (.string r),.lit (.int .i64 v1),.lit (.int .i64 P),.lit (.string v3),.sl (exsD p),.sl (yI g),.sl (zo l),.sl (ql i),.sl (yU j),.lit (.int .i64 I),.lit (.string J)]
def adx(op:Int)(R:am ByteArray)(r:Int)(J:ByteArray)(v1 U:Int)(v3:ByteArray)(I:am Ex)(g:am Itm)(p:am ByteArray)(j:am Agg)(l:am Srt)(P:Int)(T:ByteArray)(tc:am Col)(i:Nat)(o:am Col):S:=
 ⟨[(5,cV (.ptr 5 0)),(10,.w (.c (.d (.sl (zo R))))),(20,cV (.own 128 2 o.length)),(106,.w (.c (.d (.sl (zj tc))))),(107,zh tc.length),(108,zh i)],[(5,Js op r J v1 U v3 I g p j l P T),(128,.arr 2 (zj o) false)]⟩
theorem aA5{Q:E->S->Prop}{s}(op)(I:am ByteArray)(eo)(nm)(v1 v2)(v3)(ks:am Ex)(o:am Itm)(g:am ByteArray)(p:am Agg)(r:am Srt)(sn)(tb)(cols tc:am Col)(ae:cols.length<=1000000)(af:tc.length<=1000000)
 (h0:xO s [5,10,20,106,107,108] (· =adx op I eo nm v1 v2 v3 ks o g p r sn tb tc 0 cols))
 (hQ:Q (.exit 8) (y5 (adx op I eo nm v1 v2 v3 ks o g p r sn tb tc tc.length (cols++keepS I g tc)) 109 (yf (decide ((tc.length:Int)<tc.length))))):
 z6 (mwpR Pg T8.f (zQ.l 3)) [5,10,20,106,107,108] Q s:=by
 refine zX (P:=Pg) (f:=T8.f) (body:=(zQ.l 3)) tc.length (λi=>adx op I eo nm v1 v2 v3 ks o g p r sn tb tc i (cols++keepS I g (tc.take i))) (λ_=>True) ⟨trivial,?_⟩ ?_
 .grind[keepS]
 intro i hi _;have ad:(cols++keepS I g (tc.take i)).length<=1000000+i:=by grind[keepS]
 have j:∀h:i<tc.length,cols++keepS I g (tc.take (i+1))=(cols++keepS I g (tc.take i))++(bif !hasB g tc[i].name&&!hasB I tc[i].name then [tc[i]]else []):=λh=>by grind[keepS,ud]
 have R:i=tc.length->cols++keepS I g tc=cols++keepS I g (tc.take i):=λh=>ek
 show mwpR Pg T8.f (zQ.l 3) _ (adx op I eo nm v1 v2 v3 ks o g p r sn tb tc i (cols++keepS I g (tc.take i)));generalize cols++keepS I g (tc.take i)=T at*;have ac:(zj T).take T.length=zj T:=by grind[zy]
 unfold adx Js;refine Zc (λJ=>?_) (λU=>?_)
 .have hg:=yN J;have j:=j J;have ab:=yJ g tc[i].name;have aa:=yJ I tc[i].name;have wi:=zu J ej;generalize tc[i]=c at*;obtain⟨c1,c2⟩:=c;simp only at j ab aa;generalize hasB g c1=b,hasB I c1=b2 at*;refine zw hg ?_;refine aK ab ?_;refine zt (b:=!b) (λh2=>?_) (λh2=>?_)
  .rw[h2,Bool.true_and]at j;refine aK aa ?_;refine zt (b:=!b2) (λh3=>?_) (λh3=>?_)
   .rw[h3,aJ]at j;refine yQ ?_;refine zI J trivial ?_;rw[wi,ac,j,aI];simp only[zj,aU];rfl
   rw[h3,aG,aQ]at j;refine zI J trivial ?_;rw[wi,j];rfl
  rw[h2,Bool.false_and,aG,aQ]at j;refine zI J trivial ?_;rw[wi,j];rfl
 rw[R U]at hQ;subst U;exact hQ
noncomputable def tjRest:ACode:=qD (qD (qD (qD (qD (qD (qD zQ.A.code))))))
def aG8(op:Int)(P:am ByteArray)(p:Int)(I:ByteArray)(v1 T:Int)(v3:ByteArray)(r:am Ex)(g:am Itm)(o:am ByteArray)(j:am Agg)(l:am Srt)(J:Int)(R:ByteArray)(cols tc:am Col)(tr:am (am Val))(i:Nat):S:=
 ⟨[(1,.w (.c (.d (.sl (zj cols))))),(5,cV (.ptr 5 0)),(8,cV (.ptr 8 0)),(10,.w (.c (.d (.sl (zo P))))),(83,.w (.c (.d (.sl [[.sl (zj cols)],[.sl (zj tc)]])))),(84,zh 2),(85,zh i)],[(5,Js op p I v1 T v3 r g o j l J R),(8,.box [.d (.sl (zj tc)),.d (.sl (zd tr))])]⟩
def ayx(op:Int)(I:am ByteArray)(J:Int)(R:ByteArray)(v1 v2:Int)(v3:ByteArray)(P:am Ex)(g:am Itm)(r:am ByteArray)(l:am Agg)(o:am Srt)(T:Int)(U:ByteArray)(cols tc:am Col)(tr:am (am Val))(p:am Col)(i j:Nat):S:=
 ⟨[(1,.w (.c (.d (.sl (zj cols))))),(5,cV (.ptr 5 0)),(8,cV (.ptr 8 0)),(10,.w (.c (.d (.sl (zo I))))),(16,.w (.c (.d (.sl (zj p))))),(83,.w (.c (.d (.sl [[.sl (zj cols)],[.sl (zj tc)]])))),(84,zh 2),(85,zh i),(89,.w (.c (.d (.sl (zo I))))),(90,zh I.length),(91,zh j)],[(5,Js op J R v1 v2 v3 P g r l o T U),(8,.box [.d (.sl (zj tc)),.d (.sl (zd tr))])]⟩
theorem av6{s}(op)(I)(ax:I.length<=1000)(eo)(nm)(v1 v2)(v3)(ks)(R)(p)(T)(U)(sn)(tb)(cols tc)(tr)(aw:p.length<=1000000)(ae:cols.length<=1000000)(ag:tc.length<=1000000)
 (h0:xO s [1,5,8,10,46,47,48] (· =⟨[(1,.w (.c (.d (.sl (zj cols))))),(5,cV (.ptr 5 0)),(8,cV (.ptr 8 0)),(10,.w (.c (.d (.sl (zo I))))),(46,.w (.c (.d (.sl (zo p))))),(47,zh p.length),(48,zh (0:Nat))],[(5,Js op eo nm v1 v2 v3 ks R p T U sn tb),(8,.box [.d (.sl (zj tc)),.d (.sl (zd tr))])]⟩)):
 z6 (mwpR Pg T8.f (zQ.l 0)) [1,5,8,10,46,47,48] (Qo 1 (aa3 (mwpR Pg T8.f tjRest) (Jq zQ.A.res [] (DQ (axr I cols tc p))))) s:=by
 unfold axr;refine zX (P:=Pg) (f:=T8.f) (body:=(zQ.l 0)) p.length (λi=>⟨[(1,.w (.c (.d (.sl (zj cols))))),(5,cV (.ptr 5 0)),(8,cV (.ptr 8 0)),(10,.w (.c (.d (.sl (zo I))))),(46,.w (.c (.d (.sl (zo p))))),(47,zh p.length),(48,zh i)],[(5,Js op eo nm v1 v2 v3 ks R p T U sn tb),(8,.box [.d (.sl (zj tc)),.d (.sl (zd tr))])]⟩) (λi=>jnErr cols tc p=jnErr cols tc (p.drop i)) ⟨rfl,h0⟩ ?_
 intro i hi g;unfold Js;refine xL (λo=>?_) (λaa=>?_)
 .rw[zm o]at g;simp only[jnErr]at g;have hg:=xh o;have wi:=zu o ej;have ao:=qq cols p[i];have aq:=qq tc p[i];have ac:=xJ cols p[i];have ad:=xJ tc p[i];have ai:=λh=>um (ac h).1 (ac h).2
  have aj:=λh=>um (ad h).1 (ad h).2
  generalize p[i]=x at*;generalize ze cols x=k1 at*;generalize ze tc x=k2 at*;refine zw hg ?_;refine aK ao ?_;refine aK aq ?_;refine zt (b:=decide (k1<0)||decide (k2<0)) (λJ=>?_) (λJ=>?_)
  .rw[J]at g;have g:jnErr cols tc p=16:=g;simp only[g];exact⟨rfl,rfl⟩
  rw[J,aG]at g;rw[cE]at J;have n1:=aD J.1;have n2:=aD J.2;have ac:=ac n1;have ad:=ad n2;have ai:=ai n1;have aj:=aj n2;generalize xW cols k1=c1,xW tc k2=c2 at*;obtain⟨au,ak⟩:=c1;obtain⟨av,al⟩:=c2;simp only at g;refine zw ai ?_ (hA:=ac.1);refine zw aj ?_ (hA:=ad.1);refine zg (b:=ak !=al) (λh3=>?_) (λh3=>?_)
  .rw[h3]at g;have g:jnErr cols tc p=14:=g;simp only[g];exact⟨rfl,rfl⟩
  rw[h3,aG]at g;refine zI o g ?_;rw[wi];rfl
 rw[aC aa]at g;have g:jnErr cols tc p=0:=g;simp only[g];clear g;(conv=>whnf);refine zX (P:=Pg) (f:=T8.f) (body:=(zQ.l 2)) 2 (λi=>aG8 op I eo nm v1 v2 v3 ks R p T U sn tb cols tc tr i) (λi=>(1<=i->intErr cols I=0)/\(2<=i->intErr tc I=0)) ⟨⟨λh=>ej,λh=>ej⟩,⟨_,ZD 83 _ _ _ rfl rfl,?_⟩⟩ ?_
 .exact rfl
 intro i hi g;obtain⟨ab,af⟩:(1<=i->intErr cols I=0)/\(2<=i->intErr tc I=0):=g;unfold aG8 Js
 match i,hi with
 |0,_=>
  (conv=>whnf);refine⟨et,_,rfl,rfl,?_⟩;(conv=>whnf);rw[zA];refine zX (P:=Pg) (f:=T8.f) (body:=(zQ.l 1)) I.length (λj=>ayx op I eo nm v1 v2 v3 ks R p T U sn tb cols tc tr cols 0 j) (λj=>intErr cols I=intErr cols (I.drop j)) ⟨rfl,zi ?_⟩ ?_
  .exact rfl
  intro j hj g;have g:intErr cols I=intErr cols (I.drop j):=g;unfold ayx Js;refine zg (λh1=>?_) (λh1=>?_)
  .have o:j<I.length:=eu
   rw[zm o]at g;simp only[intErr]at g;have hg:=xh o;have wj:=zu o ej;have hint:=UJ cols I[j];generalize I[j]=x at*;generalize colInt cols x=c at*;(conv=>whnf);refine⟨ej,_,hg,rfl,?_⟩;refine aK hint ?_;refine zt (b:=c !=0) (λJ=>?_) (λJ=>?_)
   .rw[J,aJ]at g;simp only[g,J];exact⟨rfl,rfl⟩
   rw[J,aG]at g;(conv=>whnf);refine⟨o,g,zi ?_⟩;(conv=>whnf);rw[wj];rfl
  have aa:I.length<=j:=ek
  rw[aC aa]at g;have g:intErr cols I=0:=g;(conv=>whnf);refine⟨et,?_,zi ?_⟩
  .grind
  exact rfl
 |1,_=>
  have ab:=ab (aA _);(conv=>whnf);refine⟨et,_,rfl,rfl,?_⟩;(conv=>whnf);rw[zA];refine zX (P:=Pg) (f:=T8.f) (body:=(zQ.l 1)) I.length (λj=>ayx op I eo nm v1 v2 v3 ks R p T U sn tb cols tc tr tc 1 j) (λj=>intErr tc I=intErr tc (I.drop j)) ⟨rfl,zi ?_⟩ ?_
  .exact rfl
  intro j hj g;have g:intErr tc I=intErr tc (I.drop j):=g;unfold ayx Js;refine zg (λh1=>?_) (λh1=>?_)
  .have o:j<I.length:=eu
   rw[zm o]at g;simp only[intErr]at g;have hg:=xh o;have wj:=zu o ej;have hint:=UJ tc I[j];generalize I[j]=x at*;generalize colInt tc x=c at*;(conv=>whnf);refine⟨ej,_,hg,rfl,?_⟩;refine aK hint ?_;refine zt (b:=c !=0) (λJ=>?_) (λJ=>?_)
   .rw[J,aJ]at g;simp only[ab,g,J];exact⟨rfl,rfl⟩
   rw[J,aG]at g;(conv=>whnf);refine⟨o,g,zi ?_⟩;(conv=>whnf);rw[wj];rfl
  have aa:I.length<=j:=ek
  rw[aC aa]at g;have g:intErr tc I=0:=g;(conv=>whnf);refine⟨et,?_,zi ?_⟩
  .grind
  exact rfl
 |2,_=>
  have ab:=ab ej;have af:=af ej;rw[ab,af];clear ab af;(conv=>whnf);refine bI (JU cols ae) ?_;rintro _ (⟨ar,rfl⟩|rfl)
  ·(conv=>whnf);refine aA5 op I eo nm v1 v2 v3 ks R p T U sn tb cols tc ae ag ⟨_,zx 20 128 2 ej ej rfl,?_⟩ ?_
   ·(conv=>whnf);unfold adx;rw[zy,ar];rfl
   unfold y5 adx Js;have an:(cols++keepS I p tc).length<=2000000:=by grind[keepS]
   clear ag ae;generalize cols++keepS I p tc=O at*;(conv=>whnf);refine zX (P:=Pg) (f:=T8.f) (body:=(zQ.l 4)) O.length (λi=>⟨[(20,cV (.own 128 2 O.length)),(130,cV (.own 128 2 O.length)),(131,zh O.length),(132,zh i)],[(128,.arr 2 (zj O) false)]⟩) (λi=>dupL [] O=dupL (O.take i) (O.drop i)) ⟨rfl,zi ?_⟩ ?_
   .exact rfl
   intro i hi g;cases i with
   |zero=>
    refine zg (b:=decide ((0:Nat)<(O.length:Int))) (λh1=>?_) (λh1=>?_)
    .have o:0<O.length:=eu
     rw[zm o]at g;simp only[dupL]at g;rw[<-zD o]at g;have hg:=yN o;have wi:=zu o ej;have r:=qq (O.take (0)) O[0].name;have ht:zj (O.take (0))=(zj O).take (0):=by grind[zj]
     rw[ht]at r;generalize ah:dupL (O.take (0+1)) (O.drop (0+1))=rest,O[0]=c at*;obtain⟨c1,c2⟩:=c;simp only at g r;generalize ze (O.take (0)) c1=k at*;(conv=>whnf);refine⟨ej,ej,?_⟩;(conv=>whnf);refine⟨_,hg,?_⟩;(conv=>whnf);refine⟨by show(0:Int)<=((0:Nat):Int);omega,by show((0:Nat):Int)<=(O.length:Int);omega,?_⟩;refine aK r ?_;refine zt (b:=decide (k>=0)) (λJ=>?_) (λJ=>?_)
     .rw[J]at g;have g:dupL [] O=true:=g;rw[g];exact⟨rfl,rfl⟩
     rw[J]at g;have g:dupL [] O=rest:=g;(conv=>whnf);refine⟨o,g,zi ?_⟩;(conv=>whnf);rw[wi];rfl
    have aa:O.length<=0:=ek
    rw[aC aa]at g;have g:dupL [] O=false:=g;rw[g];refine zg (b:=decide ((O.length:Int)>32)) (λh5=>?_) (λh5=>?_)
    .grind
    rw[h5];(conv=>whnf);refine⟨rfl,?_⟩;show Res.mk (.tup [.c (.d (.sl ((zj O).take O.length))),.c (int 0)]) []=_;rw[<-zy,aP];rfl
   |succ i=>
    refine zg (b:=decide ((i+1:Nat)<(O.length:Int))) (λh1=>?_) (λh1=>?_)
    .have o:i+1<O.length:=by have:=aE h1;omega
     rw[zm o]at g;simp only[dupL]at g;rw[<-zD o]at g;have hg:=yN o;have wi:=zu o ej;have r:=qq (O.take (i+1)) O[i+1].name;have ht:zj (O.take (i+1))=(zj O).take (i+1):=by grind[zj,bE]
     rw[ht]at r;generalize ah:dupL (O.take (i+1+1)) (O.drop (i+1+1))=rest,O[i+1]=c at*;obtain⟨c1,c2⟩:=c;simp only at g r;generalize ze (O.take (i+1)) c1=k at*;(conv=>whnf);refine⟨ej,ej,?_⟩;(conv=>whnf);refine⟨_,hg,?_⟩;(conv=>whnf);refine⟨by show(0:Int)<=((i+1:Nat):Int);omega,by show((i+1:Nat):Int)<=(O.length:Int);omega,?_⟩;refine aK r ?_;refine zt (b:=decide (k>=0)) (λJ=>?_) (λJ=>?_)
     .rw[J]at g;have g:dupL [] O=true:=g;rw[g];exact⟨rfl,rfl⟩
     rw[J]at g;have g:dupL [] O=rest:=g;(conv=>whnf);refine⟨o,g,zi ?_⟩;(conv=>whnf);rw[wi];rfl
    have aa:O.length<=i+1:=ek
    rw[aC aa]at g;have g:dupL [] O=false:=g;rw[g];refine zg (b:=decide ((O.length:Int)>32)) (λh5=>?_) (λh5=>?_)
    .rw[h5];exact⟨rfl,rfl⟩
    rw[h5];(conv=>whnf);refine⟨rfl,?_⟩;show Res.mk (.tup [.c (.d (.sl ((zj O).take O.length))),.c (int 0)]) []=_;rw[<-zy,aP];rfl
  (conv=>whnf);refine aA5 op I eo nm v1 v2 v3 ks R p T U sn tb cols tc ae ag ⟨_,wY 20 601664 128 2 _ _ ej rfl rfl,?_⟩ ?_
  ·(conv=>whnf);unfold adx;rw[zy,zy];rfl
  unfold y5 adx Js;have an:(cols++keepS I p tc).length<=2000000:=by grind[keepS]
  clear ag ae;generalize cols++keepS I p tc=O at*;(conv=>whnf);refine zX (P:=Pg) (f:=T8.f) (body:=(zQ.l 4)) O.length (λi=>⟨[(20,cV (.own 128 2 O.length)),(130,cV (.own 128 2 O.length)),(131,zh O.length),(132,zh i)],[(128,.arr 2 (zj O) false)]⟩) (λi=>dupL [] O=dupL (O.take i) (O.drop i)) ⟨rfl,zi ?_⟩ ?_
  .exact rfl
  intro i hi g;cases i with
  |zero=>
   refine zg (b:=decide ((0:Nat)<(O.length:Int))) (λh1=>?_) (λh1=>?_)
   .have o:0<O.length:=eu
    rw[zm o]at g;simp only[dupL]at g;rw[<-zD o]at g;have hg:=yN o;have wi:=zu o ej;have r:=qq (O.take (0)) O[0].name;have ht:zj (O.take (0))=(zj O).take (0):=by grind[zj]
    rw[ht]at r;generalize ah:dupL (O.take (0+1)) (O.drop (0+1))=rest,O[0]=c at*;obtain⟨c1,c2⟩:=c;simp only at g r;generalize ze (O.take (0)) c1=k at*;(conv=>whnf);refine⟨ej,ej,?_⟩;(conv=>whnf);refine⟨_,hg,?_⟩;(conv=>whnf);refine⟨by show(0:Int)<=((0:Nat):Int);omega,by show((0:Nat):Int)<=(O.length:Int);omega,?_⟩;refine aK r ?_;refine zt (b:=decide (k>=0)) (λJ=>?_) (λJ=>?_)
    .rw[J]at g;have g:dupL [] O=true:=g;rw[g];exact⟨rfl,rfl⟩
    rw[J]at g;have g:dupL [] O=rest:=g;(conv=>whnf);refine⟨o,g,zi ?_⟩;(conv=>whnf);rw[wi];rfl
   have aa:O.length<=0:=ek
   rw[aC aa]at g;have g:dupL [] O=false:=g;rw[g];refine zg (b:=decide ((O.length:Int)>32)) (λh5=>?_) (λh5=>?_)
   .grind
   rw[h5];(conv=>whnf);refine⟨rfl,?_⟩;show Res.mk (.tup [.c (.d (.sl ((zj O).take O.length))),.c (int 0)]) []=_;rw[<-zy,aP];rfl
  |succ i=>
   refine zg (b:=decide ((i+1:Nat)<(O.length:Int))) (λh1=>?_) (λh1=>?_)
   .have o:i+1<O.length:=by have:=aE h1;omega
    rw[zm o]at g;simp only[dupL]at g;rw[<-zD o]at g;have hg:=yN o;have wi:=zu o ej;have r:=qq (O.take (i+1)) O[i+1].name;have ht:zj (O.take (i+1))=(zj O).take (i+1):=by grind[zj,bE]
    rw[ht]at r;generalize ah:dupL (O.take (i+1+1)) (O.drop (i+1+1))=rest,O[i+1]=c at*;obtain⟨c1,c2⟩:=c;simp only at g r;generalize ze (O.take (i+1)) c1=k at*;(conv=>whnf);refine⟨ej,ej,?_⟩;(conv=>whnf);refine⟨_,hg,?_⟩;(conv=>whnf);refine⟨by show(0:Int)<=((i+1:Nat):Int);omega,by show((i+1:Nat):Int)<=(O.length:Int);omega,?_⟩;refine aK r ?_;refine zt (b:=decide (k>=0)) (λJ=>?_) (λJ=>?_)
    .rw[J]at g;have g:dupL [] O=true:=g;rw[g];exact⟨rfl,rfl⟩
    rw[J]at g;have g:dupL [] O=rest:=g;(conv=>whnf);refine⟨o,g,zi ?_⟩;(conv=>whnf);rw[wi];rfl
   have aa:O.length<=i+1:=ek
   rw[aC aa]at g;have g:dupL [] O=false:=g;rw[g];refine zg (b:=decide ((O.length:Int)>32)) (λh5=>?_) (λh5=>?_)
   .rw[h5];exact⟨rfl,rfl⟩
   rw[h5];(conv=>whnf);refine⟨rfl,?_⟩;show Res.mk (.tup [.c (.d (.sl ((zj O).take O.length))),.c (int 0)]) []=_;rw[<-zy,aP];rfl
theorem atj(d)(cols)(st:Stp)(P:st.op=7)(J:st.cols.length<=1000000)(T:cols.length<=1000000)(j:∀t,zC st.table d=some t->t.cols.length<=1000000):
 ex uz [.c (.d (.sl (zL d))),.c (.d (.sl (zj cols))),.agg st.cs] (ami [sFrom,sTo] d cols st.cols st.table):=by
 have i:=w8 d st.table;unfold ami;obtain⟨op,⟨eo,nm,⟨v1,v2,v3⟩,ks⟩,o,l,p,I,sn,tb⟩:=st;simp only at P J j i;subst P;refine zJ ?_;unfold Stp.cs wE;simp only;cases U:zC tb d with
 |none=>
  rw[U]at i;refine zQ.s T8 ?_;refine aK i ?_;exact⟨rfl,rfl⟩
 |some t=>
  rw[U]at i;have j:=j t U;obtain⟨tc,tr⟩:=t;simp only at j;unfold axq;have R:=λg cap hp=>X9 g cap (hasB l) hp [sFrom,sTo] ep
  generalize aa:([sFrom,sTo]:am ByteArray).any (hasB l)=any at*;refine zQ.s T8 ?_;refine aK i ?_;refine aK (R _ _ (λx=>afU x _ _ _ _ _ _ _ _ l _)) ?_;cases any with
  |true=>
   exact⟨rfl,rfl⟩
  |false=>
   (conv=>whnf);rw[zA];refine av6 7 [sFrom,sTo] ep eo nm v1 v2 v3 ks o l p I sn tb cols tc tr J T j ⟨_,ZD 10 _ _ _ rfl rfl,?_⟩;exact rfl
theorem atk(d)(cols)(st:Stp)(P:st.op=8)(J:st.cols.length<=1000000)(T:cols.length<=1000000)(j:∀t,zC st.table d=some t->t.cols.length<=1000000):
 ex uz [.c (.d (.sl (zL d))),.c (.d (.sl (zj cols))),.agg st.cs] (ami [sFrom] d cols st.cols st.table):=by
 have i:=w8 d st.table;unfold ami;obtain⟨op,⟨eo,nm,⟨v1,v2,v3⟩,ks⟩,o,l,p,I,sn,tb⟩:=st;simp only at P J j i;subst P;refine zJ ?_;unfold Stp.cs wE;simp only;cases U:zC tb d with
 |none=>
  rw[U]at i;refine zQ.s T8 ?_;refine aK i ?_;exact⟨rfl,rfl⟩
 |some t=>
  rw[U]at i;have j:=j t U;obtain⟨tc,tr⟩:=t;simp only at j;unfold axq;have R:=λg cap hp=>X9 g cap (hasB l) hp [sFrom] ep
  generalize aa:([sFrom]:am ByteArray).any (hasB l)=any at*;refine zQ.s T8 ?_;refine aK i ?_;refine aK (R _ _ (λx=>afU x _ _ _ _ _ _ _ _ l _)) ?_;cases any with
  |true=>
   exact⟨rfl,rfl⟩
  |false=>
   (conv=>whnf);rw[zA];refine av6 8 [sFrom] ep eo nm v1 v2 v3 ks o l p I sn tb cols tc tr J T j ⟨_,ZD 10 _ _ _ rfl rfl,?_⟩;exact rfl
def x8(x:Int×am Col):Res:=⟨.tup [.c (.d (.sl (zj x.2))),.c (int x.1)],[]⟩
def coT(cols)(cs):=
 bif hasB cs sFrom||hasB cs sTo then(4,[])else bif takeErr cols cs then(16,[])else bif colInt cols sFrom !=0 then(colInt cols sFrom,[])else bif colInt cols sTo !=0 then(colInt cols sTo,[])else(0,takeC cols cs++[⟨sFrom,2⟩,⟨sTo,2⟩])
theorem ap2(cols)(st:Stp)(I:st.cols.length<=1000000):ex U5 [.c (.d (.sl (zj cols))),.agg st.cs] (x8 (coT cols st.cols)):=by
 have g:=af2 cols st.cols I;have aa:(takeC cols st.cols).length=st.cols.length:=by simp[takeC]
 have j:=yJ st.cols sFrom;have o:=yJ st.cols sTo;have p:=UJ cols sFrom;have h4:=UJ cols sTo;unfold coT;obtain⟨op,⟨eo,nm,⟨v1,v2,v3⟩,ks⟩,J,i,R,U,sn,tb⟩:=st;simp only at*;generalize hasB i sFrom=b1,hasB i sTo=b2,colInt cols sFrom=c1,colInt cols sTo=c2,takeC cols i=T,takeErr cols i=te at*;refine zJ ?_;unfold Stp.cs wE;simp only;cases b1 with
 |true=>
  refine qi.s T8 ?_;refine aK j ?_;exact⟨rfl,rfl⟩
 |false=>
  cases b2 with
  |true=>
   refine qi.s T8 ?_;refine aK j ?_;refine aK o ?_;exact⟨rfl,rfl⟩
  |false=>
   cases te with
   |true=>
    refine qi.s T8 ?_;refine aK j ?_;refine aK o ?_;refine aK g ?_;exact⟨rfl,rfl⟩
   |false=>
    have ab:(zj T).take T.length=zj T:=by grind[zy]
    cases e1:(c1 !=0)with
    |true=>
     refine qi.s T8 ?_;refine aK j ?_;refine aK o ?_;refine aK g ?_;refine jp (P:=Pg) (f:=T8.f) (body:=(qi.l 0)) 3 ?_;refine aw2 ?_ (hB:=ek);refine⟨_,rfl,?_⟩;refine aK p ?_;rw[e1];exact⟨rfl,rfl⟩
    |false=>
     cases e2:(c2 !=0)with
     |true=>
      refine qi.s T8 ?_;refine aK j ?_;refine aK o ?_;refine aK g ?_;refine jp (P:=Pg) (f:=T8.f) (body:=(qi.l 0)) 3 ?_;refine aw2 ?_ (hB:=ek);refine⟨_,rfl,?_⟩;refine aK p ?_;rw[e1];refine yQ ?_;refine aw2 ?_ (hA:=et) (hB:=by show(1:Int)<((2:Nat):Int);omega);refine⟨_,rfl,?_⟩;refine aK h4 ?_;rw[e2];exact⟨rfl,rfl⟩
     |false=>
      refine qi.s T8 ?_;refine aK j ?_;refine aK o ?_;refine aK g ?_;refine jp (P:=Pg) (f:=T8.f) (body:=(qi.l 0)) 3 ?_;refine aw2 ?_ (hB:=ek);refine⟨_,rfl,?_⟩;refine aK p ?_;rw[e1];refine yQ ?_;refine aw2 ?_ (hA:=et) (hB:=by show(1:Int)<((2:Nat):Int);omega);refine⟨_,rfl,?_⟩;refine aK h4 ?_;rw[e2];refine yQ ?_;refine UP ?_;refine Eq.trans (b:=⟨.tup [.c (.d (.sl ((((((zj T).take T.length)++[Col.ds ⟨sFrom,2⟩]).take (T.length+1))++[Col.ds ⟨sTo,2⟩]).take (T.length+1+1)))),.c (int 0)],[]⟩) rfl ?_;simp_all[zj,aS,x8]
def qw(cols:am Col):am Itm->Int×am Col
 |[]=>(0,[])
 |x::r=>bif (x.e.ty cols).2 !=0 then((x.e.ty cols).2,[])else bif (x.e.ty cols).1==0 then(14,[])else bif (qw cols r).1 !=0 then((qw cols r).1,[])else(0,⟨x.nm,(x.e.ty cols).1⟩::(qw cols r).2)
theorem ajr(cols):∀l,qw cols l=bif (qw cols l).1 !=0 then((qw cols l).1,[])else(0,(qw cols l).2)
 |[]=>rfl
 |x::r=>by
  simp only[qw];cases g:((x.e.ty cols).2 !=0)
  .cases j:((x.e.ty cols).1==0)
   .cases i:((qw cols r).1 !=0)
    .rfl
    simp only[aG,aJ,i]
   rfl
  simp only[aJ,g]
def seS(cols:am Col)(l:am Itm)(i:Nat)(g:am Col):S:=⟨[(0,.w (.c (.d (.sl (zj cols))))),(6,cV (.own 35 2 g.length)),(11,.w (.c (.d (.sl (yI l))))),(12,zh l.length),(13,zh i)],[(35,.arr 2 (zj g) false)]⟩
theorem atd(cols)(l)(he:∀x∈l,x.e.err=0)(hl:l.length<=1000000):ex JR [.c (.d (.sl (zj cols))),.c (.d (.sl (yI l)))] (x8 (qw cols l)):=by
 refine zJ ?_;refine Qc.s T8 ?_;rw[qP];refine yD (P:=Pg) (f:=T8.f) (body:=(Qc.l 0)) (λx:Nat×am Col=>seS cols l x.1 x.2) (λx=>l.length-x.1) (λx=>x.1<=l.length/\x.2.length=x.1/\x8 (qw cols l)=x8 (bif (qw cols (l.drop x.1)).1 !=0 then((qw cols (l.drop x.1)).1,[])else(0,x.2++(qw cols (l.drop x.1)).2))) ⟨(0,[]),⟨aT _,rfl,?_⟩,⟨_,zx 6 35 2 ej ej rfl,?_⟩⟩ ?_
 .grind[ajr]
 .exact rfl
 rintro⟨i,A⟩ hx;obtain⟨hi,hA,g⟩:i<=l.length/\A.length=i/\x8 (qw cols l)=x8 (bif (qw cols (l.drop i)).1 !=0 then((qw cols (l.drop i)).1,[])else(0,A++(qw cols (l.drop i)).2)):=hx;have o:(zj A).take A.length=zj A:=by grind[zy]
 show mwpR Pg T8.f (Qc.l 0) _ (seS cols l i A);refine xL (λj=>?_) (λJ=>?_)
 .rw[zm j]at g;simp only[qw]at g;have hg:=j8 j;have wi:=zu j ej;have hN:=aaq cols l[i].e (he _ (aM j));generalize l[i]=x at*;obtain⟨⟨T,nm,⟨vk,vn,vs⟩,ks⟩,s⟩:=x;generalize Ex.ty cols ⟨T,nm,⟨vk,vn,vs⟩,ks⟩=t at*;obtain⟨R,t2⟩:=t;refine zw hg ?_;refine aK hN ?_;refine zt (b:=t2 !=0) (λp=>?_) (λp=>?_)
  .rw[p]at g;simp only[aJ,p]at g;rw[g];exact⟨rfl,rfl⟩
  rw[p,aG]at g;refine zg (b:=R==0) (λI=>?_) (λI=>?_)
  .rw[I]at g;rw[g];exact⟨rfl,rfl⟩
  rw[I,aG]at g;refine yQ ?_;refine⟨(i+1,A++[⟨s,R⟩]),⟨⟨j,by simp[hA],?_⟩,ek⟩,zi ?_⟩
  .rw[g];cases U:((qw cols (l.drop (i+1))).1 !=0)
   .simp_all
   simp only[U,aJ]
  (conv=>whnf);rw[wi,o];show _=seS cols l (i+1) (A++[⟨s,R⟩]);unfold seS;rw[aI];simp only[zj,aU];rfl
 rw[aC J]at g;have g:x8 (qw cols l)=x8 (0,A++[]):=g;rw[g,aQ];refine UP ?_;show Res.mk (.tup [.c (.d (.sl ((zj A).take A.length))),.c (int 0)]) []=_;rw[o];rfl
end
section
structure CmpOK{a:Type}(c:a->a->Int):Prop where
 refl:∀x,c x x=0
 anti:∀x y,c x y<0↔0<c y x
 trans:∀x y z,c x y<=0->c y z<=0->c x z<=0
namespace CmpOK
variable {α:Type}{c:α->α->Int}
theorem ge(h:CmpOK c){x y}:0<=c x y↔c y x<=0:=by have:=h.anti x y;omega
theorem zero(h:CmpOK c){x y}:c x y=0↔c y x=0:=by have:=h.anti x y;have:=h.anti y x;omega
theorem swo(h:CmpOK c):Go.Sort.SWO (λx y=>decide (c x y<0)):=by
 refine⟨λx=>by simp[h.refl],λx y z g i=>?_,λx y z g i=>?_⟩
 .have g:=aE g;have i:=aE i;refine decide_eq_true ?_;have j:=h.trans x y z ej ej;by_cases l:c x z=0
  .have o:=h.zero.1 l;have p:=h.trans y z x ej ej;have:=(h.anti x y).1 g;omega
  omega
 have g:=aD g;have i:=aD i;refine bQ ?_;have j:=h.trans z y x (h.ge.1 ej) (h.ge.1 ej);have:=h.ge.2 j;omega
theorem lt_of(h:CmpOK c){x y z}(i:c x y<0)(g:c y z<=0):c x z<0:=by
 have l:=h.trans x y z ej g;by_cases j:c x z=0
 .have o:=h.zero.1 j;have p:=h.trans y z x g ej;have:=(h.anti x y).1 i;omega
 omega
theorem lt_of2(h:CmpOK c){x y z}(g:c x y<=0)(i:c y z<0):c x z<0:=by
 have l:=h.trans x y z g ej;by_cases j:c x z=0
 .have o:=h.zero.1 j;have p:=h.trans z x y ej g;have:=(h.anti y z).1 i;omega
 omega
end CmpOK
theorem CmpOK.lex{α}{c:α->α->Int}(h:CmpOK c):CmpOK (ZY c):=by
 refine⟨λx=>?_,λx y=>?_,λx y z=>?_⟩
 .induction x with
  |nil=>rfl
  |cons a r p=>simp only[ZY,h.refl];exact p
 .induction x generalizing y with
  |nil=>cases y<;>grind[ZY]
  |cons a r p=>
   cases y with
   |nil=>simp[ZY]
   |cons b s=>
    simp only[ZY];by_cases g:c a b=0
    .have i:=h.zero.1 g<;>simp_all
    have i:¬c b a=0:=λe=>g (h.zero.1 e)
    have e1:(c a b !=0)=true:=ek
    have j:(c b a !=0)=true:=ek
    simp only[e1,j,aJ];exact h.anti a b
 induction x generalizing y z with
 |nil=>intro _ _;cases z<;>grind[ZY]
 |cons a r p=>
  intro g i;cases y with
  |nil=>grind[ZY]
  |cons b s=>
   cases z with
   |nil=>grind[ZY]
   |cons d t=>
    simp only[ZY]at g i⊢;by_cases g1:c a b=0
    .by_cases g2:c b d=0
     .simp only[g1,g2,cN,aG]at g i;have g3:c a d=0:=by have I:=h.trans a b d ej ej;have J:=h.trans d b a (by rw[h.zero.1 g2];simp_all) (by rw[h.zero.1 g1];simp_all);have:=h.ge.2 J<;>grind
      simp only[g3,cN,aG]
      grind
     have j:(c b d !=0)=true:=ek
     simp only[j,aJ]at i;have I:=h.lt_of2 (x:=a) (y:=b) (z:=d) ej ej;have l:(c a d !=0)=true:=ew
     simp only[l,aJ];omega
    have e1:(c a b !=0)=true:=ek
    simp only[e1,aJ]at g;have o:c b d<=0:=by
     by_cases g2:c b d=0
     .omega
     have j:(c b d !=0)=true:=ek
     simp_all
    have I:=h.lt_of (x:=a) (y:=b) (z:=d) ej o;have l:(c a d !=0)=true:=ew
    simp only[l,aJ];omega
theorem abs(a b):xM a b=if a<b then-1 else if b<a then 1 else 0:=by grind[xM]
theorem ave:CmpOK xM:=by
 refine⟨λx=>?_,λx y=>?_,λx y z=>?_⟩<;>simp only[abs]
 .simp
 .grind
 grind
theorem aER:CmpOK ZZ:=by
 have key:∀x y,(Wv x y=true/\Wv y x=false/\zl x y=false/\ZZ x y= -1)\/(x=y/\ZZ x y=0)\/(Wv x y=false/\Wv y x=true/\zl x y=false/\ZZ x y=1):=by grind[aFe,ZZ,WP,az3]
 refine⟨λx=>?_,λx y=>?_,λx y z g i=>?_⟩
 .grind
 .grind
 grind[aoc]
theorem CmpOK.by_key{α}(key:α->Int)(c:Int->α->α->Int)(h:∀k,CmpOK (c k)):CmpOK (λx y=>bif key x !=key y then xM (key x) (key y)else c (key x) x y):=by
 have j:∀x y,(key x=key y/\(bif key x !=key y then xM (key x) (key y)else c (key x) x y)=c (key x) x y)\/(key x<key y/\(bif key x !=key y then xM (key x) (key y)else c (key x) x y)= -1)\/(key y<key x/\(bif key x !=key y then xM (key x) (key y)else c (key x) x y)=1):=by grind[abs]
 refine⟨λx=>?_,λx y=>?_,λx y z o l=>?_⟩
 .rcases j x x with⟨_,e⟩|⟨e,_⟩|⟨e,_⟩
  .show(bif key x !=key x then xM (key x) (key x)else c (key x) x x)=0;rw[e,(h _).refl]
  .omega
  omega
 .show(bif key x !=key y then xM (key x) (key y)else c (key x) x y)<0↔0<(bif key y !=key x then xM (key y) (key x)else c (key y) y x);rcases j x y with⟨e,e'⟩|⟨e,e'⟩|⟨e,e'⟩<;>rcases j y x with⟨f,i⟩|⟨f,i⟩|⟨f,i⟩<;>rw[e',i]<;>try omega
  rw[<-e];exact(h _).anti x y
 show(bif key x !=key z then xM (key x) (key z)else c (key x) x z)<=0;have o:(bif key x !=key y then xM (key x) (key y)else c (key x) x y)<=0:=o;have l:(bif key y !=key z then xM (key y) (key z)else c (key y) y z)<=0:=l;rcases j x y with⟨e,e'⟩|⟨e,e'⟩|⟨e,e'⟩<;>rcases j y z with⟨f,i⟩|⟨f,i⟩|⟨f,i⟩<;>rcases j x z with⟨g,p⟩|⟨g,p⟩|⟨g,p⟩<;>rw[e']at o<;>rw[i]at l<;>rw[p]<;>try omega
 rw[<-e]at l;exact(h _).trans x y z o l
def aCS(k:Int)(a b:Val):=bif k==3 then ZZ a.s b.s else bif k==1||k==2 then xM a.n b.n else 0
theorem CmpOK.on{α β}{c:β->β->Int}(h:CmpOK c)(f:α->β):CmpOK (λx y=>c (f x) (f y)):=⟨λx=>h.refl _,λx y=>h.anti _ _,λx y z=>h.trans _ _ _⟩
theorem aFm(k):CmpOK (aCS k):=by
 unfold aCS;cases k==3
 .cases k==1||k==2
  .exact⟨λ_=>rfl,λ_ _=>ep,λ_ _ _ _ _=>ep⟩
  exact ave.on Val.n
 exact aER.on Val.s
theorem Kz:CmpOK zS:=CmpOK.by_key Val.k aCS aFm
theorem yP:CmpOK ordR:=Kz.lex
end
section
variable {α:Type}
structure PermW(a b:Nat)(l l':am α):Prop where
 len:l'.length=l.length
 perm:l'.Perm l
 out:∀i,i<a\/b<=i->l'[i]?=l[i]?
 mem:∀i x,a<=i->i<b->l'[i]?=some x->∃j,a<=j/\j<b/\l[j]?=some x
namespace PermW
theorem refl(a b)(l:am α):PermW a b l l:=⟨rfl,cF _,λ_ _=>rfl,λi _ g j o=>⟨i,g,j,o⟩⟩
theorem trans{a b}{l l' g:am α}(h:PermW a b l l')(k:PermW a b l' g):PermW a b l g:=
 ⟨k.len.trans h.len,k.perm.trans h.perm,λi o=>(k.out i o).trans (h.out i o),λi x p r I=>by obtain⟨j,J,P,R⟩:=k.mem i x p r I;exact h.mem j x J P R⟩
theorem mono{a b g o}{l l':am α}(h:PermW a b l l')(P:g<=a)(R:b<=o):PermW g o l l':=
 ⟨h.len,h.perm,λi r=>h.out i ej,λi x I J p=>by
  by_cases r:i<a\/b<=i
  .exact⟨i,I,J,by rw[<-h.out i r];exact p⟩
  obtain⟨j,T,U,j3⟩:=h.mem i x ej ej p
  grind⟩
end PermW
def VM(l:am α)(i j:Nat)(x y):=(l.set i y).set j x
theorem aFO(l)(i j)(x y:α):(VM l i j x y).length=l.length:=by simp[VM]
theorem KD{l}{i j}{x y:α}(g:l[i]?=some x)(p:l[j]?=some y)(k):
 (VM l i j x y)[k]?=if k=j then some x else if k=i then some y else l[k]? :=by
 have o:i<l.length:=(am.getElem?_eq_some_iff.1 g).1;have r:j<l.length:=(am.getElem?_eq_some_iff.1 p).1;simp only[VM,am.getElem?_set,List.length_set];by_cases I:k=j
 .grind
 by_cases J:k=i<;>simp_all[Ne.symm]
theorem aD0{l}{i j}{x y:α}(p:l[i]?=some x)(r:l[j]?=some y):(VM l i j x y).Perm l:=by obtain⟨g,rfl⟩:=am.getElem?_eq_some_iff.1 p;obtain⟨o,rfl⟩:=am.getElem?_eq_some_iff.1 r;exact List.set_set_perm g o
theorem ayv{l}{i j a b}{x y:α}(g:l[i]?=some x)(o:l[j]?=some y)(p:a<=i)(r:i<b)(I:a<=j)(J:j<b):PermW a b l (VM l i j x y):=by
 refine⟨aFO ..,aD0 g o,λk hk=>?_,λk z P R T=>?_⟩
 .rw[KD g o,aF ej,aF ej]
 grind[KD]
variable (c:α->α->Int)
def yA(a b:Nat)(l:am α):=∀i j x y,a<=i->i<j->j<b->l[i]?=some x->l[j]?=some y->c x y<=0
def LeW(a b g o:Nat)(l:am α):=∀i j x y,a<=i->i<b->g<=j->j<o->l[i]?=some x->l[j]?=some y->c x y<=0
variable {c}
theorem yA.mono{a b g o}{l}(h:yA c a b l)(r:a<=g)(I:o<=b):yA c g o l:=λi j x y J p i3=>h i j x y ej p ej
theorem yA.same{a b}{l l'}(h:yA c a b l)(p:∀i,a<=i->i<b->l'[i]?=l[i]?):yA c a b l':=λi j x y g o i3 i4 i5=>h i j x y g o i3 ek ek
theorem yA.glue{a m b}{l}(r:yA c a m l)(I:yA c m b l)(J:LeW c a m m b l):yA c a b l:=by
 intro i j x y g o i3 i4 i5;by_cases h:j<m
 .exact r i j x y g o h i4 i5
 by_cases p:m<=i
 .exact I i j x y p o i3 i4 i5
 exact J i j x y g ej ej i3 i4 i5
theorem yA.one(a b)(l)(h:b<=a+1):yA c a b l:=λi j x y g o i3=>ej
theorem LeW.perm{a m b}{l l'}(h:LeW c a m m b l)(g:PermW a m l l'):LeW c a m m b l':=by intro i j x y p r i3 i4 i5 o;obtain⟨k,I,J,P⟩:=g.mem i x p r i5;rw[g.out j ej]at o;exact h k j x y I J i3 i4 P o
theorem LeW.perm2{a m b}{l l'}(h:LeW c a m m b l)(g:PermW m b l l'):LeW c a m m b l':=by intro i j x y o p i3 i4 i5 r;obtain⟨k,I,J,P⟩:=g.mem j y i3 i4 r;rw[g.out i ej]at i5;exact h i k x y o p I J i5 P
theorem yA.le{a b i j}{l}{x y}(r:CmpOK c)(h:yA c a b l)(I:a<=i)(J:i<=j)(i3:j<b)(p:l[i]?=some x)(g:l[j]?=some y):c x y<=0:=by
 rcases bT i j with o|o
 .exact h i j x y I o i3 p g
 obtain rfl:i=j:=ej
 rw[p]at g;cases g;rw[r.refl];simp_all
def aaw(c:α->α->Int)(a i j:Nat)(l:am α):=∀p q x y,a<=p->p<q->q<=i->q≠j->l[p]?=some x->l[q]?=some y->c x y<=0
theorem aaw.start{a i}{l}(h:yA c a i l):aaw c a i i l:=λp q x y g j o r=>h p q x y g j ej
theorem aaw.step{a i j}{l}{x y}(hc:CmpOK c)(h:aaw c a i j l)(aa:a<j)(ab:j<=i)(I:l[j-1]?=some x)(P:l[j]?=some y)(ac:c y x<0):aaw c a i (j-1) (VM l j (j-1) y x):=by
 intro p q u v J T r U g o;rw[KD P I]at g o;by_cases e1:q=j
 .subst e1;rw[aF ej,aL rfl]at o;cases o;split at g
  .grind
  rw[aF ej]at g;exact h p (q-1) u x J ej ej ej g I
 rw[aF U,aF e1]at o;split at g
 .rename_i R;cases g;exact h j q y v ej ej r e1 P o
 split at g
 .rename_i R e3;cases g;exact h (j-1) q x v ej ej r e1 I o
 exact h p q u v J T r e1 g o
theorem aaw.stop{a i j}{l}(I:CmpOK c)(h:aaw c a i j l)(U:j<=i)(hs:j<=a\/∃x y,l[j-1]?=some x/\l[j]?=some y/\0<=c y x):yA c a (i+1) l:=by
 intro p q u v J T h3 o r;by_cases e:q=j
 .subst e;rcases hs with h'|⟨x,y,P,hy,g⟩
  .omega
  rw[hy]at r;cases r;by_cases R:p=q-1
  .subst R;rw[P]at o;cases o;exact I.ge.1 g
  exact I.trans _ _ _ (h p (q-1) u x J ej ej ej o P) (I.ge.1 g)
 exact h p q u v J T ej e o r
end
section
attribute [local irreducible] Sat zH z6
theorem V0{l}{i:Nat}{x}(h:l[i]?=some x):(yz l)[i]?=some x.ds:=by grind[yz]
theorem arg(l)(i)(x):(yz l).set i x.ds=yz (l.set i x):=by simp[yz]
theorem uF{a:Type}{l:am a}{i}(h:i<l.length):∃x,l[i]?=some x:=⟨l[i],am.getElem?_eq_getElem h⟩
theorem alH{j:Nat}(h:0<j)(g:j<=9223372036854775807):aB.wrap ((j:Int)-1)=((j-1:Nat):Int):=by grind[zT]
section
variable {α:Type}
theorem aEH(P R)(x:α):(P++x::R)[P.length]?=some x:=ep
theorem aEI(P Q R)(x y:α):(P++x::(Q++y::R))[P.length+1+Q.length]?=some y:=by
 have h:P++x::(Q++y::R)=(P++x::Q)++y::R:=ep
 have e:P.length+1+Q.length=(P++x::Q).length:=ew
 grind
theorem av1(P R)(x y:α):(P++x::R).set P.length y=P++y::R:=eu
theorem aFN(P Q R)(x y:α):VM (P++x::(Q++y::R)) P.length (P.length+1+Q.length) x y=P++y::(Q++x::R):=by grind[VM]
def JZ(P X M Y S:am α)(i):=P++(Y.take i++X.drop i)++M++(X.take i++Y.drop i)++S
theorem aDZ(P X M Y S:am α):JZ P X M Y S 0=P++X++M++Y++S:=by simp[JZ]
theorem aFL(P X M Y S:am α)(h:X.length=Y.length):JZ P X M Y S X.length=P++Y++M++X++S:=by grind[JZ]
theorem aFM(P X M Y S:am α)(i)(h:X.length=Y.length)(g:i<=X.length):(JZ P X M Y S i).length=(P++X++M++Y++S).length:=by simp[JZ];omega
theorem aDY(P X M Y S:am α)(i)(h:X.length=Y.length)(l:i<X.length):∃x y,(JZ P X M Y S i)[P.length+i]?=some x/\(JZ P X M Y S i)[P.length+X.length+M.length+i]?=some y/\
 VM (JZ P X M Y S i) (P.length+i) (P.length+X.length+M.length+i) x y=JZ P X M Y S (i+1):=by
 have g:i<Y.length:=ej
 have j:JZ P X M Y S i=(P++Y.take i)++X[i]::((X.drop (i+1)++M++X.take i)++Y[i]::(Y.drop (i+1)++S)):=by grind[JZ,zm]
 have o:(P++Y.take i).length=P.length+i:=ew
 have p:(P++Y.take i).length+1+(X.drop (i+1)++M++X.take i).length=P.length+X.length+M.length+i:=ew
 refine⟨X[i],Y[i],?_,?_,?_⟩
 .grind[aEH]
 .grind[aEI]
 rw[j,<-p,<-o,aFN];unfold JZ;rw[bL l,bL g];grind
end
end
section
variable {α:Type}{c:α->α->Int}
theorem aFG(I:CmpOK c){l l'}{a i b}{x}(U:l[a]?=some x)(h1:a<i)(h2:i<=b)(hs:yA c (a+1) b l)
 (r:∀p,l'[p]?=if a<=p/\p<i-1 then l[p+1]? else if p=i-1 then l[a]? else l[p]?)
 (g1:i=a+1\/∃u,l[i-1]?=some u/\c u x<=0) (g2:i=b\/∃u,l[i]?=some u/\c x u<=0):yA c a b l':=by
 intro p q u v p1 p2 J j g;rw[r]at j g;by_cases e1:a<=p/\p<i-1
 .rw[aL e1]at j;by_cases T:a<=q/\q<i-1
  .rw[aL T]at g;exact hs (p+1) (q+1) u v ej ej ej j g
  rw[aF T]at g;by_cases o:q=i-1
  .rw[aL o,U]at g;cases g;rcases g1 with g1|⟨w,P,R⟩
   .omega
   exact I.trans _ _ _ (hs.le I ej (show p+1<=i-1 by omega) ej j P) R
  rw[aF o]at g;exact hs (p+1) q u v ej ej J j g
 rw[aF e1]at j;rw[aF ej]at g;by_cases o:p=i-1
 .rw[aL o,U]at j;cases j;rw[aF ej]at g;rcases g2 with g2|⟨w,P,R⟩
  .omega
  exact I.trans _ _ _ R (hs.le I ej (show i<=q by omega) J P g)
 rw[aF o]at j;rw[aF ej]at g;exact hs p q u v ej p2 J j g
theorem aAR(r:CmpOK c){l l'}{a i m}{x}(U:l[m]?=some x)(h1:a<=i)(h2:i<=m)(hs:yA c a m l)
 (o:∀p,l'[p]?=if i<p/\p<=m then l[p-1]? else if p=i then l[m]? else l[p]?)
 (g1:i=a\/∃u,l[i-1]?=some u/\c u x<=0) (g2:i=m\/∃u,l[i]?=some u/\c x u<=0):yA c a (m+1) l':=by
 intro p q u v p1 p2 p3 j g;rw[o]at j g;by_cases e1:i<p/\p<=m
 .rw[aL e1]at j;rw[aL ej]at g;exact hs (p-1) (q-1) u v ej ej ej j g
 rw[aF e1]at j;by_cases R:p=i
 .rw[aL R,U]at j;cases j;rw[aL ej]at g;rcases g2 with g2|⟨w,I,J⟩
  .omega
  exact r.trans _ _ _ J (hs.le r ej (show i<=q-1 by omega) ej I g)
 rw[aF R]at j;by_cases P:i<q/\q<=m
 .rw[aL P]at g;exact hs p (q-1) u v ej ej ej j g
 rw[aF P]at g;by_cases T:q=i
 .rw[aL T,U]at g;cases g;rcases g1 with g1|⟨w,I,J⟩
  .omega
  exact r.trans _ _ _ (hs.le r p1 (show p<=i-1 by omega) ej j I) J
 rw[aF T]at g;exact hs p q u v p1 p2 ej j g
def QS(s m e:Nat)(l g:am α):=∀p,g[p]?=if s<=p/\p<s+(e-m)then l[p+(m-s)]? else if s+(e-m)<=p/\p<e then l[p-(e-m)]? else l[p]?
theorem QS.same{s m e}{l:am α}(g:s<=m)(i:m<=e)(h:s=m\/m=e):QS s m e l l:=by
 intro p;rcases h with rfl|rfl
 .split
  .simp_all
  simp_all[aF]
 rw[aF ej];split
 .simp_all
 rfl
theorem aor(r:CmpOK c){l P}{a s m e b}(a1:a<=s)(a2:s<=m)(a3:m<=e)(a4:e<=b)(T:QS s m e l P)(j:yA c a m l)(o:yA c m b l)
 (aa:s=a\/e=b\/∃x y,l[s-1]?=some x/\l[e]?=some y/\c x y<=0) (ab:s=m\/e=m\/∃x y,l[e-1]?=some x/\l[s]?=some y/\c x y<=0):
 yA c a s P/\yA c s (s+(e-m)) P/\yA c (s+(e-m)) e P/\yA c e b P/\LeW c a (s+(e-m)) (s+(e-m)) b P:=by
 refine⟨?_,?_,?_,?_,?_⟩
 .intro p q u v J R U i g;rw[T,aF ej,aF ej]at i g;exact j p q u v J R ej i g
 .intro p q u v J R U i g;rw[T,aL ej]at i g;exact o _ _ u v ej ej ej i g
 .intro p q u v J R U i g;rw[T,aF ej,aL ej]at i g;exact j _ _ u v ej ej ej i g
 .intro p q u v J R U i g;rw[T,aF ej,aF ej]at i g;exact o p q u v ej R U i g
 intro p q u v J R U p4 i g;rw[T]at i g;rw[aF ej]at g;by_cases e1:p<s
 .rw[aF ej,aF ej]at i;by_cases e2:q<e
  .rw[aL ej]at g;exact j p _ u v J ej ej i g
  rw[aF ej]at g;rcases aa with h|h|⟨x,y,hx,hy,I⟩
  .omega
  .omega
  exact r.trans _ _ _ (j.le r J (show p<=s-1 by omega) ej i hx) (r.trans _ _ _ I (o.le r ej (show e<=q by omega) p4 hy g))
 rw[aL ej]at i;by_cases e2:q<e
 .rw[aL ej]at g;rcases ab with h|h|⟨x,y,hx,hy,I⟩
  .omega
  .omega
  exact r.trans _ _ _ (o.le r ej (show p+(m-s)<=e-1 by omega) ej i hx) (r.trans _ _ _ I (j.le r ej (show s<=q-(e-m)by omega) ej hy g))
 rw[aF ej]at g;exact o _ q u v ej ej p4 i g
theorem aea{l:am α}{s m e}(g:s<=m)(o:m<=e)(p:e<=l.length):l.take s++(l.drop s).take (m-s)++(l.drop m).take (e-m)++l.drop e=l:=by
 have r:l.take s++(l.drop s).take (m-s)=l.take m:=by have:=cJ (l:=l) (i:=s) (j:=m-s);rw[<-this];congr 1;omega
 have I:l.take m++(l.drop m).take (e-m)=l.take e:=by have:=cJ (l:=l) (i:=m) (j:=e-m);rw[<-this];congr 1;omega
 grind[bM]
theorem amT{l:am α}{s m e}(o:s<=m)(r:m<=e)(I:e<=l.length):QS s m e l (l.take s++(l.drop m).take (e-m)++(l.drop s).take (m-s)++l.drop e):=by
 intro p;simp only[am.getElem?_append,aI,bO,bP,am.getElem?_take,am.getElem?_drop];split
 .split
  .rename_i g i;split
   .rename_i j;rw[aL ej,aF ej,aF ej]
   rename_i j;rw[aL ej,aL ej];congr 1;omega
  rename_i g i;rw[aL ej,aF ej,aL ej];congr 1;omega
 rename_i g;rw[aF ej,aF ej];congr 1;omega
theorem aEn{l:am α}{s m e}(i:s<=m)(j:m<=e)(o:e<=l.length):PermW s e l (l.take s++(l.drop m).take (e-m)++(l.drop s).take (m-s)++l.drop e):=by
 have r:=amT i j o;refine⟨?_,?_,λp I=>?_,λp x J P g=>?_⟩
 .simp;omega
 .have:=aea i j o<;>grind[List.Perm.append_right,List.Perm.append_left,List.perm_append_comm]
 .rw[r,aF ej,aF ej]
 rw[r]at g;split at g
 .grind
 rw[aL ej]at g
 grind
end
section
variable {α:Type}{R:α->α->Prop}{c:α->α->Int}
def aco(R:α->α->Prop)(a b g o:Nat)(l:am α):=∀i j x y,a<=i->i<b->g<=j->j<o->l[i]?=some x->l[j]?=some y->R x y
def WK(R:α->α->Prop)(a b:Nat)(l:am α):=∀i j x y,a<=i->i<j->j<b->l[i]?=some x->l[j]?=some y->R x y
def aep(R:α->α->Prop)(a j:Nat)(l:am α):=∀p x y,a<=p->p<j->l[p]?=some x->l[j]?=some y->R x y
theorem aco.same{a b g o}{l l'}(h:aco R a b g o l)(I:∀i,(a<=i/\i<b)\/(g<=i/\i<o)->l'[i]?=l[i]?):aco R a b g o l':=
 λi j x y p r i3 i4 i5 J=>h i j x y p r i3 i4 ek ek
theorem aco.rot{l o}{a s m e b}(T:a<=s)(U:s<=m)(a3:m<=e)(a4:e<=b)(j:QS s m e l o)(h:aco R a m m b l):aco R a s s (s+(e-m)) o/\aco R (s+(e-m)) e e b o:=by
 refine⟨?_,?_⟩
 .intro p q u v r J P I g i;rw[j,aF ej,aF ej]at g;rw[j,aL ej]at i;exact h p _ u v r ej ej ej g i
 intro p q u v r J P I g i;rw[j,aF ej,aL ej]at g;rw[j,aF ej,aF ej]at i;exact h _ q u v ej ej ej I g i
theorem WK.mono{a b g o}{l}(h:WK R a b l)(r:a<=g)(I:o<=b):WK R g o l:=λi j x y J p i3=>h i j x y ej p ej
theorem aep.start{a b i}{l o}(h:WK R a b l)(g:PermW a i l o)(r:i<b):aep R a i o:=by intro p x y J P I j;obtain⟨q,T,U,q3⟩:=g.mem p x J P I;rw[g.out i (.inr (aA _))]at j;exact h q i x y T U r q3 j
theorem aep.step{a j}{l}{x y}(h:aep R a j l)(r:a<j)(I:l[j-1]?=some x)(o:l[j]?=some y):aep R a (j-1) (VM l j (j-1) y x):=by intro p u v J P g i;rw[KD o I]at g i;rw[aF ej,aF ej]at g;rw[aL rfl]at i;cases i;exact h p u y J ej g o
def Cut(g i j:Nat):=∃k,i<k*g/\k*g<=j
def alJ(R:α->α->Prop)(g:Nat)(l:am α):=∀i j x y,Cut g i j->l[i]?=some x->l[j]?=some y->R x y
def QF(R:α->α->Prop)(g a:Nat)(l:am α):=∀i j x y,Cut (2*g) i j\/(a<=i/\Cut g i j)->l[i]?=some x->l[j]?=some y->R x y
theorem alJ.pass{g}{l}(h:alJ R g l):QF R g 0 l:=by
 rintro i j x y (⟨k,p,r⟩|⟨_,o⟩)
 .exact h i j x y ⟨k*2,ek,ek⟩
 exact h i j x y o
theorem QF.blk{g a}{l}(h:QF R g a l):alJ R (2*g) l:=λi j x y o=>h i j x y (.inl o)
theorem QF.rel{g q e}{l}(h:QF R g (q*(2*g)) l):aco R (q*(2*g)) (q*(2*g)+g) (q*(2*g)+g) e l:=by
 intro i j x y o p i3 i4;refine h i j x y (.inr ⟨o,2*q+1,?_,?_⟩)
 .grind
 grind
theorem QF.next{g q e n}{l l'}(h:QF R g (q*(2*g)) l)(T:PermW (q*(2*g)) e l l')(h2:e<=(q+1)*(2*g))(hn:e=(q+1)*(2*g)\/(e=n/\l.length=n)):QF R g ((q+1)*(2*g)) l':=by
 intro i j x y hc hx hy;have key:∀o p:Nat,(q*(2*g)<=o/\o<e/\q*(2*g)<=i/\i<e)\/o=i->(q*(2*g)<=p/\p<e/\q*(2*g)<=j/\j<e)\/p=j->Cut (2*g) o p\/(q*(2*g)<=o/\Cut g o p):=by
  intro o p J P;rcases hc with⟨k,k1,k2⟩|⟨ha,hc⟩
  .left
   refine⟨k,?_,?_⟩
   .rcases J with⟨U,i2,i3,i4⟩|rfl
    .have:q<k:=by
      rcases bT q k with r|r
      .exact r
      have:=aO (2*g) r;omega
     have:=aO (2*g) (show q+1<=k from this);omega
    exact k1
   rcases P with⟨U,i2,i3,i4⟩|rfl
   .have:k<=q:=by
     rcases bT q k with r|r
     .have:=aO (2*g) (show q+1<=k from r);omega
     exact r
    have:=aO (2*g) this;omega
   exact k2
  right
  have e0:(q+1)*(2*g)=q*(2*g)+2*g:=aY _ _;obtain⟨k,k1,k2⟩:=hc;rcases J with⟨U,i2,i3,i4⟩|rfl
  .omega
  rcases P with⟨j1,j2,j3,j4⟩|rfl
  .omega
  exact⟨ej,k,k1,k2⟩
 have J:∃o,((q*(2*g)<=o/\o<e/\q*(2*g)<=i/\i<e)\/o=i)/\l[o]?=some x:=by
  by_cases I:q*(2*g)<=i/\i<e
  .obtain⟨o,U,i2,i3⟩:=T.mem i x I.1 I.2 hx
   grind
  rw[T.out i ej]at hx
  grind
 have P:∃p,((q*(2*g)<=p/\p<e/\q*(2*g)<=j/\j<e)\/p=j)/\l[p]?=some y:=by
  by_cases I:q*(2*g)<=j/\j<e
  .obtain⟨o,U,i2,i3⟩:=T.mem j y I.1 I.2 hy
   grind
  rw[T.out j ej]at hy
  grind
 obtain⟨o,aa,ab⟩:=J;obtain⟨p,ac,ad⟩:=P;exact h o p x y (key o p aa ac) ab ad
def ja(R:α->α->Prop)(g e:Nat)(l:am α):=∀i j x y,i<j->(Cut g i j\/e<=j)->l[i]?=some x->l[j]?=some y->R x y
theorem ja.start{g n}{l}(h:WK R 0 n l)(I:l.length=n):ja R g 0 l:=by intro i j x y o _ p r;exact h i j x y (aT _) o ek p r
theorem ja.pair{g e n}{l}(h:ja R g e l):WK R e n l:=λi j x y p o _=>h i j x y o (.inr ej)
theorem ja.next{g q e}{l l'}(h:ja R g (q*g) l)(o:PermW (q*g) e l l')(h0:q*g<=e)(h2:e<=(q+1)*g):ja R g e l':=by
 intro i j x y J P p r;by_cases U:q*g<=j/\j<e
 .obtain⟨j0,j1,j2,j3⟩:=o.mem j y U.1 U.2 r;rcases P with⟨k,k1,k2⟩|P
  .have hk:k<=q:=by
    rcases bT q k with I|I
    .have:=aO g (show q+1<=k from I);omega
    exact I
   have aa:=aO g hk;rw[o.out i (.inl ej)]at p;exact h i j0 x y ej (.inr j1) p j3
  omega
 rw[o.out j ej]at r;by_cases T:q*g<=i/\i<e
 .obtain⟨i0,i1,i2,i3⟩:=o.mem i x T.1 T.2 p;exact h i0 j x y ej (.inr ej) i3 r
 rw[o.out i ej]at p;refine h i j x y J ?_ p r<;>grind
theorem ja.blk{g e}{l}(h:ja R g e l):alJ R g l:=λi j x y o=>h i j x y (by obtain⟨k,p,r⟩:=o;omega) (.inl o)
end
section
variable {α:Type}
def vo(c:α->α->Int)(x:α):am α->am α
 |[]=> [x]
 |y::r=>if c x y<0 then x::y::r else y::vo c x r
def yE(c:α->α->Int)(l:am α):=l.foldl (λg x=>vo c x g) []
def Yc(c:α->α->Int)(l):=List.Pairwise (λx y=>c x y<=0) l
theorem Wq(c:α->α->Int)(x):∀l,(vo c x l).Perm (x::l)
 |[]=>cF _
 |y::r=>by
  unfold vo;split
  .exact cF _
  exact((Wq c x r).cons y).trans (List.Perm.swap x y r)
theorem an5{c:α->α->Int}(i:CmpOK c)(x):∀{l:am α},Yc c l->Yc c (vo c x l)
 |[],_=>List.pairwise_singleton _ _
 |y::r,h=>by
  unfold vo;have j:∀z∈r,c y z<=0:=λz g=>bH h g
  have o:=bN h;split
  .rename_i I;refine cM (λz g=>?_) h;simp only[bZ]at g;rcases g with rfl|g
   .omega
   exact i.trans _ _ _ (by omega:c x y<=0) (j z g)
  rename_i p;refine cM (λz g=>?_) (an5 i x o);have g:=(Wq c x r).mem_iff.1 g;simp only[bZ]at g;rcases g with rfl|g
  .exact i.ge.1 ej
  grind
theorem ayl(c:α->α->Int)(l)(x):yE c (l++[x])=vo c x (yE c l):=by simp[yE]
theorem ads(c:α->α->Int){l:am α}{i}{x}(h:l[i]?=some x):yE c (l.take (i+1))=vo c x (yE c (l.take i)):=by grind[List.take_add_one,ayl]
theorem aeX(c:α->α->Int)(i:CmpOK c):∀(l g:am α),Yc c g->(l.foldl (λg x=>vo c x g) g).Perm (g++l)/\Yc c (l.foldl (λg x=>vo c x g) g)
 |[],g,h=>⟨ep,h⟩
 |x::r,g,h=>by obtain⟨j,o⟩:=aeX c i r (vo c x g) (an5 i x h);refine⟨j.trans ?_,o⟩;exact((Wq c x g).append_right r).trans (List.perm_middle.symm)
theorem uV{c:α->α->Int}(g:CmpOK c)(l):(yE c l).Perm l:=(aeX c g l [] cQ).1
theorem Vv{c:α->α->Int}(g:CmpOK c)(l):Yc c (yE c l):=(aeX c g l [] cQ).2
def ZC(c:α->α->Int)(x y:α×Nat):=if c x.1 y.1=0 then(if x.2<y.2 then-1 else if y.2<x.2 then 1 else 0)else c x.1 y.1
theorem agQ{c:α->α->Int}(g:CmpOK c):CmpOK (ZC c):=by
 refine⟨λx=>?_,λx y=>?_,λx y z j l=>?_⟩
 .simp[ZC,g.refl]
 .have h0:=g.zero (x:=x.1) (y:=y.1);have j:=g.anti x.1 y.1;unfold ZC;omega
 have h0:=g.zero (x:=x.1) (y:=y.1);have p:=g.zero (x:=y.1) (y:=z.1);have r:=g.trans x.1 y.1 z.1;unfold ZC at j l⊢;by_cases e1:c x.1 y.1=0
 .by_cases i:c y.1 z.1=0
  .omega
  rw[aF i]at l;have o:=g.lt_of2 (x:=x.1) (y:=y.1) (z:=z.1) ej ej;omega
 rw[aF e1]at j;by_cases i:c y.1 z.1=0
 .have o:=g.lt_of (x:=x.1) (y:=y.1) (z:=z.1) ej ej;omega
 rw[aF i]at l;have o:=g.lt_of (x:=x.1) (y:=y.1) (z:=z.1) ej ej;omega
theorem av5{c:α->α->Int}(g:CmpOK c){x y}(h:x.2<y.2):c y.1 x.1<0↔ZC c y x<0:=by unfold ZC;omega
theorem arP(c:α->α->Int)(x)(n):∀l:am (α×Nat),(∀y∈l,y.2<n)->(vo (ZC c) (x,n) l).map cG=vo c x (l.map cG)
 |[],_=>rfl
 |y::r,h=>by
  have g:=h y (aR ..);have o:=arP c x n r (λz i=>h z (aW _ i));have e:ZC c (x,n) y<0↔c x y.1<0:=by
   unfold ZC;by_cases e:c x y.1=0
   .rw[aL e,aF ek,aL (show y.2<n from g)];omega
   simp_all
  simp only[vo,List.map_cons];by_cases j:c x y.1<0
  .simp_all
  simp_all[aF]
def vE(l:am α):=l.zipIdx
theorem aAQ{c:α->α->Int}(p:CmpOK c)(l):(yE (ZC c) (vE l)).map cG=yE c l:=by
 have h:∀n,n<=l.length->(yE (ZC c) ((vE l).take n)).map cG=yE c (l.take n)/\∀y∈yE (ZC c) ((vE l).take n),y.2<n:=by
  intro n;induction n with
  |zero=>grind[yE]
  |succ n o=>
   intro r;obtain⟨g,i⟩:=o ej;have e1:(vE l)[n]?=some (l[n],n):=by grind[vE]
   rw[ads _ e1,ads c (am.getElem?_eq_getElem (by omega:n<l.length)),arP c _ _ _ i,g];refine⟨rfl,λy j=>?_⟩;have:=(Wq _ _ _).mem_iff.1 j;simp only[bZ]at this;rcases this with rfl|h
   .simp_all
   grind
 have:=(h l.length (aA _)).1<;>simp_all[aS,vE]
theorem aFF{c:α->α->Int}{l}{n}(h:yA c 0 n l)(r:l.length=n):Yc c l:=by
 refine List.pairwise_iff_getElem.2 λi j o p g=>?_
 exact h i j _ _ (aT _) g ej (am.getElem?_eq_getElem o) (am.getElem?_eq_getElem p)
theorem ahQ(l)(n):WK (λx y:α×Nat=>x.2<y.2) 0 n (vE l):=by intro i j x y _ g _ o p<;>grind[vE]
theorem adw(l:am α):(vE l).length=l.length:=by simp[vE]
theorem adv(l:am α):(vE l).map cG=l:=by simp_all[vE]
theorem aA3{c:α->α->Int}(j:CmpOK c){x y}(i:ZC c x y<=0)(g:ZC c y x<=0):x.2=y.2:=by
 have h0:=j.zero (x:=x.1) (y:=y.1);unfold ZC at i g;by_cases e:c x.1 y.1=0
 .omega
 rw[aF e]at i;rw[aF (λe'=>e (h0.2 e'))]at g;have:=j.ge.2 g;omega
theorem aoT{c:α->α->Int}(o:CmpOK c){l}{l'}{n}(hn:l.length=n)(j:PermW 0 n (vE l) l')(hs:yA (ZC c) 0 n l'):l'.map cG=yE c l:=by
 have aa:l'.length=n:=by rw[j.len,adw,hn]
 rw[<-aAQ o l];congr 1
 have p:l'.Perm (yE (ZC c) (vE l)):=j.perm.trans (uV (agQ o) _).symm;have U:∀x∈l',∀y∈l',x.2=y.2->x=y:=by intro x g y i e;have g:=j.perm.mem_iff.1 g;have i:=j.perm.mem_iff.1 i;have g:=List.mem_zipIdx g;have i:=List.mem_zipIdx i<;>grind
 have gen:∀{u v:am (α×Nat)},Yc (ZC c) u->Yc (ZC c) v->u.Perm v->(∀x∈u,∀y∈u,x.2=y.2->x=y)->u=v:=by
  intro u;induction u with
  |nil=>grind[List.Perm.nil_eq]
  |cons x r ih=>
   intro v P R j T;cases v with
   |nil=>exact absurd j.length_eq ep
   |cons y r'=>
    have I:x=y:=by
     have g:x∈y::r':=j.mem_iff.1 (aR ..);have i:y∈x::r:=j.mem_iff.2 (aR ..);have J:=i;simp only[bZ]at g i;rcases g with g|g
     .exact g
     rcases i with i|i
     .grind
     exact T _ (aR ..) _ J (aA3 o (bH P i) (bH R g))
    subst I;rw[ih (bN P) (bN R) (List.Perm.cons_inv j) (λa ha b hb=>T a (aW _ ha) b (aW _ hb))]
 grind[aFF,Vv,agQ]
end
section
attribute [local irreducible] Sat zH z6
theorem arK(i j:Nat)(h:i+j<=4611686018427387904):aB.wrap (Wy false IntKind.u64 (IntKind.u64.wrap (aB.wrap ((i:Int)+(j:Int)))) 1)=(((i+j)/2:Nat):Int):=by grind[zT,IntKind.wrap,IntKind.bits,Wy]
theorem YV{a b c d:Nat}(h:(decide ((a:Int)<(b:Int))&&decide ((c:Int)<(d:Int)))=true):a<b/\c<d:=eu
theorem YU{a b c d:Nat}(h:(decide ((a:Int)<(b:Int))&&decide ((c:Int)<(d:Int)))=false):b<=a\/d<=c:=ek
section
variable {α:Type}{c:α->α->Int}
def jH(c:α->α->Int)(g e)(l):=∀k,yA c (k*g) (min ((k+1)*g) e) l
def Jg(c:α->α->Int)(g a n)(l):=∀k,a<=k*g->yA c (k*g) (min ((k+1)*g) n) l
theorem jH.zero(g)(l):jH c g 0 l:=λk=>yA.one _ _ _ ej
theorem jH.ext{g q e}{l l'}(h:jH c g (q*g) l)(o:PermW (q*g) e l l')(hs:yA c (q*g) e l')(j:q*g<=e)(p:e<=(q+1)*g):jH c g e l':=by
 intro k;rcases Nat.lt_trichotomy k q with hk|hk|hk
 .have e1:(k+1)*g<=q*g:=aO _ hk;have:=h k;rw[bJ e1]at this;rw[bJ (aN e1 j)];exact this.same λi _ r=>o.out i (.inl ej)
 .grind
 have e1:(q+1)*g<=k*g:=aO _ hk
 grind[yA.one]
theorem jH.blkF{g n}{l}(h:jH c g n l):Jg c g 0 n l:=λk _=>h k
theorem Jg.next{g a e n}{l l'}(h:Jg c g a n l)(j:PermW a e l l')(o:a<=e):Jg c g e n l':=λk hk=>(h k ej).same λi p _=>j.out i (.inr ej)
theorem Jg.at0{g q n}{l}(h:Jg c g (q*(2*g)) n l):yA c (q*(2*g)) (min (q*(2*g)+g) n) l:=by
 have i:q*(2*g)=(2*q)*g:=ek
 have e1:(2*q+1)*g=2*q*g+g:=aY (2*q) g;have:=h (2*q) ej <;>grind
theorem Jg.at1{g q n}{l}(h:Jg c g (q*(2*g)) n l):yA c (q*(2*g)+g) (min (q*(2*g)+g+g) n) l:=by
 have i:q*(2*g)=(2*q)*g:=ek
 have e1:(2*q+1)*g=2*q*g+g:=aY (2*q) g;have j:(2*q+1+1)*g=2*q*g+g+g:=ek
 have:=h (2*q+1) ek
 grind
end
namespace So
def eL{a:Type}(en:a->am D)(l:am a):=l.map en
section
variable {α:Type}(en:α->am D)
theorem vt{l}{i:Nat}{x}(h:l[i]?=some x):(eL en l)[i]?=some (en x):=by simp[eL,h]
theorem K5(l)(i)(x):(eL en l).set i (en x)=eL en (l.set i x):=by simp[eL]
theorem aj9{l}{i j:Nat}{x y}(h:l[j]?=some y):∃z,((eL en l).set i (en x))[j]?=some (en z):=by have g:j<l.length:=(am.getElem?_eq_some_iff.1 h).1;rw[K5];exact⟨(l.set i x)[j]'(by simpa using g),vt en (am.getElem?_eq_getElem _)⟩
theorem atJ{l}{i j}(x y):((eL en l).set i (en y)).set j (en x)=eL en (VM l i j x y):=by rw[K5,K5];rfl
end
structure Rt(a:Type) where
 P:am a
 A:am a
 B:am a
 S:am a
def Rt.l{α}(x:Rt α):=x.P++x.A++x.B++x.S
def Rt.t{α}(x:Rt α):=x.P++x.B++x.A++x.S
def aH4(sz:Nat)(f:W)(n a b i:Nat)(g:am (am D)):S:=⟨[(0,cV (.own 100000 sz n)),(1,zh a),(2,zh b),(3,.w f),(8,zh i)],[(100000,.arr sz g false)]⟩
def aGy(sz:Nat)(f:W)(n a b i j:Nat)(g:am (am D)):S:=⟨[(0,cV (.own 100000 sz n)),(1,zh a),(2,zh b),(3,.w f),(8,zh i),(9,zh j)],[(100000,.arr sz g false)]⟩
def swS(sz n a b k i:Nat)(g:am (am D)):S:=⟨[(0,cV (.own 100000 sz n)),(1,zh a),(2,zh b),(3,zh k),(10,zh i)],[(100000,.arr sz g false)]⟩
def asL(sz:Nat)(f:W)(n m i j:Nat)(g:am (am D)):S:=⟨[(0,cV (.own 100000 sz n)),(2,zh m),(4,.w f),(10,zh i),(11,zh j)],[(100000,.arr sz g false)]⟩
def aID(sz:Nat)(f:W)(n a i j:Nat)(g:am (am D)):S:=⟨[(0,cV (.own 100000 sz n)),(1,zh a),(4,.w f),(10,zh i),(11,zh j)],[(100000,.arr sz g false)]⟩
def aG5(sz n i k:Nat)(g:am (am D)):S:=⟨[(0,cV (.own 100000 sz n)),(10,zh i),(13,zh k)],[(100000,.arr sz g false)]⟩
def aIE(sz:Nat)(f:W)(n m i j:Nat)(g:am (am D)):S:=⟨[(0,cV (.own 100000 sz n)),(2,zh m),(4,.w f),(14,zh i),(15,zh j)],[(100000,.arr sz g false)]⟩
def aG6(sz n i k:Nat)(g:am (am D)):S:=⟨[(0,cV (.own 100000 sz n)),(14,zh i),(17,zh k)],[(100000,.arr sz g false)]⟩
def aG7(sz:Nat)(f:W)(N a m b i n s r p:Nat)(g:am (am D)):S:=⟨[(0,cV (.own 100000 sz N)),(1,zh a),(2,zh m),(3,zh b),(4,.w f),(18,zh i),(19,zh n),(20,zh s),(21,zh r),(22,zh p)],[(100000,.arr sz g false)]⟩
def stS(sz:Nat)(f:W)(N n i a b:Nat)(g:am (am D)):S:=⟨[(0,cV (.own 100000 sz N)),(1,zh n),(2,.w f),(6,zh i),(7,zh a),(8,zh b)],[(100000,.arr sz g false)]⟩
def stT(sz:Nat)(f:W)(N n i:Nat)(g:am (am D)):S:=⟨[(0,cV (.own 100000 sz N)),(1,zh n),(2,.w f),(6,zh i)],[(100000,.arr sz g false)]⟩
section
variable {α:Type}(k sz:Nat) (en:α->am D) (cal:α->α->am W) (clo:aX->W)
def ajB(g:aX)(c:α->α->Int)(R:α->α->Prop):=∀x y:α,R x y->Sat Pg g (cal y x) (λr=>∃z,r=rI z/\(z<0↔c y x<0))
def aqz(c:α->α->Int)(a b:Nat)(l:am α)(r:Res):=∃l':am α,PermW a b l l'/\yA c a b l'/\r=⟨.tup [],[.arr sz (eL en l') false]⟩
def abc:=∀(g:aX) (c:α->α->Int) (_:CmpOK c) (R:α->α->Prop) (_:ajB cal g c R) (l:am α) (a b:Nat) (_:a<=b) (_:b<=l.length) (_:l.length<=1000000) (_:WK R a b l),
    zH Pg k [.c (.own 0 sz l.length),.c (int a),.c (int b),clo g] [.arr sz (eL en l) false] (aqz sz en c a b l)
def UM:=∀(g:aX) (P X M Y S:am α) (_:X.length=Y.length) (N a b n:Nat) (_:N=(P++X++M++Y++S).length) (_:a=P.length) (_:n=X.length) (_:b=P.length+X.length+M.length) (_:N<=1000000),
    zH Pg k [.c (.own 0 sz N),.c (int a),.c (int b),.c (int n),clo g] [.arr sz (eL en (P++X++M++Y++S)) false] (λr=>r=⟨.tup [],[.arr sz (eL en (P++Y++M++X++S)) false]⟩)
def aeq:=∀(g:aX) (i:Rt α) (N a m b:Nat) (_:N=i.l.length) (_:a=i.P.length) (_:m=a+i.A.length) (_:b=m+i.B.length) (_:0<i.A.length) (_:0<i.B.length) (_:N<=1000000),
    zH Pg k [.c (.own 0 sz N),.c (int a),.c (int m),.c (int b),clo g] [.arr sz (eL en i.l) false] (λr=>r=⟨.tup [],[.arr sz (eL en i.t) false]⟩)
def aHR(g)(c:α->α->Int)(R:α->α->Prop)(N n):=∀(l:am α) (a m b:Nat),b-a<=n->a<m->m<b->b<=l.length->l.length=N->yA c a m l->yA c m b l->aco R a m m b l->
    zH Pg k [.c (.own 0 sz N),.c (int a),.c (int m),.c (int b),clo g] [.arr sz (eL en l) false] (aqz sz en c a b l)
def ahX:=∀(g:aX) (c:α->α->Int) (_:CmpOK c) (R:α->α->Prop) (_:ajB cal g c R) (N:Nat) (_:N<=1000000) (n:Nat),aHR k sz en clo g c R N n
def aqA:=∀(g:aX) (c:α->α->Int) (_:CmpOK c) (R:α->α->Prop) (_:ajB cal g c R) (l:am α) (n:Nat) (_:l.length=n) (_:n<=1000000) (_:WK R 0 n l),
    zH Pg k [.c (.own 0 sz n),.c (int n),clo g] [.arr sz (eL en l) false] (aqz sz en c 0 n l)
def SortStable:=∀(g:aX) (c:α->α->Int) (_:CmpOK c) (R:α->α->Prop) (_:ajB cal g c R) (l:am α) (n:Nat) (_:l.length=n) (_:n<=1000000) (_:WK R 0 n l),
    zH Pg k [.c (.own 0 sz n),clo g] [.arr sz (eL en l) false] (aqz sz en c 0 n l)
variable {k sz en cal clo}
theorem abc.p(r:abc k sz en cal clo)(g)(c:α->α->Int)(j:CmpOK c)(R:α->α->Prop)(P:ajB cal g c R)(N)(l)(a b)(I:l.length=N)(i:a<=b)(J:b<=N)(T:N<=1000000)(o:WK R a b l):
 zH Pg k [.c (.own 0 sz N),.c (int a),.c (int b),clo g] [.arr sz (eL en l) false] (aqz sz en c a b l):=by subst I;exact r g c j R P l a b i J T o
theorem UM.p(o:UM k sz en clo)(g)(P X M Y S l l')(i:l=P++X++M++Y++S)(j:l'=P++Y++M++X++S)(h:X.length=Y.length)(N a b n:Nat)(I:N=l.length)(J:a=P.length)(U:n=X.length)(R:b=P.length+X.length+M.length)(T:N<=1000000):
 zH Pg k [.c (.own 0 sz N),.c (int a),.c (int b),.c (int n),clo g] [.arr sz (eL en l) false] (λr=>r=⟨.tup [],[.arr sz (eL en l') false]⟩):=by subst i j;exact o g P X M Y S h N a b n I J U R T
def Jh(c:α->α->Int)(l:am α)(i j:Nat):=∃u v,l[i]?=some u/\l[j]?=some v/\c u v<=0
def aiO(s m e:Nat)(l:am α):=l.take s++(l.drop m).take (e-m)++(l.drop s).take (m-s)++l.drop e
theorem aeq.p(I:aeq k sz en clo)(g)(l)(N s m e:Nat)(i:s<m)(j:m<e)(o:e<=l.length)(J:l.length=N)(P:N<=1000000):
 zH Pg k [.c (.own 0 sz N),.c (int s),.c (int m),.c (int e),clo g] [.arr sz (eL en l) false] (λr=>r=⟨.tup [],[.arr sz (eL en (aiO s m e l)) false]⟩):=by have h:=I g ⟨l.take s,(l.drop s).take (m-s),(l.drop m).take (e-m),l.drop e⟩ N s m e;simp only[Rt.l,Rt.t,aea (Nat.le_of_lt i) (Nat.le_of_lt j) o]at h;refine h J.symm ?_ ?_ ?_ ?_ ?_ P<;>simp<;>omega
theorem vK{c:α->α->Int}{l o p j}{a r g e b}(hw:PermW r e l o)(P:a<=r)(R:e<=b)(J:PermW a g o p)(I:PermW g b p j)(T:a<=g)(U:g<=b)
 (t2:yA c a g p) (t3:yA c g b j) (s5:LeW c a g g b o):PermW a b l j/\yA c a b j:=
 ⟨(hw.mono P R).trans ((J.mono (aA _) U).trans (I.mono T (aA _))),yA.glue (t2.same λi _ i2=>I.out i (.inl i2)) t3 ((s5.perm J).perm2 I)⟩
end
end So
namespace So
theorem age{p:Prop}(h:p:=by
 intro g c aa R hg l a b ae hb hl ac;have wa:Go.IntKind.i64.wrap ((a:Int)+1)=((a+1:Nat):Int):=zu (n:=1000001) ej ej;refine vF T8 cI_ok er ep ?_
 conv=>whnf
 refine yD (P:=Pg) (f:=T8.f) (body:=cI_L1) (λx:Nat×List α=>aH4 sz (clo E g) l.length a b x.1 (eL (en E) x.2)) (λx=>b-x.1)
  (λx=>a<x.1/\(x.1<=b\/(x.1=a+1/\x.2=l))/\PermW a x.1 l x.2/\yA c a x.1 x.2)
  ⟨(a+1,l),⟨by show a<a+1;omega,.inr ⟨rfl,rfl⟩,PermW.refl _ _ _,yA.one _ _ _ (Nat.le_refl _)⟩,zi ?_⟩ ?_
 ·(conv=>whnf);rw[wa];rfl
 rintro⟨i,l1⟩ hR;have hS:a<i/\(i<=b\/(i=a+1/\l1=l))/\PermW a i l l1/\yA c a i l1:=hR;clear hR;obtain⟨g1,g2,g3,g4⟩:=hS;refine zg (λU=>?_) (λU=>?_)
 .have r:i<b:=by have U:decide ((i:Int)<(b:Int))=true:=U;have:=of_decide_eq_true U;omega
  have wi:Go.IntKind.i64.wrap ((i:Int)+1)=((i+1:Nat):Int):=zu r ej;(conv=>whnf)
  refine yD (P:=Pg) (f:=T8.f) (body:=cI_L0) (λx:Nat×List α=>aGy sz (clo E g) l.length a b i x.1 (eL (en E) x.2)) (λx=>x.1)
   (λx=>a<=x.1/\x.1<=i/\PermW a (i+1) l x.2/\aaw c a i x.1 x.2/\aep R a x.1 x.2)
   ⟨(i,l1),⟨by show a<=i;omega,Nat.le_refl _,g3.mono (Nat.le_refl _) ej,aaw.start g4,aep.start ac g3 r⟩,zi ?_⟩ ?_
  .exact rfl
  rintro⟨j,o⟩ hR;have hS:a<=j/\j<=i/\PermW a (i+1) l o/\aaw c a i j o/\aep R a j o:=hR;clear hR;obtain⟨k1,k2,k3,k4,k6⟩:=hS;have k5:=k3.len;refine zg (λh2=>?_) (λh2=>?_)
  .have I:a<j:=by have h2:decide ((j:Int)>(a:Int))=true:=h2;have:=of_decide_eq_true h2;omega
   have wj:Go.IntKind.i64.wrap ((j:Int)-1)=((j-1:Nat):Int):=alH ej ej;obtain⟨x,J⟩:=uF (l:=o) (i:=j-1) ej;obtain⟨y,T⟩:=uF (l:=o) (i:=j) ej;refine aw2 ?_ (hA:=by show(0:Int)<=(j:Int);omega) (hB:=by show(j:Int)<(l.length:Int);omega);refine⟨_,vt (en E) T,?_⟩;(conv=>whnf);rw[wj];refine aw2 ?_;refine⟨_,vt (en E) J,?_⟩;(conv=>whnf);refine Go.AM.Sat.mono (hg x y (k6 (j-1) x y ej ej J T)) ?_;rintro _ ⟨z,rfl,hz⟩;refine zg (λh3=>?_) (λh3=>?_)
   .have ab:c y x<0:=hz.1 (of_decide_eq_true h3);(conv=>whnf);rw[wj];refine aw2 ?_;refine⟨_,vt (en E) J,?_⟩;(conv=>whnf);refine aw2 ?_ (hA:=by show(0:Int)<=(j:Int);omega) (hB:=by show(j:Int)<(l.length:Int);omega);refine⟨_,vt (en E) T,?_⟩;(conv=>whnf);refine aw2 ?_ (hA:=by show(0:Int)<=(j:Int);omega) (hB:=by show(j:Int)<(l.length:Int);omega);refine⟨_,vt (en E) T,Nat.le_refl _,?_⟩;refine aw2 ?_;obtain⟨z1,ad⟩:=aj9 (en E) (i:=j) (x:=x) J;(conv=>whnf);refine⟨_,ad,Nat.le_refl _,?_⟩;(conv=>whnf);refine⟨(j-1,VM o j (j-1) y x),⟨⟨by show a<=j-1;omega,by show j-1<=i;omega,k3.trans (ayv T J ej ej ej ej),k4.step aa I k2 J T ab,k6.step I J T⟩,by show j-1<j;omega⟩,zi ?_⟩;(conv=>whnf);rw[wj];have e:((eL (en E) o).set j (en E x)).set (j-1) (en E y)=eL (en E) (VM o j (j-1) y x):=by rw[K5,K5];rfl
    exact congrArg (aGy sz (clo E g) l.length a b i (j-1)) e
   have af:¬c y x<0:=λh=>(of_decide_eq_false h3:¬z<0) (hz.2 h)
   (conv=>whnf);refine⟨(i+1,o),⟨⟨by show a<i+1;omega,.inl (by show i+1<=b;omega),k3,?_⟩,by show b-(i+1)<b-i;omega⟩,zi ?_⟩
   .exact k4.stop aa k2 (.inr ⟨x,y,J,T,ej⟩)
   (conv=>whnf);rw[wi];rfl
  have I:j<=a:=by have h2:decide ((j:Int)>(a:Int))=false:=h2;have:=of_decide_eq_false h2;omega
  (conv=>whnf);refine⟨(i+1,o),⟨⟨by show a<i+1;omega,.inl (by show i+1<=b;omega),k3,?_⟩,by show b-(i+1)<b-i;omega⟩,zi ?_⟩
  .exact k4.stop aa k2 (.inl I)
  (conv=>whnf);rw[wi];rfl
 have r:b<=i:=by have U:decide ((i:Int)<(b:Int))=false:=U;have:=of_decide_eq_false U;omega
 (conv=>whnf);refine⟨l1,?_,g4.mono (Nat.le_refl _) r,rfl⟩;rcases g2 with g2|⟨_,g2⟩
 .exact g3.mono (Nat.le_refl _) g2
 rw[g2];exact PermW.refl _ _ _):p:=h
theorem abb{p:Prop}(h:p:=by
 intro g P X M Y S h N a b n U ha hn hb hl;have ab:P.length+X.length+M.length+Y.length+S.length=N:=by rw[U];simp;omega
 obtain⟨l0,o⟩:∃l0,l0=P++X++M++Y++S:=⟨_,rfl⟩;rw[<-o];refine vF T8 cW_ok er ep ?_
 conv=>whnf
 refine zX (P:=Pg) (f:=T8.f) (body:=cW_L0) n (λi=>swS sz N a b n i (eL (en E) (JZ P X M Y S i))) (λ_=>True) ⟨trivial,zi ?_⟩ ?_
 ·(conv=>whnf);rw[o,<-aDZ];rfl
 intro i hi _;have r:=aFM P X M Y S i h ej;rw[<-U]at r;refine zg (λj=>?_) (λj=>?_)
 .have I:i<n:=by have j:decide ((i:Int)<(n:Int))=true:=j;have:=of_decide_eq_true j;omega
  obtain⟨x,y,J,R,hs⟩:=aDY P X M Y S i h ej;rw[<-hb]at R hs;rw[<-ha]at J hs;have wi:Go.IntKind.i64.wrap ((i:Int)+1)=((i+1:Nat):Int):=zu I ej;have wa:Go.IntKind.i64.wrap ((a:Int)+(i:Int))=((a+i:Nat):Int):=by rw[zT ej ej];omega
  have wb:Go.IntKind.i64.wrap ((b:Int)+(i:Int))=((b+i:Nat):Int):=by rw[zT ej ej];omega
  (conv=>whnf);rw[wb];refine aw2 ?_;refine⟨_,vt (en E) R,?_⟩;(conv=>whnf);rw[wa];refine aw2 ?_;refine⟨_,vt (en E) J,?_⟩;(conv=>whnf);refine aw2 ?_;refine⟨_,vt (en E) J,Nat.le_refl _,?_⟩;refine aw2 ?_;obtain⟨z1,T⟩:=aj9 (en E) (i:=a+i) (x:=y) R;(conv=>whnf);refine⟨_,T,Nat.le_refl _,?_⟩;refine zI I trivial ?_;rw[wi];have e:((eL (en E) (JZ P X M Y S i)).set (a+i) (en E y)).set (b+i) (en E x)=eL (en E) (JZ P X M Y S (i+1)):=by rw[K5,K5,<-hs];rfl
  exact congrArg (swS sz N a b n (i+1)) e
 have aa:n<=i:=by have j:decide ((i:Int)<(n:Int))=false:=j;have:=of_decide_eq_false j;omega
 obtain rfl:i=n:=ej
 (conv=>whnf);have e:=aFL P X M Y S h;rw[<-hn]at e;exact congrArg (λl=>(⟨.tup [],[.arr sz (eL (en E) l) false]⟩:Res)) e):p:=h
theorem ajz{p:Prop}(h:p:=by
 intro g j N a m b hN ha hm hb hA hB hl;have ag:j.P.length+j.A.length+j.B.length+j.S.length=N:=by rw[hN];simp[Rt.l];omega
 have w1:Go.IntKind.i64.wrap ((m:Int)-(a:Int))=((j.A.length:Nat):Int):=by rw[zT ej ej];omega
 have w2:Go.IntKind.i64.wrap ((b:Int)-(m:Int))=((j.B.length:Nat):Int):=by rw[zT ej ej];omega
 refine vF T8 cO_ok er ep ?_
 conv=>whnf
 refine yD (P:=Pg) (f:=T8.f) (body:=cO_L0) (λx:Rt α=>asL sz (clo E g) N m x.A.length x.B.length (eL (en E) x.l)) (λx=>x.A.length+x.B.length)
  (λx=>x.P.length+x.A.length=m/\0<x.A.length/\0<x.B.length/\x.l.length=N/\x.t=j.t)
  ⟨j,⟨ej,hA,hB,hN.symm,rfl⟩,zi ?_⟩ ?_
 ·(conv=>whnf);rw[w1,w2];rfl
 rintro⟨P,A,B,S⟩ hR;have hS:P.length+A.length=m/\0<A.length/\0<B.length/\(P++A++B++S).length=N/\P++B++A++S=j.t:=hR;clear hR;obtain⟨g1,g2,g3,T,U⟩:=hS;have g6:P.length+A.length+B.length+S.length=N:=by rw[<-T];simp;omega
 have I:Go.IntKind.i64.wrap ((m:Int)-(A.length:Int))=((P.length:Nat):Int):=by rw[zT ej ej];omega
 refine zg (λo=>?_) (λo=>?_)
 .have af:A.length≠B.length:=by intro e;have o:(((A.length:Nat):Int) !=((B.length:Nat):Int))=true:=o;rw[e]at o;simp at o
  refine zg (λr=>?_) (λr=>?_)
  .have ad:B.length<A.length:=by have r:decide ((A.length:Int)>(B.length:Int))=true:=r;have:=of_decide_eq_true r;omega
   have aa:Go.IntKind.i64.wrap ((A.length:Int)-(B.length:Int))=(((A.drop B.length).length:Nat):Int):=by rw[zT ej ej,List.length_drop];omega
   have e1:(A.take B.length).length=B.length:=by rw[List.length_take];omega
   have J:(A.drop B.length).length=A.length-B.length:=List.length_drop;have R:A.take B.length++A.drop B.length=A:=List.take_append_drop _ _;(conv=>whnf);rw[I];obtain⟨l',i⟩:∃l',l'=(P++B)++A.drop B.length++A.take B.length++S:=⟨_,rfl⟩;refine zH.mono (swapRange' E g P (A.take B.length) (A.drop B.length) B S (P++A++B++S) l' ?_ i e1 N P.length m B.length T.symm rfl e1.symm ej hl) ?_
   .rw[List.append_assoc P (A.take _),R]
   rintro _ rfl;(conv=>whnf);refine⟨⟨P++B,A.drop B.length,A.take B.length,S⟩,⟨⟨?_,?_,?_,?_,?_⟩,?_⟩,zi ?_⟩
   .show(P++B).length+(A.drop B.length).length=m;rw[J,List.length_append];omega
   .show 0<(A.drop B.length).length;omega
   .show 0<(A.take B.length).length;omega
   .show((P++B)++A.drop B.length++A.take B.length++S).length=N;simp only[List.length_append,e1,J];omega
   .show(P++B)++A.take B.length++A.drop B.length++S=j.t;rw[<-U,List.append_assoc (P++B) (A.take _),R]
   .show(A.drop B.length).length+(A.take B.length).length<A.length+B.length;omega
   (conv=>whnf);rw[aa];show asL sz (clo E g) N m (A.drop B.length).length B.length (eL (en E) l')=asL sz (clo E g) N m (A.drop B.length).length (A.take B.length).length (eL (en E) ((P++B)++A.drop B.length++A.take B.length++S));rw[e1,i]
  have ae:A.length<B.length:=by have r:decide ((A.length:Int)>(B.length:Int))=false:=r;have:=of_decide_eq_false r;omega
  have e1:(B.take (B.length-A.length)).length=B.length-A.length:=by rw[List.length_take];omega
  have J:(B.drop (B.length-A.length)).length=A.length:=by rw[List.length_drop];omega
  have R:B.take (B.length-A.length)++B.drop (B.length-A.length)=B:=List.take_append_drop _ _;have ab:Go.IntKind.i64.wrap ((B.length:Int)-(A.length:Int))=(((B.take (B.length-A.length)).length:Nat):Int):=by rw[zT ej ej,e1];omega
  have ac:Go.IntKind.i64.wrap ((m:Int)+(B.length:Int))=((m+B.length:Nat):Int):=by rw[zT ej ej];omega
  have wk:Go.IntKind.i64.wrap (((m+B.length:Nat):Int)-(A.length:Int))=((m+B.length-A.length:Nat):Int):=by rw[zT ej ej];omega
  (conv=>whnf);rw[I,ac,wk];obtain⟨l',i⟩:∃l',l'=P++B.drop (B.length-A.length)++B.take (B.length-A.length)++(A++S):=⟨_,rfl⟩;refine zH.mono (swapRange' E g P A (B.take (B.length-A.length)) (B.drop (B.length-A.length)) S (P++A++B++S) l' ?_ ?_ J.symm N P.length (m+B.length-A.length) A.length T.symm rfl rfl ej hl) ?_
  .rw[List.append_assoc (P++A) (B.take _),R]
  .rw[i];simp only[List.append_assoc]
  rintro _ rfl;(conv=>whnf);refine⟨⟨P,B.drop (B.length-A.length),B.take (B.length-A.length),A++S⟩,⟨⟨?_,?_,?_,?_,?_⟩,?_⟩,zi ?_⟩
  .show P.length+(B.drop (B.length-A.length)).length=m;omega
  .show 0<(B.drop (B.length-A.length)).length;omega
  .show 0<(B.take (B.length-A.length)).length;omega
  .show(P++B.drop (B.length-A.length)++B.take (B.length-A.length)++(A++S)).length=N;simp only[List.length_append,e1,J];omega
  .show P++B.take (B.length-A.length)++B.drop (B.length-A.length)++(A++S)=j.t;rw[<-U,List.append_assoc P (B.take _),R];simp only[List.append_assoc]
  .show(B.drop (B.length-A.length)).length+(B.take (B.length-A.length)).length<A.length+B.length;omega
  (conv=>whnf);rw[ab];show asL sz (clo E g) N m A.length (B.take (B.length-A.length)).length (eL (en E) l')=asL sz (clo E g) N m (B.drop (B.length-A.length)).length (B.take (B.length-A.length)).length (eL (en E) (P++B.drop (B.length-A.length)++B.take (B.length-A.length)++(A++S)));rw[J,i]
 have heq:A.length=B.length:=by have o:(((A.length:Nat):Int) !=((B.length:Nat):Int))=false:=o;rw[bne_eq_false_iff_eq]at o;omega
 (conv=>whnf);rw[I];refine zH.mono (swapRange' E g P A [] B S (P++A++B++S) (P++B++A++S) ep ep heq N P.length m A.length T.symm rfl rfl ew hl) ?_;rintro _ rfl;(conv=>whnf);exact congrArg (λl=>(⟨.tup [],[.arr sz (eL (en E) l) false]⟩:Res)) U):p:=h
theorem adC{p:Prop}(h:p:=by
 intro g c ac R hg N hl;intro k;induction k with
 |zero=>intro l a m b h0 h1 h2;omega
 |succ k ih=>
 intro l a m b h0 h1 h2 hb hN ar au ae;refine vF T8 cM_ok er ep ?_;refine zg (λe1=>?_) (λe1=>?_)
 .have hm:m=a+1:=by have e1:(Go.IntKind.i64.wrap ((m:Int)-(a:Int))==1)=true:=e1;rw[zT ej ej]at e1;have:=eq_of_beq e1;omega
  obtain⟨x,hx⟩:=uF (l:=l) (i:=a) ej;(conv=>whnf)
  refine yD (P:=Pg) (f:=T8.f) (body:=cM_L0) (λz:Nat×Nat=>aID sz (clo E g) N a z.1 z.2 (eL (en E) l)) (λz=>z.2-z.1)
   (λz=>m<=z.1/\z.1<=z.2/\z.2<=b/\(z.1=m\/∃u,l[z.1-1]?=some u/\c u x<=0)/\(z.2=b\/∃u,l[z.2]?=some u/\c x u<=0))
   ⟨(m,b),⟨ej,ej,ej,.inl rfl,.inl rfl⟩,zi ?_⟩ ?_
  .exact rfl
  rintro⟨i,j⟩ hR;have hS:m<=i/\i<=j/\j<=b/\(i=m\/∃u,l[i-1]?=some u/\c u x<=0)/\(j=b\/∃u,l[j]?=some u/\c x u<=0):=hR;clear hR;obtain⟨g1,g2,g3,g4,g5⟩:=hS;refine zg (λk1=>?_) (λk1=>?_)
  .have aa:i<j:=by have k1:decide ((i:Int)<(j:Int))=true:=k1;have:=of_decide_eq_true k1;omega
   have wh:=arK i j ej;obtain⟨h,hh⟩:∃h,h=(i+j)/2:=⟨_,rfl⟩;rw[<-hh]at wh;obtain⟨u,hu⟩:=uF (l:=l) (i:=h) ej;have w1:Go.IntKind.i64.wrap ((h:Int)+1)=((h+1:Nat):Int):=zu (n:=b) ej ej;(conv=>whnf);refine⟨et,?_⟩;(conv=>whnf);rw[wh];refine aw2 ?_;refine⟨_,vt (en E) hu,?_⟩;(conv=>whnf);refine aw2 ?_;refine⟨_,vt (en E) hx,?_⟩;(conv=>whnf);refine Go.AM.Sat.mono (hg x u (ae a h x u (Nat.le_refl _) ej ej ej hx hu)) ?_;rintro _ ⟨z,rfl,hz⟩;refine zg (λk2=>?_) (λk2=>?_)
   .have an:c u x<0:=hz.1 (of_decide_eq_true k2);(conv=>whnf);refine⟨(h+1,j),⟨⟨by show m<=h+1;omega,by show h+1<=j;omega,g3,.inr ⟨u,hu,ej⟩,g5⟩,by show j-(h+1)<j-i;omega⟩,zi ?_⟩;(conv=>whnf);rw[w1];rfl
   have ak:¬c u x<0:=λh=>(of_decide_eq_false k2:¬z<0) (hz.2 h)
   (conv=>whnf);refine⟨(i,h),⟨⟨g1,by show i<=h;omega,by show h<=b;omega,g4,.inr ⟨u,hu,ac.ge.1 ej⟩⟩,by show h-i<j-i;omega⟩,zi ?_⟩;exact rfl
  have aa:j=i:=by have k1:decide ((i:Int)<(j:Int))=false:=k1;have:=of_decide_eq_false k1;omega
  subst aa;have wi:Go.IntKind.i64.wrap ((j:Int)-1)=((j-1:Nat):Int):=alH ej ej;(conv=>whnf)
  refine yD (P:=Pg) (f:=T8.f) (body:=cM_L1) (λz:Nat×List α=>aG5 sz N j z.1 (eL (en E) z.2)) (λz=>j-z.1)
   (λz=>a<=z.1/\z.1<=j-1/\PermW a b l z.2/\∀p,z.2[p]?=if a<=p/\p<z.1 then l[p+1]? else if p=z.1 then l[a]? else l[p]?)
   ⟨(a,l),⟨Nat.le_refl _,ej,PermW.refl _ _ _,λp=>?_⟩,zi ?_⟩ ?_
  .rw[if_neg ej];split
   .rename_i e;rw[e]
   rfl
  .exact rfl
  rintro⟨q,U⟩ hR;have hS:a<=q/\q<=j-1/\PermW a b l U/\∀p,U[p]?=if a<=p/\p<q then l[p+1]? else if p=q then l[a]? else l[p]? :=hR
  clear hR;obtain⟨r1,r2,r3,r4⟩:=hS;have r5:=r3.len;refine zg (λk3=>?_) (λk3=>?_)
  .have hq:q<j-1:=by have k3:decide ((q:Int)<Go.IntKind.i64.wrap ((j:Int)-1))=true:=k3;rw[wi]at k3;have:=of_decide_eq_true k3;omega
   have wq:Go.IntKind.i64.wrap ((q:Int)+1)=((q+1:Nat):Int):=zu (n:=b) ej ej;obtain⟨u,hu⟩:=uF (l:=U) (i:=q) ej;obtain⟨v,hv⟩:=uF (l:=U) (i:=q+1) ej;obtain⟨z,hz⟩:=aj9 (en E) (i:=q) (x:=v) hv;(conv=>whnf);rw[wq];refine aw2 ?_;refine⟨_,vt (en E) hv,?_⟩;(conv=>whnf);refine aw2 ?_ (hA:=by show(0:Int)<=(q:Int);omega) (hB:=by show(q:Int)<(N:Int);omega);refine⟨_,vt (en E) hu,?_⟩;(conv=>whnf);refine aw2 ?_ (hA:=by show(0:Int)<=(q:Int);omega) (hB:=by show(q:Int)<(N:Int);omega);refine⟨_,vt (en E) hu,Nat.le_refl _,?_⟩;refine aw2 ?_;refine⟨_,hz,Nat.le_refl _,?_⟩;(conv=>whnf);refine⟨(q+1,VM U q (q+1) u v),⟨⟨by show a<=q+1;omega,by show q+1<=j-1;omega,r3.trans (ayv hu hv ej ej ej ej),λp=>?_⟩,by show j-(q+1)<j-q;omega⟩,zi ?_⟩
   .rw[r4]at hu hv;rw[if_neg ej,if_pos rfl]at hu;rw[if_neg ej,if_neg ej]at hv;show(VM U q (q+1) u v)[p]?=if a<=p/\p<q+1 then l[p+1]? else if p=q+1 then l[a]? else l[p]?
    have av:U[q]?=some u:=by rw[r4,if_neg ej,if_pos rfl];exact hu
    have aw:U[q+1]?=some v:=by rw[r4,if_neg ej,if_neg ej];exact hv
    rw[KD av aw,r4 p];by_cases p1:p=q+1
    .rw[if_pos p1,if_neg ej,if_pos p1,hu]
    rw[if_neg p1];by_cases J:p=q
    .rw[if_pos J,if_pos ej,J,hv]
    rw[if_neg J];by_cases p3:a<=p/\p<q
    .rw[if_pos p3,if_pos ej]
    rw[if_neg p3,if_neg J,if_neg ej,if_neg p1]
   (conv=>whnf);rw[wq];exact congrArg (aG5 sz N j (q+1)) (atJ (en E) u v)
  have hq:q=j-1:=by have k3:decide ((q:Int)<Go.IntKind.i64.wrap ((j:Int)-1))=false:=k3;rw[wi]at k3;have:=of_decide_eq_false k3;omega
  subst hq;(conv=>whnf);exact⟨U,r3,aFG ac hx ej g3 (au.mono ej (Nat.le_refl _)) r4 (by rcases g4 with g4|g4;exact .inl ej;exact .inr g4) g5,rfl⟩
 have hm:a+1<m:=by have e1:(Go.IntKind.i64.wrap ((m:Int)-(a:Int))==1)=false:=e1;rw[zT ej ej,beq_eq_false_iff_ne]at e1;omega
 refine zg (λe2=>?_) (λe2=>?_)
 .have ax:b=m+1:=by have e2:(Go.IntKind.i64.wrap ((b:Int)-(m:Int))==1)=true:=e2;rw[zT ej ej]at e2;have:=eq_of_beq e2;omega
  obtain⟨x,hx⟩:=uF (l:=l) (i:=m) ej;(conv=>whnf)
  refine yD (P:=Pg) (f:=T8.f) (body:=cM_L2) (λz:Nat×Nat=>aIE sz (clo E g) N m z.1 z.2 (eL (en E) l)) (λz=>z.2-z.1)
   (λz=>a<=z.1/\z.1<=z.2/\z.2<=m/\(z.1=a\/∃u,l[z.1-1]?=some u/\c u x<=0)/\(z.2=m\/∃u,l[z.2]?=some u/\c x u<=0))
   ⟨(a,m),⟨ej,ej,ej,.inl rfl,.inl rfl⟩,zi ?_⟩ ?_
  .exact rfl
  rintro⟨i,j⟩ hR;have hS:a<=i/\i<=j/\j<=m/\(i=a\/∃u,l[i-1]?=some u/\c u x<=0)/\(j=m\/∃u,l[j]?=some u/\c x u<=0):=hR;clear hR;obtain⟨g1,g2,g3,g4,g5⟩:=hS;refine zg (λk1=>?_) (λk1=>?_)
  .have aa:i<j:=by have k1:decide ((i:Int)<(j:Int))=true:=k1;have:=of_decide_eq_true k1;omega
   have wh:=arK i j ej;obtain⟨h,hh⟩:∃h,h=(i+j)/2:=⟨_,rfl⟩;rw[<-hh]at wh;obtain⟨u,hu⟩:=uF (l:=l) (i:=h) ej;have w1:Go.IntKind.i64.wrap ((h:Int)+1)=((h+1:Nat):Int):=zu (n:=b) ej ej;(conv=>whnf);refine⟨et,?_⟩;refine aw2 ?_;refine⟨_,vt (en E) hx,?_⟩;(conv=>whnf);rw[wh];refine aw2 ?_;refine⟨_,vt (en E) hu,?_⟩;(conv=>whnf);refine Go.AM.Sat.mono (hg u x (ae h m u x ej ej (Nat.le_refl _) ej hu hx)) ?_;rintro _ ⟨z,rfl,hz⟩;refine zg (λk2=>?_) (λk2=>?_)
   .have ak:¬c x u<0:=by have k2:(!decide (z<0))=true:=k2;rw[<-hz];simpa using k2
    (conv=>whnf);refine⟨(h+1,j),⟨⟨by show a<=h+1;omega,by show h+1<=j;omega,g3,.inr ⟨u,hu,ac.ge.1 ej⟩,g5⟩,by show j-(h+1)<j-i;omega⟩,zi ?_⟩;(conv=>whnf);rw[w1];rfl
   have an:c x u<0:=by have k2:(!decide (z<0))=false:=k2;rw[<-hz];simpa using k2
   (conv=>whnf);refine⟨(i,h),⟨⟨g1,by show i<=h;omega,by show h<=m;omega,g4,.inr ⟨u,hu,ej⟩⟩,by show h-i<j-i;omega⟩,zi ?_⟩;exact rfl
  have aa:j=i:=by have k1:decide ((i:Int)<(j:Int))=false:=k1;have:=of_decide_eq_false k1;omega
  subst aa;(conv=>whnf)
  refine yD (P:=Pg) (f:=T8.f) (body:=cM_L3) (λz:Nat×List α=>aG6 sz N j z.1 (eL (en E) z.2)) (λz=>z.1)
   (λz=>j<=z.1/\z.1<=m/\PermW a b l z.2/\∀p,z.2[p]?=if z.1<p/\p<=m then l[p-1]? else if p=z.1 then l[m]? else l[p]?)
   ⟨(m,l),⟨g3,Nat.le_refl _,PermW.refl _ _ _,λp=>?_⟩,zi ?_⟩ ?_
  .rw[if_neg ej];split
   .rename_i e;rw[e]
   rfl
  .exact rfl
  rintro⟨q,U⟩ hR;have hS:j<=q/\q<=m/\PermW a b l U/\∀p,U[p]?=if q<p/\p<=m then l[p-1]? else if p=q then l[m]? else l[p]? :=hR
  clear hR;obtain⟨r1,r2,r3,r4⟩:=hS;have r5:=r3.len;refine zg (λk3=>?_) (λk3=>?_)
  .have hq:j<q:=by have k3:decide ((q:Int)>(j:Int))=true:=k3;have:=of_decide_eq_true k3;omega
   have wq:Go.IntKind.i64.wrap ((q:Int)-1)=((q-1:Nat):Int):=alH ej ej;obtain⟨u,hu⟩:=uF (l:=U) (i:=q) ej;obtain⟨v,hv⟩:=uF (l:=U) (i:=q-1) ej;obtain⟨z,hz⟩:=aj9 (en E) (i:=q) (x:=v) hv;(conv=>whnf);rw[wq];refine aw2 ?_;refine⟨_,vt (en E) hv,?_⟩;(conv=>whnf);refine aw2 ?_ (hA:=by show(0:Int)<=(q:Int);omega) (hB:=by show(q:Int)<(N:Int);omega);refine⟨_,vt (en E) hu,?_⟩;(conv=>whnf);refine aw2 ?_ (hA:=by show(0:Int)<=(q:Int);omega) (hB:=by show(q:Int)<(N:Int);omega);refine⟨_,vt (en E) hu,Nat.le_refl _,?_⟩;refine aw2 ?_;refine⟨_,hz,Nat.le_refl _,?_⟩;(conv=>whnf);refine⟨(q-1,VM U q (q-1) u v),⟨⟨by show j<=q-1;omega,by show q-1<=m;omega,r3.trans (ayv hu hv ej ej ej ej),λp=>?_⟩,by show q-1<q;omega⟩,zi ?_⟩
   .rw[r4]at hu hv;rw[if_neg ej,if_pos rfl]at hu;rw[if_neg ej,if_neg ej]at hv;show(VM U q (q-1) u v)[p]?=if q-1<p/\p<=m then l[p-1]? else if p=q-1 then l[m]? else l[p]?
    have av:U[q]?=some u:=by rw[r4,if_neg ej,if_pos rfl];exact hu
    have aw:U[q-1]?=some v:=by rw[r4,if_neg ej,if_neg ej];exact hv
    rw[KD av aw,r4 p];by_cases p1:p=q-1
    .rw[if_pos p1,if_neg ej,if_pos p1,hu]
    rw[if_neg p1];by_cases J:p=q
    .rw[if_pos J,if_pos ej,J,hv]
    rw[if_neg J];by_cases p3:q<p/\p<=m
    .rw[if_pos p3,if_pos ej]
    rw[if_neg p3,if_neg J,if_neg ej,if_neg p1]
   (conv=>whnf);rw[wq];exact congrArg (aG6 sz N j (q-1)) (atJ (en E) u v)
  have hq:q=j:=by have k3:decide ((q:Int)>(j:Int))=false:=k3;have:=of_decide_eq_false k3;omega
  subst hq;(conv=>whnf);exact⟨U,r3,by rw[ax];exact aAR ac hx g1 g3 ar r4 g4 g5,rfl⟩
 have ax:m+1<b:=by have e2:(Go.IntKind.i64.wrap ((b:Int)-(m:Int))==1)=false:=e2;rw[zT ej ej,beq_eq_false_iff_ne]at e2;omega
 have wh:=arK a b ej;obtain⟨o,ay⟩:∃o,o=(a+b)/2:=⟨_,rfl⟩;rw[<-ay]at wh;have wn:Go.IntKind.i64.wrap ((o:Int)+(m:Int))=((o+m:Nat):Int):=by rw[zT ej ej];omega
 have a0:Go.IntKind.i64.wrap (((o+m:Nat):Int)-(b:Int))=((o+m-b:Nat):Int)\/m<=o:=by
  by_cases h:m<=o
  .exact .inr h
  exact .inl (by rw[zT ej ej];omega)
 have wp:Go.IntKind.i64.wrap (((o+m:Nat):Int)-1)=((o+m-1:Nat):Int):=alH ej ej;(conv=>whnf);refine⟨et,?_⟩;(conv=>whnf);rw[wh];refine zt (λe3=>?_) (λe3=>?_)
 .have az:o<m:=by have e3:decide ((m:Int)>(o:Int))=true:=e3;have:=of_decide_eq_true e3;omega
  (conv=>whnf);rw[wn]
  refine yD (P:=Pg) (f:=T8.f) (body:=cM_L4) (λz:Nat×Nat=>aG7 sz (clo E g) N a m b o (o+m) z.1 z.2 (o+m-1) (eL (en E) l)) (λz=>z.2-z.1)
   (λz=>o+m-b<=z.1/\z.1<=z.2/\z.2<=o/\(z.1=o+m-b\/Jh c l (z.1-1) (o+m-z.1))/\(z.2=o\/Jh c l (o+m-1-z.2) z.2))
   ⟨(o+m-b,o),⟨Nat.le_refl _,by show o+m-b<=o;omega,Nat.le_refl _,.inl rfl,.inl rfl⟩,zi ?_⟩ ?_
  ·(conv=>whnf);rw[wp,a0.resolve_right ej];rfl
  rintro⟨s,r⟩ hR;have hS:o+m-b<=s/\s<=r/\r<=o/\(s=o+m-b\/Jh c l (s-1) (o+m-s))/\(r=o\/Jh c l (o+m-1-r) r):=hR;clear hR;obtain⟨g1,g2,g3,g4,g5⟩:=hS;refine zg (λk1=>?_) (λk1=>?_)
  .have aa:s<r:=by have k1:decide ((s:Int)<(r:Int))=true:=k1;have:=of_decide_eq_true k1;omega
   have wq:=arK s r ej;obtain⟨h,hh⟩:∃h,h=(s+r)/2:=⟨_,rfl⟩;rw[<-hh]at wq;obtain⟨u,hu⟩:=uF (l:=l) (i:=h) ej;obtain⟨v,hv⟩:=uF (l:=l) (i:=o+m-1-h) ej;have w1:Go.IntKind.i64.wrap ((h:Int)+1)=((h+1:Nat):Int):=zu (n:=b) ej ej;have wv:Go.IntKind.i64.wrap (((o+m-1:Nat):Int)-(h:Int))=((o+m-1-h:Nat):Int):=by rw[zT ej ej];omega
   (conv=>whnf);refine⟨et,?_⟩;(conv=>whnf);rw[wq,wv];refine aw2 ?_;refine⟨_,vt (en E) hv,?_⟩;(conv=>whnf);refine aw2 ?_;refine⟨_,vt (en E) hu,?_⟩;(conv=>whnf);refine Go.AM.Sat.mono (hg u v (ae h (o+m-1-h) u v ej ej ej ej hu hv)) ?_;rintro _ ⟨z,rfl,hz⟩;refine zg (λk2=>?_) (λk2=>?_)
   .have ak:¬c v u<0:=by have k2:(!decide (z<0))=true:=k2;rw[<-hz];simpa using k2
    (conv=>whnf);refine⟨(h+1,r),⟨⟨by show o+m-b<=h+1;omega,by show h+1<=r;omega,g3,.inr ⟨u,v,hu,?_,ac.ge.1 ej⟩,g5⟩,by show r-(h+1)<r-s;omega⟩,zi ?_⟩
    .rw[<-hv];congr 1;show o+m-(h+1)=_;omega
    (conv=>whnf);rw[w1];rfl
   have an:c v u<0:=by have k2:(!decide (z<0))=false:=k2;rw[<-hz];simpa using k2
   (conv=>whnf);refine⟨(s,h),⟨⟨g1,by show s<=h;omega,by show h<=o;omega,g4,.inr ⟨v,u,hv,hu,ej⟩⟩,by show h-s<r-s;omega⟩,zi ?_⟩;exact rfl
  have aa:r=s:=by have k1:decide ((s:Int)<(r:Int))=false:=k1;have:=of_decide_eq_false k1;omega
  subst aa;obtain⟨e,he⟩:∃e,e=o+m-r:=⟨_,rfl⟩;have we:Go.IntKind.i64.wrap (((o+m:Nat):Int)-(r:Int))=(e:Int):=by rw[zT ej ej];omega
  have ai:r=a\/e=b\/Jh c l (r-1) e:=by
   rcases g4 with g4|⟨u,v,q1,q2,q3⟩
   .right;left;omega
   exact .inr (.inr ⟨u,v,q1,by rw[he];exact q2,q3⟩)
  have aj:r=m\/e=m\/Jh c l (e-1) r:=by
   rcases g5 with g5|⟨u,v,q1,q2,q3⟩
   .right;left;omega
   refine .inr (.inr ⟨u,v,?_,q2,q3⟩);rw[<-q1];congr 1;omega
  have ab:=λ(U:List α) (hr:QS r m e l U)=>aor ac (show a<=r by omega) (show r<=m by omega) (show m<=e by omega) (show e<=b by omega) hr ar au ai aj
  have af:r+(e-m)=o:=ej
  simp only[af]at ab;have ad:=λ(U:List α) (hr:QS r m e l U)=>ae.rot (show a<=r by omega) (show r<=m by omega) (show m<=e by omega) (show e<=b by omega) hr
  simp only[af]at ad;(conv=>whnf);rw[we];refine zt (λf1=>?_) (λf1=>?_)
  .have f1:r<m/\m<e:=YV f1;(conv=>whnf);refine zH.mono (rotate' E g l N r m e f1.1 f1.2 ej hN hl) ?_;rintro _ rfl;have ag:QS r m e l (aiO r m e l):=amT ej ej ej;have ah:PermW r e l (aiO r m e l):=aEn ej ej ej;obtain⟨U,al⟩:∃U,U=aiO r m e l:=⟨_,rfl⟩;rw[<-al]at ag ah⊢;have hr:=ag;have hw:=ah;have hrel:=ad U hr;obtain⟨s1,s2,s3,s4,s5⟩:=ab U hr;have ao:=hw.len;refine zg (λf2=>?_) (λf2=>?_)
   .have f2:a<r/\r<o:=YV f2;(conv=>whnf);refine zH.mono (ih U a r o ej f2.1 f2.2 ej ej s1 s2 hrel.1) ?_;rintro _ ⟨l2,J,t2,rfl⟩;have aq:=J.len;refine zg (λI=>?_) (λI=>?_)
    .have I:o<e/\e<b:=YV I;(conv=>whnf);refine zH.mono (ih l2 o e b ej I.1 I.2 ej ej (s3.same λi T _=>J.out i (.inr T)) (s4.same λi T _=>J.out i (.inr ej)) (hrel.2.same λi hi=>J.out i (.inr ej))) ?_;rintro _ ⟨l3,p3,t3,rfl⟩;have fin:=vK hw (show a<=r by omega) (show e<=b by omega) J p3 ej ej t2 t3 s5;(conv=>whnf);exact⟨l3,fin.1,fin.2,rfl⟩
    have I:e<=o\/b<=e:=YU I;have t3:yA c o b l2:=by
     rcases I with I|I
     .exact(s4.mono (show e<=o by omega) (Nat.le_refl _)).same λi T _=>J.out i (.inr T)
     exact(s3.mono (Nat.le_refl _) (show b<=e by omega)).same λi T _=>J.out i (.inr T)
    have fin:=vK hw (show a<=r by omega) (show e<=b by omega) J (PermW.refl o b l2) ej ej t2 t3 s5;(conv=>whnf);exact⟨l2,fin.1,fin.2,rfl⟩
   have f2:r<=a\/o<=r:=YU f2;have J:PermW a o U U:=PermW.refl _ _ _;have t2:yA c a o U:=by
    rcases f2 with f2|f2
    .exact s2.mono (show r<=a by omega) (Nat.le_refl _)
    exact s1.mono (Nat.le_refl _) (show o<=r by omega)
   refine zg (λI=>?_) (λI=>?_)
   .have I:o<e/\e<b:=YV I;(conv=>whnf);refine zH.mono (ih U o e b ej I.1 I.2 ej ej (s3.same λi T _=>J.out i (.inr T)) (s4.same λi T _=>J.out i (.inr ej)) (hrel.2.same λi hi=>J.out i (.inr ej))) ?_;rintro _ ⟨l3,p3,t3,rfl⟩;have fin:=vK hw (show a<=r by omega) (show e<=b by omega) J p3 ej ej t2 t3 s5;(conv=>whnf);exact⟨l3,fin.1,fin.2,rfl⟩
   have I:e<=o\/b<=e:=YU I;have t3:yA c o b U:=by
    rcases I with I|I
    .exact(s4.mono (show e<=o by omega) (Nat.le_refl _)).same λi T _=>J.out i (.inr T)
    exact(s3.mono (Nat.le_refl _) (show b<=e by omega)).same λi T _=>J.out i (.inr T)
   have fin:=vK hw (show a<=r by omega) (show e<=b by omega) J (PermW.refl o b U) ej ej t2 t3 s5;(conv=>whnf);exact⟨U,fin.1,fin.2,rfl⟩
  have f1:m<=r\/e<=m:=YU f1;have hr:QS r m e l l:=QS.same ej ej ej;have hw:PermW r e l l:=PermW.refl _ _ _;have hrel:=ad l hr;obtain⟨s1,s2,s3,s4,s5⟩:=ab l hr;have ao:=hw.len;refine zg (λf2=>?_) (λf2=>?_)
  .have f2:a<r/\r<o:=YV f2;(conv=>whnf);refine zH.mono (ih l a r o ej f2.1 f2.2 ej ej s1 s2 hrel.1) ?_;rintro _ ⟨l2,J,t2,rfl⟩;have aq:=J.len;refine zg (λI=>?_) (λI=>?_)
   .have I:o<e/\e<b:=YV I;(conv=>whnf);refine zH.mono (ih l2 o e b ej I.1 I.2 ej ej (s3.same λi T _=>J.out i (.inr T)) (s4.same λi T _=>J.out i (.inr ej)) (hrel.2.same λi hi=>J.out i (.inr ej))) ?_;rintro _ ⟨l3,p3,t3,rfl⟩;have fin:=vK hw (show a<=r by omega) (show e<=b by omega) J p3 ej ej t2 t3 s5;(conv=>whnf);exact⟨l3,fin.1,fin.2,rfl⟩
   have I:e<=o\/b<=e:=YU I;have t3:yA c o b l2:=by
    rcases I with I|I
    .exact(s4.mono (show e<=o by omega) (Nat.le_refl _)).same λi T _=>J.out i (.inr T)
    exact(s3.mono (Nat.le_refl _) (show b<=e by omega)).same λi T _=>J.out i (.inr T)
   have fin:=vK hw (show a<=r by omega) (show e<=b by omega) J (PermW.refl o b l2) ej ej t2 t3 s5;(conv=>whnf);exact⟨l2,fin.1,fin.2,rfl⟩
  have f2:r<=a\/o<=r:=YU f2;have J:PermW a o l l:=PermW.refl _ _ _;have t2:yA c a o l:=by
   rcases f2 with f2|f2
   .exact s2.mono (show r<=a by omega) (Nat.le_refl _)
   exact s1.mono (Nat.le_refl _) (show o<=r by omega)
  refine zg (λI=>?_) (λI=>?_)
  .have I:o<e/\e<b:=YV I;(conv=>whnf);refine zH.mono (ih l o e b ej I.1 I.2 ej ej (s3.same λi T _=>J.out i (.inr T)) (s4.same λi T _=>J.out i (.inr ej)) (hrel.2.same λi hi=>J.out i (.inr ej))) ?_;rintro _ ⟨l3,p3,t3,rfl⟩;have fin:=vK hw (show a<=r by omega) (show e<=b by omega) J p3 ej ej t2 t3 s5;(conv=>whnf);exact⟨l3,fin.1,fin.2,rfl⟩
  have I:e<=o\/b<=e:=YU I;have t3:yA c o b l:=by
   rcases I with I|I
   .exact(s4.mono (show e<=o by omega) (Nat.le_refl _)).same λi T _=>J.out i (.inr T)
   exact(s3.mono (Nat.le_refl _) (show b<=e by omega)).same λi T _=>J.out i (.inr T)
  have fin:=vK hw (show a<=r by omega) (show e<=b by omega) J (PermW.refl o b l) ej ej t2 t3 s5;(conv=>whnf);exact⟨l,fin.1,fin.2,rfl⟩
 have az:m<=o:=by have e3:decide ((m:Int)>(o:Int))=false:=e3;have:=of_decide_eq_false e3;omega
 (conv=>whnf);rw[wn]
 refine yD (P:=Pg) (f:=T8.f) (body:=cM_L4) (λz:Nat×Nat=>aG7 sz (clo E g) N a m b o (o+m) z.1 z.2 (o+m-1) (eL (en E) l)) (λz=>z.2-z.1)
  (λz=>a<=z.1/\z.1<=z.2/\z.2<=m/\(z.1=a\/Jh c l (z.1-1) (o+m-z.1))/\(z.2=m\/Jh c l (o+m-1-z.2) z.2))
  ⟨(a,m),⟨Nat.le_refl _,by show a<=m;omega,Nat.le_refl _,.inl rfl,.inl rfl⟩,zi ?_⟩ ?_
 ·(conv=>whnf);rw[wp];rfl
 rintro⟨s,r⟩ hR;have hS:a<=s/\s<=r/\r<=m/\(s=a\/Jh c l (s-1) (o+m-s))/\(r=m\/Jh c l (o+m-1-r) r):=hR;clear hR;obtain⟨g1,g2,g3,g4,g5⟩:=hS;refine zg (λk1=>?_) (λk1=>?_)
 .have aa:s<r:=by have k1:decide ((s:Int)<(r:Int))=true:=k1;have:=of_decide_eq_true k1;omega
  have wq:=arK s r ej;obtain⟨h,hh⟩:∃h,h=(s+r)/2:=⟨_,rfl⟩;rw[<-hh]at wq;obtain⟨u,hu⟩:=uF (l:=l) (i:=h) ej;obtain⟨v,hv⟩:=uF (l:=l) (i:=o+m-1-h) ej;have w1:Go.IntKind.i64.wrap ((h:Int)+1)=((h+1:Nat):Int):=zu (n:=b) ej ej;have wv:Go.IntKind.i64.wrap (((o+m-1:Nat):Int)-(h:Int))=((o+m-1-h:Nat):Int):=by rw[zT ej ej];omega
  (conv=>whnf);refine⟨et,?_⟩;(conv=>whnf);rw[wq,wv];refine⟨ej,ej,?_⟩;(conv=>whnf);refine⟨_,vt (en E) hv,?_⟩;(conv=>whnf);refine aw2 ?_;refine⟨_,vt (en E) hu,?_⟩;(conv=>whnf);refine Go.AM.Sat.mono (hg u v (ae h (o+m-1-h) u v ej ej ej ej hu hv)) ?_;rintro _ ⟨z,rfl,hz⟩;refine zg (λk2=>?_) (λk2=>?_)
  .have ak:¬c v u<0:=by have k2:(!decide (z<0))=true:=k2;rw[<-hz];simpa using k2
   (conv=>whnf);refine⟨(h+1,r),⟨⟨by show a<=h+1;omega,by show h+1<=r;omega,g3,.inr ⟨u,v,hu,?_,ac.ge.1 ej⟩,g5⟩,by show r-(h+1)<r-s;omega⟩,zi ?_⟩
   .rw[<-hv];congr 1;show o+m-(h+1)=_;omega
   (conv=>whnf);rw[w1];rfl
  have an:c v u<0:=by have k2:(!decide (z<0))=false:=k2;rw[<-hz];simpa using k2
  (conv=>whnf);refine⟨(s,h),⟨⟨g1,by show s<=h;omega,by show h<=m;omega,g4,.inr ⟨v,u,hv,hu,ej⟩⟩,by show h-s<r-s;omega⟩,zi ?_⟩;exact rfl
 have aa:r=s:=by have k1:decide ((s:Int)<(r:Int))=false:=k1;have:=of_decide_eq_false k1;omega
 subst aa;obtain⟨e,he⟩:∃e,e=o+m-r:=⟨_,rfl⟩;have we:Go.IntKind.i64.wrap (((o+m:Nat):Int)-(r:Int))=(e:Int):=by rw[zT ej ej];omega
 have ai:r=a\/e=b\/Jh c l (r-1) e:=by
  rcases g4 with g4|⟨u,v,q1,q2,q3⟩
  .left;exact g4
  exact .inr (.inr ⟨u,v,q1,by rw[he];exact q2,q3⟩)
 have aj:r=m\/e=m\/Jh c l (e-1) r:=by
  rcases g5 with g5|⟨u,v,q1,q2,q3⟩
  .left;exact g5
  refine .inr (.inr ⟨u,v,?_,q2,q3⟩);rw[<-q1];congr 1;omega
 have ab:=λ(U:List α) (hr:QS r m e l U)=>aor ac (show a<=r by omega) (show r<=m by omega) (show m<=e by omega) (show e<=b by omega) hr ar au ai aj
 have af:r+(e-m)=o:=ej
 simp only[af]at ab;have ad:=λ(U:List α) (hr:QS r m e l U)=>ae.rot (show a<=r by omega) (show r<=m by omega) (show m<=e by omega) (show e<=b by omega) hr
 simp only[af]at ad;(conv=>whnf);rw[we];refine zt (λf1=>?_) (λf1=>?_)
 .have f1:r<m/\m<e:=YV f1;(conv=>whnf);refine zH.mono (rotate' E g l N r m e f1.1 f1.2 ej hN hl) ?_;rintro _ rfl;have ag:QS r m e l (aiO r m e l):=amT ej ej ej;have ah:PermW r e l (aiO r m e l):=aEn ej ej ej;obtain⟨U,al⟩:∃U,U=aiO r m e l:=⟨_,rfl⟩;rw[<-al]at ag ah⊢;have hr:=ag;have hw:=ah;have hrel:=ad U hr;obtain⟨s1,s2,s3,s4,s5⟩:=ab U hr;have ao:=hw.len;refine zg (λf2=>?_) (λf2=>?_)
  .have f2:a<r/\r<o:=YV f2;(conv=>whnf);refine zH.mono (ih U a r o ej f2.1 f2.2 ej ej s1 s2 hrel.1) ?_;rintro _ ⟨l2,J,t2,rfl⟩;have aq:=J.len;refine zg (λI=>?_) (λI=>?_)
   .have I:o<e/\e<b:=YV I;(conv=>whnf);refine zH.mono (ih l2 o e b ej I.1 I.2 ej ej (s3.same λi T _=>J.out i (.inr T)) (s4.same λi T _=>J.out i (.inr ej)) (hrel.2.same λi hi=>J.out i (.inr ej))) ?_;rintro _ ⟨l3,p3,t3,rfl⟩;have fin:=vK hw (show a<=r by omega) (show e<=b by omega) J p3 ej ej t2 t3 s5;(conv=>whnf);exact⟨l3,fin.1,fin.2,rfl⟩
   have I:e<=o\/b<=e:=YU I;have t3:yA c o b l2:=by
    rcases I with I|I
    .exact(s4.mono (show e<=o by omega) (Nat.le_refl _)).same λi T _=>J.out i (.inr T)
    exact(s3.mono (Nat.le_refl _) (show b<=e by omega)).same λi T _=>J.out i (.inr T)
   have fin:=vK hw (show a<=r by omega) (show e<=b by omega) J (PermW.refl o b l2) ej ej t2 t3 s5;(conv=>whnf);exact⟨l2,fin.1,fin.2,rfl⟩
  have f2:r<=a\/o<=r:=YU f2;have J:PermW a o U U:=PermW.refl _ _ _;have t2:yA c a o U:=by
   rcases f2 with f2|f2
   .exact s2.mono (show r<=a by omega) (Nat.le_refl _)
   exact s1.mono (Nat.le_refl _) (show o<=r by omega)
  refine zg (λI=>?_) (λI=>?_)
  .have I:o<e/\e<b:=YV I;(conv=>whnf);refine zH.mono (ih U o e b ej I.1 I.2 ej ej (s3.same λi T _=>J.out i (.inr T)) (s4.same λi T _=>J.out i (.inr ej)) (hrel.2.same λi hi=>J.out i (.inr ej))) ?_;rintro _ ⟨l3,p3,t3,rfl⟩;have fin:=vK hw (show a<=r by omega) (show e<=b by omega) J p3 ej ej t2 t3 s5;(conv=>whnf);exact⟨l3,fin.1,fin.2,rfl⟩
  have I:e<=o\/b<=e:=YU I;have t3:yA c o b U:=by
   rcases I with I|I
   .exact(s4.mono (show e<=o by omega) (Nat.le_refl _)).same λi T _=>J.out i (.inr T)
   exact(s3.mono (Nat.le_refl _) (show b<=e by omega)).same λi T _=>J.out i (.inr T)
  have fin:=vK hw (show a<=r by omega) (show e<=b by omega) J (PermW.refl o b U) ej ej t2 t3 s5;(conv=>whnf);exact⟨U,fin.1,fin.2,rfl⟩
 have f1:m<=r\/e<=m:=YU f1;have hr:QS r m e l l:=QS.same ej ej ej;have hw:PermW r e l l:=PermW.refl _ _ _;have hrel:=ad l hr;obtain⟨s1,s2,s3,s4,s5⟩:=ab l hr;have ao:=hw.len;refine zg (λf2=>?_) (λf2=>?_)
 .have f2:a<r/\r<o:=YV f2;(conv=>whnf);refine zH.mono (ih l a r o ej f2.1 f2.2 ej ej s1 s2 hrel.1) ?_;rintro _ ⟨l2,J,t2,rfl⟩;have aq:=J.len;refine zg (λI=>?_) (λI=>?_)
  .have I:o<e/\e<b:=YV I;(conv=>whnf);refine zH.mono (ih l2 o e b ej I.1 I.2 ej ej (s3.same λi T _=>J.out i (.inr T)) (s4.same λi T _=>J.out i (.inr ej)) (hrel.2.same λi hi=>J.out i (.inr ej))) ?_;rintro _ ⟨l3,p3,t3,rfl⟩;have fin:=vK hw (show a<=r by omega) (show e<=b by omega) J p3 ej ej t2 t3 s5;(conv=>whnf);exact⟨l3,fin.1,fin.2,rfl⟩
  have I:e<=o\/b<=e:=YU I;have t3:yA c o b l2:=by
   rcases I with I|I
   .exact(s4.mono (show e<=o by omega) (Nat.le_refl _)).same λi T _=>J.out i (.inr T)
   exact(s3.mono (Nat.le_refl _) (show b<=e by omega)).same λi T _=>J.out i (.inr T)
  have fin:=vK hw (show a<=r by omega) (show e<=b by omega) J (PermW.refl o b l2) ej ej t2 t3 s5;(conv=>whnf);exact⟨l2,fin.1,fin.2,rfl⟩
 have f2:r<=a\/o<=r:=YU f2;have J:PermW a o l l:=PermW.refl _ _ _;have t2:yA c a o l:=by
  rcases f2 with f2|f2
  .exact s2.mono (show r<=a by omega) (Nat.le_refl _)
  exact s1.mono (Nat.le_refl _) (show o<=r by omega)
 refine zg (λI=>?_) (λI=>?_)
 .have I:o<e/\e<b:=YV I;(conv=>whnf);refine zH.mono (ih l o e b ej I.1 I.2 ej ej (s3.same λi T _=>J.out i (.inr T)) (s4.same λi T _=>J.out i (.inr ej)) (hrel.2.same λi hi=>J.out i (.inr ej))) ?_;rintro _ ⟨l3,p3,t3,rfl⟩;have fin:=vK hw (show a<=r by omega) (show e<=b by omega) J p3 ej ej t2 t3 s5;(conv=>whnf);exact⟨l3,fin.1,fin.2,rfl⟩
 have I:e<=o\/b<=e:=YU I;have t3:yA c o b l:=by
  rcases I with I|I
  .exact(s4.mono (show e<=o by omega) (Nat.le_refl _)).same λi T _=>J.out i (.inr T)
  exact(s3.mono (Nat.le_refl _) (show b<=e by omega)).same λi T _=>J.out i (.inr T)
 have fin:=vK hw (show a<=r by omega) (show e<=b by omega) J (PermW.refl o b l) ej ej t2 t3 s5;(conv=>whnf);exact⟨l,fin.1,fin.2,rfl⟩):p:=h
theorem ajA{p:Prop}(h:p:=by
 intro g c aa R hg l n hn hl ad;refine vF T8 cS_ok er ep ?_
 conv=>whnf
 refine yD (P:=Pg) (f:=T8.f) (body:=cS_L0) (λz:Nat×List α=>stS sz (clo E g) n n 20 (z.1*20) (z.1*20+20) (eL (en E) z.2)) (λz=>n-z.1*20)
  (λz=>z.1*20<=n/\PermW 0 n l z.2/\jH c 20 (z.1*20) z.2/\ja R 20 (z.1*20) z.2)
  ⟨(0,l),⟨by show 0*20<=n;omega,PermW.refl _ _ _,by show jH c 20 (0*20) l;rw[Nat.zero_mul];exact jH.zero _ _,by show ja R 20 (0*20) l;rw[Nat.zero_mul];exact ja.start ad hn⟩,zi ?_⟩ ?_
 .exact rfl
 rintro⟨q,l1⟩ hR;have hS:q*20<=n/\PermW 0 n l l1/\jH c 20 (q*20) l1/\ja R 20 (q*20) l1:=hR;clear hR;obtain⟨g1,g2,g3,g6⟩:=hS;have g7:=g6.pair (n:=n);have g4:=g2.len;obtain⟨a,j⟩:∃a,a=q*20:=⟨_,rfl⟩;show mwpR Pg T8.f cS_L0 _ (stS sz (clo E g) n n 20 (q*20) (q*20+20) (eL (en E) l1));rw[<-j]at g1 g3 g6 g7⊢;refine zg (λk1=>?_) (λk1=>?_)
 .have I:a+20<=n:=by have k1:decide (((a+20:Nat):Int)<=(n:Int))=true:=k1;have:=of_decide_eq_true k1;omega
  have wb:Go.IntKind.i64.wrap (((a+20:Nat):Int)+((20:Nat):Int))=((a+20+20:Nat):Int):=by rw[zT ej ej];omega
  (conv=>whnf);refine zH.mono (insSort' E g c aa R hg n l1 a (a+20) ej ej I hl (g7.mono (Nat.le_refl _) I)) ?_;rintro _ ⟨T,o,r,rfl⟩;(conv=>whnf);have e1:(q+1)*20=a+20:=ej
  refine⟨(q+1,T),⟨⟨by show(q+1)*20<=n;omega,g2.trans (o.mono (Nat.zero_le _) I),?_,?_⟩,by show n-(q+1)*20<n-a;omega⟩,zi ?_⟩
  .show jH c 20 ((q+1)*20) T;rw[j]at g3 o r;exact g3.ext (e:=(q+1)*20) (by rw[Nat.succ_mul];exact o) (by rw[Nat.succ_mul];exact r) ej (Nat.le_refl _)
  .show ja R 20 ((q+1)*20) T;rw[j]at g6 o;exact g6.next (e:=(q+1)*20) (by rw[Nat.succ_mul];exact o) ej (Nat.le_refl _)
  (conv=>whnf);rw[wb];show stS sz (clo E g) n n 20 (a+20) (a+20+20) (eL (en E) T)=stS sz (clo E g) n n 20 ((q+1)*20) ((q+1)*20+20) (eL (en E) T);rw[e1]
 have ac:n<a+20:=by have k1:decide (((a+20:Nat):Int)<=(n:Int))=false:=k1;have:=of_decide_eq_false k1;omega
 (conv=>whnf);refine zH.mono (insSort' E g c aa R hg n l1 a n ej g1 (Nat.le_refl _) hl g7) ?_;rintro _ ⟨T,o,r,rfl⟩;have b2:jH c 20 n T:=by rw[j]at g3 o r;exact g3.ext o r ej (by rw[Nat.succ_mul];omega)
 have b3:ja R 20 n T:=by rw[j]at g6 o g1;exact g6.next o g1 ej
 have q2:PermW 0 n l T:=g2.trans (o.mono (Nat.zero_le _) (Nat.le_refl _));have b4:=b3.blk;clear o r g3 g2 g4 g6 g7 b3;(conv=>whnf)
 refine yD (P:=Pg) (f:=T8.f) (body:=cS_L2) (λz:Nat×List α=>stT sz (clo E g) n n z.1 (eL (en E) z.2)) (λz=>n-z.1)
  (λz=>0<z.1/\z.1<=2000000/\PermW 0 n l z.2/\jH c z.1 n z.2/\alJ R z.1 z.2)
  ⟨(20,T),⟨by show 0<20;omega,by show 20<=2000000;omega,q2,b2,b4⟩,zi ?_⟩ ?_
 .exact rfl
 rintro⟨i,U⟩ hR;have hS:0<i/\i<=2000000/\PermW 0 n l U/\jH c i n U/\alJ R i U:=hR;clear hR;obtain⟨g1,g2,g3,g4,g6⟩:=hS;refine zg (λk2=>?_) (λk2=>?_)
 .have ab:i<n:=by have k2:decide ((i:Int)<(n:Int))=true:=k2;have:=of_decide_eq_true k2;omega
  have w2:Go.IntKind.i64.wrap (2*(i:Int))=((2*i:Nat):Int):=by rw[zT ej ej];omega
  have w3:Go.IntKind.i64.wrap ((i:Int)*2)=((2*i:Nat):Int):=by rw[zT ej ej];omega
  conv=>whnf
  refine yD (P:=Pg) (f:=T8.f) (body:=cS_L1) (λz:Nat×List α=>stS sz (clo E g) n n i (z.1*(2*i)) (z.1*(2*i)+2*i) (eL (en E) z.2)) (λz=>n-z.1*(2*i))
   (λz=>z.1*(2*i)<=n/\PermW 0 n l z.2/\jH c (2*i) (z.1*(2*i)) z.2/\Jg c i (z.1*(2*i)) n z.2/\QF R i (z.1*(2*i)) z.2)
   ⟨(0,U),⟨by show 0*(2*i)<=n;omega,g3,by show jH c (2*i) (0*(2*i)) U;rw[Nat.zero_mul];exact jH.zero _ _,by show Jg c i (0*(2*i)) n U;rw[Nat.zero_mul];exact g4.blkF,by show QF R i (0*(2*i)) U;rw[Nat.zero_mul];exact g6.pass⟩,zi ?_⟩ ?_
  ·(conv=>whnf);rw[w2];show stS sz (clo E g) n n i 0 (2*i) (eL (en E) U)=stS sz (clo E g) n n i (0*(2*i)) (0*(2*i)+2*i) (eL (en E) U);rw[Nat.zero_mul,Nat.zero_add]
  rintro⟨q,l4⟩ hR;have hS:q*(2*i)<=n/\PermW 0 n l l4/\jH c (2*i) (q*(2*i)) l4/\Jg c i (q*(2*i)) n l4/\QF R i (q*(2*i)) l4:=hR;clear hR;obtain⟨r1,r2,r3,r4,r6⟩:=hS;have r7:=λe=>r6.rel (e:=e)
  have r8:=r6.blk;have r9:=λe J=>r6.next (e:=e) (n:=n) (l':=J)
  have r5:=r2.len;have s1:=r4.at0;have r:=r4.at1;obtain⟨a,j⟩:∃a,a=q*(2*i):=⟨_,rfl⟩;show mwpR Pg T8.f cS_L1 _ (stS sz (clo E g) n n i (q*(2*i)) (q*(2*i)+2*i) (eL (en E) l4));have ae:(q+1)*(2*i)=a+2*i:=by rw[Nat.succ_mul,j]
  rw[<-j]at r1 r3 r4 s1 r r7 r9⊢;rw[ae]at r9;have w4:Go.IntKind.i64.wrap ((a:Int)+(i:Int))=((a+i:Nat):Int):=by rw[zT ej ej];omega
  refine zg (λk3=>?_) (λk3=>?_)
  .have I:a+2*i<=n:=by have k3:decide (((a+2*i:Nat):Int)<=(n:Int))=true:=k3;have:=of_decide_eq_true k3;omega
   have w5:Go.IntKind.i64.wrap (((a+2*i:Nat):Int)+((2*i:Nat):Int))=((a+2*i+2*i:Nat):Int):=by rw[zT ej ej];omega
   rw[Nat.min_eq_left ej]at s1 r;(conv=>whnf);rw[w4];refine zH.mono (symMerge E g c aa R hg n hl _ l4 a (a+i) (a+2*i) (Nat.le_refl _) ej ej ej ej s1 (r.mono (Nat.le_refl _) ej) (r7 _)) ?_;rintro _ ⟨J,p5,t5,rfl⟩;have e1:(q+1)*(2*i)=a+2*i:=by rw[Nat.succ_mul,j]
   (conv=>whnf);refine⟨(q+1,J),⟨⟨by show(q+1)*(2*i)<=n;omega,r2.trans (p5.mono (Nat.zero_le _) I),?_,?_,?_⟩,by show n-(q+1)*(2*i)<n-a;rw[e1];omega⟩,zi ?_⟩
   .show jH c (2*i) ((q+1)*(2*i)) J;rw[e1];have e2:=e1;subst j;exact r3.ext p5 t5 ej ej
   .show Jg c i ((q+1)*(2*i)) n J;rw[e1];exact r4.next p5 ej
   .show QF R i ((q+1)*(2*i)) J;rw[e1];exact r9 _ _ p5 (Nat.le_refl _) (.inl rfl)
   (conv=>whnf);rw[w2,w5];show stS sz (clo E g) n n i (a+2*i) (a+2*i+2*i) (eL (en E) J)=stS sz (clo E g) n n i ((q+1)*(2*i)) ((q+1)*(2*i)+2*i) (eL (en E) J);rw[e1]
  have ac:n<a+2*i:=by have k3:decide (((a+2*i:Nat):Int)<=(n:Int))=false:=k3;have:=of_decide_eq_false k3;omega
  have e1:(q+1)*(2*i)=a+2*i:=by rw[Nat.succ_mul,j]
  (conv=>whnf);rw[w4];refine zt (λk4=>?_) (λk4=>?_)
  .have hm:a+i<n:=by have k4:decide (((a+i:Nat):Int)<(n:Int))=true:=k4;have:=of_decide_eq_true k4;omega
   rw[Nat.min_eq_left ej]at s1;rw[Nat.min_eq_right ej]at r;(conv=>whnf);refine zH.mono (symMerge E g c aa R hg n hl _ l4 a (a+i) n (Nat.le_refl _) ej ej ej ej s1 r (r7 _)) ?_;rintro _ ⟨J,p5,t5,rfl⟩;(conv=>whnf);refine⟨(2*i,J),⟨⟨by show 0<2*i;omega,by show 2*i<=2000000;omega,r2.trans (p5.mono (Nat.zero_le _) (Nat.le_refl _)),?_,(r9 _ _ p5 ej (.inr ⟨rfl,by rw[r5];exact hn⟩)).blk⟩,by show n-2*i<n-i;omega⟩,zi ?_⟩
   .show jH c (2*i) n J;subst j;exact r3.ext p5 t5 r1 ej
   (conv=>whnf);rw[w3];rfl
  have hm:n<=a+i:=by have k4:decide (((a+i:Nat):Int)<(n:Int))=false:=k4;have:=of_decide_eq_false k4;omega
  rw[Nat.min_eq_right ej]at s1;(conv=>whnf);refine⟨(2*i,l4),⟨⟨by show 0<2*i;omega,by show 2*i<=2000000;omega,r2,?_,r8⟩,by show n-2*i<n-i;omega⟩,zi ?_⟩
  .show jH c (2*i) n l4;subst j;exact r3.ext (PermW.refl _ _ _) s1 r1 ej
  (conv=>whnf);rw[w3];rfl
 have ab:n<=i:=by have k2:decide ((i:Int)<(n:Int))=false:=k2;have:=of_decide_eq_false k2;omega
 have s0:=g4 0;rw[Nat.zero_mul,Nat.zero_add,Nat.one_mul,Nat.min_eq_right ab]at s0;(conv=>whnf);exact⟨U,g3,s0,rfl⟩):p:=h
theorem kQ{p:Prop}(h:p:=by
 intro g c i R I l n P J j;refine vF T8 cT_ok er ep ?_
 conv=>whnf
 refine zH.mono (stable E g c i R I l n P J j) ?_;rintro _ ⟨l',o,r,rfl⟩
 conv=>whnf
 exact⟨l',o,r,rfl⟩):p:=h
end So
namespace So.R
structure En(a:Type) where
 d:a->D
 c0:am D
 c1:am D
abbrev en{a:Type}(E:En a)(x:a):am D:=[E.d x]
abbrev sz:Nat:=1
abbrev cal{a:Type}(E:En a)(x y:a):am W:=[.c (.d (E.d x)),.c (.d (E.d y)),.c (.fp E.c0),.c (.fp E.c1)]
abbrev clo{a:Type}(E:En a)(g:aX):W:=.c (.d (.fn g [E.c0,E.c1]))
noncomputable abbrev cI_L0:=(xz.l 0)
noncomputable abbrev cI_L1:=(xz.l 1)
abbrev cI_ok:=xz.ok
noncomputable abbrev cM_L0:=(xy.l 0)
noncomputable abbrev cM_L1:=(xy.l 1)
noncomputable abbrev cM_L2:=(xy.l 2)
noncomputable abbrev cM_L3:=(xy.l 3)
noncomputable abbrev cM_L4:=(xy.l 4)
abbrev cM_ok:=xy.ok
noncomputable abbrev cO_L0:=(ZF.l 0)
abbrev cO_ok:=ZF.ok
noncomputable abbrev cS_L0:=(xj.l 0)
noncomputable abbrev cS_L1:=(xj.l 1)
noncomputable abbrev cS_L2:=(xj.l 2)
abbrev cS_ok:=xj.ok
abbrev cT_ok:=jU.ok
noncomputable abbrev cW_L0:=(je.l 0)
abbrev cW_ok:=je.ok
theorem abA{α}(E:En α):abc uo sz (en E) (cal E) (clo E):=age
abbrev insSort'{a:Type}(E:En a):=(abA E).p
theorem Je{α}(E:En α):UM Wa sz (en E) (clo E):=abb
abbrev swapRange'{a:Type}(E:En a):=(Je E).p
theorem afM{α}(E:En α):aeq VF sz (en E) (clo E):=ajz
abbrev rotate'{a:Type}(E:En a):=(afM E).p
theorem symMerge{α}(E:En α):ahX WI sz (en E) (cal E) (clo E):=adC
theorem stable{α}(E:En α):aqA ZH sz (en E) (cal E) (clo E):=ajA
theorem SortStable{α}(E:En α):SortStable vx sz (en E) (cal E) (clo E):=kQ
end So.R
abbrev aGm{a:Type}(d:a->D)(l:am a):am (am D):=l.map λx=> [d x]
abbrev aiY{a:Type}(d:a->D)(g i:am D):=So.R.SortStable ⟨d,g,i⟩
def acF(s:Srt)(x y):=bif s.desc then zS y x else zS x y
def aaF:am Srt->am Val->am Val->Int
 |s::r,x::xs,y::ys=>bif acF s x y !=0 then acF s x y else aaF r xs ys
 |_,_,_=>0
theorem aFI{l}{i}(h:i<l.length):(yU l)[((i:Nat):Int).toNat]?=some l[i].ds:=by grind[yU]
theorem amZ(l)(i:Nat)(j:i<l.length)(x y):ex Xs [.c (int i),x.w,y.w,.c (.fp [.sl (yU l)])] (rI (acF l[i] x y)):=by
 have g:=aFI j;obtain⟨I,J,P⟩:=x;obtain⟨R,T,U⟩:=y;unfold acF;generalize l[i]=s at*;obtain⟨p,o⟩:=s;refine aeP.s T8 ?_;refine zw g ?_;cases o
 .exact rfl
 exact rfl
def cpS(l:am Srt)(xs ys:am Val)(n i:Nat):S:=⟨[(0,.w (zE xs)),(1,.w (zE ys)),(2,.w (.c (.d (.fn Xs [[.sl (yU l)]])))),(13,zh n),(14,zh i)],[]⟩
theorem as6(l)(xs ys)(T:xs.length=l.length)(U:ys.length=l.length)(hl:l.length<=1000000):
 ex aaM [zE xs,zE ys,.c (.d (.fn Xs [[.sl (yU l)]]))] (rI (aaF l xs ys)):=by
 have R:yL false (rowD xs).length (rowD ys).length=(l.length:Int):=by grind[zp,axz]
 have hC:xM (l.length:Int) l.length=0:=by simp[xM]
 refine Zu.s T8 ?_;rw[R];refine xm T8 (Zu.l 0) l.length (λi=>cpS l xs ys l.length i) (λi=>aaF l xs ys=aaF (l.drop i) (xs.drop i) (ys.drop i)) ?_
 intro i hi g;have g:aaF l xs ys=aaF (l.drop i) (xs.drop i) (ys.drop i):=g;show mwpR Pg T8.f (Zu.l 0) _ (cpS l xs ys l.length i);unfold cpS;refine xL (λj=>?_) (λp=>?_)
 .have P:=amZ l i j xs[i] ys[i];have I:=yq (r:=xs) (i:=i) ej;have J:=yq (r:=ys) (i:=i) ej;rw[zm j,zm (show i<xs.length by omega),zm (show i<ys.length by omega)]at g;simp only[aaF]at g;generalize acF l[i] xs[i] ys[i]=c at*;generalize xs[i]=x at*;generalize ys[i]=y at*;obtain⟨x1,x2,x3⟩:=x;obtain⟨y1,y2,y3⟩:=y;refine zw I ?_;refine zw J ?_;refine aK P ?_;refine zt (λo=>?_) (λo=>?_)
  .rw[show(c !=0)=true from o]at g;(conv=>whnf);exact bC rI g.symm
  rw[show(c !=0)=false from o]at g;refine zI j g ?_;rw[zu j ej];rfl
 rw[aC p]at g;have g:aaF l xs ys=0:=g;rw[g];(conv=>whnf);rw[zp,zp,T,U];rw[hC];rfl
def kyS(row:am Val)(at_:am Int)(i:Nat)(g:am Val):S:=⟨[(0,.w (zE row)),(4,cV (.own 19 3 g.length)),(7,.w (.c (.d (.sl (zB at_))))),(8,zh (zB at_).length),(9,zh i)],
 [(19,.arr 3 (rowD g) false)]⟩
theorem as8(row)(at_)(hn:at_.length<=1000000)(R:yB row.length at_):ex Yj [zE row,.c (.fp [.sl (zB at_)])] (rC (.d (.sl (rowD (pickL row at_))))):=by
 refine zJ ?_;refine QX.s T8 ?_;refine zX (P:=Pg) (f:=T8.f) (body:=(QX.l 0)) at_.length (λi=>kyS row at_ i (pickL row (at_.take i))) (λ_=>True) ⟨trivial,⟨_,zx 4 19 3 ej ej rfl,?_⟩⟩ ?_
 .exact rfl
 intro i hi _;have aa:(pickL row (at_.take i)).length=i:=by grind[pickL]
 have j:∀h:i<at_.length,pickL row (at_.take (i+1))=pickL row (at_.take i)++[at0 row (at_[i]).toNat]:=λh=>by grind[pickL,zD]
 have o:at_.length<=i->pickL row at_=pickL row (at_.take i):=λh=>ek
 show mwpR Pg T8.f (QX.l 0) _ (kyS row at_ i (pickL row (at_.take i)));generalize pickL row (at_.take i)=T at*;have p:(rowD T).take T.length=rowD T:=by grind[zp]
 unfold kyS;refine zg (λU=>?_) (λU=>?_)
 .have g:i<at_.length:=by simp_all[xg]
  have hg:=j7 g;have j:=j g;have hk:=R _ (aM g);generalize at_[i]=k at*;have J:(rowD row)[k.toNat]?=some (at0 row k.toNat).ds:=by grind[at0,rowD]
  generalize at0 row k.toNat=v at*;obtain⟨v1,v2,v3⟩:=v;refine zw hg ?_;refine zw J ?_ (hA:=hk.1);refine yQ ?_;refine zI g trivial ?_;rw[zu g ej,p,j,<-jr,aI];rfl
 have I:at_.length<=i:=by grind[xg]
 rw[o I];refine UP ?_;show Res.mk (.w (.c (.d (.sl ((rowD T).take T.length))))) []=_;rw[p];rfl
def xN(at_)(l)(a b):=aaF l (pickL a at_) (pickL b at_)
theorem as1(at_)(l)(a b)(o:yB a.length at_)(p:yB b.length at_)(J:at_.length=l.length)(I:l.length<=1000000):
 ex Wb [zE a,zE b,.c (.fp [.fn Yj [[.sl (zB at_)]]]),.c (.fp [.sl (yU l)])] (rI (xN at_ l a b)):=by
 have g:=as8 a at_ ej o;have i:=as8 b at_ ej p;have j:=as6 l (pickL a at_) (pickL b at_) (by grind[pickL]) (by grind[pickL]) I;unfold xN;generalize aaF l (pickL a at_) (pickL b at_)=c at*;generalize pickL a at_=x at*;generalize pickL b at_=y at*;refine aif.s T8 ?_
 repeat' (first
  |(refine And.intro ?_ ?_<;>conv=>whnf)
  |(refine bI g ?_;rintro _ rfl;conv=>whnf)
  |(refine bI i ?_;rintro _ rfl;conv=>whnf)
  |(refine bI j ?_;rintro _ rfl;conv=>whnf))
 all_goals rfl
theorem CmpOK.both{α}{c d:α->α->Int}(h:CmpOK c)(k:CmpOK d):CmpOK (λx y=>bif c x y !=0 then c x y else d x y):=by
 have e:∀x y,(bif c x y !=0 then c x y else d x y)=if c x y=0 then d x y else c x y:=λx y=>eu
 refine⟨λx=>?_,λx y=>?_,λx y z j i=>?_⟩
 .simp only[e];rw[aL (h.refl x)];exact k.refl x
 .simp only[e];have p:=h.anti x y;have r:=h.anti y x;have a3:=k.anti x y;omega
 simp only[e]at j i⊢;by_cases l:c x y=0
 .rw[aL l]at j;by_cases g:c y z=0
  .rw[aL g]at i;have I:=h.trans x y z ej ej;have o:=h.trans z y x (by have:=h.zero.1 g;omega) (by have:=h.zero.1 l;omega);have J:=h.ge.2 o;rw[aL ej];exact k.trans _ _ _ j i
  rw[aF g]at i;have:=h.lt_of2 (x:=x) (y:=y) (z:=z) ej ej;omega
 rw[aF l]at j;by_cases g:c y z=0
 .have:=h.lt_of (x:=x) (y:=y) (z:=z) ej ej;omega
 rw[aF g]at i;have:=h.lt_of (x:=x) (y:=y) (z:=z) ej ej;omega
theorem CmpOK.onF{α β}{c:α->α->Int}(h:CmpOK c)(f:β->α):CmpOK (λx y=>c (f x) (f y)):=⟨λx=>h.refl _,λx y=>h.anti _ _,λx y z=>h.trans _ _ _⟩
theorem CmpOK.flip{α}{c:α->α->Int}(h:CmpOK c):CmpOK (λx y=>c y x):=⟨λx=>h.refl _,λx y=>h.anti _ _,λx y z g i=>h.trans _ _ _ i g⟩
theorem aEQ(s):CmpOK (acF s):=by
 obtain⟨i,g⟩:=s;cases g
 .exact Kz
 exact Kz.flip
theorem V5:∀(at_) (l:am Srt),CmpOK (xN at_ l)
 |[],l=>by
   have e:xN [] l= λ_ _=>0:=by funext a b;cases l<;>rfl
   rw[e];exact⟨λ_=>rfl,λ_ _=>ej,λ_ _ _ _ _=>bX _⟩
 |k::at_,[]=>by
  have e:xN (k::at_) []= λ_ _=>0:=by funext a b;rfl
  rw[e];exact⟨λ_=>rfl,λ_ _=>ej,λ_ _ _ _ _=>bX _⟩
 |k::at_,s::l=>((aEQ s).onF (λrow=>at0 row k.toNat)).both (V5 at_ l)
theorem aAy(l):∀x∈zd l,x.length=1:=by grind[zd]
theorem JV(l)(g:l.length<=1000000):Sat Pg abQ [.c (.d (.sl (zd l)))] (λr=>(l=[]/\r=rC .nil)\/r=aaU 1 (zd l)):=by
 refine abm.s T8 ?_;refine⟨λh=>?_,?_⟩
 .conv=>whnf
  left
  refine⟨?_,rfl⟩;cases l with
  |nil=>rfl
  |cons a r=>cases h
 (conv=>whnf);refine⟨aAy l,by grind[zW,zq],by grind[zq],?_⟩;(conv=>whnf)
 right
 show Res.mk (.w (.c (.own 0 1 (([]:am (am D)).length+(zd l).length)))) [.arr 1 (([]:am (am D)).take ([]:am (am D)).length++zd l) false]=_;simp_all[aaU]
theorem auK(g)(cp):zH Pg uo [.c .nil,.c (int 0),.c (int 0),.c (.d (.fn g cp))] [] (λr=>r=⟨.tup [],[]⟩):=by
 refine vF T8 xz.ok er ep ?_
 conv=>whnf
 refine yD (P:=Pg) (f:=T8.f) (body:=(xz.l 1)) (λ_:Unit=>⟨[(0,cV .nil),(1,zh 0),(2,zh 0),(3,.w (.c (.d (.fn g cp)))),(8,zh 1)],[]⟩) (λ_=>0) (λ_=>True) ⟨(),trivial,zi ?_⟩ ?_
 .exact rfl
 rintro _ _;exact rfl
theorem anj(g)(cp):zH Pg ZH [.c .nil,.c (int 0),.c (.d (.fn g cp))] [] (λr=>r=⟨.tup [],[]⟩):=by
 refine vF T8 xj.ok er ep ?_
 conv=>whnf
 refine yD (P:=Pg) (f:=T8.f) (body:=(xj.l 0)) (λ_:Unit=>⟨[(0,cV .nil),(1,zh 0),(2,.w (.c (.d (.fn g cp)))),(6,zh 20),(7,zh 0),(8,zh 20)],[]⟩) (λ_=>0) (λ_=>True) ⟨(),trivial,zi ?_⟩ ?_
 .exact rfl
 rintro _ _;(conv=>whnf);refine zH.mono (auK g cp) ?_;rintro _ rfl;(conv=>whnf);refine yD (P:=Pg) (f:=T8.f) (body:=(xj.l 2)) (λ_:Unit=>⟨[(0,cV .nil),(1,zh 0),(2,.w (.c (.d (.fn g cp)))),(6,zh 20)],[]⟩) (λ_=>0) (λ_=>True) ⟨(),trivial,zi ?_⟩ ?_
 .exact rfl
 rintro _ _;exact rfl
theorem Ja(g)(cp):zH Pg vx [.c .nil,.c (.d (.fn g cp))] [] (λr=>r=⟨.tup [],[]⟩):=by
 refine vF T8 jU.ok er ep ?_
 conv=>whnf
 refine zH.mono (anj g cp) ?_;rintro _ rfl;exact rfl
end
theorem acu(a b):zl a b=decide (a.data=b.data):=by
 by_cases h:a=b
 .grind[AM.beqS_self]
 have g:zl a b=false:=by grind[AM.beqS_iff]
 rw[g];have:a.data≠b.data:=λe=>h (by cases a;simp_all)
 grind
section
attribute [local irreducible] Sat zH z6 zl
theorem ajI{α}{e:α->α->Bool}(h:∀x,e x x=true):∀l,xB e l l=true
 |[]=>rfl
 |x::r=>by simp only[xB,h,Bool.not_true,aG];exact ajI h r
theorem V8(v):yH v v=true:=by grind[yH,AM.beqS_self]
theorem asV(r):xS r r=true:=by grind[xS,ajI,V8]
end
end Go.Proofs.YtnlbmefhdiabcaaGreat
