import Derived.Shelf.RegionOpenPlain
import Derived.Lib.JoinLaws
import Derived.Lib.AppendZerosOnto
import Derived.Lib.Overlaps
import Derived.Laws.Externs
import Derived.Laws.IdiomCopy
import Derived.Laws.NewBlocks
import Derived.Shelf.SlSortCmp.Whole1
import Derived.Shelf.SlGeneric
import Derived.Ground.SlsfProg
import Derived.Test.YtnlbmefhdiabcaaGreatProg
import Derived.Shelf.SlSortCmp.NoneTotal
import Derived.RangeFuncBox
import Derived.RangeFuncLeaves
import Derived.RangeFuncGives
import Derived.Maps.AppendAt
import Derived.Shelf.Abstract
import Derived.WalkKit
import Derived.OwnWalkIn
import Derived.TacticsInMore
import Derived.LoopNIn
import Derived.LoopIn
import Derived.RegionIn
import Derived.Maps.RangeWalk
import Derived.RangeFuncSeq
import Derived.Test.YtnlbmefhdiabcaaGreatZt9
set_option linter.unusedSimpArgs false
set_option linter.unusedVariables false
set_option maxRecDepth 100000
set_option maxHeartbeats 4000000
open _root_ renaming List->am,cond_false->aA,cond_true->aE,congrArg->aM,Array->aQ,of_decide_eq_false->aR,of_decide_eq_true->aV,Option->bC,decide_eq_false_iff_not->bK,decide_eq_false->cK,Inhabited->dd,if_pos->dx
open List renaming replicate->aB,length_append->aC,mem_cons_self->aD,take->aI,mem_cons_of_mem->aK,getElem_mem->aL,length_cons->aN,mem_cons->aP,take_length->aS,eq_nil_of_length_eq_zero->aT,length_map->aW,take_succ_eq_append_getElem->aY,mem_singleton->bA,mem_map->bE,mem_append->bG,take_of_length_le->bM,map_cons->bQ,length_replicate->bR,pairwise_append->bS,mem_of_getLast?->bU,mem_flatMap->bX,cons_append->bY,pairwise_iff_getElem->bZ,nil_append->co,foldl_cons->cA,length_nil->cB,pairwise_cons->cC,pairwise_singleton->cD,set_eq_take_append_cons_drop->cF,take_append_drop->cH,not_mem_nil->cJ,mem_of_mem_drop->cN,take_append_of_le_length->cP,map_append->cT,mem_filter->cU,append_toArray->cW,mem_or_eq_of_mem_set->de,append_assoc->dg,size_toArray->dj,push_toArray->dl,length_take->dp,filter_cons->dq,drop_eq_nil_of_le->dr,map_nil->dt,append_nil->dC,mem_of_getElem?->dE,mem_of_mem_take->dF,nodup_nil->dG,getElem_of_mem->dK,flatMap_append->dL,map_set->dU,flatMap_cons->dW,map_map->dX,nodup_append->dY
open Go.AM.Sat renaming w->aF,mono->aX
open Go.IntKind renaming i64->aG,u64->bF
open Go renaming IntKind->aH,Builtin->aU,KeepsWalks->bW,Operand->cc,grownCap->cL,Ground->dm,FuncId->dy,grownCap_le_maxLen->dM,Addr->dQ,Fence->dT,resolve->d9
open Nat renaming le_trans->aJ,le_refl->aO,zero_le->bD,mul_le_mul_right->bH,le_mul_of_pos_right->cE,le_of_ble_eq_true->cI,zero_add->cY,min->di,not_lt_zero->dz,reduceAdd->dO,reduceSub->dP,lt_of_lt_of_le->dR
open Go.World renaming putObj_heap_other->aZ,shape?->bI,cell?->bL,alloc_heap_new->cS,frozen?->dn,putObj_heap_same->dv
open Go.Builtin renaming zeroCells->bB,copy_->bJ,firstCells->c9,append_->dD
open Option.some renaming inj->bN
open And renaming intro->bO
open Bool renaming true_and->bP,or_eq_false_iff->bT,not_false->cG,false_and->c8
open Go.Operand renaming tmp->bV
open Int renaming le_refl->cM
open Array renaming replicate_succ->cQ,replicate_zero->cR
open Go.Proofs.YtnlbmefhdiabcaaGreat.Stp renaming err->cX
open Go.Addr renaming add_lit->cZ
open List.Pairwise renaming nil->dh
open Go.Ground renaming phase->du,data->dI
open BitVec renaming ofInt->dw
open Go.Callee renaming builtin->dH
open Go.Value renaming ownBlock->dJ
open Go.Region renaming wanted->dN
open Go.KeepsWalks renaming setCell->dS,putObj->dZ
open Eq renaming trans->dV
namespace Go.Proofs.YtnlbmefhdiabcaaGreat
open Go Go.AM
theorem qy:CmpOK keyC:=yP
def SortG(gs:am Gr):=gs.Pairwise λa b=>keyC a.key b.key<0
theorem ah7(p:Nat->Bool)(n)(J:∀a b,a<=b->b<n->p b=true->p a=true):∀(f i j),(∀a,a<i->p a=true)->(∀a,j<=a->a<n->p a=false)->j-i<=f->i<=j->j<=n->
 (∀a,a<Yt p f i j->p a=true)/\(∀a,Yt p f i j<=a->a<n->p a=false)
 |0,i,j,o,r,R,I,g=>by
  have e:i=j:=ej
  subst e;exact⟨o,r⟩
 |f+1,i,j,o,r,R,I,g=>by
  simp only[Yt];by_cases l:i<j
  .rw[decide_eq_true l,aE];cases T:p ((i+j)/2)
   .exact ah7 p n J f i ((i+j)/2) o (λa P U=>ek) ej ej ej
   exact ah7 p n J f ((i+j)/2+1) j (λa P=>J a ((i+j)/2) ej ej T) r ej ej g
  rw[cK l,aA]
  grind
theorem gV{gs:am Gr}(k){a}(h:a<gs.length):wU (gs.map Gr.gp) k a=decide (keyC gs[a].key k<0):=by unfold wU;rw[am.getElem?_map,am.getElem?_eq_getElem h];rfl
theorem acj{gs:am Gr}(hs:SortG gs){a b}(g:a<b)(i:b<gs.length):keyC (gs[a]' ej).key gs[b].key<0:=by grind[SortG,bZ]
theorem afG{gs}(hs:SortG gs)(k):(∀a (h:a<gs.length),a<xl gs k->keyC gs[a].key k<0)/\(∀a (h:a<gs.length),xl gs k<=a->¬keyC gs[a].key k<0):=by
 have J:(gs.map Gr.gp).length=gs.length:=aW _;have h:=ah7 (wU (gs.map Gr.gp) k) gs.length (λa b p l i=>by
  rw[gV k l]at i;rw[gV k ej];have i:=aV i;by_cases e:a=b
  .grind
  exact decide_eq_true (qy.lt_of (acj hs ej l) ej)) gs.length 0 gs.length (λa h=>absurd h (dz a)) (λa I o=>absurd o ej) ej (bD _) (aO _)
 have e:xl gs k=Yt (wU (gs.map Gr.gp) k) gs.length 0 gs.length:=by grind[xl,XT]
 rw[<-e]at h;refine⟨λa j g=>?_,λa j r=>?_⟩
 .have:=h.1 a g;rw[gV k j]at this;exact aV this
 grind[gV]
theorem agw{gs}{k}(h:xl gs k<gs.length):uN gs k=(keyC gs[xl gs k].key k==0):=by unfold uN Yi;rw[am.getElem?_map,am.getElem?_eq_getElem h];rfl
theorem an6{gs}(hs:SortG gs)(k):SortG (vu gs k):=by
 obtain⟨T,o⟩:=afG hs k;unfold vu;cases hh:uN gs k with
 |true=>exact hs
 |false=>
  simp only[aA];have P:=KA gs k;have I:∀a (h:a<gs.length),xl gs k<=a->keyC k gs[a].key<0:=λa l r=>by
   have R:xl gs k<gs.length:=ej
   have U:=o _ R (aO _);have h4:keyC gs[xl gs k].key k≠0:=λe=>by grind[agw]
   have p:keyC k gs[xl gs k].key<0:=(qy.anti _ _).2 ej;by_cases e:xl gs k=a
   .grind
   exact qy.lt_of p (by have:=acj hs (show xl gs k<a by omega) l;omega)
  have e:gs.take (xl gs k)++gs.drop (xl gs k)=gs:=cH ..;have g:SortG (gs.take (xl gs k)++gs.drop (xl gs k)):=ek
  unfold SortG at g⊢;rw[bS]at g;rw[dg,bS,List.singleton_append,cC];refine⟨g.1,⟨λb i=>?_,g.2.1⟩,λa l b i=>?_⟩
  .obtain⟨j,J,rfl⟩:=dK i;simp_all
  rcases aP.1 i with rfl|i
  .obtain⟨j,J,rfl⟩:=dK l
   grind
  grind
theorem J1(gs)(p)(row):(YS gs p row).map Gr.key=gs.map Gr.key:=by
 unfold YS;split
 .rename_i g i;obtain⟨h,rfl⟩:=am.getElem?_eq_some_iff.1 i;rw[dU];apply List.ext_getElem
  .simp
  grind
 rfl
theorem aoF{gs g}(h:gs.map Gr.key=g.map Gr.key)(hs:SortG gs):SortG g:=by
 have e:∀l:am Gr,SortG l↔(l.map Gr.key).Pairwise λa b=>keyC a b<0:=λl=>by grind[SortG]
 grind
def sumG(gs:am Gr):=(gs.map λg=>g.rows.length).sum
theorem aFK(a b):sumG (a++b)=sumG a+sumG b:=by simp[sumG]
theorem aCl(gs)(k):sumG (vu gs k)=sumG gs:=by
 unfold vu;cases uN gs k
 .simp only[aA,aFK]
  grind[cH,sumG]
 rfl
theorem ayX(gs)(p)(g:p<gs.length)(row):sumG (YS gs p row)=sumG gs+1:=by
 unfold YS;rw[am.getElem?_eq_getElem g];simp only;rw[cF,dx g]
 grind[List.drop_eq_getElem_cons,cH,sumG]
theorem avw(at_)(rows:am (am Val)):∀i,i<=rows.length->SortG (vO at_ (rows.take i))/\sumG (vO at_ (rows.take i))=i/\(∀g∈vO at_ (rows.take i),g.key.length=at_.length/\∀r∈g.rows,r∈rows)
 |0,_=>⟨dh,rfl,λg j=>by cases j⟩
 |i+1,h=>by
  obtain⟨o,I,p⟩:=avw at_ rows i ej;rw[acT at_ ej];unfold ji;have hk:(pickL rows[i] at_).length=at_.length:=by simp[pickL]
  have J:=arQ (vO at_ (rows.take i)) (pickL rows[i] at_);refine⟨aoF (J1 ..).symm (an6 o _),by grind[ayX,aCl],?_⟩;have l:∀g∈vu (vO at_ (rows.take i)) (pickL rows[i] at_),g.key.length=at_.length/\∀r∈g.rows,r∈rows:=by
   unfold vu;cases uN (vO at_ (rows.take i)) (pickL rows[i] at_)
   .intro g j;simp only[aA,bG,bA]at j
    grind
   exact p
  grind[YS]
section
attribute [local irreducible] Sat zH z6 zl
theorem ap0(d)(t)(st:Stp)(p:yt d=0)(l:tblErr t≠0):ex Xn [.c (.d (.sl (zL d))),t.w,st.w] (rNT (tblErr t)):=by
 have o:=ju d;have hk:=qk t;rw[p]at o;have l:(tblErr t !=0)=true:=ek
 generalize tblErr t=e at*;obtain⟨tc,tr⟩:=t;obtain⟨op,⟨J,R,⟨vk,vn,vs⟩,P⟩,g,I,i,j,T,U⟩:=st;refine WV.s T8 ?_;refine aF o ?_;refine aF hk ?_;rw[l];exact rfl
theorem aou{cols}:∀{rows:am (am Val)},xi cols rows=0->∀r∈rows,r.length=cols.length
 |[],_,r,hr=>by cases hr
 |x::j,h,r,hr=>by
  simp only[xi]at h;cases g:(((x.length:Int)) !=cols.length)
  .rw[g,aA]at h;cases i:(xG cols x !=0)
   .rw[i,aA]at h;rcases aP.1 hr with rfl|hr
    .have:((r.length:Int))=cols.length:=by simpa using g
     omega
    exact aou h r hr
   simp_all
  grind
theorem wJ{t}(h:tblErr t=0):∀r∈t.rows,r.length=t.cols.length:=by
 unfold tblErr at h;obtain⟨_,h⟩:=zY ej h;cases g:(ux t.cols 0 t.cols !=0)
 .rw[g,aA]at h;exact aou h
 simp_all
theorem agT{cols}{g}(h:takeErr cols g=false):yB cols.length (zf cols g):=by intro k hk<;>grind[zf,takeErr,xJ]
structure GOK(rows:am (am Val))(n:Nat)(G:am Gr):Prop where
 srt:SortG G
 sum:sumG G=rows.length
 key:∀g∈G,g.key.length=n
 mem:∀g∈G,∀r∈g.rows,r∈rows
 few:G.length<=rows.length+1
 cnt:∀g∈G,g.rows.length<=rows.length
theorem gG(at_)(rows):GOK rows at_.length (vh at_ rows):=by
 unfold vh;by_cases h:at_=[]
 .subst h;rw[dx rfl];refine⟨cD _ _,by simp[sumG],λg i=>?_,λg i=>?_,ep,λg i=>?_⟩;all_goals rw[bA.1 i]
  .rfl
  .grind
  simp_all
 rw[if_neg h];obtain⟨l,o,j⟩:=avw at_ rows rows.length (aO _);have r:=Kw at_ rows rows.length;have p:=acS at_ rows rows.length;rw[aS]at l o j r p;exact⟨l,o,λg i=>(j g i).1,λg i=>(j g i).2,ej,p⟩
end
section
attribute [local irreducible] Sat zH z6
def yX(cols:am Col)(l:am Srt):=l.map λs=>ze cols s.col
def xQ(cols:am Col)(l:am Srt):=l.any λs=>decide (ze cols s.col<0)
def aym(t)(l):=bif tblErr t !=0 then qQ ⟨[],[]⟩ (tblErr t)else bif xQ t.cols l then qQ ⟨[],[]⟩ 16 else qQ ⟨t.cols,yE (xN (yX t.cols l) l) t.rows⟩ 0
def soS(cols:am Col)(rows:D)(l:am Srt)(i:Nat):am Int->S
 |[]=>⟨[(2,cV (.ptr 2 0)),(3,cV (.ptr 3 0)),(4,cV (.ptr 4 0)),(7,cV (.ptr 7 0)),(19,.w (.c (.d (.sl (yU l))))),(20,zh l.length),(21,zh i)],
  [(2,.box [.d (.sl (zj cols)),.d rows]),(3,.box [.d (.sl (yU l))]),(4,.box [.nil,.nil]),(7,.box [.nil])]⟩
 |a::r=>⟨[(2,cV (.ptr 2 0)),(3,cV (.ptr 3 0)),(4,cV (.ptr 4 0)),(7,cV (.ptr 7 0)),(19,.w (.c (.d (.sl (yU l))))),(20,zh l.length),(21,zh i)],
   [(2,.box [.d (.sl (zj cols)),.d rows]),(3,.box [.d (.sl (yU l))]),(4,.box [.nil,.nil]),(7,.box [.own 35 1 (a::r).length]),(35,.arr 1 (zB (a::r)) false)]⟩
theorem af1(at_)(l)(rows)(n)(hn:rows.length=n)(p:n<=1000000)(o:∀r∈rows,yB r.length at_)(I:at_.length=l.length)(J:l.length<=1000000):
 zH Pg vx [.c (.own 0 1 n),.c (.d (.fn Wb [[.fn Yj [[.sl (zB at_)]]],[.sl (yU l)]]))] [.arr 1 (zd rows) false]
  (λr=>r=⟨.tup [],[.arr 1 (zd (yE (xN at_ l) rows)) false]⟩):=by
 have U:∀L:am (am Val×Nat),aGm (λx:am Val×Nat=>D.sl (rowD x.1)) L=zd (L.map Prod.fst):=λL=>by simp_all[zd]
 have e:zd rows=aGm (λx:am Val×Nat=>D.sl (rowD x.1)) (vE rows):=by grind[adv]
 rw[e];refine zH.mono (aiY (λx:am Val×Nat=>D.sl (rowD x.1)) [.fn Yj [[.sl (zB at_)]]] [.sl (yU l)] Wb (ZC (xN at_ l)) (agQ (V5 at_ l)) (λx y=>x.2<y.2/\yB x.1.length at_/\yB y.1.length at_) (λx y g=>?_) (vE rows) n (by grind[adw]) p ?_) ?_
 .refine(as1 at_ l y.1 x.1 g.2.2 g.2.1 I J).mono ?_;rintro _ rfl;exact⟨_,rfl,av5 (V5 at_ l) g.1⟩
 .intro i j x y P R h3 hx hy;have T:∀(k:Nat) (z:am Val×Nat),(vE rows)[k]?=some z->z.1∈rows:=λk z hz=>by
   have:=dE hz;have h:=List.mem_map_of_mem (f:=Prod.fst) this
   grind[adv]
  exact⟨ahQ rows n i j x y P R h3 hx hy,o _ (T i x hx),o _ (T j y hy)⟩
 rintro _ ⟨l',P,R,rfl⟩<;>grind[So.eL,aoT,V5]
theorem ax7(t)(l)(hl:l.length<=1000000)(hr:t.rows.length<=1000000)(R:t.cols.length<=1000000):ex abY [t.w,.c (.d (.sl (yU l)))] (aym t l):=by
 have hk:=qk t;have hw:=@wJ t;unfold aym;generalize tblErr t=e at*;obtain⟨tc,tr⟩:=t;refine zJ ?_;refine VZ.s T8 ?_;refine aF hk ?_;refine zt (λh1=>?_) (λh1=>?_)
 .rw[show(e !=0)=true from h1];exact⟨rfl,rfl⟩
 rw[show(e !=0)=false from h1];have hw:∀r∈tr,r.length=tc.length:=hw ek;have hr:tr.length<=1000000:=hr;have R:tc.length<=1000000:=R;(conv=>whnf);rw[w9];refine xm T8 (VZ.l 0) l.length (λi=>soS tc (.sl (zd tr)) l i (yX tc (l.take i))) (λi=>xQ tc (l.take i)=false) ?_
 intro i hi hR;have hR:xQ tc (l.take i)=false:=hR;have af:(yX tc (l.take i)).length=i:=by grind[yX]
 have I:∀h:i<l.length,yX tc (l.take (i+1))=yX tc (l.take i)++[ze tc l[i].col]:=λh=>by grind[yX,zD]
 have o:∀h:i<l.length,xQ tc (l.take (i+1))=decide (ze tc l[i].col<0):=λh=>by grind[xQ,zD]
 have p:∀h:i<l.length,decide (ze tc l[i].col<0)=true->xQ tc l=true:=λh hb=>by grind[xQ]
 have T:l.length<=i->yX tc l=yX tc (l.take i)/\xQ tc l=false:=λh=>ek
 show mwpR Pg T8.f (VZ.l 0) _ (soS tc (.sl (zd tr)) l i (yX tc (l.take i)));generalize yX tc (l.take i)=A at*;have ad:(zB A).take A.length=zB A:=by grind[xg]
 cases A with
 |nil=>
  unfold soS;refine xL (λg=>?_) (λab=>?_)
  .have hg:=ZB g;have I:=I g;have o:=o g;have p:=p g;have j:=λs=>vN tc (.d (.sl (zd tr))) s ⟨_,rfl⟩
   generalize l[i]=s at*;obtain⟨sc,sd⟩:=s;have j:=j sc;generalize hc:ze tc sc=c at*;refine zw hg ?_;refine aF j ?_;refine zt (λU=>?_) (λU=>?_)
   .rw[p (show decide (c<0)=true from U)];exact⟨rfl,rfl⟩
   have o:xQ tc (l.take (i+1))=false:=o.trans U;refine yQ ?_ (hA:=ep) (hB:=by grind[zW]) (hC:=ep);refine zI g o ?_;rw[zu g ej,I];rfl
  obtain⟨e1,e2⟩:=T ab;rw[e2,e1];have ac:=λhz=>af1 [] l tr (zd tr).length (zq tr).symm (by grind[zq]) (λr hr k hk=>by cases hk) ek hz
  have hS:(zd (yE (xN [] l) tr)).take (zd tr).length=zd (yE (xN [] l) tr):=by rw[zq,<-(uV (V5 [] l) tr).length_eq,<-zq,aS]
  have aa:tr=[]->yE (xN [] l) tr=[]:=λh=>by rw[h];rfl
  generalize yE (xN [] l) tr=S at*;have J:=w7 tc R;(conv=>whnf);refine aX (JV tr hr) ?_;rintro _ (⟨P,rfl⟩|rfl)
  .rw[aa P];(conv=>whnf);refine zH.mono (Ja _ _) ?_;rintro _ rfl;refine aF J ?_;exact⟨rfl,rfl⟩
  (conv=>whnf);refine zH.mono (ac hl) ?_;rintro _ rfl;refine aF J ?_;refine⟨rfl,?_⟩;refine dV (b:=⟨.tup [.agg [.d (.sl (zj tc)),.d (.sl ((zd S).take (zd tr).length))],.c (int 0)],[]⟩) rfl ?_;rw[hS];rfl
 |cons a A=>
  unfold soS;refine xL (λg=>?_) (λab=>?_)
  .have hg:=ZB g;have I:=I g;have o:=o g;have p:=p g;have j:=λs=>vN tc (.d (.sl (zd tr))) s ⟨_,rfl⟩
   generalize l[i]=s at*;obtain⟨sc,sd⟩:=s;have j:=j sc;generalize hc:ze tc sc=c,hA:(a::A)=B at*;refine zw hg ?_;refine aF j ?_;refine zt (λU=>?_) (λU=>?_)
   .rw[p (show decide (c<0)=true from U)];exact⟨rfl,rfl⟩
   have o:xQ tc (l.take (i+1))=false:=o.trans U;refine yQ ?_;refine zI g o ?_;have e5:zB B++aI [[D.lit (Value.int aG c)]].length [[D.lit (Value.int aG c)]]=zB (B++[c]):=by simp[zB]
   have e6:B.length+(aI [[D.lit (Value.int aG c)]].length [[D.lit (Value.int aG c)]]).length=(B++[c]).length:=ep
   rw[zu g ej,ad,I,e5,e6];subst hA;rfl
  obtain⟨e1,e2⟩:=T ab;have ae:yB tc.length (yX tc l):=by
   intro k hk;unfold yX at hk;obtain⟨s,hs,rfl⟩:=bE.1 hk
   grind[xQ,xJ]
  rw[e2,e1];rw[e1]at ae;generalize hA:(a::A)=B at*;have ac:=λhz=>af1 B l tr (zd tr).length (zq tr).symm (by grind[zq]) (λr hr=>ek) ek hz
  have hS:(zd (yE (xN B l) tr)).take (zd tr).length=zd (yE (xN B l) tr):=by rw[zq,<-(uV (V5 B l) tr).length_eq,<-zq,aS]
  have aa:tr=[]->yE (xN B l) tr=[]:=λh=>by rw[h];rfl
  generalize yE (xN B l) tr=S at*;have J:=w7 tc R;(conv=>whnf);refine aX (JV tr hr) ?_;rintro _ (⟨P,rfl⟩|rfl)
  .rw[aa P];(conv=>whnf);refine zH.mono (Ja _ _) ?_;rintro _ rfl;refine aF J ?_;exact⟨rfl,rfl⟩
  rw[ad];(conv=>whnf);refine zH.mono (ac hl) ?_;rintro _ rfl;refine aF J ?_;refine⟨rfl,?_⟩;refine dV (b:=⟨.tup [.agg [.d (.sl (zj tc)),.d (.sl ((zd S).take (zd tr).length))],.c (int 0)],[]⟩) rfl ?_;rw[hS];rfl
structure Stp.OK(st:Stp):Prop where
 sorts:st.sorts.length<=1000000
 cols:st.cols.length<=1000000
 aggs:st.aggs.length<=100000
 items:st.items.length<=1000000
def Uw(op:Int):=bif op==7 then [sFrom,sTo]else bif op==8 then [sFrom]else []
def whT(cols)(e):=bif ayI cols e !=0 then(ayI cols e,[])else(0,cols)
def soT(cols:am Col)(l:am Srt):Int×am Col:=bif xQ cols l then(16,[])else(0,cols)
def grT(cols)(i)(g):=
 bif takeErr cols i then(16,[])else bif (yk cols g).1 !=0 then((yk cols g).1,[])else(0,takeC cols i++(yk cols g).2)
def amj(i)(cols g)(cs):=
 bif jnErr cols g cs !=0 then(jnErr cols g cs,[])else bif intErr cols i !=0 then(intErr cols i,[])else bif intErr g i !=0 then(intErr g i,[])else
 bif dupL [] (cols++keepS i cs g)then(4,[])else bif decide (((cols++keepS i cs g).length:Int)>32)then(7,[])else(0,cols++keepS i cs g)
def Xm(g:am ByteArray)(d:am Nmd)(cols:am Col)(cs:am ByteArray)(i:ByteArray):Int×am Col:=match zC i d with
 |none=>(17,[])
 |some t=>bif g.any (hasB cs)then(4,[])else amj g cols t.cols cs
theorem alT{b}{x y}:(bif b then x8 x else x8 y)=x8 (bif b then x else y):=ek
theorem avC(i)(d)(cols)(cs)(g):ami i d cols cs g=x8 (Xm i d cols cs g):=by
 unfold ami Xm;cases zC g d with
 |none=>rfl
 |some t=>
  simp only[axq,axr,amj,<-alT];rfl
theorem azW(cs)(l):keepS [] cs l=vy cs l:=by
 unfold keepS vy;congr 1
 funext c;simp_all[hasB]
theorem aGB(d)(cols)(cs)(g):jnT d cols cs g=x8 (Xm [] d cols cs g):=by
 unfold jnT Xm;cases zC g d with
 |none=>rfl
 |some t=>
  simp only[jnQ,amj,azW,<-alT];rfl
theorem aGu(cols)(i)(g):axg cols i g=x8 (grT cols i g):=by unfold axg grT;simp only[<-alT];rfl
def yu(d:am Nmd)(cols:am Col)(st:Stp):=
 bif st.err !=0 then(st.err,[])else bif st.op==1 then whT cols st.cond else bif st.op==2 then qw cols st.items else bif st.op==3 then grT cols st.cols st.aggs else
 bif st.op==4 then soT cols st.sorts else bif st.op==5 then(0,cols)else bif st.op==9 then coT cols st.cols else Xm (Uw st.op) d cols st.cols st.table
theorem ayf(d)(cols)(st:Stp)(hs:st.sorts.length<=1000000)(l:(st.err !=0)=true):ex xu [.c (.d (.sl (zL d))),.c (.d (.sl (zj cols))),st.w] (x8 (st.err,[])):=by have o:=jv st hs;refine zJ ?_;obtain⟨op,⟨I,P,⟨U,vn,vs⟩,J⟩,g,p,i,j,R,T⟩:=st;refine xT.s T8 ?_;refine aF o ?_;rw[l];exact⟨rfl,rfl⟩
theorem aDw(d)(cols)(st:Stp)(g:st.op=2)(hs:st.sorts.length<=1000000)(o:(st.err !=0)=false)(x)(p:ex JR [.c (.d (.sl (zj cols))),.c (.d (.sl (yI st.items)))] (x8 x)):ex xu [.c (.d (.sl (zL d))),.c (.d (.sl (zj cols))),st.w] (x8 x):=by have I:=jv st hs;refine zJ ?_;obtain⟨op,⟨P,T,⟨vk,vn,vs⟩,R⟩,i,J,j,l,U,tb⟩:=st;subst g;refine xT.s T8 ?_;refine aF I ?_;rw[o];refine aF p ?_;exact⟨rfl,rfl⟩
theorem aDx(d)(cols)(st:Stp)(g:st.op=3)(hs:st.sorts.length<=1000000)(o:(st.err !=0)=false)(x)(p:ex kw [.c (.d (.sl (zj cols))),.agg st.cs] (x8 x)):ex xu [.c (.d (.sl (zL d))),.c (.d (.sl (zj cols))),st.w] (x8 x):=by have I:=jv st hs;refine zJ ?_;obtain⟨op,⟨P,T,⟨vk,vn,vs⟩,R⟩,i,J,j,l,U,tb⟩:=st;subst g;refine xT.s T8 ?_;refine aF I ?_;rw[o];refine aF p ?_;exact⟨rfl,rfl⟩
theorem aDD(d)(cols)(st:Stp)(g:st.op=9)(hs:st.sorts.length<=1000000)(o:(st.err !=0)=false)(x)(p:ex U5 [.c (.d (.sl (zj cols))),.agg st.cs] (x8 x)):ex xu [.c (.d (.sl (zL d))),.c (.d (.sl (zj cols))),st.w] (x8 x):=by have I:=jv st hs;refine zJ ?_;obtain⟨op,⟨P,T,⟨vk,vn,vs⟩,R⟩,i,J,j,l,U,tb⟩:=st;subst g;refine xT.s T8 ?_;refine aF I ?_;rw[o];refine aF p ?_;exact⟨rfl,rfl⟩
theorem aDA(d)(cols)(st:Stp)(g:st.op=6)(hs:st.sorts.length<=1000000)(o:(st.err !=0)=false)(x)(p:ex uz [.c (.d (.sl (zL d))),.c (.d (.sl (zj cols))),.agg st.cs] (x8 x)):ex xu [.c (.d (.sl (zL d))),.c (.d (.sl (zj cols))),st.w] (x8 x):=by have I:=jv st hs;refine zJ ?_;obtain⟨op,⟨P,T,⟨vk,vn,vs⟩,R⟩,i,J,j,l,U,tb⟩:=st;subst g;refine xT.s T8 ?_;refine aF I ?_;rw[o];refine aF p ?_;exact⟨rfl,rfl⟩
theorem aDB(d)(cols)(st:Stp)(g:st.op=7)(hs:st.sorts.length<=1000000)(o:(st.err !=0)=false)(x)(p:ex uz [.c (.d (.sl (zL d))),.c (.d (.sl (zj cols))),.agg st.cs] (x8 x)):ex xu [.c (.d (.sl (zL d))),.c (.d (.sl (zj cols))),st.w] (x8 x):=by have I:=jv st hs;refine zJ ?_;obtain⟨op,⟨P,T,⟨vk,vn,vs⟩,R⟩,i,J,j,l,U,tb⟩:=st;subst g;refine xT.s T8 ?_;refine aF I ?_;rw[o];refine aF p ?_;exact⟨rfl,rfl⟩
theorem aDC(d)(cols)(st:Stp)(g:st.op=8)(hs:st.sorts.length<=1000000)(o:(st.err !=0)=false)(x)(p:ex uz [.c (.d (.sl (zL d))),.c (.d (.sl (zj cols))),.agg st.cs] (x8 x)):ex xu [.c (.d (.sl (zL d))),.c (.d (.sl (zj cols))),st.w] (x8 x):=by have I:=jv st hs;refine zJ ?_;obtain⟨op,⟨P,T,⟨vk,vn,vs⟩,R⟩,i,J,j,l,U,tb⟩:=st;subst g;refine xT.s T8 ?_;refine aF I ?_;rw[o];refine aF p ?_;exact⟨rfl,rfl⟩
theorem aDv(d)(cols)(st:Stp)(I:st.op=1)(hs:st.sorts.length<=1000000)(i:(st.err !=0)=false)(hl:cols.length<=1000000)(he:st.cond.err=0):ex xu [.c (.d (.sl (zL d))),.c (.d (.sl (zj cols))),st.w] (x8 (whT cols st.cond)):=by
 have p:=jv st hs;have o:=aaq cols st.cond he;have hK:=w7 cols hl;unfold whT ayI;generalize Ex.ty cols st.cond=t at*;obtain⟨U,g⟩:=t;refine zJ ?_;obtain⟨op,⟨eo,nm,⟨vk,vn,vs⟩,ks⟩,J,aa,P,R,sn,tb⟩:=st;subst I;have T:=Ur U 1;generalize qc U 1=f at*;cases h2:(g !=0)with
 |true=>
  have j:(g==0)=false:=ek
  simp only[aE,h2];refine xT.s T8 ?_;refine aF p ?_;rw[i];refine aF o ?_;refine zt (λc=>?_) (λc=>?_)
  .have c:(g==0)=true:=c;rw[j]at c;cases c
  refine zg (λd=>?_) (λd=>?_)
  .exact⟨rfl,rfl⟩
  grind
 |false=>
  have l:g=0:=ek
  subst l;cases f with
  |true=>
   refine xT.s T8 ?_;refine aF p ?_;rw[i];refine aF o ?_;refine aF T ?_;refine aF hK ?_;exact⟨rfl,rfl⟩
  |false=>
   refine xT.s T8 ?_;refine aF p ?_;rw[i];refine aF o ?_;refine aF T ?_;exact⟨rfl,rfl⟩
theorem aDz(d)(cols)(st:Stp)(g:st.op=5)(hs:st.sorts.length<=1000000)(i:(st.err !=0)=false)(j:cols.length<=1000000):ex xu [.c (.d (.sl (zL d))),.c (.d (.sl (zj cols))),st.w] (x8 (0,cols)):=by have h:=atl d cols st g hs j;rw[i]at h;exact h
theorem aDy(d)(cols)(st:Stp)(R:st.op=4)(hs:st.sorts.length<=1000000)(h1:(st.err !=0)=false)(hl:cols.length<=1000000):ex xu [.c (.d (.sl (zL d))),.c (.d (.sl (zj cols))),st.w] (x8 (soT cols st.sorts)):=by
 have hS:=jv st hs;have hK:=w7 cols hl;unfold soT;refine zJ ?_;obtain⟨op,⟨eo,nm,⟨vk,vn,vs⟩,ks⟩,T,aa,U,g,sn,tb⟩:=st;simp only at*;subst R;refine xT.s T8 ?_;refine aF hS ?_;rw[h1];refine xm T8 (xT.l 0) g.length (λi=>⟨[(1,.w (.c (.d (.sl (zj cols))))),(57,.w (.c (.d (.sl (yU g))))),(58,zh (yU g).length),(59,zh i)],[]⟩) (λi=>xQ cols (g.take i)=false) ?_
 intro i hi hR;have p:∀h:i<g.length,xQ cols (g.take (i+1))=decide (ze cols g[i].col<0):=λh=>by grind[xQ,zD]
 have j:∀h:i<g.length,decide (ze cols g[i].col<0)=true->xQ cols g=true:=λh hb=>by exact List.any_eq_true.2 ⟨g[i],aL h,hb⟩
 refine zg (λh2=>?_) (λh2=>?_)
 .have o:i<g.length:=by simp_all[w9]
  have hg:=ZB o;have p:=p o;have j:=j o;have I:=qq cols g[i].col;have wi:=zu o ej;generalize g[i]=s at*;obtain⟨sc,sd⟩:=s;generalize ze cols sc=c at*;refine zw hg ?_;refine aF I ?_;refine zt (λJ=>?_) (λJ=>?_)
  .rw[j (show decide (c<0)=true from J)];exact⟨rfl,rfl⟩
  have p:xQ cols (g.take (i+1))=false:=p.trans J;refine zI o p ?_;rw[wi];rfl
 have P:g.length<=i:=by grind[w9]
 rw[bM P]at hR;rw[hR];refine aF hK ?_;exact⟨rfl,rfl⟩
theorem arw{st:Stp}(h:st.err=0):st.uses=true:=by unfold cX at h;have:=(zY ej h).1<;>simp_all
theorem abu{st:Stp}(h:st.err=0):1<=st.op/\st.op<=9:=by have g:=arw h<;>grind[Stp.uses,X6]
theorem aHv{st:Stp}(h:st.err=0)(g:st.op=1):st.cond.err=0:=by unfold cX at h;have h:=(zY ej h).2<;>simp_all[V4]
theorem ae7:∀(l) (g:am ByteArray),yG g l=0->∀x∈l,x.e.chk=0
 |[],_,_,x,i=>by cases i
 |y::r,g,h,x,i=>by
  simp only[yG]at h;cases j:(y.e.chk !=0)
  .rw[j,aA]at h;cases o:(zU g y.nm !=0)
   .rw[o,aA]at h;rcases aP.1 i with rfl|i
    .simpa using j
    exact ae7 r _ h x i
   simp_all
  simp_all
theorem aEi{st:Stp}(h:st.err=0)(g:st.op=2):∀x∈st.items,x.e.chk=0:=by
 unfold cX at h;have h:=(zY ej h).2;rw[g]at h;have h:(bif vR st.items.length 1 !=0 then vR st.items.length 1 else yG [] st.items)=0:=h;cases i:(vR st.items.length 1 !=0)
 .rw[i,aA]at h
  grind[ae7]
 simp_all
theorem Ko(d)(cols)(st)(hk:st.OK)(o:cols.length<=1000000)(l:∀t,zC st.table d=some t->t.cols.length<=1000000):ex xu [.c (.d (.sl (zL d))),.c (.d (.sl (zj cols))),st.w] (x8 (yu d cols st)):=by
 unfold yu;cases j:(st.err !=0)with
 |true=>exact ayf d cols st hk.sorts j
 |false=>
  have h0:st.err=0:=ek
  have g:=abu h0;have g:st.op=1\/st.op=2\/st.op=3\/st.op=4\/st.op=5\/st.op=6\/st.op=7\/st.op=8\/st.op=9:=ej
  rcases g with g|g|g|g|g|g|g|g|g
  .have:=aDv d cols st g hk.sorts j o (aHv h0 g)
   grind
  .have:=aDw d cols st g hk.sorts j _ (atd cols st.items (λx p=>V4 (aEi h0 g x p)) hk.items)
   grind
  .have i:=ati cols st hk.cols hk.aggs;rw[aGu]at i;have:=aDx d cols st g hk.sorts j _ i
   grind
  .have:=aDy d cols st g hk.sorts j o
   grind
  .have:=aDz d cols st g hk.sorts j o
   grind
  .have i:=auM d cols st g hk.cols o l;rw[aGB]at i;have:=aDA d cols st g hk.sorts j _ i;rw[g];exact this
  .have i:=atj d cols st g hk.cols o l;rw[avC]at i;have:=aDB d cols st g hk.sorts j _ i;rw[g];exact this
  .have i:=atk d cols st g hk.cols o l;rw[avC]at i;have:=aDC d cols st g hk.sorts j _ i;rw[g];exact this
  have:=aDD d cols st g hk.sorts j _ (ap2 cols st hk.cols)
  grind
def uQ(d:am Nmd)(cols:am Col):am Stp->Int×am Col
 |[]=>(0,cols)
 |s::r=>bif (yu d cols s).1 !=0 then((yu d cols s).1,[])else uQ d (yu d cols s).2 r
def Zn(d:am Nmd)(q:Qry):Int×am Col:=
 bif yt d !=0 then(yt d,[])else bif q.err !=0 then(q.err,[])else match zC q.src d with
 |none=>(17,[])
 |some t=>uQ d t.cols q.steps
def ayB(cols:am Col)(rows:D)(j:am ByteArray)(i:Nat)(g:am Int):S:=⟨[(2,cV (.ptr 2 0)),(5,cV (.own 19 1 g.length)),(8,.w (.c (.d (.sl (zo j))))),(9,zh (zo j).length),(10,zh i)],
 [(2,.box [.d (.sl (zj cols)),.d rows]),(19,.arr 1 (zB g) false)]⟩
theorem uY(cols)(rows)(g)(hn:g.length<=1000000):ex ag9 [.agg [.d (.sl (zj cols)),.d rows],.c (.d (.sl (zo g)))] (rC (.d (.sl (zB (zf cols g))))):=by
 refine zJ ?_;refine Qb.s T8 ?_;refine zX (P:=Pg) (f:=T8.f) (body:=(Qb.l 0)) g.length (λi=>ayB cols rows g i (zf cols (g.take i))) (λ_=>True) ⟨trivial,⟨_,zx 5 19 1 ej ej rfl,?_⟩⟩ ?_
 .exact rfl
 intro i hi _;have aa:(zf cols (g.take i)).length=i:=by grind[zf]
 have R:∀h:i<g.length,zf cols (g.take (i+1))=zf cols (g.take i)++[ze cols g[i]]:=λh=>by grind[zf,zD]
 have p:g.length<=i->zf cols g=zf cols (g.take i):=λh=>ek
 show mwpR Pg T8.f (Qb.l 0) _ (ayB cols rows g i (zf cols (g.take i)));generalize zf cols (g.take i)=T at*;have I:(zB T).take T.length=zB T:=by grind[xg]
 unfold ayB;refine zg (λU=>?_) (λU=>?_)
 .have j:i<g.length:=by simp_all[zA]
  have hg:=xh j;have o:=vN cols (.d rows) g[i] ⟨rows,rfl⟩;refine zw hg ?_;refine aF o ?_;refine yQ ?_;refine zI j trivial ?_;rw[zu j ej,I,R,<-Wr,aC];rfl
 have J:g.length<=i:=by grind[zA]
 rw[p J];refine⟨rfl,?_⟩;show Res.mk (.w (.c (.d (.sl ((zB T).take T.length))))) []=_;rw[I];rfl
def atO(row:am Val)(at_:am Int)(i:Nat)(g:am Val):S:=⟨[(0,.w (zE row)),(5,cV (.own 20 3 g.length)),(8,.w (.c (.d (.sl (zB at_))))),(9,zh (zB at_).length),(10,zh i)],
 [(20,.arr 3 (rowD g) false)]⟩
theorem XA(row)(at_)(hn:at_.length<=1000000)(R:yB row.length at_):ex akJ [zE row,.c (.d (.sl (zB at_)))] (rC (.d (.sl (rowD (pickL row at_))))):=by
 refine zJ ?_;refine z7 T8 Vb.ok er ?_;refine zX (P:=Pg) (f:=T8.f) (body:=(Vb.l 0)) at_.length (λi=>atO row at_ i (pickL row (at_.take i))) (λ_=>True) ⟨trivial,⟨_,zx 5 20 3 ej ej rfl,?_⟩⟩ ?_
 .exact rfl
 intro i hi _;have aa:(pickL row (at_.take i)).length=i:=by grind[pickL]
 have j:∀h:i<at_.length,pickL row (at_.take (i+1))=pickL row (at_.take i)++[at0 row (at_[i]).toNat]:=λh=>by grind[pickL,zD]
 have o:at_.length<=i->pickL row at_=pickL row (at_.take i):=λh=>ek
 show mwpR Pg T8.f (Vb.l 0) _ (atO row at_ i (pickL row (at_.take i)));generalize pickL row (at_.take i)=T at*;have p:(rowD T).take T.length=rowD T:=by grind[zp]
 unfold atO;refine zg (λU=>?_) (λU=>?_)
 .have g:i<at_.length:=by simp_all[xg]
  have hg:=j7 g;have j:=j g;have hk:=R _ (aL g);generalize at_[i]=k at*;have J:(rowD row)[k.toNat]?=some (at0 row k.toNat).ds:=by grind[at0,rowD]
  refine zw hg ?_;refine zw J ?_ (hA:=hk.1);refine yQ ?_;refine zI g trivial ?_;rw[zu g ej,p,j,<-jr,aC];rfl
 have I:at_.length<=i:=by grind[xg]
 rw[o I];refine⟨rfl,?_⟩;show Res.mk (.w (.c (.d (.sl ((rowD T).take T.length))))) []=_;rw[p];rfl
def trS(cols:am Col)(on:am ByteArray)(i:Nat)(g:am Int):S:=⟨[(1,.w (.c (.d (.sl (zo on))))),(5,cV (.own 24 1 g.length)),(9,.w (.c (.d (.sl (zj cols))))),(10,zh cols.length),(11,zh i)],[(24,.arr 1 (zB g) false)]⟩
theorem atc(cols)(rows)(on)(U:cols.length<=1000000):ex Vk [.agg [.d (.sl (zj cols)),.d rows],.c (.d (.sl (zo on)))] (rC (.d (.sl (zB (oth on 0 cols))))):=by
 refine zJ ?_;refine Vc.s T8 ?_;rw[zy];refine yD (P:=Pg) (f:=T8.f) (body:=(Vc.l 0)) (λx:Nat×am Int=>trS cols on x.1 x.2) (λx=>cols.length-x.1) (λx=>x.1<=cols.length/\x.2.length<=x.1/\oth on 0 cols=x.2++oth on x.1 (cols.drop x.1)) ⟨(0,[]),⟨bD _,aO _,rfl⟩,⟨_,zx 5 24 1 ej ej rfl,?_⟩⟩ ?_
 .exact rfl
 rintro⟨i,A⟩ hx;obtain⟨hi,hA,j⟩:i<=cols.length/\A.length<=i/\oth on 0 cols=A++oth on i (cols.drop i):=hx;show mwpR Pg T8.f (Vc.l 0) _ (trS cols on i A);have o:(zB A).take A.length=zB A:=by grind[xg]
 unfold trS;refine xL (λg=>?_) (λI=>?_)
 .rw[zm g]at j;simp only[oth]at j;have hg:=yN g;have R:=zu g ej;have J:=yJ on cols[i].name;generalize cols[i]=c at*;obtain⟨T,c2⟩:=c;generalize hasB on T=b at*;refine zw hg ?_;refine aF J ?_;refine zt (b:=!b) (λp=>?_) (λp=>?_)
  .rw[p,aE]at j;refine yQ ?_;refine⟨(i+1,A++[(i:Int)]),⟨⟨g,ew,?_⟩,ek⟩,zi ?_⟩
   .grind
   (conv=>whnf);rw[R,o];show _=trS cols on (i+1) (A++[(i:Int)]);unfold trS;rw[aC,<-Wr];rfl
  rw[p,aA,co]at j;refine⟨(i+1,A),⟨⟨g,ek,j⟩,ek⟩,zi ?_⟩;rw[R];rfl
 rw[dr I]at j;have j:oth on 0 cols=A:=by grind[oth]
 rw[j];refine⟨rfl,?_⟩;show Res.mk (.w (.c (.d (.sl ((zB A).take A.length))))) []=_;rw[o];rfl
def ZQ(a b):=xS a b&&!a.any (yH zF)
theorem aoy(a b):ex aiA [zE a,zE b] (rB (ZQ a b)):=by
 have g:=Vt a b;have i:=U9 a zF;unfold ZQ;generalize xS a b=s at*;cases s
 .refine KZ.s T8 ?_;refine aF g ?_;rfl
 refine KZ.s T8 ?_;refine aF g ?_;refine aF i ?_;rfl
theorem JW(l)(g:l.length<=1000000):Sat Pg abR [.c (.d (.sl (zo l)))] (λr=>(l=[]/\r=rC .nil)\/r=aaU 1 (zo l)):=by
 refine z7 T8 abn.ok er ?_;refine⟨λh=>?_,?_⟩
 .conv=>whnf
  left
  refine⟨?_,rfl⟩;cases l with
  |nil=>rfl
  |cons a r=>cases h
 (conv=>whnf);refine⟨aDS l,by grind[zW,zA],by grind[zA],?_⟩
 right
 show Res.mk (.w (.c (.own 0 1 (([]:am (am D)).length+(zo l).length)))) [.arr 1 (([]:am (am D)).take ([]:am (am D)).length++zo l) false]=_;simp_all[aaU]
def qK(a b:Val):=a.k==2&&b.k==2&&decide (a.n<b.n)
def alA(a b:Val):Res:=⟨.tup [.agg [int a.n,int b.n],.c (bool (qK a b))],[]⟩
theorem ajo(row)(p q)(l:0<=p/\p<row.length)(o:0<=q/\q<row.length):ex akK [zE row,.c (.d (.sl (zB [p,q])))] (alA (at0 row p.toNat) (at0 row q.toNat)):=by
 have g:∀k:Int,0<=k/\k<row.length->(rowD row)[k.toNat]?=some (at0 row k.toNat).ds:=λk hk=>by grind[at0,rowD]
 have i:=g p l;have j:=g q o;generalize at0 row p.toNat=a,at0 row q.toNat=b at*;obtain⟨I,P,a3⟩:=a;obtain⟨J,R,T⟩:=b;refine ajV.s T8 ?_
 repeat' (first
  |(refine⟨ej,[.lit (.int .i64 p)],rfl,rfl,?_⟩;conv=>whnf)
  |(refine⟨ej,[.lit (.int .i64 q)],rfl,rfl,?_⟩;conv=>whnf)
  |(refine⟨l.1,_,i,rfl,?_⟩;conv=>whnf)
  |(refine⟨o.1,_,j,rfl,?_⟩;conv=>whnf)
  |(refine bO ?_ ?_<;>conv=>whnf))
 all_goals refine zt (λh=>?_) (λh=>?_)
 all_goals conv=>whnf
 all_goals repeat' (first
  |(refine bO ?_ ?_<;>conv=>whnf))
 all_goals have h:(I==2&&J==2)=_:=h
 all_goals simp only[alA,qK,h,bP,c8]
 all_goals rfl
def uB:ByteArray:=⟨#[98]⟩
def qb(op:Int)(on:am ByteArray)(g:ByteArray):Stp:=⟨op,.mk 0 ⟨#[]⟩ ⟨0,0,⟨#[]⟩⟩ [],[],on,[],[],0,g⟩
def JG(op)(on)(a):=bif tblErr a !=0 then(tblErr a,[])else yu [] a.cols (qb op on ⟨#[]⟩)
def XF(op)(on)(a b):=bif tblErr a !=0 then(tblErr a,[])else bif tblErr b !=0 then(tblErr b,[])else yu [⟨uB,b⟩] a.cols (qb op on uB)
theorem atL(op)(on)(g)(h:on.length<=1000000):(qb op on g).OK:=⟨bD _,h,bD _,bD _⟩
theorem aye(op)(on)(a)(j:on.length<=1000000)(i:a.cols.length<=1000000):ex U4 [.c (int op),.c (.d (.sl (zo on))),.c (.d (.sl [a.ds]))] (x8 (JG op on a)):=by
 have hk:=qk a;have o:=Ko [] a.cols (qb op on ⟨#[]⟩) (atL op on _ j) i (λt p=>by cases p);unfold JG;generalize tblErr a=e,yu [] a.cols (qb op on ⟨#[]⟩)=x at*;obtain⟨J,R⟩:=x;obtain⟨ac,I⟩:=a;refine zJ ?_;refine jV.s T8 ?_;refine jp (P:=Pg) (f:=T8.f) (body:=(jV.l 0)) 2 ?_;refine xK ?_;refine aF hk ?_;refine zt (λg=>?_) (λg=>?_)
 .rw[show(e !=0)=true from g];exact⟨rfl,rfl⟩
 rw[show(e !=0)=false from g];refine xK ?_;refine aF o ?_;exact⟨rfl,rfl⟩
theorem alq(op)(on)(a b)(p:on.length<=1000000)(j:a.cols.length<=1000000)(T:b.cols.length<=1000000):ex U4 [.c (int op),.c (.d (.sl (zo on))),.c (.d (.sl [a.ds,b.ds]))] (x8 (XF op on a b)):=by
 have hk:=qk a;have o:=qk b;have R:=Ko [⟨uB,b⟩] a.cols (qb op on uB) (atL op on _ p) j (λt U=>by grind[zC])
 unfold XF;generalize tblErr a=e,tblErr b=I,yu [⟨uB,b⟩] a.cols (qb op on uB)=x at*;obtain⟨x1,x2⟩:=x;obtain⟨ac,J⟩:=a;obtain⟨bc,br⟩:=b;refine zJ ?_;refine jV.s T8 ?_;refine jp (P:=Pg) (f:=T8.f) (body:=(jV.l 0)) 3 ?_;refine xK ?_;refine aF hk ?_;refine zt (λg=>?_) (λg=>?_)
 .rw[show(e !=0)=true from g];exact⟨rfl,rfl⟩
 rw[show(e !=0)=false from g];(conv=>whnf);refine⟨et,_,rfl,rfl,?_⟩;refine aF o ?_;refine zt (λi=>?_) (λi=>?_)
 .rw[show(I !=0)=true from i];exact⟨rfl,rfl⟩
 rw[show(I !=0)=false from i];(conv=>whnf)
 repeat' (first
  |(refine⟨et,[.sl (zj bc),.sl (zd br)],rfl,rfl,?_⟩;conv=>whnf)
  |(refine⟨et,[.sl (zj ac),.sl (zd J)],rfl,rfl,?_⟩;conv=>whnf)
  |(refine bO ?_ ?_<;>conv=>whnf))
 all_goals refine aX R ?_
 all_goals rintro _ rfl
 all_goals conv=>whnf
 all_goals exact⟨rfl,rfl⟩
end
theorem aqw{u:Nat->Gh}{pl}{q}{cs g}(h:aget pl q=some (.box cs))(b):Owns u (xf q (.box g) pl) b↔Owns u pl b:=by
 constructor
 .rintro⟨p,x,j,l,i⟩;rw[yR]at j;split at j
  .rename_i e;subst e;exact⟨q,_,h,rfl,i⟩
  exact⟨p,x,j,l,i⟩
 rintro⟨p,x,j,l,i⟩;by_cases e:q=p
 .subst e;exact⟨q,.box g,by simp_all[yR],rfl,i⟩
 exact⟨p,x,by simp_all[yR],l,i⟩
theorem aAt{F}{N}{u:Nat->Gh}{s}{a}{w}(hr:Rel F N u s a w){q}{cs i}(h:aget s.pl q=some (.box cs))
 (hc:∀vs,CRs u w (F.ok u s.pl w) cs vs->CRs u w (F.ok u s.pl w) i vs):Rel F N u (s.withPl (xf q (.box i) s.pl)) a w:=by
 have o:F.ok u (xf q (.box i) s.pl) w=F.ok u s.pl w:=by
  funext b
  grind[Fr.ok,aqw]
 refine⟨hr.room,λk v hv=>?_,λp x l=>?_,λp r x y b l hy aa hl U=>?_,λb U=>hr.mine b ((aqw h b).1 U),hr.defers,hr.grows,hr.foreign,hr.handed,hr.few,hr.hdom,λp x g l hg=>?_⟩
 .show∃x,a.tmps[k]?=some x/\VR u w (F.ok u (xf q (.box i) s.pl) w) v x;rw[o];exact hr.slots k v hv
 .show PR u w (F.ok u (xf q (.box i) s.pl) w) p x;rw[o];have j:aget (xf q (.box i) s.pl) p=some x:=l;clear l;rw[yR]at j;split at j
  .rename_i e;subst e;cases j;obtain⟨b,J,P,R,T⟩:=hr.places q _ h;exact⟨b,J,P,R,hc _ T⟩
  exact hr.places p x j
 .have get:∀{p:Nat}{x:Pl},aget (s.withPl (xf q (.box i) s.pl)).pl p=some x->∃I,aget s.pl p=some I/\I.live=x.live:=fun{p x} l=>by
   have j:aget (xf q (.box i) s.pl) p=some x:=l;clear l;rw[yR]at j;split at j
   .rename_i e;subst e;cases j;exact⟨_,h,rfl⟩
   grind
  obtain⟨I,P,R⟩:=get l;obtain⟨y',T,_⟩:=get hy;exact hr.inj p r I y' b P T aa (R.trans hl) U
 have l:aget (xf q (.box i) s.pl) p=some x:=l;rw[yR]at l;split at l
 .rename_i e;subst e;exact hr.hkeep q _ g h hg
 exact hr.hkeep p x g l hg
theorem auW{u:Nat->Gh}{w}{ok:Nat->Prop}{j}(l:∀v,CR u w ok .nil v->CR u w ok j v):∀(cs) (vs:am Value) (i:Nat),cs[i]?=some .nil->CRs u w ok cs vs->CRs u w ok (cs.set i j) vs
 |[],_,i,h,_=>ek
 |c::r,[],_,_,h=>h.elim
 |c::r,v::vs,0,h,g=>by
  have h:c=.nil:=by simpa using h
  subst h;exact⟨l v g.1,g.2⟩
 |c::r,v::vs,i+1,h,g=>⟨g.1,auW l r vs i (by simpa using h) g.2⟩
def ava(pl:am (Nat×Pl))(q i:Nat):bC C:=match aget pl q with
 |some (.box cs)=>cs[i]?
 |_=>none
def aAN(pl:am (Nat×Pl))(q i:Nat)(c:C):am (Nat×Pl):=match aget pl q with
 |some (.box cs)=>xf q (.box (cs.set i c)) pl
 |_=>pl
def S.boxNil(s:S)(q i p sz):=(s.redo [p] [(p,.arr sz [] false)]).withPl (aAN (s.redo [p] [(p,.arr sz [] false)]).pl q i (.own p sz 0))
theorem YP{s}(q i p sz)(j:0<sz)(J:p<100000)(h:ava (s.redo [p] [(p,.arr sz [] false)]).pl q i=some .nil):VO s (S.boxNil s q i p sz):=by
 intro F N u a w hr;have I:F.h p=none:=by
  cases e:F.h p with
  |none=>rfl
  |some g=>have:=hr.hdom p g e;omega
 have hrel:=hr.noRow (d:=p) [p] (by simp[isin]) j I;unfold S.boxNil;generalize s.redo [p] [(p,.arr sz [] false)]=t at*;unfold ava at h;unfold aAN;cases o:aget t.pl q with
 |none=>grind
 |some x=>
  rw[o]at h;cases x with
  |box cs=>
   refine⟨_,aAt hrel o λvs r=>auW (λv l=>?_) cs vs i h r⟩;have l:v=.slice none 0 0:=l;exact .inl ⟨by rw[yh],rfl,l⟩
  |arr a b c=>cases h
  |fbox a=>cases h
  |gone=>cases h
section
attribute [local irreducible] Sat zH z6
def setN(r:am Val)(k:Int)(n):=r.set k.toNat ⟨(at0 r k.toNat).k,n,(at0 r k.toNat).s⟩
theorem wH{R}{k:Int}(h:k.toNat<R.length):(rowD R)[k.toNat]?=some (at0 R k.toNat).ds:=by grind[at0,rowD]
theorem aos(R)(k n):(rowD R).set k.toNat [.lit (.int .i64 (at0 R k.toNat).k),.lit (.int .i64 n),.lit (.string (at0 R k.toNat).s)]=rowD (setN R k n):=by unfold setN rowD;rw[dU];rfl
theorem atp(R)(k n):(setN R k n).length=R.length:=by simp[setN]
def adc(p q)(more)(x y)(i g):=setN (setN (x++pickL y more) p i) q g
def Kj(g i:Int)(left right:am Int)(j l)(x y):=
 qK (at0 y g.toNat) (at0 y i.toNat)&&(!decide (yL true j (at0 y g.toNat).n>=yL false l (at0 y i.toNat).n)&&ZQ (pickL x left) (pickL y right))
def jM(p q g i:Int)(left right more:am Int)(x:am Val)(j l:Int)(ys:am (am Val)):=
 ys.flatMap λy=>bif Kj g i left right j l x y then [adc p q more x y (yL true j (at0 y g.toNat).n) (yL false l (at0 y i.toNat).n)]else []
theorem aiK(p q g i)(left right more)(x)(j l):∀ys,(jM p q g i left right more x j l ys).length<=ys.length
 |[]=>aO _
 |y::r=>by
  have:=aiK p q g i left right more x j l r;have e:jM p q g i left right more x j l (y::r)=(bif Kj g i left right j l x y then [adc p q more x y (yL true j (at0 y g.toNat).n) (yL false l (at0 y i.toNat).n)]else [])++jM p q g i left right more x j l r:=by simp[jM]
  rw[e,aC,aN];cases Kj g i left right j l x y
  .show 0+_<=_;omega
  show 1+_<=_;omega
def ovS(cols bc:am Col)(br:am (am Val))(left right:am Int)(p q l o:Int)(more:am Int)(g:am (am Val))(i:Nat)(x:am Val)(r I:Int)(j:Nat)(out:am (am Val)):S:=
 ⟨[(4,cV (.ptr 4 0)),(6,cV (.ptr 6 0)),(10,.w (.c (.d (.sl (zB left))))),(11,.w (.c (.d (.sl (zB right))))),(12,.w (.c (.d (.sl (zB [p,q]))))),(13,.w (.c (.d (.sl (zB [l,o]))))),(14,.w (.c (.d (.sl (zB more))))),(15,cV (.ptr 15 0)),(17,.w (zE x)),(18,cV (.ptr 18 0)),(60,.w (.c (.d (.sl (zd g))))),(61,zh g.length),(62,zh i),(75,.w (.c (.d (.sl (zd br))))),(76,zh br.length),(77,zh j)],
 [(4,.box [.d (.sl (zj bc)),.d (.sl (zd br))]),(6,.box [.nil,.nil]),(15,.box [.d (.sl (zj cols)),.own 143 1 out.length]),(18,.box [int r,int I]),(143,.arr 1 (zd out) false)]⟩
theorem aHH{Q:E->S->Prop}{s}(cols bc:am Col)(br)(left right:am Int)(p q I J:Int)(more:am Int)(ar:am (am Val))(i)(x:am Val)(o r)(out:am (am Val))
 (av:out.length+br.length<=20000) (az:left.length<=100000) (a1:right.length<=100000) (a0:more.length<=100000) (a2:x.length<=100000) (hx:yB x.length left) (hp:0<=p/\p<x.length) (hq:0<=q/\q<x.length)
 (hy:∀y∈br,yB y.length right/\yB y.length more/\yB y.length [I,J])
 (h0:xO s [4,6,10,11,12,13,14,15,17,18,60,61,62,75,76,77] (· =ovS cols bc br left right p q I J more ar i x o r 0 out))
 (hQ:Q (.exit 2) (y5 (ovS cols bc br left right p q I J more ar i x o r br.length (out++jM p q I J left right more x o r br)) 78 (yf (decide ((br.length:Int)<br.length))))):
 z6 (mwpR Pg T8.f (qh.l 0)) [4,6,10,11,12,13,14,15,17,18,60,61,62,75,76,77] Q s:=by
 refine zX (P:=Pg) (f:=T8.f) (body:=(qh.l 0)) br.length (λj=>ovS cols bc br left right p q I J more ar i x o r j (out++jM p q I J left right more x o r (br.take j))) (λ_=>True) ⟨trivial,?_⟩ ?_
 .grind[jM]
 clear h0;intro j hj _;have ad:j<br.length->(out++jM p q I J left right more x o r (br.take j)).length<20000:=λh=>by grind[aiK]
 have g:∀h:j<br.length,out++jM p q I J left right more x o r (br.take (j+1))=(out++jM p q I J left right more x o r (br.take j))++(bif Kj I J left right o r x br[j]then [adc p q more x br[j] (yL true o (at0 br[j] I.toNat).n) (yL false r (at0 br[j] J.toNat).n)]else []):=λh=>by grind[jM,zD]
 have aa:j=br.length->out++jM p q I J left right more x o r br=out++jM p q I J left right more x o r (br.take j):=λh=>ek
 show mwpR Pg T8.f (qh.l 0) _ (ovS cols bc br left right p q I J more ar i x o r j (out++jM p q I J left right more x o r (br.take j)));generalize out++jM p q I J left right more x o r (br.take j)=T at*;have an:(zd T).take T.length=zd T:=by grind[zq]
 unfold ovS;refine Zc (λU=>?_) (λae=>?_)
 .have hg:=zZ U;have g:=g U;obtain⟨aq,au,ah⟩:=hy _ (aL U);have wi:=zu U ej;have ab:=ajo br[j] I J (ah _ ep) (ah _ ep);have aj:=XA x left ej hx;have al:=XA br[j] right ej aq;have ak:=XA br[j] more ej au;have ai:=aoy (pickL x left) (pickL br[j] right);have ad:=ad U;have ac:((T.length:Int)==20000)=false:=ew
  clear hQ aa hy;unfold Kj at g;generalize br[j]=y at*;generalize at0 y I.toNat=u1 at*;generalize at0 y J.toNat=u2,ZQ (pickL x left) (pickL y right)=ag at*;unfold alA at ab;generalize qK u1 u2=b at*;obtain⟨_,u1,_⟩:=u1;obtain⟨_,u2,_⟩:=u2;simp only at ab g;refine zw hg ?_;refine aF ab ?_;cases b with
  |false=>
   have g:out++jM p q I J left right more x o r (br.take (j+1))=T:=eu
   refine zI U trivial ?_;rw[wi,g];rfl
  |true=>
   rw[bP]at g;refine zg (b:=false||decide (yL true o u1>=yL false r u2)) (λh2=>?_) (λh2=>?_)
   .rw[Bool.false_or]at h2;have g:out++jM p q I J left right more x o r (br.take (j+1))=T:=eu
    refine zI U trivial ?_;rw[wi,g];rfl
   rw[Bool.false_or]at h2;rw[h2,cG,bP]at g;refine aF aj ?_;refine aF al ?_;refine aF ai ?_;cases ag with
   |false=>
    have g:out++jM p q I J left right more x o r (br.take (j+1))=T:=eu
    refine zI U trivial ?_;rw[wi,g];rfl
   |true=>
    rw[aE]at g;refine zg (λh3=>?_) (λh3=>?_)
    .have h3:((T.length:Int)==20000)=true:=h3;rw[ac]at h3;cases h3
    (conv=>whnf);refine aX (Yn x ej) ?_;rintro _ (⟨af,rfl⟩|rfl)
    .subst af;simp at hp;omega
    refine aF ak ?_;refine⟨Un _,by grind[zW,zp,pickL],by grind[zp,pickL],?_⟩;(conv=>whnf);rw[show aI (rowD x).length (rowD x)++rowD (pickL y more)=rowD (x++pickL y more)by grind[rowD],show(rowD x).length+(rowD (pickL y more)).length=(x++pickL y more).length by simp[zp]];have ay:x.length<=(x++pickL y more).length:=ep
    unfold adc at g;generalize x++pickL y more=R at*;refine xK ?_;refine xK ?_;refine⟨hp.1,ej,?_⟩;(conv=>whnf);refine⟨(at0 R p.toNat).ds,wH ej,cI rfl,?_⟩;(conv=>whnf);rw[show(rowD R).set p.toNat (zM (at0 R p.toNat).ds 1 [.lit (.int .i64 (yL true o u1))])=rowD (setN R p (yL true o u1))from aos _ _ _];generalize yL true o u1=lo at*;have aw:=atp R p lo;generalize setN R p lo=R1 at*;refine⟨hq.1,ej,?_⟩;(conv=>whnf);refine⟨(at0 R1 q.toNat).ds,wH ej,cI rfl,?_⟩;(conv=>whnf);rw[show(rowD R1).set q.toNat (zM (at0 R1 q.toNat).ds (0+1) [.lit (.int .i64 (yL false r u2))])=rowD (setN R1 q (yL false r u2))from aos _ _ _];generalize yL false r u2=hi at*;have ax:=atp R1 q hi;generalize setN R1 q hi=R2 at*;have ao:aI R.length (rowD R2)=rowD R2:=by grind[zp]
    rw[ao];refine yQ ?_;refine zI U trivial ?_;rw[wi,an,g,qR,aC];rfl
 rw[aa ae]at hQ;subst ae;(conv=>whnf);exact hQ
def kB(p q g i)(left right more)(br)(x):=
 bif qK (at0 x p.toNat) (at0 x q.toNat)then jM p q g i left right more x (at0 x p.toNat).n (at0 x q.toNat).n br else []
def vm(p q i j:Int)(left right more:am Int)(g br:am (am Val)):=g.flatMap (kB p q i j left right more br)
theorem axJ(p q g i)(left right more)(br)(x):(kB p q g i left right more br x).length<=br.length:=by
 unfold kB;cases qK (at0 x p.toNat) (at0 x q.toNat)
 .simp_all
 grind[aiK]
theorem afA(p q g i)(left right more)(br):∀xs,(vm p q g i left right more xs br).length<=xs.length*br.length
 |[]=>by simp[vm]
 |x::r=>by have l:=axJ p q g i left right more br x;have j:=afA p q g i left right more br r;simp only[vm,dW,aC,aN]at j⊢;rw[Nat.add_mul];omega
def aCW(cols bc:am Col)(br:am (am Val))(left right:am Int)(p q j l:Int)(more:am Int)(g:am (am Val))(i:Nat)(out:am (am Val)):S:=
 ⟨[(4,cV (.ptr 4 0)),(6,cV (.ptr 6 0)),(10,.w (.c (.d (.sl (zB left))))),(11,.w (.c (.d (.sl (zB right))))),(12,.w (.c (.d (.sl (zB [p,q]))))),(13,.w (.c (.d (.sl (zB [j,l]))))),(14,.w (.c (.d (.sl (zB more))))),(15,cV (.ptr 15 0)),(60,.w (.c (.d (.sl (zd g))))),(61,zh g.length),(62,zh i)],
 [(4,.box [.d (.sl (zj bc)),.d (.sl (zd br))]),(6,.box [.nil,.nil]),(15,.box [.d (.sl (zj cols)),.own 143 1 out.length]),(143,.arr 1 (zd out) false)]⟩
noncomputable def ovRest:ACode:=qD (qD (qD (qD (qD (qD (qD (qD qh.A.code)))))))
theorem aHI{s}(cols bc:am Col)(br)(left right:am Int)(p q j o)(more:am Int)(g:am (am Val))
 (ag:g.length*br.length<=20000) (ah:g.length<=1000000) (ai:left.length<=100000) (ak:right.length<=100000) (aj:more.length<=100000)
 (hx:∀x∈g,x.length<=100000/\yB x.length left/\yB x.length [p,q])
 (hy:∀y∈br,yB y.length right/\yB y.length more/\yB y.length [j,o])
 (h0:xO s [4,6,10,11,12,13,14,15,60,61,62] (· =aCW cols bc br left right p q j o more g 0 [])):
 z6 (mwpR Pg T8.f (qh.l 1)) [4,6,10,11,12,13,14,15,60,61,62] (Qo 0 (aa3 (mwpR Pg T8.f ovRest) (Jq qh.A.res [] (DQ (qQ ⟨cols,vm p q j o left right more g br⟩ 0))))) s:=by
 refine zX (P:=Pg) (f:=T8.f) (body:=(qh.l 1)) g.length (λi=>aCW cols bc br left right p q j o more g i (vm p q j o left right more (g.take i) br)) (λ_=>True) ⟨trivial,h0⟩ ?_
 clear h0;intro i hi _;have I:∀h:i<g.length,vm p q j o left right more (g.take (i+1)) br=vm p q j o left right more (g.take i) br++kB p q j o left right more br g[i]:=λh=>by grind[vm,zD]
 have aa:g.length<=i->vm p q j o left right more g br=vm p q j o left right more (g.take i) br:=λh=>ek
 have T:i<g.length->(vm p q j o left right more (g.take i) br).length+br.length<=20000:=λh=>by
  have h1:=afA p q j o left right more br (g.take i);rw[dp,Nat.min_eq_left ej]at h1;have h2:(i+1)*br.length<=g.length*br.length:=bH _ h
  grind
 have R:=λ(Q':E->S->Prop) (s':S) (x:am Val) (s1 s2:Int)=>aHH (Q:=Q') (s:=s') cols bc br left right p q j o more g i x s1 s2 (vm p q j o left right more (g.take i) br)
 show mwpR Pg T8.f (qh.l 1) _ (aCW cols bc br left right p q j o more g i (vm p q j o left right more (g.take i) br));generalize vm p q j o left right more (g.take i) br=U at*;have ad:(zd U).take U.length=zd U:=by grind[zq]
 refine xL (λr=>?_) (λac=>?_)
 .have hg:=zZ r;have I:=I r;have T:=T r;obtain⟨ae,af,J⟩:=hx _ (aL r);have wi:=zu r ej;have ab:=ajo g[i] p q (J _ ep) (J _ ep);have R:=λQ' s' s1 s2=>R Q' s' g[i] s1 s2 T ej ej ej ae af (J _ ep) (J _ ep) hy
  unfold kB at I;generalize g[i]=x at*;generalize at0 x p.toNat=u1 at*;generalize at0 x q.toNat=u2 at*;unfold alA at ab;generalize qK u1 u2=b at*;obtain⟨_,u1,_⟩:=u1;obtain⟨_,u2,_⟩:=u2;refine zw hg ?_;refine aF ab ?_;cases b with
  |false=>
   have I:vm p q j o left right more (g.take (i+1)) br=U:=by rw[I,aA,dC]
   refine zI r trivial ?_;rw[wi,I];rfl
  |true=>
   refine R _ _ u1 u2 (zi ?_) ?_
   ·(conv=>whnf);rw[zq];rfl
   refine zI r trivial ?_;rw[wi,I];rfl
 rw[aa ac];refine⟨rfl,?_⟩;refine dV (b:=⟨.tup [.agg [.d (.sl (zj cols)),.d (.sl ((zd U).take U.length))],.c (int 0)],[]⟩) rfl ?_;rw[ad];rfl
theorem qa{t}(h:tblErr t=0):t.cols.length<=32/\t.rows.length<=20000:=by
 obtain⟨g,_⟩:=zY ej h
 grind
theorem ww{b}{e}{y:Int×am Col}(g:b=true->e≠0)(h:(bif b then(e,([]:am Col))else y).1=0):b=false/\(bif b then(e,([]:am Col))else y)=y:=ek
theorem Q4{cols tc}:∀{cs:am ByteArray},jnErr cols tc cs=0->yB cols.length (zf cols cs)/\yB tc.length (zf tc cs)
 |[],_=>bO (λk hk=>by cases hk) (λk hk=>by cases hk)
 |s::r,h=>by
  obtain⟨g,h⟩:=zY ej h;obtain⟨_,h⟩:=zY ej h;obtain⟨i,j⟩:=Q4 h;simp only[bT,bK]at g;refine⟨λk hk=>?_,λk hk=>?_⟩
  .rcases aP.1 hk with rfl|hk
   .grind[xJ]
   exact i k hk
  rcases aP.1 hk with rfl|hk
  .grind[xJ]
  exact j k hk
theorem vL{cols}{s}(h:colInt cols s=0):0<=ze cols s/\ze cols s<cols.length:=by obtain⟨g,_⟩:=zY ej h<;>simp_all[xJ]
theorem UX{cols}:∀{i:am ByteArray},intErr cols i=0->yB cols.length (zf cols i)
 |[],_=>λk hk=>by cases hk
 |s::r,h=>by
  simp only[intErr]at h;cases g:(colInt cols s !=0)
  .rw[g,aA]at h;intro k hk;rcases aP.1 hk with rfl|hk
   .exact vL (by simpa using g)
   exact UX h k hk
  rw[g,aE]at h;rw[h]at g;cases g
structure JnOK(sp:am ByteArray)(cols tc:am Col)(cs:am ByteArray)(R:am Col):Prop where
 jn:jnErr cols tc cs=0
 i1:intErr cols sp=0
 i2:intErr tc sp=0
 dup:dupL [] (cols++keepS sp cs tc)=false
 few:(cols++keepS sp cs tc).length<=32
 two:sp.any (hasB cs)=false
 eq:R=cols++keepS sp cs tc
theorem Z0{i}{d}{cols}{cs}{g}(h:(Xm i d cols cs g).1=0):∃t,zC g d=some t/\JnOK i cols t.cols cs (Xm i d cols cs g).2:=by
 unfold Xm at h⊢;cases hf:zC g d with
 |none=>grind
 |some t=>
  rw[hf]at h;simp only at h⊢;obtain⟨I,e1⟩:=ww ek h;rw[e1]at h⊢;unfold amj at h⊢;obtain⟨J,j⟩:=ww ep h;rw[j]at h⊢;obtain⟨P,l⟩:=ww ep h;rw[l]at h⊢;obtain⟨R,o⟩:=ww ep h;rw[o]at h⊢;obtain⟨T,p⟩:=ww ek h;rw[p]at h⊢;obtain⟨U,r⟩:=ww (by intro _;omega) h;rw[r];exact⟨t,rfl,by simpa using J,by simpa using P,by simpa using R,T,by simp only[bK]at U;omega,I,rfl⟩
theorem WC{d}{cols}{st}(h:(yu d cols st).1=0):st.err=0:=by have:=(ww ep h).1<;>simp_all
theorem jz{d}{cols}{st}(g:st.op=6\/st.op=7\/st.op=8)(h:(yu d cols st).1=0):yu d cols st=Xm (Uw st.op) d cols st.cols st.table:=by grind[yu]
theorem av8{op}{on}{a b}(g:op=6\/op=7\/op=8)(h:(XF op on a b).1=0):tblErr a=0/\tblErr b=0/\JnOK (Uw op) a.cols b.cols on (XF op on a b).2:=by
 unfold XF at h⊢;obtain⟨r,e1⟩:=ww ep h;rw[e1]at h⊢;obtain⟨I,j⟩:=ww ep h;rw[j]at h⊢;have l:=jz (st:=qb op on uB) g h;rw[l]at h⊢;obtain⟨t,i,p⟩:=Z0 h;have o:zC (qb op on uB).table [⟨uB,b⟩]=some b:=by
  show(bif zl uB uB then some b else none)=some b
  grind[AM.beqS_self]
 rw[o]at i;cases i;exact⟨ek,ek,p⟩
def ovQ(a b)(on):=bif (XF 7 on a b).1 !=0 then qQ ⟨[],[]⟩ (XF 7 on a b).1 else
 qQ ⟨(XF 7 on a b).2,vm (ze a.cols sFrom) (ze a.cols sTo) (ze b.cols sFrom) (ze b.cols sTo) (zf a.cols on) (zf b.cols on) (oth (on++[sFrom,sTo]) 0 b.cols) a.rows b.rows⟩ 0
theorem Ww(on):∀(l) (i:Nat),(oth on i l).length<=l.length
 |[],_=>aO _
 |c::r,i=>by have:=Ww on r (i+1);simp only[oth,aC,aN];cases(!hasB on c.name)<;>simp<;>omega
theorem aAh(on)(l):yB l.length (oth on 0 l):=λk hk=>by have:=amL on l 0 k hk;omega
theorem auF(a b)(on)(ag:on.length<=100000)(ab:a.cols.length<=1000000)(l:b.cols.length<=1000000)(o:a.rows.length*b.rows.length<=20000):ex U3 [a.w,b.w,.c (.d (.sl (zo on)))] (ovQ a b on):=by
 have hc:=alq 7 on a b ej ab l;have g:=@av8 7 on a b ej;have ae:=uY a.cols (.sl (zd a.rows)) on ej;have af:=uY b.cols (.sl (zd b.rows)) on ej;have R:=uY a.cols (.sl (zd a.rows)) [sFrom,sTo] ep;have T:=uY b.cols (.sl (zd b.rows)) [sFrom,sTo] ep;have J:=atc b.cols (.sl (zd b.rows)) (on++[sFrom,sTo]) l;have ad:=JW on ej;have P:ex Vk [b.w,.c (.d (.sl (aI ((zo on).length+(aI 2 (zo [sFrom,sTo])).length) (aI (zo on).length (zo on)++aI 2 (zo [sFrom,sTo])))))] (rC (.d (.sl (zB (oth (on++[sFrom,sTo]) 0 b.cols))))):=by
  rw[show aI ((zo on).length+(aI 2 (zo [sFrom,sTo])).length) (aI (zo on).length (zo on)++aI 2 (zo [sFrom,sTo]))=zo (on++[sFrom,sTo])by grind[zo]]
  exact J
 unfold ovQ;generalize XF 7 on a b=c at*;obtain⟨c1,c2⟩:=c;simp only at g⊢;refine zJ ?_;obtain⟨ac,ar⟩:=a;obtain⟨bc,br⟩:=b;simp only at*;refine qh.s T8 ?_;refine aF hc ?_;refine zt (λi=>?_) (λi=>?_)
 .rw[show(c1 !=0)=true from i];exact⟨rfl,rfl⟩
 have i:(c1 !=0)=false:=i;rw[i];have aa:c1=0:=ek
 subst aa;obtain⟨ka,kb,U⟩:=g rfl;obtain⟨i1,i2⟩:=Q4 U.jn;have i3:=UX U.i1;have i4:=UX U.i2;have wa:=wJ ka;have wb:=wJ kb;have fa:=qa ka;have fb:=qa kb;have ol:=Ww (on++[sFrom,sTo]) bc 0;have oi:=aAh (on++[sFrom,sTo]) bc;have p1:zf ac [sFrom,sTo]=[ze ac sFrom,ze ac sTo]:=rfl;have p2:zf bc [sFrom,sTo]=[ze bc sFrom,ze bc sTo]:=rfl;have l1:(zf ac on).length=on.length:=by simp[zf]
 have l2:(zf bc on).length=on.length:=by simp[zf]
 have hm:=λ(s:S)=>aHI (s:=s) c2 bc br (zf ac on) (zf bc on) (ze ac sFrom) (ze ac sTo) (ze bc sFrom) (ze bc sTo) (oth (on++[sFrom,sTo]) 0 bc) ar o ek ej ej ek
  (λx hx=>by have j:=wa x hx;have:=fa.1;simp only at this j;exact⟨ej,ek,by rw[j];exact i3⟩)
  (λy hy=>by have j:=wb y hy;simp only at j;exact⟨ek,ek,by rw[j];exact i4⟩)
 rw[p1]at R;rw[p2]at T;clear i1 i2 i3 i4 wa wb fa fb ol oi p1 p2 l1 l2 U ka kb g i;generalize ze ac sFrom=p,ze ac sTo=q,ze bc sFrom=p2,ze bc sTo=q2,zf ac on=left,zf bc on=right,oth (on++[sFrom,sTo]) 0 bc=more at*;refine aF ae ?_;refine aF af ?_
 repeat' (first
  |(refine aX R ?_;rintro _ rfl;conv=>whnf)
  |(refine aX T ?_;rintro _ rfl;conv=>whnf)
  |(refine aX ad ?_;rintro _ (⟨I,rfl⟩|rfl)<;>conv=>whnf)
  |(refine⟨ep,by unfold zW;simp only[zA];simp;omega,by simp only[zA];simp;omega,?_⟩;conv=>whnf)
  |(refine⟨ep,by unfold zW;simp,ep,?_⟩;conv=>whnf)
  |(refine aX P ?_;rintro _ rfl;conv=>whnf)
  |(subst I;refine aX J ?_;rintro _ rfl;conv=>whnf)
  |(refine bO ?_ ?_<;>conv=>whnf))
 all_goals rw[zq]
 all_goals refine hm _ ⟨_,YP 15 1 143 1 ej ej rfl,?_⟩
 all_goals conv=>whnf
 all_goals rfl
def ZN(u v:Val)(g):=!((u.k==0||v.k==0)||decide (v.n>u.n))&&g
def Xy(g:Int)(y:am Val):bC (am Val)->bC (am Val)
 |none=>some y
 |some z=>bif decide ((at0 y g.toNat).n>=(at0 z g.toNat).n)then some y else some z
def kA(p g:Int)(left right:am Int)(x:am Val)(ys:am (am Val)):=
 ys.foldl (λb y=>bif ZN (at0 x p.toNat) (at0 y g.toNat) (ZQ (pickL x left) (pickL y right))then Xy g y b else b) none
def nrS(cols bc:am Col)(br:am (am Val))(left right:am Int)(p l:Int)(more:am Int)(g:am (am Val))(i:Nat)(out:am (am Val))(x:am Val)(b:Int)(j:Nat):S:=
 ⟨[(4,cV (.ptr 4 0)),(6,cV (.ptr 6 0)),(10,.w (.c (.d (.sl (zB left))))),(11,.w (.c (.d (.sl (zB right))))),(12,zh p),(13,zh l),(14,.w (.c (.d (.sl (zB more))))),(15,cV (.ptr 15 0)),(17,.w (zE x)),(18,zh b),(55,.w (.c (.d (.sl (zd g))))),(56,zh g.length),(57,zh i),(62,.w (.c (.d (.sl (zd br))))),(63,zh br.length),(64,zh j)],
 [(4,.box [.d (.sl (zj bc)),.d (.sl (zd br))]),(6,.box [.nil,.nil]),(15,.box [.d (.sl (zj cols)),.own 139 1 out.length]),(139,.arr 1 (zd out) false)]⟩
def nrR(br:am (am Val))(B:bC (am Val))(b):=(b= -1/\B=none)\/(0<=b/\∃h:b.toNat<br.length,B=some br[b.toNat])
theorem aHF{Q:E->S->Prop}{s}(cols bc:am Col)(br:am (am Val))(left right:am Int)(p o:Int)(more:am Int)(ar:am (am Val))(i)(out:am (am Val))(x:am Val)
 (ao:br.length<=1000000) (aq:left.length<=100000) (au:right.length<=100000) (hx:yB x.length left) (hp:0<=p/\p<x.length)
 (hy:∀y∈br,yB y.length right/\(0<=o/\o<y.length))
 (h0:xO s [4,6,10,11,12,13,14,15,17,18,55,56,57,62,63,64] (· =nrS cols bc br left right p o more ar i out x (-1) 0))
 (hQ:∀b,nrR br (kA p o left right x br) b->Q (.exit 2) (y5 (nrS cols bc br left right p o more ar i out x b br.length) 65 (yf (decide ((br.length:Int)<br.length))))):
 z6 (mwpR Pg T8.f (qg.l 0)) [4,6,10,11,12,13,14,15,17,18,55,56,57,62,63,64] Q s:=by
 refine yD (P:=Pg) (f:=T8.f) (body:=(qg.l 0)) (λz:Nat×Int=>nrS cols bc br left right p o more ar i out x z.2 z.1) (λz=>br.length-z.1) (λz=>z.1<=br.length/\nrR br (kA p o left right x (br.take z.1)) z.2) ⟨(0, -1),⟨bD _,.inl ⟨rfl,rfl⟩⟩,h0⟩ ?_
 clear h0;rintro⟨j,b⟩ hz;obtain⟨hj,I⟩:j<=br.length/\nrR br (kA p o left right x (br.take j)) b:=hz;have g:∀h:j<br.length,kA p o left right x (br.take (j+1))=bif ZN (at0 x p.toNat) (at0 br[j] o.toNat) (ZQ (pickL x left) (pickL br[j] right))then Xy o br[j] (kA p o left right x (br.take j))else kA p o left right x (br.take j):=λh=>by grind[kA,zD]
 have J:j=br.length->kA p o left right x br=kA p o left right x (br.take j):=λh=>ek
 show mwpR Pg T8.f (qg.l 0) _ (nrS cols bc br left right p o more ar i out x b j);generalize kA p o left right x (br.take j)=B at*;unfold nrS;refine Zc (λr=>?_) (λaa=>?_)
 .have hg:=zZ r;have g:=g r;obtain⟨al,an⟩:=hy _ (aL r);have wi:=zu r ej;have aj:=XA x left ej hx;have ak:=XA br[j] right ej al;have ac:=aoy (pickL x left) (pickL br[j] right);have ae:=wH (R:=x) (k:=p) ej;have af:=wH (R:=br[j]) (k:=o) ej;have ab:nrR br (some br[j]) j:=.inr ⟨ej,ek,ep⟩;clear J;clear hQ;generalize br[j]=y at*;unfold ZN at g;generalize ZQ (pickL x left) (pickL y right)=ag,hu:at0 x p.toNat=u,hv:at0 y o.toNat=v at*;obtain⟨u1,u2,u3⟩:=u;obtain⟨v1,v2,v3⟩:=v;simp only at g;refine zw hg ?_
  repeat' (first
   |(refine⟨hp.1,_,ae,rfl,?_⟩;conv=>whnf)
   |(refine⟨an.1,_,af,rfl,?_⟩;conv=>whnf)
   |(refine bO ?_ ?_<;>conv=>whnf))
  all_goals (
   refine zt (b:=(u1==0||v1==0)||decide (v2>u2)) (λh=>?_) (λh=>?_)
   .rw[h,Bool.not_true,c8,aA]at g;(conv=>whnf);refine⟨(j+1,b),⟨⟨r,by rw[g];exact I⟩,by show br.length-(j+1)<br.length-j;omega⟩,zi ?_⟩;(conv=>whnf);rw[wi];rfl
   rw[h,cG,bP]at g;refine aF aj ?_;refine aF ak ?_;refine aF ac ?_;cases ag with
   |false=>
    rw[aA]at g;(conv=>whnf);refine⟨(j+1,b),⟨⟨r,by rw[g];exact I⟩,by show br.length-(j+1)<br.length-j;omega⟩,zi ?_⟩;(conv=>whnf);rw[wi];rfl
   |true=>
    rw[aE]at g;refine zg (λT=>?_) (λT=>?_)
    .have T:b<0:=aV T;obtain⟨rfl,rfl⟩:b= -1/\B=none:=by
      rcases I with I|⟨I,_⟩
      .exact I
      omega
     (conv=>whnf);refine⟨(j+1,(j:Int)),⟨⟨r,by rw[g];exact ab⟩,by show br.length-(j+1)<br.length-j;omega⟩,zi ?_⟩;(conv=>whnf);rw[wi];rfl
    have T:¬b<0:=aR T;obtain⟨ad,U,rfl⟩:0<=b/\∃h:b.toNat<br.length,B=some br[b.toNat]:=by
     rcases I with⟨rfl,_⟩|I
     .omega
     exact I
    have ai:(zd br)[b.toNat]?=some [.sl (rowD br[b.toNat])]:=by simp[zd,am.getElem?_eq_getElem U]
    have hz:=(hy _ (aL U)).2;simp only[Xy,hv]at g;generalize br[b.toNat]=z at*;have ah:=wH (R:=z) (k:=o) ej;generalize at0 z o.toNat=w at*;obtain⟨w1,w2,w3⟩:=w;simp only at g;(conv=>whnf);refine⟨ad,_,ai,rfl,?_⟩;(conv=>whnf);refine⟨hz.1,_,ah,rfl,?_⟩;refine zg (b:=decide (v2>=w2)) (λh3=>?_) (λh3=>?_)
    .rw[h3,aE]at g;(conv=>whnf);refine⟨(j+1,(j:Int)),⟨⟨r,by rw[g];exact ab⟩,by show br.length-(j+1)<br.length-j;omega⟩,zi ?_⟩;(conv=>whnf);rw[wi];rfl
    rw[h3,aA]at g;(conv=>whnf);refine⟨(j+1,b),⟨⟨r,by rw[g];exact I⟩,by show br.length-(j+1)<br.length-j;omega⟩,zi ?_⟩;(conv=>whnf);rw[wi];rfl)
 rw[<-J aa]at I;subst aa;(conv=>whnf);exact hQ b I
def avI(more:am Int):bC (am Val)->am Val
 |none=>aB more.length zF
 |some z=>pickL z more
def vA(p g)(left right more)(br)(x):=x++avI more (kA p g left right x br)
def axD(cols bc:am Col)(br:am (am Val))(left right:am Int)(p j:Int)(more:am Int)(g:am (am Val))(i:Nat)(out:am (am Val)):S:=
 ⟨[(4,cV (.ptr 4 0)),(6,cV (.ptr 6 0)),(10,.w (.c (.d (.sl (zB left))))),(11,.w (.c (.d (.sl (zB right))))),(12,zh p),(13,zh j),(14,.w (.c (.d (.sl (zB more))))),(15,cV (.ptr 15 0)),(55,.w (.c (.d (.sl (zd g))))),(56,zh g.length),(57,zh i)],
 [(4,.box [.d (.sl (zj bc)),.d (.sl (zd br))]),(6,.box [.nil,.nil]),(15,.box [.d (.sl (zj cols)),.own 139 1 out.length]),(139,.arr 1 (zd out) false)]⟩
noncomputable def nrRest:ACode:=qD (qD (qD (qD (qD (qD (qD (qD qg.A.code)))))))
theorem aHG{s}(cols bc:am Col)(br:am (am Val))(left right:am Int)(p j:Int)(more:am Int)(g:am (am Val))
 (aw:g.length<=100000) (ai:br.length<=1000000) (al:left.length<=100000) (ao:right.length<=100000) (ax:more.length<=100000)
 (hx:∀x∈g,x.length<=100000/\yB x.length left/\(0<=p/\p<x.length))
 (hy:∀y∈br,yB y.length right/\yB y.length more/\(0<=j/\j<y.length))
 (h0:xO s [4,6,10,11,12,13,14,15,55,56,57] (· =axD cols bc br left right p j more g 0 [])):
 z6 (mwpR Pg T8.f (qg.l 1)) [4,6,10,11,12,13,14,15,55,56,57] (Qo 0 (aa3 (mwpR Pg T8.f nrRest) (Jq qg.A.res [] (DQ (qQ ⟨cols,g.map (vA p j left right more br)⟩ 0))))) s:=by
 refine zX (P:=Pg) (f:=T8.f) (body:=(qg.l 1)) g.length (λi=>axD cols bc br left right p j more g i ((g.take i).map (vA p j left right more br))) (λ_=>True) ⟨trivial,h0⟩ ?_
 clear h0;intro i hi _;have o:∀h:i<g.length,(g.take (i+1)).map (vA p j left right more br)=(g.take i).map (vA p j left right more br)++[vA p j left right more br g[i]]:=λh=>by grind[zD]
 have aa:g.length<=i->g.map (vA p j left right more br)=(g.take i).map (vA p j left right more br):=λh=>ek
 have av:((g.take i).map (vA p j left right more br)).length=i:=ew
 have R:=λ(Q':E->S->Prop) (s':S) (x:am Val)=>aHF (Q:=Q') (s:=s') cols bc br left right p j more g i ((g.take i).map (vA p j left right more br)) x ai al ao
 show mwpR Pg T8.f (qg.l 1) _ (axD cols bc br left right p j more g i ((g.take i).map (vA p j left right more br)));generalize(g.take i).map (vA p j left right more br)=U at*;have ac:(zd U).take U.length=zd U:=by grind[zq]
 unfold axD;refine xL (λr=>?_) (λaj=>?_)
 .have hg:=zZ r;have o:=o r;obtain⟨az,aq,ad⟩:=hx _ (aL r);have wi:=zu r ej;have R:=λQ' s'=>R Q' s' g[i] aq ad (λy h=>⟨(hy y h).1,(hy y h).2.2⟩)
  have ag:=Yn g[i] ej;clear aa hx;unfold vA at o;generalize g[i]=x at*;generalize kA p j left right x br=B at*;refine zw hg ?_;refine R _ _ (zi ?_) ?_
  ·(conv=>whnf);unfold nrS;rw[zq];rfl
  intro b hR;unfold y5 nrS;rcases hR with⟨rfl,rfl⟩|⟨ah,af,rfl⟩
  .have o:(g.take (i+1)).map (vA p j left right more br)=U++[x++aB more.length zF]:=o;have au:aB (((zB more).length:Int)).toNat aat=rowD (aB more.length zF):=by rw[xg];simp[rowD];exact .inr rfl
   have ab:(((zB more).length:Int)).toNat=more.length:=by grind[xg]
   (conv=>whnf);refine⟨ej,ej,by grind[zW],ek,?_⟩;have ae:∀y∈aI (((zB more).length:Int)).toNat (aB (((zB more).length:Int)).toNat aat),y.length=3:=by grind[Un]
   have J:(rowD x).length+(aI (((zB more).length:Int)).toNat (aB (((zB more).length:Int)).toNat aat)).length<=1000000:=by grind[zp]
   have T:aI ((rowD x).length+(aI (((zB more).length:Int)).toNat (aB (((zB more).length:Int)).toNat aat)).length) (aI (rowD x).length (rowD x)++aI (((zB more).length:Int)).toNat (aB (((zB more).length:Int)).toNat aat))=rowD (x++aB more.length zF):=by rw[au,ab,show aI more.length (rowD (aB more.length zF))=rowD (aB more.length zF)by rw[show more.length=(rowD (aB more.length zF)).length by grind];simp[rowD],aS,jr,show(rowD x).length+(rowD (aB more.length zF)).length=(rowD (x++aB more.length zF)).length by simp[zp],aS]
   unfold aat at T;(conv=>whnf)
   repeat' (first
    |(refine aX ag ?_;rintro _ (⟨I,rfl⟩|rfl);(subst I;simp at ad;omega);(conv=>whnf))
    |(refine⟨ae,by unfold zW;have:=J;exact aJ (bH _ this) ej,aJ J ej,?_⟩;conv=>whnf)
    |(refine⟨ep,by unfold zW;simp;omega,ew,?_⟩;conv=>whnf)
    |(refine⟨r,trivial,zi ?_⟩;(conv=>whnf);rw[wi,ac,o,T,qR,aC];rfl)
    |(refine bO ?_ ?_<;>conv=>whnf))
  have o:(g.take (i+1)).map (vA p j left right more br)=U++[x++pickL br[b.toNat] more]:=o;have ak:(zd br)[b.toNat]?=some [.sl (rowD br[b.toNat])]:=by simp[zd,am.getElem?_eq_getElem af]
  have an:=XA br[b.toNat] more ej (hy _ (aL af)).2.1;have ay:(pickL br[b.toNat] more).length=more.length:=by simp[pickL]
  generalize br[b.toNat]=z at*;generalize pickL z more=F at*;have ab:(((zB more).length:Int)).toNat=more.length:=by grind[xg]
  have ae:∀y∈rowD F,y.length=3:=Un _;have J:(rowD x).length+(rowD F).length<=1000000:=by simp only[zp];omega
  have T:aI ((rowD x).length+(rowD F).length) (aI (rowD x).length (rowD x)++rowD F)=rowD (x++F):=by rw[aS,jr,show(rowD x).length+(rowD F).length=(rowD (x++F)).length by simp[zp],aS]
  (conv=>whnf);refine⟨ej,ej,by unfold zW;rw[ab];omega,by rw[xg];omega,?_⟩;refine zg (λh2=>?_) (λh2=>?_)
  .refine zw ak ?_ (hA:=ah);refine aF an ?_
   repeat' (first
    |(refine aX ag ?_;rintro _ (⟨I,rfl⟩|rfl);(subst I;simp at ad;omega);(conv=>whnf))
    |(refine⟨ae,by unfold zW;have:=J;exact aJ (bH _ this) ej,aJ J ej,?_⟩;conv=>whnf)
    |(refine⟨ep,by unfold zW;simp;omega,ew,?_⟩;conv=>whnf)
    |(refine⟨r,trivial,zi ?_⟩;(conv=>whnf);rw[wi,ac,o,T,qR,aC];rfl)
    |(refine bO ?_ ?_<;>conv=>whnf))
  have h2:¬b>=0:=aR h2;omega
 rw[aa aj];clear R;(conv=>whnf);refine⟨rfl,?_⟩;refine dV (b:=⟨.tup [.agg [.d (.sl (zj cols)),.d (.sl ((zd U).take U.length))],.c (int 0)],[]⟩) rfl ?_;rw[ac];rfl
def nrQ(a b)(on):=bif (XF 8 on a b).1 !=0 then qQ ⟨[],[]⟩ (XF 8 on a b).1 else
 qQ ⟨(XF 8 on a b).2,a.rows.map (vA (ze a.cols sFrom) (ze b.cols sFrom) (zf a.cols on) (zf b.cols on) (oth (on++[sFrom]) 0 b.cols) b.rows)⟩ 0
theorem auE(a b)(on)(af:on.length<=100000)(aa:a.cols.length<=1000000)(j:b.cols.length<=1000000):ex U2 [a.w,b.w,.c (.d (.sl (zo on)))] (nrQ a b on):=by
 have hc:=alq 8 on a b ej aa j;have g:=@av8 8 on a b ej;have ad:=uY a.cols (.sl (zd a.rows)) on ej;have ae:=uY b.cols (.sl (zd b.rows)) on ej;have J:=vN a.cols (.d (.sl (zd a.rows))) sFrom ⟨_,rfl⟩;have P:=vN b.cols (.d (.sl (zd b.rows))) sFrom ⟨_,rfl⟩;have o:=atc b.cols (.sl (zd b.rows)) (on++[sFrom]) j;have ab:=JW on ej;have I:ex Vk [b.w,.c (.d (.sl (aI ((zo on).length+(aI 1 (zo [sFrom])).length) (aI (zo on).length (zo on)++aI 1 (zo [sFrom])))))] (rC (.d (.sl (zB (oth (on++[sFrom]) 0 b.cols))))):=by
  rw[show aI ((zo on).length+(aI 1 (zo [sFrom])).length) (aI (zo on).length (zo on)++aI 1 (zo [sFrom]))=zo (on++[sFrom])by grind[zo]]
  exact o
 unfold nrQ;generalize XF 8 on a b=c at*;obtain⟨T,c2⟩:=c;simp only at g⊢;refine zJ ?_;obtain⟨ac,ar⟩:=a;obtain⟨bc,br⟩:=b;simp only at*;refine qg.s T8 ?_;refine aF hc ?_;refine zt (λi=>?_) (λi=>?_)
 .rw[show(T !=0)=true from i];exact⟨rfl,rfl⟩
 have i:(T !=0)=false:=i;rw[i];have U:T=0:=ek
 subst U;obtain⟨ka,kb,R⟩:=g rfl;obtain⟨i1,i2⟩:=Q4 R.jn;have i3:=UX R.i1;have i4:=UX R.i2;have wa:=wJ ka;have wb:=wJ kb;have fa:=qa ka;have fb:=qa kb;have ol:=Ww (on++[sFrom]) bc 0;have oi:=aAh (on++[sFrom]) bc;have l1:(zf ac on).length=on.length:=by simp[zf]
 have l2:(zf bc on).length=on.length:=by simp[zf]
 have q1:0<=ze ac sFrom/\ze ac sFrom<ac.length:=i3 _ (aD ..);have q2:0<=ze bc sFrom/\ze bc sFrom<bc.length:=i4 _ (aD ..)
 have hm:=λ(s:S)=>aHG (s:=s) c2 bc br (zf ac on) (zf bc on) (ze ac sFrom) (ze bc sFrom) (oth (on++[sFrom]) 0 bc) ar ek ek ej ej ek
  (λx hx=>ek)
  (λy hy=>ek)
 clear i1 i2 i3 i4 wa wb fa fb ol oi l1 l2 R ka kb g i q1 q2;generalize ze ac sFrom=p,ze bc sFrom=p2,zf ac on=left,zf bc on=right,oth (on++[sFrom]) 0 bc=more at*;refine aF ad ?_;refine aF ae ?_;refine aF J ?_;refine aF P ?_
 repeat' (first
  |(refine aX J ?_;rintro _ rfl;conv=>whnf)
  |(refine aX P ?_;rintro _ rfl;conv=>whnf)
  |(refine aX ab ?_;rintro _ (⟨l,rfl⟩|rfl)<;>conv=>whnf)
  |(refine⟨ep,by unfold zW;simp only[zA];simp;omega,by simp only[zA];simp;omega,?_⟩;conv=>whnf)
  |(refine⟨ep,by unfold zW;simp,ep,?_⟩;conv=>whnf)
  |(refine aX I ?_;rintro _ rfl;conv=>whnf)
  |(subst l;refine aX o ?_;rintro _ rfl;conv=>whnf)
  |(refine bO ?_ ?_<;>conv=>whnf))
 all_goals rw[zq]
 all_goals refine hm _ ⟨_,YP 15 1 139 1 ej ej rfl,?_⟩
 all_goals conv=>whnf
 all_goals rfl
namespace So.P
structure En(a:Type) where
 d0:a->D
 d1:a->D
 d2:a->D
abbrev en{a:Type}(E:En a)(x:a):am D:=[E.d0 x,E.d1 x,E.d2 x]
abbrev sz:Nat:=3
abbrev cal{a:Type}(E:En a)(x y:a):am W:=[.agg [.d (E.d0 x),.d (E.d1 x),.d (E.d2 x)],.agg [.d (E.d0 y),.d (E.d1 y),.d (E.d2 y)]]
abbrev clo{a:Type}(E:En a)(g:dy):W:=.c (.d (.fn g []))
noncomputable abbrev cI_L0:=(wF.l 0)
noncomputable abbrev cI_L1:=(wF.l 1)
abbrev cI_ok:=wF.ok
noncomputable abbrev cM_L0:=(xF.l 0)
noncomputable abbrev cM_L1:=(xF.l 1)
noncomputable abbrev cM_L2:=(xF.l 2)
noncomputable abbrev cM_L3:=(xF.l 3)
noncomputable abbrev cM_L4:=(xF.l 4)
abbrev cM_ok:=xF.ok
noncomputable abbrev cO_L0:=(ZW.l 0)
abbrev cO_ok:=ZW.ok
noncomputable abbrev cS_L0:=(wG.l 0)
noncomputable abbrev cS_L1:=(wG.l 1)
noncomputable abbrev cS_L2:=(wG.l 2)
abbrev cS_ok:=wG.ok
abbrev cT_ok:=VD.ok
noncomputable abbrev cW_L0:=(jF.l 0)
abbrev cW_ok:=jF.ok
theorem abA{α}(E:En α):abc XP sz (en E) (cal E) (clo E):=age
abbrev insSort'{a:Type}(E:En a):=(abA E).p
theorem Je{α}(E:En α):UM WG sz (en E) (clo E):=abb
abbrev swapRange'{a:Type}(E:En a):=(Je E).p
theorem afM{α}(E:En α):aeq Uh sz (en E) (clo E):=ajz
abbrev rotate'{a:Type}(E:En a):=(afM E).p
theorem symMerge{α}(E:En α):ahX Vj sz (en E) (cal E) (clo E):=adC
theorem stable{α}(E:En α):aqA Ui sz (en E) (cal E) (clo E):=ajA
theorem SortStable{α}(E:En α):SortStable ZG sz (en E) (cal E) (clo E):=kQ
end So.P
abbrev aB3{a:Type}(g i j:a->D)(l:am a):am (am D):=l.map λx=> [g x,i x,j x]
abbrev aiX{a:Type}(g i j:a->D):=So.P.SortStable ⟨g,i,j⟩
theorem aFx(x y):ex arU [.c (.d (.sl [[.lit (.int .i64 x)],[.lit (.int .i64 y)]]))] (rI (bif x !=0 then x else y)):=by
 refine aez.s T8 ?_;refine jp (P:=Pg) (f:=T8.f) (body:=(aez.l 0)) 3 ?_;refine xK ?_;refine zg (λg=>?_) (λg=>?_)
 .rw[show(x !=0)=true from g];rfl
 rw[show(x !=0)=false from g];(conv=>whnf);refine⟨et,_,rfl,rfl,?_⟩;refine zg (λi=>?_) (λi=>?_)
 .rfl
 have i:(y !=0)=false:=i;have:y=0:=ek
 subst this;rfl
structure Pc where
 key:am Val
 a:Int
 b:Int
def Pc.dk(x:Pc):D:=.sl (rowD x.key)
def Pc.da(x:Pc):D:=.lit (.int .i64 x.a)
def Pc.db(x:Pc):D:=.lit (.int .i64 x.b)
def jG(l:am Pc):am (am D):=l.map λx=> [.sl (rowD x.key),.lit (.int .i64 x.a),.lit (.int .i64 x.b)]
theorem amN(l):(jG l).length=l.length:=by simp[jG]
theorem avO{r}{i:Nat}(h:i<r.length):(jG r)[((i:Int)).toNat]?=some [.sl (rowD r[i].key),.lit (.int .i64 r[i].a),.lit (.int .i64 r[i].b)]:=by grind[jG]
theorem amM(a b):jG (a++b)=jG a++jG b:=by simp[jG]
def QY(x y:Pc):=bif keyC x.key y.key !=0 then keyC x.key y.key else xM x.a y.a
theorem V6:CmpOK QY:=CmpOK.both (CmpOK.onF (f:=Pc.key) (show CmpOK keyC from yP)) (CmpOK.onF ave (f:=Pc.a))
theorem auI(x y):ex Xt [.agg [.d x.dk,.d x.da,.d x.db],.agg [.d y.dk,.d y.da,.d y.db]] (rI (QY x y)):=by have h:=Vs qe zS uE x.key y.key;unfold QY keyC;generalize ZY zS x.key y.key=c at*;have g:=aaf x.a y.a;have i:=aFx c (xM x.a y.a);generalize xM x.a y.a=d at*;obtain⟨j,l,o⟩:=x;obtain⟨p,I,J⟩:=y;refine aeQ.s T1 ?_;refine aF h ?_;refine aF g ?_;refine aF i ?_;rfl
theorem aAL(l)(n)(I:l.length=n)(g:n<=1000000):
 zH Pg ZG [.c (.own 0 3 n),.c (.d (.fn Xt []))] [.arr 3 (jG l) false] (λr=>r=⟨.tup [],[.arr 3 (jG (yE QY l)) false]⟩):=by
 have j:∀L:am (Pc×Nat),aB3 (λx:Pc×Nat=>x.1.dk) (λx=>x.1.da) (λx=>x.1.db) L=jG (L.map Prod.fst):=λL=>by simp[aB3,jG,Function.comp_def];exact λa b _=>⟨rfl,rfl,rfl⟩
 have e:jG l=aB3 (λx:Pc×Nat=>x.1.dk) (λx=>x.1.da) (λx=>x.1.db) (vE l):=by grind[adv]
 rw[e];refine zH.mono (aiX (λx:Pc×Nat=>x.1.dk) (λx=>x.1.da) (λx=>x.1.db) Xt (ZC QY) (agQ V6) (λx y=>x.2<y.2) (λx y i=>?_) (vE l) n (by grind[adw]) g ?_) ?_
 .refine(auI y.1 x.1).mono ?_;rintro _ rfl;exact⟨_,rfl,av5 V6 i⟩
 .grind[ahQ]
 rintro _ ⟨l',o,p,rfl⟩<;>grind[So.eL,aoT,V6]
def xC(x:Pc):=x.key++[⟨2,x.a,⟨#[]⟩⟩,⟨2,x.b,⟨#[]⟩⟩]
def awO(cols:am Col)(l:am Pc)(i:Nat)(out:am (am Val)):S:=
 ⟨[(4,cV (.ptr 4 0)),(19,cV (.ptr 19 0)),(124,.w (.c (.d (.sl (jG l))))),(125,zh l.length),(126,zh i)],
 [(4,.box [.nil,.nil]),(19,.box [.d (.sl (zj cols)),.own 146 1 out.length]),(146,.arr 1 (zd out) false)]⟩
noncomputable def coRest2:ACode:=qD (qD (qD (qD (qD (qD (qD (qD (qD (qD (yv.A.code))))))))))
theorem aHt{s}(cols:am Col)(l:am Pc)(hl:l.length<=100000)(hk:∀x∈l,x.key.length<=100000)
 (h0:xO s [4,19,124,125,126] (· =awO cols l 0 [])):
 z6 (mwpR Pg T8.f (yv.l 2)) [4,19,124,125,126] (Qo 4 (aa3 (mwpR Pg T8.f coRest2) (Jq yv.A.res [] (DQ (qQ ⟨cols,l.map xC⟩ 0))))) s:=by
 refine zX (P:=Pg) (f:=T8.f) (body:=(yv.l 2)) l.length (λi=>awO cols l i ((l.take i).map xC)) (λ_=>True) ⟨trivial,h0⟩ ?_
 clear h0;intro i hi _;have j:∀h:i<l.length,(l.take (i+1)).map xC=(l.take i).map xC++[xC l[i]]:=λh=>by grind[zD]
 have p:l.length<=i->l.map xC=(l.take i).map xC:=λh=>ek
 have ag:((l.take i).map xC).length=i:=ew
 show mwpR Pg T8.f (yv.l 2) _ (awO cols l i ((l.take i).map xC));generalize(l.take i).map xC=U at*;have r:(zd U).take U.length=zd U:=by grind[zq]
 unfold awO;refine xL (λg=>?_) (λad=>?_)
 .have hg:=avO g;have j:=j g;have ae:=hk _ (aL g);have wi:=zu g ej;clear p hk;generalize l[i]=x at*;obtain⟨o,xa,xb⟩:=x;simp only at ae hg;have ac:=Yn o ej;have j:(l.take (i+1)).map xC=U++[o++[⟨2,xa,⟨#[]⟩⟩,⟨2,xb,⟨#[]⟩⟩]]:=j;refine zw hg ?_;generalize hE:([⟨2,xa,⟨#[]⟩⟩,⟨2,xb,⟨#[]⟩⟩]:am Val)=E at*;have ab:rowD E=[[.lit (.int .i64 2),.lit (.int .i64 xa),.lit (.string ⟨#[]⟩)],[.lit (.int .i64 2),.lit (.int .i64 xb),.lit (.string ⟨#[]⟩)]]:=by rw[<-hE];rfl
  have af:E.length=2:=ek
  have R:∀y∈aI (rowD E).length (rowD E),y.length=3:=λy hy=>Un _ y (dF hy)
  have I:(rowD o).length+(aI (rowD E).length (rowD E)).length<=1000000:=by grind[zp]
  have T:aI ((rowD o).length+(aI (rowD E).length (rowD E)).length) (aI (rowD o).length (rowD o)++aI (rowD E).length (rowD E))=rowD (o++E):=by grind[jr]
  have aa:o=[]->aI (aI (rowD E).length (rowD E)).length (aI (rowD E).length (rowD E))=rowD (o++E):=λh=>ek
  rw[ab]at R I T aa
  repeat' (first
   |(refine aX ac ?_;rintro _ (⟨J,rfl⟩|rfl)<;>(conv=>whnf))
   |(refine⟨R,by unfold zW;have:=I;exact aJ (bH _ this) ej,aJ I ej,?_⟩;conv=>whnf)
   |(refine⟨ep,by unfold zW;simp;omega,ew,?_⟩;conv=>whnf)
   |(refine⟨ep,by unfold zW;simp,ep,?_⟩;conv=>whnf)
   |(refine⟨g,trivial,zi ?_⟩;(conv=>whnf);rw[wi,r,j,T,qR,aC];rfl)
   |(refine⟨g,trivial,zi ?_⟩;(conv=>whnf);rw[wi,r,j,aa J,qR,aC];rfl)
   |(refine bO ?_ ?_<;>conv=>whnf))
 rw[p ad];(conv=>whnf);refine⟨rfl,?_⟩;refine dV (b:=⟨.tup [.agg [.d (.sl (zj cols)),.d (.sl ((zd U).take U.length))],.c (int 0)],[]⟩) rfl ?_;rw[r];rfl
def vz(g:am Pc)(x:Pc):am Pc:=match g.getLast? with
 |none=>g++[x]
 |some z=>bif xS z.key x.key&&decide (x.a<=z.b)then g.set (g.length-1) ⟨z.key,z.a,yL true z.b x.b⟩else g++[x]
def Yk(l:am Pc):=l.foldl vz []
theorem aCJ(g)(x):(vz g x).length<=g.length+1:=by grind[vz]
theorem aiD(l:am Pc):∀i,i<=l.length->(Yk (l.take i)).length<=i
 |0,_=>by simp[Yk]
 |i+1,h=>by have g:=aiD l i ej;have j:=aCJ (Yk (l.take i)) l[i];unfold Yk at*;rw[zD (by omega:i<l.length),List.foldl_append];simp only[cA,List.foldl_nil];omega
theorem aCI{n}{g}{x}(h:∀z∈g,z.key.length<=n)(i:x.key.length<=n):∀z∈vz g x,z.key.length<=n:=by grind[vz]
theorem aCG{n}{l}(h:∀z∈l,z.key.length<=n):∀z∈Yk l,z.key.length<=n:=by
 have gen:∀(l g:am Pc),(∀z∈l,z.key.length<=n)->(∀z∈g,z.key.length<=n)->∀z∈l.foldl vz g,z.key.length<=n:=by intro l;induction l<;>grind[aCI,aD]
 exact gen l [] h (λz i=>by cases i)
def awN(cols:am Col)(l:am Pc)(i:Nat)(T:am Pc):S:=
 ⟨[(4,cV (.ptr 4 0)),(6,.w (.c (.d (.sl (zj cols))))),(11,cV (.own 120 3 T.length)),(69,.w (.c (.d (.sl (jG l))))),(70,zh l.length),(71,zh i)],
 [(4,.box [.nil,.nil]),(120,.arr 3 (jG T) false)]⟩
noncomputable def coRest1:ACode:=qD (qD (qD (qD (qD (qD (qD (qD yv.A.code)))))))
theorem aHs{s}(cols:am Col)(l:am Pc)(hl:l.length<=100000)(hk:∀x∈l,x.key.length<=100000)
 (h0:xO s [4,6,11,69,70,71] (· =awN cols l 0 [])):
 z6 (mwpR Pg T8.f (yv.l 1)) [4,6,11,69,70,71] (Qo 2 (aa3 (mwpR Pg T8.f coRest1) (Jq yv.A.res [] (DQ (qQ ⟨cols,(Yk l).map xC⟩ 0))))) s:=by
 refine zX (P:=Pg) (f:=T8.f) (body:=(yv.l 1)) l.length (λi=>awN cols l i (Yk (l.take i))) (λ_=>True) ⟨trivial,h0⟩ ?_
 clear h0;intro i hi _;have g:∀h:i<l.length,Yk (l.take (i+1))=vz (Yk (l.take i)) l[i]:=λh=>by grind[Yk,zD]
 have p:l.length<=i->Yk l=Yk (l.take i):=λh=>ek
 have ah:=aiD l i hi;have r:=aCG (n:=100000) (l:=l) hk;show mwpR Pg T8.f (yv.l 1) _ (awN cols l i (Yk (l.take i)));generalize Yk (l.take i)=T at*;have I:(jG T).take T.length=jG T:=by grind[amN]
 unfold awN;refine xL (λj=>?_) (λab=>?_)
 .have hg:=avO j;have g:=g j;have wi:=zu j ej;clear p hk r;generalize l[i]=x at*;obtain⟨xk,xa,J⟩:=x;simp only at hg;refine zw hg ?_;rw[zT (n:=(T.length:Int)-1) ej ej];refine zt (λR=>?_) (λR=>?_)
  .have R:(T.length:Int)-1>=0:=aV R;have af:T.length-1<T.length:=ej
   have ac:((T.length:Int)-1).toNat=T.length-1:=ej
   have o:(jG T)[((T.length:Int)-1).toNat]?=some [.sl (rowD T[T.length-1].key),.lit (.int .i64 T[T.length-1].a),.lit (.int .i64 T[T.length-1].b)]:=by simp_all[jG]
   have ad:T.getLast?=some T[T.length-1]:=by rw[List.getLast?_eq_getElem?,am.getElem?_eq_getElem af]
   unfold vz at g;rw[ad]at g;have heq:=Vt T[T.length-1].key xk;generalize hz:T[T.length-1]=z at*;obtain⟨zk,za,zb⟩:=z;simp only at o g heq;generalize xS zk xk=b at*;(conv=>whnf);refine⟨ej,ej,?_⟩;(conv=>whnf);refine⟨_,o,?_⟩;refine aF heq ?_;have ag:Yk (l.take (i+1))=T++[⟨xk,xa,J⟩]->True:=λ_=>trivial
   cases b with
   |false=>
    rw[c8,aA]at g;refine yQ ?_;refine zI j trivial ?_;rw[wi,I,g,amM,aC];rfl
   |true=>
    rw[bP]at g;(conv=>whnf);refine⟨ej,ej,?_⟩;(conv=>whnf);refine⟨_,o,?_⟩;refine zg (b:=decide (xa<=zb)) (λh3=>?_) (λh3=>?_)
    .rw[h3,aE]at g;have U:(jG T).set ((T.length:Int)-1).toNat [.sl (rowD zk),.lit (.int .i64 za),.lit (.int .i64 (yL true zb J))]=jG (T.set (T.length-1) ⟨zk,za,yL true zb J⟩):=by rw[ac];simp[jG,dU]
     have ae:(T.set (T.length-1) ⟨zk,za,yL true zb J⟩).length=T.length:=ep
     (conv=>whnf);refine⟨ej,ej,?_⟩;(conv=>whnf);refine⟨_,o,?_⟩;(conv=>whnf);refine⟨ej,ej,?_⟩;(conv=>whnf);refine⟨_,o,cI rfl,?_⟩;refine zI j trivial ?_;generalize yL true zb J=m at*;rw[wi,g,<-U,ae];rfl
    rw[h3,aA]at g;refine yQ ?_;refine zI j trivial ?_;rw[wi,I,g,amM,aC];rfl
  have R:¬(T.length:Int)-1>=0:=aR R;have hT:T=[]:=List.length_eq_zero_iff.1 ej;subst hT;have g:Yk (l.take (i+1))=[⟨xk,xa,J⟩]:=g;refine yQ ?_ (hA:=ep) (hB:=by grind[zW]) (hC:=ep);refine zI j trivial ?_;rw[wi,g];rfl
 rw[p ab]at r⊢;have aa:=λ(s:S)=>aHt (s:=s) cols T ej r
 (conv=>whnf);refine aa _ ⟨_,(YP 19 1 146 1 ej ej rfl).trans (ZD 124 (.own 120 3 T.length) (.sl ((jG T).take T.length)) _ rfl rfl),?_⟩;(conv=>whnf);rw[I];rfl
def ade(at_:am Int)(p q:Int)(x:am Val):am Pc:=bif qK (at0 x p.toNat) (at0 x q.toNat)&&decide ((at0 x p.toNat).n>=0)then [⟨pickL x at_,(at0 x p.toNat).n,(at0 x q.toNat).n⟩]else []
def vQ(at_:am Int)(p q:Int)(rows:am (am Val)):=rows.flatMap (ade at_ p q)
theorem aCZ(at_)(p q)(x):(ade at_ p q x).length<=1:=by grind[ade]
theorem afD(at_)(p q):∀rows,(vQ at_ p q rows).length<=rows.length
 |[]=>aO _
 |x::r=>by have g:=aCZ at_ p q x;have i:=afD at_ p q r;unfold vQ at*;rw[dW,aC,aN];omega
theorem aAl(at_)(p q){rows}:∀z∈vQ at_ p q rows,z.key.length=at_.length:=by
 intro z g;unfold vQ at g;obtain⟨x,_,i⟩:=bX.1 g;unfold ade at i;cases h:(qK (at0 x p.toNat) (at0 x q.toNat)&&decide ((at0 x p.toNat).n>=0))
 .grind
 simp_all[pickL]
def jY(at_)(p q)(rows):=(Yk (yE QY (vQ at_ p q rows))).map xC
def awM(cols:am Col)(at_:am Int)(p q:Int)(rows:am (am Val))(i:Nat)(T:am Pc):S:=
 ⟨[(4,cV (.ptr 4 0)),(6,.w (.c (.d (.sl (zj cols))))),(8,.w (.c (.d (.sl (zB at_))))),(9,.w (.c (.d (.sl (zB [p,q]))))),(10,cV (.own 65 3 T.length)),(11,cV .nil),(40,.w (.c (.d (.sl (zd rows))))),(41,zh rows.length),(42,zh i)],
 [(4,.box [.nil,.nil]),(65,.arr 3 (jG T) false)]⟩
noncomputable def coRest0:ACode:=qD (qD (qD (qD (qD (qD yv.A.code)))))
theorem aHr{s}(cols)(at_)(p q)(rows)(hr:rows.length<=100000)(ak:at_.length<=100000)
 (hx:∀x∈rows,yB x.length at_/\yB x.length [p,q])
 (h0:xO s [4,6,8,9,10,11,40,41,42] (· =awM cols at_ p q rows 0 [])):
 z6 (mwpR Pg T8.f (yv.l 0)) [4,6,8,9,10,11,40,41,42] (Qo 0 (aa3 (mwpR Pg T8.f coRest0) (Jq yv.A.res [] (DQ (qQ ⟨cols,jY at_ p q rows⟩ 0))))) s:=by
 unfold jY;refine zX (P:=Pg) (f:=T8.f) (body:=(yv.l 0)) rows.length (λi=>awM cols at_ p q rows i (vQ at_ p q (rows.take i))) (λ_=>True) ⟨trivial,h0⟩ ?_
 clear h0;intro i hi _;have g:∀h:i<rows.length,vQ at_ p q (rows.take (i+1))=vQ at_ p q (rows.take i)++ade at_ p q rows[i]:=λh=>by grind[vQ,zD]
 have o:rows.length<=i->vQ at_ p q rows=vQ at_ p q (rows.take i):=λh=>ek
 have aj:(vQ at_ p q (rows.take i)).length<=rows.length:=aJ (afD _ _ _ _) ew;have aa:=aAl at_ p q (rows:=rows.take i);show mwpR Pg T8.f (yv.l 0) _ (awM cols at_ p q rows i (vQ at_ p q (rows.take i)));generalize vQ at_ p q (rows.take i)=T at*;have ag:(jG T).take T.length=jG T:=by grind[amN]
 unfold awM;refine xL (λj=>?_) (λU=>?_)
 .have hg:=zZ j;have g:=g j;obtain⟨ai,I⟩:=hx _ (aL j);have wi:=zu j ej;have r:=ajo rows[i] p q (I _ ep) (I _ ep);have ab:=XA rows[i] at_ ej ai;clear o hx aa;unfold ade at g;generalize rows[i]=x at*;generalize at0 x p.toNat=u at*;generalize at0 x q.toNat=v at*;unfold alA at r;generalize qK u v=b at*;obtain⟨_,u,_⟩:=u;obtain⟨_,v,_⟩:=v;simp only at r g;refine zw hg ?_;refine aF r ?_;cases b with
  |false=>
   rw[c8,aA,dC]at g;refine zI j trivial ?_;rw[wi,g];rfl
  |true=>
   rw[bP]at g;refine zg (b:=decide (u>=0)) (λJ=>?_) (λJ=>?_)
   .rw[J,aE]at g;refine aF ab ?_;refine yQ ?_;refine zI j trivial ?_;rw[wi,ag,g,amM,aC];rfl
   rw[J,aA,dC]at g;refine zI j trivial ?_;rw[wi,g];rfl
 rw[o U];have af:=aAL T T.length rfl ej;have ac:=uV V6 T;have ae:(yE QY T).length=T.length:=ac.length_eq;have ad:∀z∈yE QY T,z.key.length<=100000:=λz hz=>ek
 generalize yE QY T=Z at*;have R:=λ(s:S)=>aHs (s:=s) cols Z ej ad
 have ah:(jG Z).take T.length=jG Z:=by grind[amN]
 (conv=>whnf);refine zH.mono (af) ?_;rintro _ rfl;(conv=>whnf);refine R _ ⟨_,(zx 11 120 3 ej ej rfl).trans (ZD 69 (.own 65 3 T.length) (.sl ((jG Z).take T.length)) _ rfl rfl),?_⟩;(conv=>whnf);rw[ah,<-ae];rfl
theorem alF{d}{cols}{st}(g:st.op=9)(h:(yu d cols st).1=0):yu d cols st=coT cols st.cols:=by grind[yu]
structure CoOK(cols:am Col)(on:am ByteArray)(R:am Col):Prop where
 tk:takeErr cols on=false
 i1:colInt cols sFrom=0
 i2:colInt cols sTo=0
 two:(hasB on sFrom||hasB on sTo)=false
 eq:R=takeC cols on++[⟨sFrom,2⟩,⟨sTo,2⟩]
theorem aj2{cols}{on}(h:(coT cols on).1=0):CoOK cols on (coT cols on).2:=by unfold coT at h⊢;obtain⟨l,e1⟩:=ww ek h;rw[e1]at h⊢;obtain⟨o,g⟩:=ww ek h;rw[g]at h⊢;obtain⟨p,i⟩:=ww ep h;rw[i]at h⊢;obtain⟨r,j⟩:=ww ep h;rw[j];exact⟨o,ek,ek,l,rfl⟩
theorem aFP{on}{a}(h:(JG 9 on a).1=0):tblErr a=0/\CoOK a.cols on (JG 9 on a).2:=by
 unfold JG at h⊢;obtain⟨g,e1⟩:=ww ep h
 grind[alF,qb,aj2]
def coQ(a)(on):=bif (JG 9 on a).1 !=0 then qQ ⟨[],[]⟩ (JG 9 on a).1 else
 qQ ⟨(JG 9 on a).2,jY (zf a.cols on) (ze a.cols sFrom) (ze a.cols sTo) a.rows⟩ 0
theorem asW(a)(on)(aa:on.length<=100000)(J:a.cols.length<=1000000):ex VK [a.w,.c (.d (.sl (zo on)))] (coQ a on):=by
 have hc:=aye 9 on a ej J;have g:=@aFP on a;have P:=uY a.cols (.sl (zd a.rows)) on ej;have j:=uY a.cols (.sl (zd a.rows)) [sFrom,sTo] ep;unfold coQ;generalize JG 9 on a=c at*;obtain⟨o,c2⟩:=c;simp only at g⊢;refine zJ ?_;obtain⟨ac,ar⟩:=a;simp only at*;refine yv.s T8 ?_;refine aF hc ?_;refine zt (λi=>?_) (λi=>?_)
 .rw[show(o !=0)=true from i];exact⟨rfl,rfl⟩
 have i:(o !=0)=false:=i;rw[i];have I:o=0:=ek
 subst I;obtain⟨R,l⟩:=g rfl;have i1:=agT l.tk;have i2:=vL l.i1;have i3:=vL l.i2;have wa:=wJ R;have fa:=qa R;have U:zf ac [sFrom,sTo]=[ze ac sFrom,ze ac sTo]:=rfl;have l1:(zf ac on).length=on.length:=by simp[zf]
 have hm:=λ(s:S)=>aHr (s:=s) c2 (zf ac on) (ze ac sFrom) (ze ac sTo) ar ek ej
  (λx hx=>by
   have T:=wa x hx;simp only at T;refine⟨ek,λk hk=>?_⟩;rw[T];simp only[aP,cJ,or_false]at hk
   grind)
 rw[U]at j;clear i1 i2 i3 wa fa U l1 l R g i;generalize ze ac sFrom=p,ze ac sTo=q,zf ac on=left at*;(conv=>whnf)
 repeat' (first
  |(refine aX P ?_;rintro _ rfl;conv=>whnf)
  |(refine aX j ?_;rintro _ rfl;conv=>whnf)
  |(refine bO ?_ ?_<;>conv=>whnf))
 all_goals rw[zq]
 all_goals refine hm _ ⟨_,zx 10 65 3 ej ej rfl,?_⟩
 all_goals conv=>whnf
 all_goals rfl
noncomputable def itR(cols:am Col)(row:am Val)(l:am Itm):am Val:=l.map λx=>exprV cols row x.e
noncomputable def selR(cols:am Col)(rows:am (am Val))(l:am Itm):am (am Val):=rows.map λr=>itR cols r l
def seI(cols:am Col)(rows:am (am Val))(st:am C)(i:Nat)(out:am (am Val))(x:am Val)(l:am Itm)(j:Nat)(g:am Val):S:=
 ⟨[(4,cV (.ptr 4 0)),(5,cV (.ptr 5 0)),(8,cV (.own 69 1 out.length)),(12,.w (zE x)),(13,cV (.own 64 3 g.length)),(43,.w (.c (.d (.sl (zd rows))))),(44,zh rows.length),(45,zh i),(50,.w (.c (.d (.sl (yI l))))),(51,zh l.length),(52,zh j)],
 [(4,.box [.d (.sl (zj cols)),.d (.sl (zd rows))]),(5,.box st),(64,.arr 3 (rowD g) false),(69,.arr 1 (zd out) false)]⟩
theorem aHO(hC:aav){Q:E->S->Prop}{s}(cols:am Col)(rows:am (am Val))(eo)(nm)(v)(ks:am Ex)(g:am Itm)(cs o I:am (am D))(m)(tb)(i)(out:am (am Val))(x:am Val)
 (ai:g.length<=100000)
 (h0:xO s [4,5,8,12,13,43,44,45,50,51,52] (· =seI cols rows (wE 2 eo nm v ks (yI g) cs o I m tb) i out x g 0 []))
 (hQ:Q (.exit 5) (y5 (seI cols rows (wE 2 eo nm v ks (yI g) cs o I m tb) i out x g g.length (itR cols x g)) 53 (yf (decide ((g.length:Int)<g.length))))):
 z6 (mwpR Pg T8.f (qE.l 1)) [4,5,8,12,13,43,44,45,50,51,52] Q s:=by
 obtain⟨vk,vn,vs⟩:=v;refine zX (P:=Pg) (f:=T8.f) (body:=(qE.l 1)) g.length (λj=>seI cols rows (wE 2 eo nm ⟨vk,vn,vs⟩ ks (yI g) cs o I m tb) i out x g j (itR cols x (g.take j))) (λ_=>True) ⟨trivial,h0⟩ ?_
 clear h0;intro j hj _;have ah:(itR cols x (g.take j)).length=j:=by grind[itR]
 have r:∀h:j<g.length,itR cols x (g.take (j+1))=itR cols x (g.take j)++[exprV cols x g[j].e]:=λh=>by grind[itR,zD]
 have J:j=g.length->itR cols x g=itR cols x (g.take j):=λh=>ek
 show mwpR Pg T8.f (qE.l 1) _ (seI cols rows (wE 2 eo nm ⟨vk,vn,vs⟩ ks (yI g) cs o I m tb) i out x g j (itR cols x (g.take j)));generalize itR cols x (g.take j)=T at*;have ab:(rowD T).take T.length=rowD T:=by grind[zp]
 unfold seI wE;refine Zc (λp=>?_) (λU=>?_)
 .have hg:=j8 p;have r:=r p;have wi:=zu p ej;have R:=aoz hC cols x g[j].e;clear hQ J;generalize g[j]=z at*;obtain⟨⟨aa,ad,⟨ae,af,ag⟩,ac⟩,s2⟩:=z;simp only at R r;generalize exprV cols x (.mk aa ad ⟨ae,af,ag⟩ ac)=u at*;obtain⟨u1,u2,u3⟩:=u;refine zw hg ?_;refine aF R ?_;refine yQ ?_;refine zI p trivial ?_;rw[wi,ab,r,<-jr,aC];rfl
 rw[J U]at hQ;subst U;(conv=>whnf);exact hQ
def seO(cols:am Col)(rows:am (am Val))(st:am C)(i:Nat)(out:am (am Val)):S:=
 ⟨[(4,cV (.ptr 4 0)),(5,cV (.ptr 5 0)),(8,cV (.own 69 1 out.length)),(43,.w (.c (.d (.sl (zd rows))))),(44,zh rows.length),(45,zh i)],
 [(4,.box [.d (.sl (zj cols)),.d (.sl (zd rows))]),(5,.box st),(69,.arr 1 (zd out) false)]⟩
theorem aln(hC:aav)(d)(cols)(rows)(hr:rows.length<=20000)(eo)(nm)(v)(ks)(g)(cs o I)(m)(tb)(ac:g.length<=100000):
 ex Z1 [.c (.d d),.agg [.d (.sl (zj cols)),.d (.sl (zd rows))],.agg (wE 2 eo nm v ks (yI g) cs o I m tb)] (rRT (selR cols rows g)):=by
 refine zJ ?_;have j:=λ(Q:E->S->Prop) (s:S) (i:Nat) (out:am (am Val)) (x:am Val)=>aHO hC (Q:=Q) (s:=s) cols rows eo nm v ks g cs o I m tb i out x ac
 obtain⟨vk,vn,vs⟩:=v;unfold wE;refine qE.s T8 ?_;rw[zq];refine zX (P:=Pg) (f:=T8.f) (body:=(qE.l 2)) rows.length (λi=>seO cols rows (wE 2 eo nm ⟨vk,vn,vs⟩ ks (yI g) cs o I m tb) i (selR cols (rows.take i) g)) (λ_=>True) ⟨trivial,⟨_,zx 8 69 1 ej ej rfl,?_⟩⟩ ?_
 .exact rfl
 intro i hi _;have T:∀h:i<rows.length,selR cols (rows.take (i+1)) g=selR cols (rows.take i) g++[itR cols rows[i] g]:=λh=>by grind[selR,zD]
 have J:rows.length<=i->selR cols rows g=selR cols (rows.take i) g:=λh=>ek
 have af:(selR cols (rows.take i) g).length=i:=by grind[selR]
 show mwpR Pg T8.f (qE.l 2) _ (seO cols rows (wE 2 eo nm ⟨vk,vn,vs⟩ ks (yI g) cs o I m tb) i (selR cols (rows.take i) g));generalize selR cols (rows.take i) g=U at*;have aa:(zd U).take U.length=zd U:=by grind[zq]
 have j:=λQ s x=>j Q s i U x
 unfold seO wE;refine xL (λp=>?_) (λab=>?_)
 .have hg:=zZ p;have T:=T p;have wi:=zu p ej;clear J;generalize rows[i]=x at*;have j:=λQ s=>j Q s x
  have ae:(rowD (itR cols x g)).take g.length=rowD (itR cols x g):=by grind[itR,zp]
  have ad:(itR cols x g).length=g.length:=by simp[itR]
  generalize itR cols x g=R at*;refine zw hg ?_;refine j _ _ ⟨_,zx 13 64 3 ej ej rfl,?_⟩ ?_
  ·(conv=>whnf);unfold seI wE;rw[qP];rfl
  unfold y5 seI wE;(conv=>whnf);rw[show aI R.length (rowD R)=rowD R by grind];refine yQ ?_;refine zI p trivial ?_;rw[wi,aa,T,qR,aC];rfl
 rw[J ab];clear j;(conv=>whnf);refine⟨rfl,?_⟩;show Res.mk (.tup [.c (.d (.sl ((zd U).take U.length))),.c (bool true)]) []=_;rw[aa];rfl
theorem YG(d)(t:Tbl)(st:Stp)(g)(R)(p:(st.op==4)=false)(I:(st.op==7)=false)(J:(st.op==8)=false)(P:(st.op==9)=false)(hl:R.length<=20000)(T:ex Z1 [.c (.d (.sl (zL d))),t.w,.agg st.cs] (rRT R)):
 ex jj [.c (.d (.sl (zL d))),t.w,.agg st.cs,.c (.d (.sl (zj g)))] (qQ ⟨g,R⟩ 0):=by
 have U:=w8 d st.table;obtain⟨tc,tr⟩:=t;obtain⟨op,⟨eo,nm,⟨vk,vn,vs⟩,ks⟩,j,aa,l,o,sn,tb⟩:=st;simp only at*;unfold Stp.cs wE at*;have i:decide (((zd R).length:Int)>20000)=false:=cK (by grind[zq]);generalize zC tb d=f at*;cases f with
 |none=>
  refine ul.s T8 ?_;refine aF U ?_;rw[p];(conv=>whnf);rw[I];(conv=>whnf);rw[J];(conv=>whnf);rw[P];refine aF T ?_;rw[i];exact rfl
 |some ft=>
  obtain⟨fc,fr⟩:=ft;refine ul.s T8 ?_;refine aF U ?_;rw[p];(conv=>whnf);rw[I];(conv=>whnf);rw[J];(conv=>whnf);rw[P];refine aF T ?_;rw[i];exact rfl
theorem alo(d)(t:Tbl)(st:Stp)(g)(i:st.op=4)(R)(e)(p:ex abY [t.w,.c (.d (.sl (yU st.sorts)))] (qQ R e)):
 ex jj [.c (.d (.sl (zL d))),t.w,.agg st.cs,.c (.d (.sl (zj g)))] (qQ R e):=by
 have I:=w8 d st.table;obtain⟨tc,tr⟩:=t;obtain⟨rc,rr⟩:=R;obtain⟨op,⟨U,nm,⟨vk,vn,vs⟩,ks⟩,j,P,l,o,sn,T⟩:=st;simp only at*;subst i;unfold Stp.cs wE at*;generalize zC T d=f at*;cases f with
 |none=>
  refine ul.s T8 ?_;refine aF I ?_;refine aF p ?_;rfl
 |some J=>
  obtain⟨fc,fr⟩:=J;refine ul.s T8 ?_;refine aF I ?_;refine aF p ?_;rfl
theorem aho(d)(t:Tbl)(st:Stp)(g)(i:st.op=9)(R)(e)(p:ex VK [t.w,.c (.d (.sl (zo st.cols)))] (qQ R e)):
 ex jj [.c (.d (.sl (zL d))),t.w,.agg st.cs,.c (.d (.sl (zj g)))] (qQ R e):=by
 have I:=w8 d st.table;obtain⟨tc,tr⟩:=t;obtain⟨rc,rr⟩:=R;obtain⟨op,⟨U,nm,⟨vk,vn,vs⟩,ks⟩,j,P,l,o,sn,T⟩:=st;simp only at*;subst i;unfold Stp.cs wE at*;generalize zC T d=f at*;cases f with
 |none=>
  refine ul.s T8 ?_;refine aF I ?_;refine aF p ?_;rfl
 |some J=>
  obtain⟨fc,fr⟩:=J;refine ul.s T8 ?_;refine aF I ?_;refine aF p ?_;rfl
theorem ajq(d)(t:Tbl)(st:Stp)(g)(i:st.op=7)(b)(J:zC st.table d=some b)(R)(e)(I:ex U3 [t.w,b.w,.c (.d (.sl (zo st.cols)))] (qQ R e)):
 ex jj [.c (.d (.sl (zL d))),t.w,.agg st.cs,.c (.d (.sl (zj g)))] (qQ R e):=by have p:=w8 d st.table;rw[J]at p;obtain⟨tc,tr⟩:=t;obtain⟨bc,br⟩:=b;obtain⟨rc,rr⟩:=R;obtain⟨op,⟨T,nm,⟨vk,vn,vs⟩,U⟩,j,P,l,o,sn,tb⟩:=st;simp only at*;subst i;unfold Stp.cs wE at*;refine ul.s T8 ?_;refine aF p ?_;refine aF I ?_;rfl
theorem ajp(d)(t:Tbl)(st:Stp)(g)(i:st.op=8)(b)(J:zC st.table d=some b)(R)(e)(I:ex U2 [t.w,b.w,.c (.d (.sl (zo st.cols)))] (qQ R e)):
 ex jj [.c (.d (.sl (zL d))),t.w,.agg st.cs,.c (.d (.sl (zj g)))] (qQ R e):=by have p:=w8 d st.table;rw[J]at p;obtain⟨tc,tr⟩:=t;obtain⟨bc,br⟩:=b;obtain⟨rc,rr⟩:=R;obtain⟨op,⟨T,nm,⟨vk,vn,vs⟩,U⟩,j,P,l,o,sn,tb⟩:=st;simp only at*;subst i;unfold Stp.cs wE at*;refine ul.s T8 ?_;refine aF p ?_;refine aF I ?_;rfl
end
section
attribute [local irreducible] Sat zH z6 zl
def qW(d:am Nmd)(st:Stp):=(zC st.table d).getD ⟨[],[]⟩
noncomputable def stR(d:am Nmd)(t:Tbl)(st:Stp):am (am Val):=
 bif st.op==1 then whereR t.cols t.rows st.cond else bif st.op==2 then selR t.cols t.rows st.items else
 bif st.op==3 then(vh (zf t.cols st.cols) t.rows).map (qI t.cols st.aggs)else
 bif st.op==4 then yE (xN (yX t.cols st.sorts) st.sorts) t.rows else bif st.op==5 then t.rows.take (yL false st.n t.rows.length).toNat else
 bif st.op==6 then vw (zf t.cols st.cols) (zf (qW d st).cols st.cols) (oth st.cols 0 (qW d st).cols) t.rows (qW d st).rows else
 bif st.op==7 then vm (ze t.cols sFrom) (ze t.cols sTo) (ze (qW d st).cols sFrom) (ze (qW d st).cols sTo) (zf t.cols st.cols) (zf (qW d st).cols st.cols) (oth (st.cols++[sFrom,sTo]) 0 (qW d st).cols) t.rows (qW d st).rows else
 bif st.op==8 then t.rows.map (vA (ze t.cols sFrom) (ze (qW d st).cols sFrom) (zf t.cols st.cols) (zf (qW d st).cols st.cols) (oth (st.cols++[sFrom]) 0 (qW d st).cols) (qW d st).rows)else
 jY (zf t.cols st.cols) (ze t.cols sFrom) (ze t.cols sTo) t.rows
noncomputable def nStepT(d:am Nmd)(t:Tbl)(st:Stp):Int×Tbl:=
 bif yt d !=0 then(yt d,⟨[],[]⟩)else bif tblErr t !=0 then(tblErr t,⟨[],[]⟩)else bif (yu d t.cols st).1 !=0 then((yu d t.cols st).1,⟨[],[]⟩)else(0,⟨(yu d t.cols st).2,stR d t st⟩)
def VL(x:Int×Tbl):=qQ x.2 x.1
theorem axQ{e}:∀{P:Program}{k:Nat}{args:am W},Sat P k args (λr=>r=rNT e)->Sat P k args (DQ (qQ ⟨[],[]⟩ e)):=λh=>h.mono λr hr=>by subst hr;exact⟨rfl,rfl⟩
theorem avd{i}{b}:∀{d pre:am Nmd},wL pre d=0->zC i d=some b->tblErr b=0
 |[],_,_,g=>by cases g
 |x::r,pre,h,g=>by
  simp only[wL]at h;cases j:(qj x.nm !=0)
  .rw[j,aA]at h;obtain⟨_,h⟩:=zY ej h;cases l:(tblErr x.t !=0)
   .rw[l,aA]at h;simp only[zC]at g;cases o:zl x.nm i
    .rw[o,aA]at g;exact avd h g
    simp_all
   simp_all
  simp_all
theorem Yy{d}{i}{b}(h:yt d=0)(g:zC i d=some b):tblErr b=0:=by unfold yt at h;exact avd (zY ej h).2 g
theorem arv{st:Stp}(h:st.err=0)(g:st.op=7\/st.op=8\/st.op=9):qx st.cols 0=0:=by
 unfold cX at h;have h:=(zY ej h).2;rcases g with g|g|g
 .rw[g]at h;exact(zY ej (show(bif !z8 st.table then 3 else qx st.cols 0)=0 from h)).2
 .rw[g]at h;exact(zY ej (show(bif !z8 st.table then 3 else qx st.cols 0)=0 from h)).2
 grind
theorem alD{op}{on}{i}(g:op=7\/op=8\/(op=9/\i=⟨#[]⟩)):(qb op on i).uses=true:=by
 show X6 op (Ex.mk 0 ⟨#[]⟩ ⟨0,0,⟨#[]⟩⟩ []).zero 0 on.length 0 0 0 i=true;have j:(Ex.mk 0 ⟨#[]⟩ ⟨0,0,⟨#[]⟩⟩ []).zero=true:=by grind[Ex.zero,QQ,yH,AM.beqS_self]
 unfold X6;rw[j];rcases g with rfl|rfl|⟨rfl,rfl⟩
 .rfl
 .rfl
 rw[AM.beqS_self];rfl
theorem aA6{op}{on}(g:op=7\/op=8)(h:qx on 0=0):(qb op on uB).err=0:=by
 unfold cX;rw[alD ek];have i:z8 uB=true:=by decide+kernel
 rcases g with rfl|rfl
 .show(bif !z8 uB then 3 else qx on 0)=0
  grind
 show(bif !z8 uB then 3 else qx on 0)=0
 grind
theorem ayy{on}(h:qx on 0=0):(qb 9 on ⟨#[]⟩).err=0:=by unfold cX;rw[alD (.inr (.inr ⟨rfl,rfl⟩))];exact h
theorem aGA{g}{d}{cols}{cs}{i}{b}(j:zC i d=some b):Xm g [⟨uB,b⟩] cols cs uB=Xm g d cols cs i:=by grind[zC,AM.beqS_self,Xm]
theorem agU{d}{t b}{st}(g:st.op=7\/st.op=8)(o:tblErr t=0)(i:tblErr b=0)(j:st.err=0)(l:zC st.table d=some b):XF st.op st.cols t b=yu d t.cols st:=by grind[arv,aA6,XF,yu,qb,aGA]
theorem av7{d}{t}{st}(g:st.op=9)(j:tblErr t=0)(i:st.err=0):JG 9 st.cols t=yu d t.cols st:=by grind[arv,ayy,JG,yu,qb]
theorem ZJ{x y:Int}:(bif x !=0 then x else y)=0↔x=0/\y=0:=ek
theorem XJ{b}{x y:Int}(g:x≠0):(bif b then x else y)=0↔b=false/\y=0:=ek
def zV:am Col->am Val->Prop
 |[],[]=>True
 |c::cs,v::vs=>yF c.t v/\zV cs vs
 |_,_=>False
theorem zV.len:∀{cs:am Col}{vs:am Val},zV cs vs->vs.length=cs.length
 |[],[],_=>rfl
 |c::cs,v::vs,h=>by simp only[aN];rw[zV.len h.2]
theorem zV.app:∀{cs g:am Col}{vs i:am Val},zV cs vs->zV g i->zV (cs++g) (vs++i)
 |[],_,[],_,_,h=>h
 |c::cs,_,v::vs,_,h,j=>⟨h.1,zV.app h.2 j⟩
theorem zV.get:∀{cs:am Col}{vs:am Val},zV cs vs->∀{i:Nat}(h:i<cs.length),yF cs[i].t (at0 vs i)
 |c::cs,v::vs,h,0,_=>h.1
 |c::cs,v::vs,h,i+1,g=>zV.get h.2 (i:=i) ek
theorem zV.map{a:Type}(f:a->Col)(g:a->Val):∀{l:am a},(∀x∈l,yF (f x).t (g x))->zV (l.map f) (l.map g)
 |[],_=>trivial
 |x::r,h=>⟨h x ep,zV.map f g λy i=>h y (by simp[i])⟩
theorem zV.of:∀{cs:am Col}{vs:am Val},vs.length=cs.length->(∀i (h:i<cs.length),yF cs[i].t (at0 vs i))->zV cs vs
 |[],[],_,_=>trivial
 |c::cs,v::vs,j,h=>⟨h 0 ep,zV.of ek λi g=>h (i+1) ek⟩
theorem zV.set{cs}{vs}(h:zV cs vs){i}(l:i<cs.length){v}(p:yF cs[i].t v):zV cs (vs.set i v):=by
 refine zV.of (by rw[List.length_set];exact h.len) λj g=>?_
 have o:=h.len;by_cases e:i=j
 .grind[at0]
 have:at0 (vs.set i v) j=at0 vs j:=by grind[at0]
 rw[this];exact h.get g
theorem aga:∀{cs:am Col}{vs:am Val},vs.length=cs.length->(xG cs vs=0↔zV cs vs)
 |[],[],_=>⟨λ_=>trivial,λ_=>rfl⟩
 |c::cs,v::vs,h=>by simp only[xG];rw[ZJ,aga (by simpa using h)];exact⟨λh=>⟨agp h.1,h.2⟩,λh=>⟨aoX h.1,h.2⟩⟩
theorem avU{cols}:∀{rows:am (am Val)},xi cols rows=0↔ ∀r∈rows,zV cols r
 |[]=>⟨λ_ r hr=>by(cases hr),λ_=>rfl⟩
 |a::j=>by
  simp only[xi];rw[XJ ej,ZJ,avU];constructor
  .grind[aga]
  intro h;have g:=h a ep;have i:=g.len<;>grind[aga]
theorem ark(l)(s):decide (ze l s>=0)=true↔s∈l.map Col.name:=by
 unfold ze;have:=Yg (λx:Col=>zl x.name s) l 0
 grind[AM.beqS_iff]
theorem arl(l)(s):decide (ze l s>=0)=false↔s∉l.map Col.name:=by rw[<-ark,Bool.not_eq_true]
def ColF(c:Col):=qj c.name=0/\(c.t=1\/c.t=2\/c.t=3)
theorem avg:∀{l:am Col}{all:am Col}{i:Nat},all.drop i=l->i<=all.length->(ux all i l=0↔(∀c∈l,ColF c)/\(∀c∈l,c.name∉(all.take i).map Col.name)/\(l.map Col.name).Nodup)
 |[],_,_,_,_=>⟨λ_=>⟨λ_ h=>(by cases h),λ_ h=>(by cases h),dG⟩,λ_=>rfl⟩
 |c::r,all,i,h,hi=>by
  have o:i<all.length:=ek
  have T:=zm o;rw[h]at T;obtain⟨e1,U⟩:=List.cons.inj T;have p:all.take (i+1)=all.take i++[c]:=ek
  simp only[ux];rw[ZJ,XJ ej,XJ ej,avg U.symm ej,arl,p];have ht:(c.t !=1&&c.t !=2&&c.t !=3)=false↔(c.t=1\/c.t=2\/c.t=3):=ek
  rw[ht];simp only[cT,bG,bQ,dt,bA,List.nodup_cons];constructor
  .rintro⟨j,I,J,P,h5,h6⟩;refine⟨λx g=>?_,λx g=>?_,?_,h6⟩
   .rcases aP.1 g with rfl|g
    .exact⟨j,J⟩
    grind
   .grind
   grind
  rintro⟨j,I,J,P⟩;have R:=j c ep;refine⟨R.1,I c ep,R.2,λx g=>j x (by simp[g]),λx g=>?_,P⟩
  grind
structure ColsF(cols:am Col):Prop where
 few:cols.length<=32
 ok:∀c∈cols,ColF c
 nd:(cols.map Col.name).Nodup
theorem Vy(t):tblErr t=0↔ColsF t.cols/\t.rows.length<=20000/\∀r∈t.rows,zV t.cols r:=by
 unfold tblErr;rw[XJ ej,ZJ,avg (by rfl) (bD _),avU];simp only[bT,bK,List.take_zero,dt,cJ,not_false_eq_true,implies_true,true_and];constructor
 .rintro⟨⟨l,o⟩,⟨g,i⟩,j⟩;exact⟨⟨ej,g,i⟩,ej,j⟩
 rintro⟨⟨l,g,i⟩,o,j⟩<;>grind
theorem avp:∀{cols:am Col}{row:am Val},zV cols row->jK cols row=true
 |[],[],_=>rfl
 |c::cs,v::r,h=>by simp only[jK];rw[show(yy c.t v !=0)=false by simpa using aoX h.1];exact avp h.2
theorem aE2{cols}{row}(h:zV cols row):Qe cols row=true:=by
 unfold Qe;rw[h.len]
 grind[avp]
theorem azs:∀{l pre:am Col},dupL pre l=false↔(∀c∈l,c.name∉pre.map Col.name)/\(l.map Col.name).Nodup
 |[],_=>⟨λ_=>⟨λ_ h=>(by cases h),dG⟩,λ_=>rfl⟩
 |c::r,pre=>by
  simp only[dupL];have g:=azs (l:=r) (pre:=pre++[c]);cases i:decide (ze pre c.name>=0)
  .rw[aA,g]
   grind[arl]
  rw[aE]
  grind[ark]
theorem atZ:∀c:Fin 256,gJ ((c.val:Int))=false->Wu (c.val:Int)=true:=by decide+kernel
theorem avz:∀{l:am UInt8},gK l=true->JB l=0
 |[],_=>rfl
 |c::r,h=>by
  simp only[gK]at h;simp only[JB];cases g:gJ c.toNat
  .rw[g,aA]at h;have:=atZ ⟨c.toNat,c.toNat_lt⟩ g;simp only at this;rw[this];exact avz h
  grind
theorem Kc{s}(h:z8 s=true):qj s=0:=by
 unfold z8 at h;unfold qj;cases g:(zl s ⟨#[]⟩||decide ((s.size:Int)>40)||decide (jC s<97)||decide (jC s>122))
 .rw[g,aA]at h
  grind[avz]
 grind
theorem aCg{l}{s}:hasB l s=true↔s∈l:=by grind[hasB,AM.beqS_iff]
theorem arM{l}{s}:hasB l s=false↔s∉l:=by rw[<-aCg,Bool.not_eq_true]
theorem aBv{g}{s}(h:zU g s=0):z8 s=true/\s∉g:=by unfold zU at h;rw[XJ ej,XJ ej]at h;exact⟨ek,arM.1 h.2.1⟩
theorem aaa{a:Type}(f:a->ByteArray){E:am ByteArray->am a->Int}(i:∀g x r,E g (x::r)=0->zU g (f x)=0/\E (g++[f x]) r=0):∀(l) (g:am ByteArray),E g l=0->(∀x∈l,z8 (f x)=true)/\(∀x∈l,f x∉g)/\(l.map f).Nodup
 |[],_,_=>⟨λ_ h=>(by cases h),λ_ h=>(by cases h),dG⟩
 |x::r,g,h=>by
  obtain⟨j,o⟩:=i g x r h;obtain⟨p,I⟩:=aBv j;obtain⟨J,P,i3⟩:=aaa f i r _ o
  grind
theorem anH{l g}(h:yV g l=0):(∀x∈l,z8 x=true)/\(∀x∈l,x∉g)/\l.Nodup:=by
 have:=aaa (λs:ByteArray=>s) (E:=yV) (λg x r h=>by grind[yV]) l g h
 grind
theorem auf{l}{g}(h:yG g l=0):(∀x∈l,z8 x.nm=true)/\(∀x∈l,x.nm∉g)/\(l.map Itm.nm).Nodup:=
 aaa Itm.nm (E:=yG) (λg x r h=>by grind[yG]) l g h
theorem aws{l}{g}(h:qd g l=0):(∀x∈l,z8 x.nm=true)/\(∀x∈l,x.nm∉g)/\(l.map Agg.nm).Nodup:=
 aaa Agg.nm (E:=qd) (λg x r h=>by grind[qd]) l g h
theorem anW{α}(p:α->Bool):∀(l) (i:Nat),zO p (i:Int) l<0\/∃k,∃h:k<l.length,zO p (i:Int) l=((i+k:Nat):Int)/\p l[k]=true
 |[],i=>.inl (by simp[zO])
 |x::r,i=>by
  simp only[zO];cases g:p x
  .have:=anW p r (i+1);simp only[aA];rcases this with h|⟨k,hk,e,j⟩
   .grind
   right
   refine⟨k+1,ek,?_,j⟩;have:zO p ((i:Int)+1) r=((i+1+k:Nat):Int):=e;omega
  right
  exact⟨0,ep,ep,g⟩
theorem Xh{cols}{s}(h:¬ze cols s<0):∃h:(ze cols s).toNat<cols.length,xW cols (ze cols s)=cols[(ze cols s).toNat]/\(xW cols (ze cols s)).name=s:=by
 have:=anW (λx:Col=>zl x.name s) cols 0
 grind[ze,xW,AM.beqS_iff]
theorem af8{cols}{g}(h:takeErr cols g=false):∀s∈g,¬ze cols s<0:=λs hs=>by grind[takeErr]
theorem ahR{cols}{g}(h:takeErr cols g=false):(takeC cols g).map Col.name=g:=by
 unfold takeC;rw[dX];conv=>rhs;rw[<-List.map_id' g]
 exact List.map_congr_left λs hs=>(Xh (af8 h s hs)).2.2
theorem aA4{cols}{g}(h:takeErr cols g=false):∀c∈takeC cols g,c∈cols:=λc i=>by
 unfold takeC at i;obtain⟨s,hs,rfl⟩:=bE.1 i;obtain⟨j,l,_⟩:=Xh (af8 h s hs)
 grind
theorem zV.pick{cols}{r}(hr:zV cols r){g}(h:takeErr cols g=false):zV (takeC cols g) (pickL r (zf cols g)):=by
 unfold pickL zf takeC;rw[dX];refine zV.map _ _ λs hs=>?_
 obtain⟨i,j,_⟩:=Xh (af8 h s hs);rw[j];exact hr.get i
theorem aAn(r)(a b):pickL r (a++b)=pickL r a++pickL r b:=by simp[pickL]
theorem azp{vs}{i}{v}{r}(h:vs.drop i=v::r):at0 vs i=v/\vs.drop (i+1)=r:=by grind[aN,zm,at0]
theorem zV.rest(on){y}:∀{tc:am Col}{i:Nat},zV tc (y.drop i)->zV (tc.filter λc=>!hasB on c.name) (pickL y (oth on i tc))
 |[],i,_=>trivial
 |c::r,i,h=>by
  cases g:y.drop i with
  |nil=>rw[g]at h;exact False.elim h
  |cons v vs=>
   rw[g]at h;obtain⟨e1,j⟩:=azp g;have o:=zV.rest on (y:=y) (tc:=r) (i:=i+1) (by rw[j];exact h.2);simp only[Go.Proofs.YtnlbmefhdiabcaaGreat.oth];cases l:(!hasB on c.name)
   .grind
   rw[dq,l,dx rfl,aAn];refine zV.app (cs:=[c]) ?_ o;show zV [c] [at0 y ((i:Int)).toNat];rw[show((i:Int)).toNat=i by omega,e1];exact⟨h.1,trivial⟩
theorem asx(on):∀(l) (i:Nat),(oth on i l).length=(l.filter λc=>!hasB on c.name).length
 |[],_=>rfl
 |c::r,i=>by
  simp only[oth,aC];rw[asx on r (i+1)];cases g:(!hasB on c.name)
  .rw[dq,g];simp
  rw[dq,g];simp;omega
theorem arL(a b)(s):hasB (a++b) s=(hasB a s||hasB b s):=by simp[hasB]
theorem an9(g cs)(tc):keepS g cs tc=tc.filter λc=>!hasB (cs++g) c.name:=by
 unfold keepS;congr 1
 funext c
 grind[arL]
theorem zV.nulls:∀(l),zV l (aB l.length zF)
 |[]=>trivial
 |c::r=>⟨azJ _,zV.nulls r⟩
theorem aGa{l}{w}(h:xq l w=true):∀x∈l,x=w\/x=0:=λx i=>by
 cases g:qc x w
 .grind[xq]
 simp_all[qc]
theorem azK{l:am Int}{i}{P:Int->Prop}(h:∀x∈l,P x)(h0:P 0):P (l.getD i 0):=ek
theorem aD5{cols}(hc:∀c∈cols,ColF c){e:Ex}(he:e.err=0)(J:(e.ty cols).2=0):0<=(e.ty cols).1/\(e.ty cols).1<=3:=by
 obtain⟨op,j,v,r⟩:=e;have p:yK op j v r.length=0:=by grind[Ex.err]
 obtain⟨ac,g⟩:=agY J;have hT:(Ex.ty cols (.mk op j v r))=uP cols op j v (tyL cols r).2:=by grind[Ex.ty]
 rw[hT];obtain⟨_,aa,ab⟩:=Yl p;generalize(tyL cols r).2=l at*;have ho:op=1\/op=2\/op=3\/op=4\/op=5\/op=6\/op=7\/op=8\/op=9\/op=10\/op=11\/op=12\/op=13\/op=14\/op=15\/op=16:=ej
 rcases ho with rfl|rfl|rfl|rfl|rfl|rfl|rfl|rfl|rfl|rfl|rfl|rfl|rfl|rfl|rfl|rfl
 .show 0<=v.k/\v.k<=3;have o:=aaR (by rfl) p;unfold jZ at o;have:=agp (ZJ.1 o).1;rcases this with rfl|⟨h,_⟩|⟨h,_⟩|⟨h,_⟩
  .exact⟨cM _,by show(0:Int)<=3;omega⟩
  all_goals omega
 .have g:(bif decide (ze cols j<0)then((0:Int),(16:Int))else(uu cols (ze cols j),0)).2=0:=g;have I:¬ze cols j<0:=λh=>ek
  show 0<=(bif decide (ze cols j<0)then((0:Int),(16:Int))else(uu cols (ze cols j),0)).1/\(bif decide (ze cols j<0)then((0:Int),(16:Int))else(uu cols (ze cols j),0)).1<=3;rw[cK I];obtain⟨T,_,_⟩:=Xh I;have h7:uu cols (ze cols j)=cols[(ze cols j).toNat].t:=by grind[uu]
  simp only[aA];rw[h7];have:=(hc _ (aL T)).2;omega
 .grind[uP,yW]
 .grind[uP,yW]
 .grind[uP,yW]
 .grind[uP,yW]
 .grind[uP,yW]
 .grind[uP,yW]
 .grind[uP,yW]
 .grind[uP,yW]
 .grind[uP,yW]
 .grind[uP,yW]
 .grind[uP,yW]
 .grind[uP,yW]
 .grind[uP,yW]
 have g:(ZL j l).2=0:=g;show 0<=(ZL j l).1/\(ZL j l).1<=3;unfold ZL at g⊢;generalize(zl j ⟨#[109,105,110]⟩||zl j ⟨#[109,97,120]⟩)=q1 at*;generalize zl j ⟨#[97,98,115]⟩=q2,zl j ⟨#[108,101,110]⟩=q3 at*;cases q1 with
 |true=>
  simp only[aE]at g⊢;obtain⟨U,h2⟩:=yW g;rw[h2,gY];have R:∀x∈l,0<=x/\x<=3:=λx hx=>by
   simp only[Bool.or_eq_true]at U
   grind[aGa]
  have I:=azK (i:=0) (P:=λx=>0<=x/\x<=3) R ej;have T:=azK (i:=1) (P:=λx=>0<=x/\x<=3) R ej;omega
 |false=>
  simp only[aA]at g⊢;cases q2 with
  |true=>simp_all[yW]
  |false=>
   simp only[aA]at g⊢;cases q3<;>simp_all[yW]
theorem atm{cols}(p:∀c∈cols,ColF c):∀{l:am Itm},(∀x∈l,x.e.chk=0/\z8 x.nm=true)->(qw cols l).1=0->(qw cols l).2=l.map (λx=>(⟨x.nm,(x.e.ty cols).1⟩:Col))/\∀x∈l,(x.e.ty cols).2=0/\ColF ⟨x.nm,(x.e.ty cols).1⟩
 |[],_,_=>⟨rfl,λ_ h=>by(cases h)⟩
 |x::r,I,h=>by
  simp only[qw]at h⊢;cases i:((x.e.ty cols).2 !=0)
  .rw[i]at h;cases o:((x.e.ty cols).1==0)
   .rw[o]at h;cases J:((qw cols r).1 !=0)
    .rw[J]at h;obtain⟨P,R⟩:=atm p (λy j=>I y (by simp[j])) (l:=r) ek;simp only[aA,bQ];have i:(x.e.ty cols).2=0:=ek
     have o:(x.e.ty cols).1≠0:=ek
     have g:=I x ep;have hr:=aD5 p (V4 g.1) i;refine⟨by rw[P],λy j=>?_⟩;rcases aP.1 j with rfl|j
     .exact⟨i,Kc g.2,ek⟩
     grind
    simp_all
   grind
  simp_all
theorem aDH{cols}(g:∀c∈cols,ColF c){l}(i:∀x∈l,x.e.chk=0/\z8 x.nm=true)(h:(qw cols l).1=0){row}(hr:zV cols row):zV (qw cols l).2 (itR cols row l):=by grind[atm,itR,zV.map,Ex.tyE,azG,aE2]
theorem aB8(l):yF 2 (XE l):=by grind[XE,yF,anr,gB]
theorem asq:∀{l:am Val}{m:Val}{P:Val->Prop},P m->(∀v∈l,P v)->P (vX m l)
 |[],_,_,h,_=>h
 |v::r,m,P,h,g=>by
  simp only[vX];refine asq ?_ λx i=>g x (by simp[i])
  grind
theorem asl:∀{l:am Val}{m:Val}{P:Val->Prop},P m->(∀v∈l,P v)->P (Z6 m l)
 |[],_,_,h,_=>h
 |v::r,m,P,h,g=>by
  simp only[Z6];refine asl ?_ λx i=>g x (by simp[i])
  grind
theorem aww{l}{i}{P:Val->Prop}(h:∀v∈l,P v)(h0:P zF):P (at0 l i):=by grind[at0]
theorem aqJ{fn}{l}{t}(J:l.length<=20000)(g:zl fn vj=false->∀v∈l,yF t v)(hs:zl fn aaY=true->zl fn vj=false->t=2)(j:zl fn vj=true->t=2):yF t (vS fn l):=by
 unfold vS;cases p:zl fn vj
 .have g:=g p;have i:∀v∈zK l,yF t v:=λv o=>g v (cU.1 o).1
  cases I:zl fn aaY
  .simp only[aA];cases(zl fn ak8&&decide ((l.length:Int)>0))
   .simp only[aA];have r:∀v∈(zK l).drop 1,yF t v:=λv o=>i v (cN o)
    cases(zl fn amW&&decide (((zK l).length:Int)>0))
    .simp only[aA];cases(zl fn amV&&decide (((zK l).length:Int)>0))
     .exact .inl rfl
     exact asl (aww i (.inl rfl)) r
    exact asq (aww i (.inl rfl)) r
   exact aww g (.inl rfl)
  grind[aB8]
 rw[j p];simp only[aE];exact Zw (aby ej ej)
theorem ah1{cols}:∀{l:am Agg},(yk cols l).1=0->(yk cols l).2=l.map (λa=>(jJ cols a).2)/\∀a∈l,(jJ cols a).1=0
 |[],_=>⟨rfl,λ_ h=>by(cases h)⟩
 |a::r,h=>by
  simp only[yk]at h⊢;cases i:((jJ cols a).1 !=0)
  .rw[i]at h;simp only[aA]at h⊢;obtain⟨j,o⟩:=ah1 h;refine⟨by rw[j,bQ],λy g=>?_⟩;rcases aP.1 g with rfl|g
   .simpa using i
   exact o y g
  simp_all
theorem anE(cols)(a):(jJ cols a).2.name=a.nm:=by
 unfold jJ;cases(!zl a.fn vj)
 .rfl
 simp only[aE];cases decide (ze cols a.col<0)
 .simp only[aA]
  grind
 rfl
theorem aED{cols}(R:∀c∈cols,ColF c){a}(hid:z8 a.nm=true)(h:(jJ cols a).1=0){rows}(T:rows.length<=20000)(hr:∀r∈rows,zV cols r):ColF (jJ cols a).2/\yF (jJ cols a).2.t (vS a.fn (vV cols rows a)):=by
 have g:qj (jJ cols a).2.name=0:=by grind[anE,Kc]
 have j:(vV cols rows a).length<=20000:=by grind[arm]
 unfold ColF;refine⟨⟨g,?_⟩,?_⟩;all_goals clear g
 all_goals unfold jJ at h⊢
 all_goals cases o:zl a.fn vj
 .rw[o]at h;simp only[cG,aE]at h⊢;cases i:decide (ze cols a.col<0)
  .rw[i]at h;simp only[aA]at h⊢;cases P:(zl a.fn aaY&&(xW cols (ze cols a.col)).t !=2)
   .obtain⟨p,I,_⟩:=Xh (aR i);simp only[aA];rw[I];exact(R _ (aL p)).2
   grind
  grind
 .grind
 .rw[o]at h;simp only[cG,aE]at h⊢;cases i:decide (ze cols a.col<0)
  .rw[i]at h;simp only[aA]at h⊢;cases P:(zl a.fn aaY&&(xW cols (ze cols a.col)).t !=2)
   .obtain⟨p,I,_⟩:=Xh (aR i);simp only[aA];refine aqJ j (λ_ v l=>?_) (λhs _=>?_) (λh=>ek)
    .unfold vV at l;rw[o,show decide (ze cols a.col>=0)=true by grind]at l;simp only[cG,Bool.and_true,aE]at l;obtain⟨r,J,rfl⟩:=bE.1 l;rw[I];exact(hr r J).get p
    grind
   grind
  grind
 grind[aqJ]
theorem axf{at_}{P:Gr->Prop}{gs}{row}(h:∀g∈gs,P g)(o:∀g j:Gr,g.key=j.key->P g->P j)(hk:∀r,P ⟨pickL row at_,r⟩):∀g∈ji at_ gs row,P g:=by
 have p:∀g∈vu gs (pickL row at_),P g:=by
  unfold vu;cases uN gs (pickL row at_)
  .intro g i;simp only[aA,bG,bA]at i
   grind
  exact h
 unfold ji YS;intro g i;cases l:(vu gs (pickL row at_))[xl gs (pickL row at_)]? with
 |none=>grind
 |some x=>
  rw[l]at i;rcases de i with i|rfl
  .grind
  exact o x _ rfl (p x (dE l))
theorem arI(at_){P:Gr->Prop}(o:∀g l:Gr,g.key=l.key->P g->P l):∀(rows:am (am Val)) (i:am Gr),(∀g∈i,P g)->(∀r∈rows,∀j,P ⟨pickL r at_,j⟩)->∀g∈rows.foldl (ji at_) i,P g
 |[],i,h,_=>h
 |r::j,i,h,hk=>by rw[cA];exact arI at_ o j _ (axf h o (hk r ep)) λx p=>hk x (by simp[p])
theorem auc(at_)(rows):∀g∈vh at_ rows,(at_=[]/\g.key=[])\/∃r∈rows,g.key=pickL r at_:=by
 unfold vh;split
 .grind
 intro g i;exact .inr (arI at_ (P:=λg=>∃r∈rows,g.key=pickL r at_) (λg j e h=>ek) rows [] (λ_ h=>by cases h) (λr hr _=>⟨r,hr,rfl⟩) g i)
theorem zV.rest0(g cs){tc}{y}(h:zV tc y):zV (keepS g cs tc) (pickL y (oth (cs++g) 0 tc)):=by grind[an9,zV.rest]
theorem azS{left right g}{xs ys}{z}(h:z∈vw left right g xs ys):∃x∈xs,∃y∈ys,z=x++pickL y g:=by
 unfold vw at h;obtain⟨x,j,h⟩:=bX.1 h;unfold ait at h;cases i:(pickL x left).any (yH zF)
 .rw[i,aA]at h
  grind[Zb]
 grind
theorem zV.setN{cols}{R}(h:zV cols R){k n}(hk:k.toNat<cols.length)(o:cols[k.toNat].t=2)(l:(at0 R k.toNat).k≠0)(p:inB n=true):zV cols (setN R k n)/\∀j,(at0 (setN R k n) j).k=(at0 R j).k:=by
 have g:=h.get hk;rw[o]at g;obtain⟨m,_,e⟩:=g.num l rfl;have r:=h.len;have i:Go.Proofs.YtnlbmefhdiabcaaGreat.setN R k n=R.set k.toNat (asu n):=by unfold Go.Proofs.YtnlbmefhdiabcaaGreat.setN;rw[e];rfl
 rw[i];refine⟨h.set hk (by grind[Zw]),λj=>?_⟩
 grind[at0,asu]
theorem alR{x m}{i}(h:i<x.length):at0 (x++m) i=at0 x i:=by grind[at0]
theorem anp{a b}(h:qK a b=true):a.k=2/\b.k=2/\a.n<b.n:=by simp_all[qK]
theorem zV.inB{cols}{R}(h:zV cols R){k}(hk:k<cols.length)(i:(at0 R k).k=2):inB (at0 R k).n=true:=by obtain⟨e,_⟩:=(h.get hk).kind ek;obtain⟨m,j,g⟩:=(h.get hk).num ek (by rw[<-e,i];rfl);rw[g];exact j
theorem amh{b}{x y}(g:Go.Proofs.YtnlbmefhdiabcaaGreat.inB x=true)(i:Go.Proofs.YtnlbmefhdiabcaaGreat.inB y=true):Go.Proofs.YtnlbmefhdiabcaaGreat.inB (yL b x y)=true:=by grind[yL]
structure Spn(cols:am Col)(p q:Int):Prop where
 p1:p.toNat<cols.length
 p2:cols[p.toNat].t=2
 q1:q.toNat<cols.length
 q2:cols[q.toNat].t=2
theorem gu{cols}{s}(h:colInt cols s=0):∃h:(ze cols s).toNat<cols.length,cols[(ze cols s).toNat].t=2:=by
 unfold colInt at h;rw[XJ ej,XJ ej]at h
 grind[Xh]
theorem aAZ{cols}(h:intErr cols [sFrom,sTo]=0):Spn cols (ze cols sFrom) (ze cols sTo):=by simp only[intErr]at h;rw[ZJ,ZJ]at h;obtain⟨g,i⟩:=gu h.1;obtain⟨j,l⟩:=gu h.2.1;exact⟨g,i,j,l⟩
theorem aEe{A B:am Col}{i}(h:i<A.length)(g:A[i].t=2):∃h:i<(A++B).length,(A++B)[i].t=2:=
 ⟨ek,ek⟩
theorem aAi{cols tc K}{p q I J}{left right more}{P br}(hs:Spn cols p q)(l:Spn tc I J)(ha:∀r∈P,zV cols r)(hb:∀r∈br,zV tc r)(hm:∀r∈br,zV K (pickL r more)):∀z∈vm p q I J left right more P br,zV (cols++K) z:=by
 intro z g;unfold vm at g;obtain⟨x,hx,g⟩:=bX.1 g;unfold kB at g;cases R:qK (at0 x p.toNat) (at0 x q.toNat)
 .grind
 rw[R,aE]at g;unfold jM at g;obtain⟨y,T,g⟩:=bX.1 g;cases j:Kj I J left right (at0 x p.toNat).n (at0 x q.toNat).n x y
 .grind
 rw[j,aE,bA]at g;subst g;unfold Kj at j;simp only[Bool.and_eq_true]at j;obtain⟨j,_⟩:=j;have i:=ha x hx;have o:=hb y T;obtain⟨k1,k2,_⟩:=anp R;obtain⟨k3,k4,_⟩:=anp j;have hR:zV (cols++K) (x++pickL y more):=i.app (hm y T);have hl:=i.len;obtain⟨U,P2⟩:=aEe (B:=K) hs.p1 hs.p2;obtain⟨Q1,Q2⟩:=aEe (B:=K) hs.q1 hs.q2;have i1:=i.inB hs.p1 k1;have i2:=i.inB hs.q1 k2;have i3:=o.inB l.p1 k3;have i4:=o.inB l.q1 k4;unfold adc;have aa:=hs.p1;have ab:=hs.q1;obtain⟨s1,s2⟩:=hR.setN U P2 (by grind[alR]) (amh (b:=true) i1 i3);exact(s1.setN Q1 Q2 (by grind[alR]) (amh (b:=false) i2 i4)).1
theorem avH{p i:Int}{left right}{x}:∀{ys:am (am Val)}{b:bC (am Val)}{P:am Val->Prop},(∀z,b=some z->P z)->(∀y∈ys,P y)->∀z,ys.foldl (λb y=>bif ZN (at0 x p.toNat) (at0 y i.toNat) (ZQ (pickL x left) (pickL y right))then Xy i y b else b) b=some z->P z
 |[],b,P,h,_,z,j=>h z j
 |y::r,b,P,h,I,z,j=>by
  rw[cA]at j;refine avH (P:=P) (ys:=r) ?_ (λw g=>I w (by simp[g])) z j;intro w g;cases l:ZN (at0 x p.toNat) (at0 y i.toNat) (ZQ (pickL x left) (pickL y right))
  .grind
  rw[l,aE]at g;cases b with
  |none=>cases g;grind
  |some u=>
   simp only[Xy]at g;cases o:decide ((at0 y i.toNat).n>=(at0 u i.toNat).n)
   .simp_all
   rw[o,aE]at g;grind
theorem aAc{cols K}{p g}{left right more}{br}(o:more.length=K.length)(i:∀r∈br,zV K (pickL r more)){x}(j:zV cols x):zV (cols++K) (vA p g left right more br x):=by
 unfold vA;refine j.app ?_;unfold kA;cases h:br.foldl (λb y=>bif ZN (at0 x p.toNat) (at0 y g.toNat) (ZQ (pickL x left) (pickL y right))then Xy g y b else b) none with
 |none=>
  show zV K (aB more.length zF)
  grind[zV.nulls]
 |some z=>exact avH (P:=λr=>zV K (pickL r more)) (λz l=>by cases l) i z h
def PcF(K:am Col)(x:Pc):=zV K x.key/\inB x.a=true/\inB x.b=true
theorem aAk{cols K}{at_}{p q}{rows}(hs:Spn cols p q)(hr:∀r∈rows,zV cols r/\zV K (pickL r at_)):∀z∈vQ at_ p q rows,PcF K z:=by
 intro z g;unfold vQ at g;obtain⟨x,l,g⟩:=bX.1 g;unfold ade at g;cases i:(qK (at0 x p.toNat) (at0 x q.toNat)&&decide ((at0 x p.toNat).n>=0))
 .grind
 rw[i,aE,bA]at g;subst g;simp only[Bool.and_eq_true]at i;obtain⟨o,I,_⟩:=anp i.1;obtain⟨j,hk⟩:=hr x l;exact⟨hk,j.inB hs.p1 o,j.inB hs.q1 I⟩
theorem aCH{K}{g}{x}(h:∀z∈g,PcF K z)(l:PcF K x):∀z∈vz g x,PcF K z:=by
 have j:∀z∈g++[x],PcF K z:=λz i=>ek
 unfold vz;split
 .exact j
 rename_i y o;cases(xS y.key x.key&&_)
 .exact j
 intro z i;rcases de i with i|rfl
 .exact h z i
 have:=h y (bU o);exact⟨this.1,this.2.1,by show inB (yL true y.b x.b)=true;exact amh this.2.2 l.2.2⟩
theorem aCF{K}{l}(h:∀z∈l,PcF K z):∀z∈Yk l,PcF K z:=by
 have gen:∀(l g:am Pc),(∀z∈l,PcF K z)->(∀z∈g,PcF K z)->∀z∈l.foldl vz g,PcF K z:=by intro l;induction l<;>grind[aCH,aD]
 exact gen l [] h (λz i=>by cases i)
theorem arO{α}(c:α->α->Int)(l):∀z∈yE c l,z∈l:=by
 have gen:∀(l g:am α),∀z∈l.foldl (λg x=>vo c x g) g,z∈g\/z∈l:=by intro l;induction l<;>grind[Wq]
 intro z i;rcases gen l [] z i with h|h<;>grind
theorem aoE{α}(c:α->α->Int)(l):(yE c l).length=l.length:=by
 have gen:∀(l g:am α),(l.foldl (λg x=>vo c x g) g).length=g.length+l.length:=by
  intro l;induction l with
  |nil=>grind
  |cons x r i=>
   intro g;rw[cA,i,(Wq c x g).length_eq]
   grind
 have:=gen l [];rw[cB,cY]at this;exact this
theorem awJ{cols K}{at_}{p q}{rows}(hs:Spn cols p q)(hr:∀r∈rows,zV cols r/\zV K (pickL r at_)):∀z∈jY at_ p q rows,zV (K++[⟨sFrom,2⟩,⟨sTo,2⟩]) z:=by intro z g;unfold jY at g;obtain⟨x,i,rfl⟩:=bE.1 g;have:=aCF (λz g=>aAk hs hr z (arO QY _ z g)) x i;unfold xC;exact this.1.app ⟨Zw this.2.1,Zw this.2.2,trivial⟩
theorem awK(at_)(p q)(rows):(jY at_ p q rows).length<=rows.length:=by
 unfold jY;rw[aW];have g:=aiD (yE QY (vQ at_ p q rows)) (yE QY (vQ at_ p q rows)).length (aO _)
 grind[aoE,afD]
end
end Go.Proofs.YtnlbmefhdiabcaaGreat
set_option linter.unusedVariables false
namespace Go.Proofs.YtnlbmefhdiabcaaGreat
open Go Go.Proofs Go.RowKit Go.Lib
section
variable {P:Program}
theorem Ux(w){ops}{rest}{o}{a}{Q:Exit->Act->World->Prop}(g:o.guard=none)(d s)(t i)
 (p:o.op=.call {callee:=.builtin .copy,args:= #[d,s],argTypes:= #[t,i]}) (v u) (l:a.eval d=v) (hs:a.eval s=u) {v'}{w'}
 (hr:(bJ #[t,i] o.type #[v,u]).run P w=.ok v' w') (h:wpList P ops Q rest (a.put o.dst v') w'):wpList P ops Q (o::rest) a w:=
 wpList_plain g λK j=>by unfold Oper.wp execOp;simp only[p,d9,invoke,builtin,Sem.run_bind,Sem.run_pure,Result.andThen_ok,List.map_toArray,bQ,dt,l,hs,hr];exact j _ _ h
theorem af5{ops}{o}{a}{w}{K:Act->World->Prop}{Q:Exit->Act->World->Prop}{E}
 (I:o.guard=none) (d x) (i sT) (g:o.op=Op.call {callee:=dH Builtin.copy,args:= #[d,x],argTypes:= #[i,sT]})
 (v u) (l:a.eval d=v) (r:a.eval x=u) {v'}{w'}(hr:(bJ #[i,sT] o.type #[v,u]).run P w=.ok v' w') (j:K (a.put o.dst v') w'):
 if dN o (yielded ops a.tmps)=true then Oper.wp P o a w K Q else E:=by
 have p:dN o (yielded ops a.tmps)=true:=by grind[dN]
 rw[dx p];unfold Oper.wp;simp[execOp,g,d9,invoke,builtin,l,r,hr,Result.andThen];exact j
end
theorem XB(g)(t):∀(vs) (o:Nat) (w:World) (i:aQ Value),w.heap[g]?=some (.cells i t (0,0))->o+vs.length<=i.size->
 (∃j,(w.setCells g o vs).heap[g]?=some (.cells j t (0,0))/\j.size=i.size/\j.toList=i.toList.take o++vs++i.toList.drop (o+vs.length))/\w.grownBy (w.setCells g o vs) (some g)/\(w.setCells g o vs).drawn=w.drawn
 |[],o,w,i,h,_=>⟨⟨i,h,rfl,ep⟩,⟨rfl,rfl,rfl,aO _,λ_ _ _=>rfl⟩,rfl⟩
 |v::r,o,w,i,h,hl=>by
  simp only[aN]at hl;have P:=heap_setCell_same w g o i t v h;obtain⟨⟨j,R,h3,T⟩,l,U⟩:=XB g t r (o+1) (w.setCell ⟨g,o,none⟩ v) (i.setIfInBounds o v) P ew;refine⟨⟨j,R,ek,?_⟩,?_,U⟩
  .rw[T,Array.toList_setIfInBounds];have J:o<i.toList.length:=ew
   rw[cF,dx J];have p:(i.toList.take o).length=o:=ek
   rw[List.take_append,p,show o+1-o=1 by omega,bM ej];rw[List.drop_append,p,dr (by omega:(i.toList.take o).length<=o+1+r.length)];rw[show o+1+r.length-o=r.length+1 by omega];simp only[List.take_succ_cons,List.take_zero,List.drop_succ_cons,co,List.drop_drop,dg,bY,aN]
   grind
  exact⟨l.os,l.tape,l.output,aJ ep l.size,λk hk I=>(l.block k eu I).trans (heap_setCell_other w ⟨g,o,none⟩ k v (λe=>I (by rw[e])))⟩
theorem aof{w:World}{yS g n cap}{xs}(j:w.ownsRow yS tG 2 (.slice (some ⟨g,0,none⟩) n cap) n xs):∃i,w.heap[g]?=some (.cells i tG (0,0))/\n<=cap/\cap<=maxLen/\i.size=cap*2/\i.toList.take (n*2)=xs/\yS<=g:=by
 rcases j.2 with⟨p,_⟩|⟨P,o,i,p,R,T,J,r,I,l⟩
 .grind
 simp_all
theorem Vr{P:Program}(w)(I sT ty elem)(b o g l)(a)(i r)(cs:am Value)
 (hu:P.underlying I=some (.slice elem)) (hs:(P.info? elem).map (·.size)=some 2) (hn:cs.length=di i g*2)
 (p:∀j v,cs[j]?=some v->w.cell? (a.add j)=some v) (T:∀j,j<cs.length->(w.cell? ⟨b,o+j,none⟩).isSome=true) (U:∀j,j<cs.length->w.frozen? ⟨b,o+j,none⟩=false) (J:∀v∈cs,v.oneCell'=true):
 (bJ #[I,sT] ty #[.slice (some ⟨b,o,none⟩) g l,.slice (some a) i r]).run P w=.ok (goInt (di i g)) (w.setCells b o cs):=by have hl:=run_loadCells_list (P:=P) w a cs p;have R:=run_storeCells_cells (P:=P) b o cs 0 w ek ek J;cases hq:P.info? elem<;>simp_all[bJ,run_underlying,Builtin.lenOf,c9,sizeOf,typeInfo]
theorem ke(b)(vs)(o)(w:World)(h:∀j,j<vs.length->(w.cell? ⟨b,o+j,none⟩).isSome=true)(k)(hk:(w.cell? ⟨b,k,none⟩).isSome=true):((w.setCells b o vs).cell? ⟨b,k,none⟩).isSome=true:=by
 by_cases g:o<=k/\k<o+vs.length
 .have:=World.cell?_setCells_in b vs o w h (k-o) ej
  grind
 rw[World.cell?_setCells_out b vs o w ⟨b,k,none⟩ (λ_ _=>ek)];exact hk
theorem aCn(L:am Value)(xs:am Value)(n i:Nat)(k r:Value)(P:L.take (n*2)=xs)(T:(n+1)*2<=L.length)(R:i<n):
 let g:=L.take ((i+1)*2)++xs.drop (i*2)++L.drop ((i+1)*2+(xs.drop (i*2)).length)
 (g.take (i*2)++[k,r]++g.drop (i*2+2)).take ((n+1)*2)=xs.take (2*i)++[k,r]++xs.drop (2*i):=by
 intro g;have j:xs.length=n*2:=ek
 have I:(xs.drop (i*2)).length=n*2-i*2:=ek
 have o:g.take (i*2)=xs.take (i*2):=by show(L.take ((i+1)*2)++xs.drop (i*2)++L.drop ((i+1)*2+(xs.drop (i*2)).length)).take (i*2)=_;rw[dg,cP ek,List.take_take,<-P,List.take_take];congr 1;omega
 have p:g.drop (i*2+2)=xs.drop (i*2)++L.drop ((i+1)*2+(xs.drop (i*2)).length):=by
  show(L.take ((i+1)*2)++xs.drop (i*2)++L.drop ((i+1)*2+(xs.drop (i*2)).length)).drop (i*2+2)=_;have J:(L.take ((i+1)*2)).length=i*2+2:=ek
  grind
 rw[o,p,show 2*i=i*2 by omega];have l:(xs.take (i*2)++[k,r]++xs.drop (i*2)).length=(n+1)*2:=by simp only[aC,aN,cB,I,dp,j];omega
 grind
set_option maxRecDepth 100000 in
set_option maxHeartbeats 4000000 in
theorem arR(w:World)(yS g n cap i:Nat)(xs:am Value)(o:w.ownsRow yS tG 2 (.slice (some ⟨g,0,none⟩) n cap) n xs)(hn:n<=1000000)(hi:i<n)(ak:n+1<=cap)
 (I:Nat) (k r:Value) (T:w.heap[I]?=some (.cells #[k,r] tG (0,0))) (ad:I≠g) (h2:k.oneCell'=true) (h3:r.oneCell'=true) (ae:∀v∈xs,v.oneCell'=true):
 Calls Tryz.prog 259 #[.slice (some ⟨g,0,none⟩) n cap,.int .i64 i,.slice (some ⟨I,0,none⟩) 1 1] w λe w'=>e=.returned (.slice (some ⟨g,0,none⟩) (n+1) cap)/\w'=(w.drew.setCells g ((i+1)*2) (xs.drop (i*2))).setCells g (i*2) [k,r]:=by
 obtain⟨aq,hg,a1,ay,ah,al,ax⟩:=aof o;have a5:¬((i:Int)=(n:Int)):=ej
 have a4:xs.length=n*2:=o.1;have ac:(Tryz.prog.info? tG).map (·.size)=some 2:=by grind[info_parts,axm]
 have aj:(callFunc 294 #[.slice (some ⟨I,0,none⟩) 1 1,.slice (some ⟨g,(i+1)*2,none⟩) (n-i) (cap-(i+1))]).run Tryz.prog w=.ok (.value (.bool false)) w:=by
  rw[run_callFunc_extern Tryz.func294 er er er (e:=Extern.SlicesOverlaps.overlaps #[228,228] #[4]) er,
   Lib.run_overlaps_apart w 228 4 tG Tryz.underlying228 2 Tryz.sizeOf232 ⟨I,0,none⟩ ⟨g,(i+1)*2,none⟩ 1 1 (n-i) (cap-(i+1)) ad tG tG 2 (cap*2) (by simp[bI,T]) (by simp[bI,hg,ah]) ej (by simp[dn,T]) (by simp[dn,T])]
  rfl
 have R:∀j,j<cap*2->(w.cell? ⟨g,j,none⟩).isSome=true:=λj l=>by
  simp only[bL,hg]
  grind
 have ab:∀j,w.frozen? ⟨g,j,none⟩=false:=λj=>o.frozenAt j
 have an:∀j v,xs[j]?=some v->w.cell? ⟨g,j,none⟩=some v:=λj v h=>by have a0:=(am.getElem?_eq_some_iff.1 h).1;rw[o.cellAt j ej];exact h
 have ai:(xs.drop (i*2)).length=(n-i)*2:=ek
 have J:∀ty P sc,(bJ #[228,228] ty #[.slice (some ⟨g,(i+1)*2,none⟩) (n-i) P,.slice (some ⟨g,i*2,none⟩) (n+1-i) sc]).run Tryz.prog w.drew=.ok (goInt (di (n+1-i) (n-i))) (w.drew.setCells g ((i+1)*2) (xs.drop (i*2))):=λty P sc=>
  Vr w.drew _ _ ty tG g ((i+1)*2) (n-i) P ⟨g,i*2,none⟩ (n+1-i) sc (xs.drop (i*2)) Tryz.underlying228 ac (by rw[ai];show _=di _ _*2;grind)
   (λj v l=>by simp_all[cZ])
   (λj l=>R _ ek) (λj l=>ab _) (λv T=>ae v (cN T))
 obtain⟨U,p⟩:∃U,U=w.drew.setCells g ((i+1)*2) (xs.drop (i*2)):=⟨_,rfl⟩;have ao:∀k,k<cap*2->(U.cell? ⟨g,k,none⟩).isSome=true:=λk hk=>by rw[p];exact ke g _ ((i+1)*2) w.drew (λj l=>R _ ek) _ (R k hk)
 have aa:∀(W:World),(∀x,W.cell? x=U.cell? x)->(∀x,W.frozen? x=U.frozen? x)->∀ty P,(bJ #[228,228] ty #[.slice (some ⟨g,i*2,none⟩) (n+1-i) P,.slice (some ⟨I,0,none⟩) 1 1]).run Tryz.prog W=.ok (goInt (di 1 (n+1-i))) (W.setCells g (i*2) [k,r]):=λW af ag ty P=>
  Vr W _ _ ty tG g (i*2) (n+1-i) P ⟨I,0,none⟩ 1 1 [k,r] Tryz.underlying228 ac (by show 2=di _ _*2;grind)
   (λj v l=>by
    rw[cZ,af,p,World.cell?_setCells_out g _ _ _ _ (λh _=>absurd h ad)]
    match j,l with
    |0,l=>exact(aM some (bN l))▸(show w.cell? ⟨I,0,none⟩=some k by simp[bL,T])
    |1,l=>exact(aM some (bN l))▸(show w.cell? ⟨I,1,none⟩=some r by simp[bL,T])
    |(j+2),l=>cases l)
   (λj l=>ek) (λj l=>by rw[ag,p,World.frozen?_setCells];exact ab _) (agG h2 h3)
 rw[<-p]at J;have a3:aG.wrap ((i:Int)+1)=(i:Int)+1:=by grind[IntKind.wrap_i64]
 have ar:(0:Int)<=(i:Int)+1:=ej
 have az:i<=n:=ej
 have a2:((i:Int)+1).toNat=i+1:=ej
 have au:¬(cap=i+1):=ej
 have av:(i:Int)<=(n:Int)+1:=ej
 have aw:¬(cap=i):=ej
 have mixed:Tryz.prog.follows .mixedOrders=true:=er
 go_enter Tryz.func259,Tryz.ntmps259
 go_wp2_with (simp only[aj])
 go_region_law_o (refine af5 rfl _ _ 228 228 rfl _ _ (by simp[Act.eval,Act.put]) (by simp[Act.eval,Act.put]) (J _ _ _) ?_)
 go_wp2_with (at_builtin;refine Ux _ rfl _ _ 228 228 rfl _ _ rfl rfl (aa _ (λ_=>rfl) (λ_=>rfl) _ _) ?_)
 go_ret
 first|exact⟨rfl,rfl⟩|exact⟨rfl,by rw[p]⟩
def zG:Value:=.agg #[.slice none 0 0,.slice none 0 0]
def Vq(xs:am Value)(n i G):=(xs.take (i*2)).toArray++bB zG.cells (n+1-i)++bB zG.cells (G-(n+1))
theorem acn(k):(bB zG.cells k).size=2*k:=by simp[bB,Value.cells,zG];omega
set_option maxRecDepth 100000 in
set_option maxHeartbeats 4000000 in
theorem aue(w:World)(yS g n cap i:Nat)(xs:am Value)(I:w.ownsRow yS tG 2 (.slice (some ⟨g,0,none⟩) n cap) n xs)(hn:n<=1000000)(hi:i<n)(ad:cap<n+1)
 (P:Nat) (k r:Value) (hv:w.heap[P]?=some (.cells #[k,r] tG (0,0))) (h2:k.oneCell'=true) (h3:r.oneCell'=true) (aj:∀v∈xs,v.oneCell'=true):
 Calls Tryz.prog 259 #[.slice (some ⟨g,0,none⟩) n cap,.int .i64 i,.slice (some ⟨P,0,none⟩) 1 1] w λe w'=>e=.returned (.slice (some ⟨w.heap.size,0,none⟩) (n+1) (cL w (n+1) cap tG))/\
  w'=(((w.alloc (.cells (Vq xs n i (cL w (n+1) cap tG)) tG)).drew.setCells w.heap.size (i*2) [k,r]).drew).setCells w.heap.size ((i+1)*2) (xs.drop (i*2)):=by
 obtain⟨a5,hg,bi,bd,be,ax,bb⟩:=aof I;obtain⟨i0,aw,az,a1,a0⟩:=info_parts axm;have bm:¬((i:Int)=(n:Int)):=ej
 have bn:(cap:Int)<(n:Int)+1:=ej
 have bl:xs.length=n*2:=I.1;have ai:(Tryz.prog.info? tG).map (·.size)=some 2:=ek
 have av:g<w.heap.size:=(aQ.getElem?_eq_some_iff.1 hg).1;have ay:P<w.heap.size:=(aQ.getElem?_eq_some_iff.1 hv).1;have ah:(n:Int)+1-(i:Int)=((n+1-i:Nat):Int):=ej
 have ac:i+(n+1-i)=n+1:=ej
 have a4:∀j v,xs[j]?=some v->w.cell? ⟨g,j,none⟩=some v:=λj v h=>by have bh:=(am.getElem?_eq_some_iff.1 h).1;rw[I.cellAt j ej];exact h
 have aa:(c9 i0.size i (.slice (some ⟨g,0,none⟩) i cap)).run Tryz.prog w.drew=.ok (xs.take (i*2)).toArray w.drew:=by
  rw[a1];exact run_firstCells_some w.drew 2 i ⟨g,0,none⟩ i cap (xs.take (i*2)) ek (λj v o=>by rw[cZ,cY];rw[am.getElem?_take]at o;simp_all)
 have R:∀ty,(dD #[228,3] ty #[.slice (some ⟨g,0,none⟩) i cap,.int .i64 ((n:Int)+1-(i:Int))]).run Tryz.prog w=
  .ok (.slice (some ⟨w.heap.size,0,none⟩) (n+1) (cL w (n+1) cap tG)) (w.drew.alloc (.cells (Vq xs n i (cL w (n+1) cap tG)) tG)):=λty=>by have h:=Lib.run_append_grow_zeros w 228 3 ty tG i0 _ .i64 .i64 Tryz.underlying228 Tryz.underlying3 aw az (some ⟨g,0,none⟩) i cap (xs.take (i*2)) aa (n+1-i) ej ej ej ej ek (by rw[a0,ac];exact growslice_fits ad ej);rw[ac]at h;rw[ah];exact h
 obtain⟨G,hG⟩:∃G,G=cL w (n+1) cap tG:=⟨_,rfl⟩;obtain⟨l,T⟩:∃l:aQ Value,l=Vq xs n i G:=⟨_,rfl⟩;rw[<-hG]at R⊢;rw[<-T]at R⊢;have a7:n+1<=G:=by grind[grownCap_ge]
 have ar:(n+1)*2<=l.size:=by grind[Vq,acn]
 obtain⟨J,p⟩:∃J,J=w.drew.alloc (.cells l tG):=⟨_,rfl⟩;rw[<-p]at R;have hN:∀j,j<(n+1)*2->(J.cell? ⟨w.heap.size,j,none⟩).isSome=true:=λj o=>by rw[p,World.cell?_alloc_at (w:=w.drew) l _ w.heap.size j rfl,aQ.getElem?_eq_getElem ej];rfl
 have aq:∀j,J.frozen? ⟨w.heap.size,j,none⟩=false:=λj=>by rw[p];exact World.frozen?_alloc_at (w:=w.drew) l _ w.heap.size j rfl
 have a8:∀j v,w.cell? ⟨g,j,none⟩=some v->J.cell? ⟨g,j,none⟩=some v:=λj v h=>by rw[p,World.cell?_alloc_past (w:=w.drew) _ g j av];exact h
 have ae:∀j v,w.cell? ⟨P,j,none⟩=some v->J.cell? ⟨P,j,none⟩=some v:=λj v h=>by rw[p,World.cell?_alloc_past (w:=w.drew) _ P j ay];exact h
 have ag:∀(W:World),(∀x,W.cell? x=J.cell? x)->(∀x,W.frozen? x=J.frozen? x)->∀ty dc,(bJ #[228,228] ty #[.slice (some ⟨w.heap.size,i*2,none⟩) (n+1-i) dc,.slice (some ⟨P,0,none⟩) 1 1]).run Tryz.prog W=.ok (goInt (di 1 (n+1-i))) (W.setCells w.heap.size (i*2) [k,r]):=λW ab af ty dc=>
  Vr W _ _ ty tG w.heap.size (i*2) (n+1-i) dc ⟨P,0,none⟩ 1 1 [k,r] Tryz.underlying228 ai (by show 2=di _ _*2;grind)
   (λj v o=>by
    rw[cZ,ab]
    match j,o with
    |0,o=>exact ae _ _ ((aM some (bN o))▸(show w.cell? ⟨P,0,none⟩=some k by simp[bL,hv]))
    |1,o=>exact ae _ _ ((aM some (bN o))▸(show w.cell? ⟨P,1,none⟩=some r by simp[bL,hv]))
    |(j+2),o=>cases o)
   (λj o=>ek) (λj o=>ek) (agG h2 h3)
 have a2:G<=9223372036854775807:=by
  have:=dM w (n+1) cap tG (by grind[maxLen])
  grind[maxLen]
 have a6:¬(G=i):=ej
 have a3:¬(G=i+1):=ej
 have bc:¬(cap=i):=ej
 have au:g≠w.heap.size:=ej
 have bf:(xs.drop (i*2)).length=(n-i)*2:=ek
 have U:∀(W:World),(∀x,W.cell? x=(J.setCells w.heap.size (i*2) [k,r]).cell? x)->(∀x,W.frozen? x=(J.setCells w.heap.size (i*2) [k,r]).frozen? x)->∀ty dc sc,(bJ #[228,228] ty #[.slice (some ⟨w.heap.size,(i+1)*2,none⟩) (n-i) dc,.slice (some ⟨g,i*2,none⟩) (n-i) sc]).run Tryz.prog W=.ok (goInt (di (n-i) (n-i))) (W.setCells w.heap.size ((i+1)*2) (xs.drop (i*2))):=λW ab af ty dc sc=>
  Vr W _ _ ty tG w.heap.size ((i+1)*2) (n-i) dc ⟨g,i*2,none⟩ (n-i) sc (xs.drop (i*2)) Tryz.underlying228 ai eu
   (λj v o=>by
    rw[cZ,ab,World.cell?_setCells_out _ _ _ _ _ (λh _=>absurd h au)]
    grind)
   (λj o=>by grind[ke])
   (λj o=>by rw[af,World.frozen?_setCells];exact aq _) (λv hv=>aj v (cN hv))
 subst p;have ak:∀x,((w.alloc (.cells l tG)).drew).cell? x=(w.drew.alloc (.cells l tG)).cell? x:=λx=>rfl
 have al:∀x,((w.alloc (.cells l tG)).drew).frozen? x=(w.drew.alloc (.cells l tG)).frozen? x:=λx=>rfl
 have an:∀x,(((w.alloc (.cells l tG)).drew.setCells w.heap.size (i*2) [k,r]).drew).cell? x=((w.drew.alloc (.cells l tG)).setCells w.heap.size (i*2) [k,r]).cell? x:=λx=>rfl
 have ao:∀x,(((w.alloc (.cells l tG)).drew.setCells w.heap.size (i*2) [k,r]).drew).frozen? x=((w.drew.alloc (.cells l tG)).setCells w.heap.size (i*2) [k,r]).frozen? x:=λx=>rfl
 have bk:aG.wrap ((i:Int)+1)=(i:Int)+1:=by rw[IntKind.wrap_i64];omega
 have a9:(0:Int)<=(i:Int)+1:=ej
 have bg:i<=n:=ej
 have bj:((i:Int)+1).toNat=i+1:=ej
 have ba:(i:Int)<=(n:Int):=ej
 clear ah ac aa T hG ar;have mixed:Tryz.prog.follows .mixedOrders=true:=er
 go_enter Tryz.func259,Tryz.ntmps259
 go_wp2_with (first
  |(at_builtin;refine Lib.wpList_append_run _ rfl _ _ _ _ rfl _ _ rfl rfl _ _ (R _) ?_)
  |(at_builtin;refine Ux _ rfl _ _ 228 228 rfl _ _ rfl rfl (ag _ ak al _ _) ?_)
  |(at_builtin;refine Ux _ rfl _ _ 228 228 rfl _ _ rfl rfl (U _ (λ_=>rfl) (λ_=>rfl) _ _ _) ?_))
 go_region_law_o (refine af5 rfl _ _ 228 228 rfl (.slice (some ⟨w.heap.size,(i+1)*2,none⟩) (n-i) (G-(i+1))) (.slice (some ⟨g,i*2,none⟩) (n-i) (cap-i)) (by simp[Act.eval,Act.put]) (by simp[Act.eval,Act.put]) (U _ an ao 3 (G-(i+1)) (cap-i)) ?_)
 go_wp2
 go_ret
 exact⟨rfl,rfl⟩
theorem azR(L:am Value)(xs:am Value)(n i G:Nat)(k r:Value)(p:L=(xs.take (i*2))++(bB zG.cells (n+1-i)).toList++(bB zG.cells (G-(n+1))).toList)(l:xs.length=n*2)(J:i<n)(o:n+1<=G):
 let g:=L.take (i*2)++[k,r]++L.drop (i*2+2)
 (g.take ((i+1)*2)++xs.drop (i*2)++g.drop ((i+1)*2+(xs.drop (i*2)).length)).take ((n+1)*2)=xs.take (2*i)++[k,r]++xs.drop (2*i):=by
 intro g;have I:(xs.drop (i*2)).length=n*2-i*2:=ek
 have P:(xs.take (i*2)).length=i*2:=ek
 have h0:L.take (i*2)=xs.take (i*2):=ek
 have j:g.take ((i+1)*2)=xs.take (i*2)++[k,r]:=ek
 rw[j,show 2*i=i*2 by omega];have:(xs.take (i*2)++[k,r]++xs.drop (i*2)).length=(n+1)*2:=ek
 grind
theorem gH{w o p:World}{g}(i:w.grownBy o g){b}(j:o.grownBy p (some b))(r:w.heap.size<=b\/some b=g):w.grownBy p g:=
 ⟨j.os.trans i.os,j.tape.trans i.tape,j.output.trans i.output,aJ i.size j.size,λk hk l=>(j.block k (dR hk i.size) (λe=>ek)).trans (i.block k hk l)⟩
theorem aFa:∀n p,p<=n->n<=100000->aqe n p:=by
 intro n p hp hn;by_cases ao:p=n
 .grind[aFb]
 intro w yS v xs j hb h1 vb k r hv aj hk hr;have hi:p<n:=ej
 have ak:xs.length=n*2:=j.1;rcases j.2 with⟨_,h0⟩|⟨g,cap,J,rfl,af,hg,an,ag,al,I⟩
 .omega
 have hd:(xs.drop (p*2)).length=n*2-p*2:=ek
 have T:(xs.take (2*p)++[k,r]++xs.drop (2*p)).length=(n+1)*2:=ek
 have ai:vb≠g:=λe=>aj (by rw[e];rfl)
 by_cases i:n+1<=cap
 .refine(arR w yS g n cap p xs j ej hi i vb k r hv ai hk hr h1).mono ?_;rintro e w' ⟨rfl,rfl⟩;obtain⟨⟨U,a1,a2,a3⟩,a4,a5⟩:=XB g tG (xs.drop (p*2)) ((p+1)*2) w.drew J hg ej;obtain⟨⟨c2,b1,b2,b3⟩,b4,b5⟩:=XB g tG [k,r] (p*2) _ U a1 ew;have h0:w.grownBy w.drew (some g):=⟨rfl,rfl,rfl,aO _,λ_ _ _=>rfl⟩;refine⟨_,rfl,⟨T,.inr ⟨g,cap,c2,rfl,af,b1,i,ag,ek,?_⟩⟩,gH (gH h0 a4 (.inr rfl)) b4 (.inr rfl),?_,λb o=>.inl o⟩
  .rw[b3,a3];exact aCn J.toList xs n p k r I ew hi
  simp_all
 have i:cap<n+1:=ej
 have P:n+1<=cL w (n+1) cap tG:=grownCap_ge w _ _ _;have ac:cL w (n+1) cap tG<=maxLen:=dM w (n+1) cap tG (by grind[maxLen]);refine(aue w yS g n cap p xs j ej hi i vb k r hv hk hr h1).mono ?_;rintro e w' ⟨rfl,rfl⟩;generalize cL w (n+1) cap tG=G at*;have ae:(Vq xs n p G).size=G*2:=by grind[Vq,acn]
 have ad:(Vq xs n p G).toList=xs.take (p*2)++(bB zG.cells (n+1-p)).toList++(bB zG.cells (G-(n+1))).toList:=by simp[Vq]
 generalize Vq xs n p G=R at*;have ah:(w.alloc (.cells R tG)).drew.heap[w.heap.size]?=some (.cells R tG (0,0)):=heap_alloc_new w _;obtain⟨⟨U,a1,a2,a3⟩,a4,a5⟩:=XB w.heap.size tG [k,r] (p*2) _ R ah ew;have aa:((w.alloc (.cells R tG)).drew.setCells w.heap.size (p*2) [k,r]).drew.heap[w.heap.size]?=some (.cells U tG (0,0)):=a1;obtain⟨⟨c2,b1,b2,b3⟩,b4,b5⟩:=XB w.heap.size tG (xs.drop (p*2)) ((p+1)*2) _ U aa ej;have h0:w.grownBy (w.alloc (.cells R tG)).drew (some g):=by have h:=World.grownBy_alloc w (.cells R tG) (some g);exact⟨h.os,h.tape,h.output,h.size,h.block⟩
 have l:=gH h0 a4 (.inl (aO _));have ab:w.grownBy ((w.alloc (.cells R tG)).drew.setCells w.heap.size (p*2) [k,r]).drew (some g):=⟨l.os,l.tape,l.output,l.size,l.block⟩;refine⟨_,rfl,⟨T,.inr ⟨w.heap.size,G,c2,rfl,hb,b1,P,ac,by rw[b2,a2,ae],?_⟩⟩,gH ab b4 (.inl (aO _)),?_,λb o=>.inr ?_⟩
 .rw[b3,a3];exact azR R.toList xs n p G k r ad ak hi P
 .rw[b5];show w.drawn<=((w.alloc (.cells R tG)).drew.setCells w.heap.size (p*2) [k,r]).drawn+1;show w.drawn<=w.drawn+1+1;omega
 cases o;exact aO _
end Go.Proofs.YtnlbmefhdiabcaaGreat
namespace Go.Proofs.YtnlbmefhdiabcaaGreat
open Go Go.AM
section
attribute [local irreducible] Sat zH z6 zl
theorem apZ(d)(t:Tbl)(st:Stp)(l:yt d≠0):ex Xn [.c (.d (.sl (zL d))),t.w,st.w] (rNT (yt d)):=by
 have o:=ju d;have l:(yt d !=0)=true:=ek
 obtain⟨op,⟨I,P,⟨U,vn,vs⟩,J⟩,g,p,i,j,R,T⟩:=st;refine WV.s T8 ?_;refine aF o ?_;rw[l];exact rfl
structure Stp.Sm(st:Stp):Prop where
 sorts:st.sorts.length<=1000
 cols:st.cols.length<=1000
 aggs:st.aggs.length<=1000
 items:st.items.length<=1000
theorem Stp.Sm.ok{st:Stp}(h:st.Sm):st.OK:=⟨aJ h.sorts ej,aJ h.cols ej,aJ h.aggs ej,aJ h.items ej⟩
def alM(x:Int×am Col):=x.1≠0->x.2=[]
theorem uq(e):alM (e,[]):=λ_=>rfl
theorem kz(l):alM (0,l):=λh=>absurd rfl h
theorem wP{b}{x y}(g:alM x)(i:alM y):alM (bif b then x else y):=ek
theorem awc{d}{cols}{st}:alM (yu d cols st):=by
 refine wP (uq _) (wP ?_ (wP ?_ (wP ?_ (wP ?_ (wP (kz _) (wP ?_ ?_))))))
 .exact wP (uq _) (kz _)
 .rw[ajr];simp_all[wP,uq,kz]
 .exact wP (uq _) (wP (uq _) (kz _))
 .exact wP (uq _) (kz _)
 .exact wP (uq _) (wP (uq _) (wP (uq _) (wP (uq _) (kz _))))
 unfold Xm;cases zC st.table d with
 |none=>exact uq _
 |some t=>exact wP (uq _) (wP (uq _) (wP (uq _) (wP (uq _) (wP (uq _) (wP (uq _) (kz _))))))
theorem aqs{d}{cols}{st}(g:st.op=3)(h:(yu d cols st).1=0):takeErr cols st.cols=false/\(yk cols st.aggs).1=0/\yu d cols st=(0,takeC cols st.cols++(yk cols st.aggs).2):=by
 have e:yu d cols st=grT cols st.cols st.aggs:=by grind[yu]
 rw[e]at h⊢;unfold grT at h⊢;obtain⟨j,e1⟩:=ww ek h;rw[e1]at h⊢;obtain⟨l,i⟩:=ww ep h<;>simp_all
theorem aqt{d}{cols}{st}(i:st.op=4)(h:(yu d cols st).1=0):xQ cols st.sorts=false/\yu d cols st=(0,cols):=by
 have e:yu d cols st=soT cols st.sorts:=by grind[yu]
 rw[e]at h⊢;obtain⟨g,e1⟩:=ww ek h;exact⟨g,e1⟩
theorem aEj{st:Stp}(h:st.err=0)(g:st.op=5):0<=st.n:=by have h:=(zY ej h).2;rw[g]at h;have h:(bif decide (st.n<0)||decide (st.n>20000)then 2 else 0)=(0:Int):=h;have:=(zY ej h).1<;>simp_all
theorem atf(d)(t)(st)(hk:st.Sm)(h1:yt d=0)(h2:tblErr t=0)(P:(yu d t.cols st).1=0)(hr:t.rows.length<20000)(T:st.op=6\/st.op=7->t.rows.length*(qW d st).rows.length<=20000):
 ex jj [.c (.d (.sl (zL d))),t.w,.agg st.cs,.c (.d (.sl (zj (yu d t.cols st).2)))] (qQ ⟨(yu d t.cols st).2,stR d t st⟩ 0):=by
 have he:=WC P;have j:=abu he;have j:st.op=1\/st.op=2\/st.op=3\/st.op=4\/st.op=5\/st.op=6\/st.op=7\/st.op=8\/st.op=9:=ej
 have hw:=wJ h2;have hf:=qa h2;have k1:=hk.sorts;have k2:=hk.cols;have k3:=hk.aggs;have k4:=hk.items;have ae:(zf t.cols st.cols).length=st.cols.length:=by simp[zf]
 rcases j with j|j|j|j|j|j|j|j|j
 .have e:stR d t st=whereR t.cols t.rows st.cond:=by grind[stR]
  rw[e];refine YG d t st _ _ ek ek ek ek (aJ (adz _ _ _) ej) ?_;obtain⟨tc,tr⟩:=t;obtain⟨op,⟨eo,nm,⟨vk,vn,vs⟩,ks⟩,o,U,p,I,sn,J⟩:=st;subst j;exact ani aGv (.sl (zL d)) tc tr ek eo nm ⟨vk,vn,vs⟩ ks (yI o) (zo U) (ql p) (yU I) sn J
 .have e:stR d t st=selR t.cols t.rows st.items:=by grind[stR]
  rw[e];refine YG d t st _ _ ek ek ek ek (by grind[selR]) ?_;obtain⟨tc,tr⟩:=t;obtain⟨op,⟨eo,nm,⟨vk,vn,vs⟩,ks⟩,o,U,p,I,sn,J⟩:=st;subst j;exact aln aGv (.sl (zL d)) tc tr ek eo nm ⟨vk,vn,vs⟩ ks o (zo U) (ql p) (yU I) sn J ek
 .have e:stR d t st=(vh (zf t.cols st.cols) t.rows).map (qI t.cols st.aggs):=by grind[stR]
  rw[e];have ad:=agT (aqs j P).1;have hG:=gG (zf t.cols st.cols) t.rows;have ab:=aya t.cols t.rows (zf t.cols st.cols) ej (λr hr=>ek) ej (λi hi _=>aFa _ _ (KA _ _) (by grind[Kw]));generalize vh (zf t.cols st.cols) t.rows=G at*;have aa:=auJ t.cols t.rows st G ej ej (by have:=hG.few;omega) (λg hg=>by rw[hG.key g hg];omega) (λg hg=>by have:=hG.cnt g hg;omega) (λg hg r hr=>hw r (hG.mem g hg r hr)) ab;exact YG d t st _ _ ek ek ek ek (by rw[aW];have:=hG.few;omega) (ang d t st j G aa)
 .have e:stR d t st=yE (xN (yX t.cols st.sorts) st.sorts) t.rows:=by grind[stR]
  obtain⟨R,ac⟩:=aqt j P;rw[e,ac];have hS:=ax7 t st.sorts ej ej ej;simp_all[aym,alo]
 .have e:stR d t st=t.rows.take (yL false st.n t.rows.length).toNat:=by grind[stR]
  rw[e];exact YG d t st _ _ ek ek ek ek ek (anh d t st j (aEj he j))
 .have hj:=jz (.inl j) P;have l:=P;rw[hj]at l;obtain⟨b,R,ho⟩:=Z0 l;have e:stR d t st=vw (zf t.cols st.cols) (zf b.cols st.cols) (oth st.cols 0 b.cols) t.rows b.rows:=by grind[stR,qW]
  have hm:=T (.inl j);rw[show qW d st=b by grind[qW]]at hm;rw[e];have J:=Yy h1 R;have wb:=wJ J;have fb:=qa J;have i:=Q4 ho.jn;have hJ:=auL t.cols t.rows b.cols b.rows st.cols ej ej hm ej hw ej wb i.1 i.2;exact YG d t st _ _ ek ek ek ek (aJ (UY _ _ _ _ _) hm) (aqd d t st j b R _ hJ)
 .have hj:=jz (.inr (.inl j)) P;have l:=P;rw[hj]at l;obtain⟨b,R,ho⟩:=Z0 l;have J:=Yy h1 R;have fb:=qa J;have hm:=T (.inr j);have e:stR d t st=vm (ze t.cols sFrom) (ze t.cols sTo) (ze b.cols sFrom) (ze b.cols sTo) (zf t.cols st.cols) (zf b.cols st.cols) (oth (st.cols++[sFrom,sTo]) 0 b.cols) t.rows b.rows:=by grind[stR,qW]
  rw[show qW d st=b by grind[qW]]at hm;have hO:=auF t b st.cols ej ej ej hm;have hc:=agU (.inl j) h2 J he R;simp_all[ovQ,ajq]
 .have hj:=jz (.inr (.inr j)) P;have l:=P;rw[hj]at l;obtain⟨b,R,ho⟩:=Z0 l;have J:=Yy h1 R;have fb:=qa J;have e:stR d t st=t.rows.map (vA (ze t.cols sFrom) (ze b.cols sFrom) (zf t.cols st.cols) (zf b.cols st.cols) (oth (st.cols++[sFrom]) 0 b.cols) b.rows):=by grind[stR,qW]
  have hO:=auE t b st.cols ej ej ej;have hc:=agU (.inr j) h2 J he R;simp_all[nrQ,ajp]
 have e:stR d t st=jY (zf t.cols st.cols) (ze t.cols sFrom) (ze t.cols sTo) t.rows:=by grind[stR]
 have hO:=asW t st.cols ej ej;have hc:=av7 (d:=d) j h2 he<;>simp_all[coQ,aho]
theorem Kv{d}{i}{b}(h:yt d=0)(g:zC i d=some b):b.cols.length<=32:=(qa (Yy h g)).1
theorem as2(d)(t)(st)(hk:st.Sm)(hr:t.rows.length<20000)(o:st.op=6\/st.op=7->st.err=0->t.rows.length*(qW d st).rows.length<=20000):
 ex Xn [.c (.d (.sl (zL d))),t.w,st.w] (VL (nStepT d t st)):=by
 unfold nStepT;by_cases i:yt d=0
 .rw[i];by_cases j:tblErr t=0
  .rw[j];have fa:=qa j;have R:=Ko d t.cols st hk.ok ej (λb T=>by grind[Kv]);by_cases l:(yu d t.cols st).1=0
   .have g:ex xu [.c (.d (.sl (zL d))),.c (.d (.sl (zj t.cols))),st.w] (rCs (yu d t.cols st).2):=R.mono λr hr=>by rw[hr];show Res.mk (.tup [.c (.d (.sl (zj (yu d t.cols st).2))),.c (int (yu d t.cols st).1)]) []=_;rw[l];rfl
    have:=auH d t st _ _ i j g (atf d t st hk i j l hr λP=>o P (WC l));rw[l];exact this
   have J:((yu d t.cols st).1 !=0)=true:=ek
   have h0:(yu d t.cols st).2=[]:=awc l;have g:ex xu [.c (.d (.sl (zL d))),.c (.d (.sl (zj t.cols))),st.w] (JS (yu d t.cols st).1):=R.mono λr hr=>by rw[hr];show Res.mk (.tup [.c (.d (.sl (zj (yu d t.cols st).2))),.c (int (yu d t.cols st).1)]) []=_;rw[h0];rfl
   rw[J];exact zJ (axQ (as3 d t st _ i j l g))
  have I:(tblErr t !=0)=true:=ek
  rw[I];exact zJ (axQ (ap0 d t st i j))
 have p:(yt d !=0)=true:=ek
 rw[p];exact zJ (axQ (apZ d t st i))
theorem aj3{cols}(i:ColsF cols){g}(h:takeErr cols g=false):∀c∈takeC cols g,ColF c:=λc j=>i.ok c (aA4 h c j)
theorem aoC{n Za}(h:vR n Za=0):n<=16:=by simp_all[vR,XJ]
theorem azi{l}{m}(h:qx l m=0):(l.length:Int)<=16/\yV [] l=0:=by unfold qx at h;rw[ZJ]at h;exact⟨aoC h.1,h.2⟩
theorem azC{st:Stp}(h:st.err=0)(g:st.op=2):(st.items.length:Int)<=16/\yG [] st.items=0:=by unfold cX at h;have h:=(zY ej h).2;rw[g]at h;have h:(bif vR st.items.length 1 !=0 then vR st.items.length 1 else yG [] st.items)=0:=h;rw[ZJ]at h;exact⟨aoC h.1,h.2⟩
theorem azD{st:Stp}(h:st.err=0)(g:st.op=3):(st.cols.length:Int)<=16/\(st.aggs.length:Int)<=16/\yV [] st.cols=0/\qd st.cols st.aggs=0:=by unfold cX at h;have h:=(zY ej h).2;simp_all[Xi,XJ,ZJ]
theorem azE{st:Stp}(h:st.err=0)(g:st.op=9):(st.cols.length:Int)<=16/\yV [] st.cols=0:=by unfold cX at h;have h:=(zY ej h).2;rw[g]at h;have h:qx st.cols 0=0:=h;exact azi h
theorem aEw{d}{cols}{st}(g:st.op=1)(h:(yu d cols st).1=0):yu d cols st=(0,cols):=by
 have e:yu d cols st=whT cols st.cond:=by grind[yu]
 simp_all[whT,ww]
theorem aEs{d}{cols}{st}(g:st.op=2)(h:(yu d cols st).1=0):yu d cols st=qw cols st.items:=by grind[yu]
theorem aEt{d}{cols}{st}(g:st.op=5)(h:(yu d cols st).1=0):yu d cols st=(0,cols):=by grind[yu]
theorem azV{g cs}{tc}:∀c∈keepS g cs tc,c∈tc:=λc h=>by grind[keepS]
theorem acH{i}{cols tc}{cs}{R}(j:ColsF cols)(l:ColsF tc)(h:JnOK i cols tc cs R):ColsF (cols++keepS i cs tc):=by
 refine⟨h.few,λc g=>?_,(azs.1 h.dup).2⟩;rcases bG.1 g with g|g
 .exact j.ok c g
 exact l.ok c (azV c g)
theorem ayt(d)(t)(st)(h1:yt d=0)(h2:tblErr t=0)(l:(yu d t.cols st).1=0)(hr:(stR d t st).length<=20000):tblErr ⟨(yu d t.cols st).2,stR d t st⟩=0:=by
 obtain⟨P,ac,j⟩:=(Vy t).1 h2;refine(Vy _).2 ?_;suffices hs:ColsF (yu d t.cols st).2/\∀r∈stR d t st,zV (yu d t.cols st).2 r from⟨hs.1,hr,hs.2⟩
 clear hr;have he:=WC l;have i:=abu he;have i:st.op=1\/st.op=2\/st.op=3\/st.op=4\/st.op=5\/st.op=6\/st.op=7\/st.op=8\/st.op=9:=ej
 rcases i with i|i|i|i|i|i|i|i|i
 .grind[stR,whereR,aEw]
 .have e:stR d t st=selR t.cols t.rows st.items:=by grind[stR]
  obtain⟨hl,hi⟩:=azC he i;obtain⟨n1,n2,n3⟩:=auf hi;have R:∀x∈st.items,x.e.chk=0/\z8 x.nm=true:=λx J=>⟨ae7 _ _ hi x J,n1 x J⟩
  have e2:=aEs i l;rw[e2]at l⊢;obtain⟨s1,s2⟩:=atm P.ok R l;rw[e];refine⟨?_,λr hr=>?_⟩
  .rw[s1];refine⟨ek,λc J=>?_,?_⟩
   .grind
   grind
  unfold selR at hr;obtain⟨r0,ab,rfl⟩:=bE.1 hr;exact aDH P.ok R l (j r0 ab)
 .have e:stR d t st=(vh (zf t.cols st.cols) t.rows).map (qI t.cols st.aggs):=by grind[stR]
  obtain⟨g1,g2,g3⟩:=aqs i l;obtain⟨m1,m2,m3,m4⟩:=azD he i;obtain⟨a1,a2,a3⟩:=anH m3;obtain⟨b1,b2,b3⟩:=aws m4;obtain⟨c1,c2⟩:=ah1 g2;have hG:=gG (zf t.cols st.cols) t.rows;have aa:∀(rows:am (am Val)),rows.length<=20000->(∀r∈rows,zV t.cols r)->∀a∈st.aggs,ColF (jJ t.cols a).2/\yF (jJ t.cols a).2.t (vS a.fn (vV t.cols rows a)):=λrows hn hr a ha=>aED P.ok (b1 a ha) (c2 a ha) hn hr
  rw[e,g3];have tl:(takeC t.cols st.cols).length=st.cols.length:=by simp[takeC]
  refine⟨⟨?_,λc J=>?_,?_⟩,λr hr=>?_⟩
  .grind
  .grind[aj3]
  .show((takeC t.cols st.cols++(yk t.cols st.aggs).2).map Col.name).Nodup;rw[cT,ahR g1,c1,dX,dY];have e2:(Col.name∘ λa=>(jJ t.cols a).2)=Agg.nm:=by funext a;grind[anE]
   grind
  obtain⟨g,hg,rfl⟩:=bE.1 hr;unfold qI Yd;show zV (takeC t.cols st.cols++(yk t.cols st.aggs).2) _;refine zV.app ?_ ?_
  .rcases auc _ _ g hg with⟨k1,k2⟩|⟨r,k1,k2⟩
   .rw[k2];have:st.cols=[]:=by grind[zf]
    rw[this];exact trivial
   rw[k2];exact(j r k1).pick g1
  rw[c1];exact zV.map _ _ λa ha=>(aa g.rows (aJ (hG.cnt g hg) ac) (λr hr=>j r (hG.mem g hg r hr)) a ha).2
 .have e:stR d t st=yE (xN (yX t.cols st.sorts) st.sorts) t.rows:=by grind[stR]
  rw[e,(aqt i l).2]
  grind[arO]
 .grind[stR,aEt]
 .have hj:=jz (.inl i) l;rw[hj]at l⊢;obtain⟨b,T,o⟩:=Z0 l;have e:stR d t st=vw (zf t.cols st.cols) (zf b.cols st.cols) (oth st.cols 0 b.cols) t.rows b.rows:=by grind[stR,qW]
  obtain⟨I,U,p⟩:=(Vy b).1 (Yy h1 T);rw[e,o.eq];refine⟨acH P I o,λz hz=>?_⟩;obtain⟨x,R,y,hy,rfl⟩:=azS hz;refine(j x R).app ?_;have:=zV.rest0 (Uw st.op) st.cols (p y hy)
  grind[Uw]
 .have hj:=jz (.inr (.inl i)) l;rw[hj]at l⊢;obtain⟨b,T,o⟩:=Z0 l;have e:stR d t st=vm (ze t.cols sFrom) (ze t.cols sTo) (ze b.cols sFrom) (ze b.cols sTo) (zf t.cols st.cols) (zf b.cols st.cols) (oth (st.cols++[sFrom,sTo]) 0 b.cols) t.rows b.rows:=by grind[stR,qW]
  obtain⟨I,U,p⟩:=(Vy b).1 (Yy h1 T);rw[e,o.eq];refine⟨acH P I o,?_⟩;have i1:=o.i1;have i2:=o.i2;rw[i]at i1 i2⊢;exact aAi (aAZ i1) (aAZ i2) j p λr hr=>zV.rest0 [sFrom,sTo] st.cols (p r hr)
 .have hj:=jz (.inr (.inr i)) l;rw[hj]at l⊢;obtain⟨b,T,o⟩:=Z0 l;have e:stR d t st=t.rows.map (vA (ze t.cols sFrom) (ze b.cols sFrom) (zf t.cols st.cols) (zf b.cols st.cols) (oth (st.cols++[sFrom]) 0 b.cols) b.rows):=by grind[stR,qW]
  obtain⟨I,U,p⟩:=(Vy b).1 (Yy h1 T);rw[e,o.eq];refine⟨acH P I o,λz hz=>?_⟩;obtain⟨x,R,rfl⟩:=bE.1 hz;rw[i];refine aAc ?_ (λr hr=>zV.rest0 [sFrom] st.cols (p r hr)) (j x R)
  grind[asx,an9]
 have e:stR d t st=jY (zf t.cols st.cols) (ze t.cols sFrom) (ze t.cols sTo) t.rows:=by grind[stR]
 have e2:=alF i l;rw[e2]at l⊢;have o:=aj2 l;obtain⟨m1,m2⟩:=azE he i;obtain⟨a1,a2,a3⟩:=anH m2;have tw:=o.two;simp only[bT]at tw;have f1:=arM.1 tw.1;have f2:=arM.1 tw.2;have tl:(takeC t.cols st.cols).length=st.cols.length:=by simp[takeC]
 obtain⟨p1,p2⟩:=gu o.i1;obtain⟨q1,q2⟩:=gu o.i2;rw[e,o.eq];have ad:sFrom≠sTo:=by decide+kernel
 refine⟨⟨?_,λc J=>?_,?_⟩,awJ ⟨p1,p2,q1,q2⟩ λr hr=>⟨j r hr,(j r hr).pick o.tk⟩⟩
 .grind
 .rcases bG.1 J with J|J
  .exact aj3 P o.tk c J
  simp only[aP,cJ,or_false]at J;have g1:qj sFrom=0:=Kc (by decide+kernel);have g2:qj sTo=0:=Kc (by decide+kernel);rcases J with rfl|rfl
  .exact⟨g1,.inr (.inl rfl)⟩
  exact⟨g2,.inr (.inl rfl)⟩
 rw[cT,ahR o.tk,dY];refine⟨a3,ek,λs hs u hu=>?_⟩;simp only[bQ,dt,aP,cJ,or_false]at hu
 grind
theorem aDR(d)(t)(st)(h:st.err=0):(stR d t st).length<=(bif st.op==6||st.op==7 then t.rows.length*(qW d st).rows.length else max t.rows.length 1):=by grind[stR,adz,selR,vh,Kw,aS,aoE,UY,afA,awK]
noncomputable def runT(d:am Nmd)(t:Tbl):am Stp->Int×Tbl
 |[]=>(0,t)
 |s::r=>bif (nStepT d t s).1 !=0 then((nStepT d t s).1,⟨[],[]⟩)else runT d (nStepT d t s).2 r
def Wj(d:am Nmd)(q:Qry):=(zC q.src d).getD ⟨[],[]⟩
noncomputable def runQ(d:am Nmd)(q:Qry):Int×Tbl:=bif (Zn d q).1 !=0 then((Zn d q).1,⟨[],[]⟩)else runT d (Wj d q) q.steps
def WM(d:am Nmd):Tbl->am Stp->Prop
 |_,[]=>True
 |t,s::r=>t.rows.length<20000/\(s.op=6\/s.op=7->s.err=0->t.rows.length*(qW d s).rows.length<=20000)/\s.Sm/\((nStepT d t s).1=0->WM d (nStepT d t s).2 r)
def joins:am Stp->Nat
 |[]=>0
 |s::r=>(bif zl s.table ⟨#[]⟩then 0 else 1)+joins r
theorem aCN{d}{t}{st}(g:yt d=0)(i:tblErr t=0)(j:(yu d t.cols st).1=0):nStepT d t st=(0,⟨(yu d t.cols st).2,stR d t st⟩):=by grind[nStepT]
theorem gw{g}{b}:∀{d:am Nmd},zC g d=some b->∃x∈d,x.t=b
 |[],h=>by cases h
 |x::r,h=>by
  simp only[zC]at h;cases i:zl x.nm g
  .rw[i,aA]at h;obtain⟨y,j,e⟩:=gw h;exact⟨y,by simp[j],e⟩
  simp_all
theorem azF{st:Stp}(h:st.err=0)(g:st.op=6\/st.op=7):zl st.table ⟨#[]⟩=false:=by
 unfold cX at h;have h:=(zY ej h).2;have h:(bif !z8 st.table then 3 else qx st.cols (bif st.op==6 then 1 else 0))=0:=ek
 simp_all[XJ,z8]
theorem an8:∀(a b),joins (a++b)=joins a+joins b
 |[],b=>by simp[joins]
 |x::r,b=>by simp only[bY,joins];rw[an8 r b];omega
theorem agX{d}{q}(h:(Zn d q).1=0):yt d=0/\q.err=0/\∃t,zC q.src d=some t/\Zn d q=uQ d t.cols q.steps:=by
 unfold Zn at h⊢;obtain⟨i,e1⟩:=ww ep h;rw[e1]at h⊢;obtain⟨j,g⟩:=ww ep h
 grind
theorem axb{K}{d}{g}(i:∀x∈d,x.t.rows.length<=K):((zC g d).getD ⟨[],[]⟩).rows.length<=K:=by
 cases j:zC g d with
 |none=>simp_all
 |some b=>
  grind[gw]
theorem anI{K}{d}(g:∀x∈d,x.t.rows.length<=K)(s):(qW d s).rows.length<=K:=axb g
theorem avX{K M}(R:0<K)(hM:M<20000){d}(U:yt d=0)(hd:∀x∈d,x.t.rows.length<=K):∀(l) (t:Tbl) (B:Nat),(∀s∈l,s.Sm)->tblErr t=0->1<=B->t.rows.length<=B->B*K^(joins l)<=M->
 WM d t l/\((uQ d t.cols l).1=0->(runT d t l).1=0/\(runT d t l).2.cols=(uQ d t.cols l).2/\tblErr (runT d t l).2=0/\(runT d t l).2.rows.length<=M)/\((uQ d t.cols l).1≠0->runT d t l=((uQ d t.cols l).1,⟨[],[]⟩))
 |[],t,B,_,J,hB,ht,hk=>by have hj:joins []=0:=rfl;rw[hj,Nat.pow_zero,Nat.mul_one]at hk;refine⟨trivial,λ_=>⟨rfl,rfl,J,by show t.rows.length<=M;omega⟩,λh=>absurd rfl h⟩
 |s::r,t,B,hs,J,hB,ht,hk=>by
  have hb:=anI hd s;have ae:1<=K^joins r:=Nat.pow_pos R;have hj:joins (s::r)=(bif zl s.table ⟨#[]⟩then 0 else 1)+joins r:=rfl;have ah:B<=M:=by have:=cE B (Nat.pow_pos (n:=joins (s::r)) R);omega
  have o:s.op=6\/s.op=7->s.err=0->t.rows.length*(qW d s).rows.length<=B*K/\B*K*K^joins r<=M:=λg p=>by simp_all[azF,Nat.pow_add,Nat.mul_assoc,Nat.mul_le_mul]
  have ac:B*K^joins r<=M:=by refine aJ (Nat.mul_le_mul_left _ ?_) hk;simp_all[Nat.pow_le_pow_right]
  have I:=hs s ep;have i:s.op=6\/s.op=7->s.err=0->t.rows.length*(qW d s).rows.length<=20000:=λg p=>by obtain⟨a,b⟩:=o g p;have:=cE (B*K) (show 0<K^joins r by omega);omega
  by_cases P:(yu d t.cols s).1=0
  .have hn:=aCN U J P;have p:=WC P;have hl:=aDR d t s p;obtain⟨j,aa,ad,ab⟩:∃j,1<=j/\(stR d t s).length<=j/\j*K^joins r<=M:=by
    by_cases g:s.op=6\/s.op=7
    .obtain⟨a,b⟩:=o g p;refine⟨B*K,Nat.mul_pos hB R,?_,b⟩
     grind
    refine⟨B,hB,?_,ac⟩;have:(s.op==6||s.op==7)=false:=eu
    rw[this,aA]at hl;omega
   have ag:j<=M:=by have:=cE j (show 0<K^joins r by omega);omega
   have hv:=ayt d t s U J P ej;obtain⟨i1,i2,i3⟩:=avX R hM U hd r ⟨(yu d t.cols s).2,stR d t s⟩ j (λx hx=>hs x (by simp[hx])) hv aa ad ab;have e1:runT d t (s::r)=runT d ⟨(yu d t.cols s).2,stR d t s⟩ r:=by grind[runT]
   have T:uQ d t.cols (s::r)=uQ d (yu d t.cols s).2 r:=by grind[uQ]
   rw[e1,T];exact⟨⟨ej,i,I,λ_=>ek⟩,i2,i3⟩
  have af:((yu d t.cols s).1 !=0)=true:=ek
  have T:uQ d t.cols (s::r)=((yu d t.cols s).1,[]):=by grind[uQ]
  have hn:nStepT d t s=((yu d t.cols s).1,⟨[],[]⟩):=by grind[nStepT]
  have e1:runT d t (s::r)=((yu d t.cols s).1,⟨[],[]⟩):=by grind[runT]
  rw[e1,T];refine⟨⟨ej,i,I,λh=>?_⟩,λh=>absurd h P,λ_=>rfl⟩
  grind
def Kf(op:Int):=op=1\/op=2\/op=6\/op=7
theorem aFJ(d)(cols)(a b)(st)(h:Kf st.op):stR d ⟨cols,a++b⟩ st=stR d ⟨cols,a⟩ st++stR d ⟨cols,b⟩ st:=by
 unfold stR;rcases h with h|h|h|h<;>rw[h]
 .exact List.filter_append a b
 .exact cT
 .exact dL
 exact dL
theorem asQ{d}(R:yt d=0):∀(l) (cols:am Col) (a b:am (am Val)),(∀s∈l,Kf s.op)->
 (runT d ⟨cols,a⟩ l).1=0->(runT d ⟨cols,b⟩ l).1=0->(runT d ⟨cols,a++b⟩ l).1=0->(runT d ⟨cols,a++b⟩ l).2.rows=(runT d ⟨cols,a⟩ l).2.rows++(runT d ⟨cols,b⟩ l).2.rows
 |[],_,_,_,_,_,_,_=>rfl
 |s::r,cols,a,b,I,j,o,g=>by
  have z:∀x:am (am Val),(runT d ⟨cols,x⟩ (s::r)).1=0->tblErr ⟨cols,x⟩=0/\(yu d cols s).1=0/\runT d ⟨cols,x⟩ (s::r)=runT d ⟨(yu d cols s).2,stR d ⟨cols,x⟩ s⟩ r:=λx p=>by
   have h0:(nStepT d ⟨cols,x⟩ s).1=0:=by
    simp only[runT]at p;cases h:((nStepT d ⟨cols,x⟩ s).1 !=0)
    .simpa using h
    simp_all
   grind[nStepT,runT]
  obtain⟨_,_,J⟩:=z a j;obtain⟨_,_,P⟩:=z b o;obtain⟨_,_,i⟩:=z (a++b) g;rw[J]at j⊢;rw[P]at o⊢;rw[i]at g⊢;rw[aFJ d cols a b s (I s ep)]at g⊢;exact asQ R r _ _ _ (λx p=>I x (by simp[p])) j o g
end
section
open Go Go.AM Go.Sort Go.Shelf
theorem aps{W w'}(h:Grows (λ_=>False) W w'):∃q l,w'=grow (W.drewN q) l:=by
 refine⟨w'.drawn-W.drawn,w'.heap.extract W.heap.size w'.heap.size,?_⟩;have I:W.drawn+(w'.drawn-W.drawn)=w'.drawn:=by have:=h.output.2;omega
 have J:w'.heap=W.heap++w'.heap.extract W.heap.size w'.heap.size:=by
  apply aQ.ext_getElem?;intro i;rw[aQ.getElem?_append];split
  .rename_i g;exact h.block i g (λh=>h)
  rename_i g;have hs:=h.size;rw[aQ.getElem?_extract];by_cases j:i<w'.heap.size
  .rw[dx ej];congr 1;omega
  simp_all
 have o:=h.os;have p:=h.tape;have r:=h.output.1;obtain⟨a,b,c,d,e⟩:=w'<;>grind[grow,World.drewN]
section
variable {P:Program}{ρ:Ren}{X:Type}
abbrev El(w:World)(A:Nat->Prop)(δ:X->D):={p:Value×X //RD w A (δ p.2) p.1}
theorem abt{w}{A:Nat->Prop}{δ:X->D}{b}:∀(xs) (o:Nat),RDs w A b 1 o (xs.map λx=> [δ x])->∃g:am (El w A δ),g.map (λp=>p.1.2)=xs/\∀j p,g[j]?=some p->w.cell? ⟨b,o+j,none⟩=some p.1.1
 |[],_,_=>⟨[],rfl,λj p h=>by simp at h⟩
 |x::r,o,h=>by
  simp only[bQ,RDs,RDc]at h;obtain⟨_,⟨⟨v,P,i⟩,_⟩,l⟩:=h;obtain⟨g,I,J⟩:=abt r (o+1) l;refine⟨⟨(v,x),i⟩::g,by simp[I],λj p R=>?_⟩;cases j with
  |zero=>grind
  |succ j=>
   have:=J j p ek;rw[<-this];congr 2;omega
theorem asF{w}{ok:Nat->Prop}{δ:X->D}{b}:∀(xs:am X) (o:Nat),(∀j x,xs[j]?=some x->∃v,w.cell? ⟨b,o+j,none⟩=some v/\RD w ok (δ x) v)->RDs w ok b 1 o (xs.map λx=> [δ x])
 |[],_,_=>by grind[RDs]
 |x::r,o,h=>by
  simp only[bQ,RDs,RDc];refine⟨rfl,⟨?_,trivial⟩,asF r (o+1) λj x l=>?_⟩
  .exact h 0 x rfl
  obtain⟨v,g,i⟩:=h (j+1) x ek;exact⟨v,by rw[<-g];congr 2;omega,i⟩
theorem UV{α} [dd α](enc:α->Value)(w)(g m)(j)(l){b}(o:b<w.heap.size)(i:b≠g):(sortWorld enc w g 0 m j l).heap[b]?=w.heap[b]? :=by unfold sortWorld;rw[heap_grow_old _ _ eu];simp only[putRow,mapBlock,heap_ahead];rw[aQ.getElem?_modify,if_neg (Ne.symm i)]
theorem adQ{α} [dd α](enc:α->Value)(w)(g m)(i)(o){c}{e}{j}(l:w.heap[g]?=some (.cells c e j)):
 (sortWorld enc w g 0 m i o).heap[g]?=some (.cells (putCells enc 0 i c) e j):=by have p:g<w.heap.size:=(aQ.getElem?_eq_some_iff.1 l).1;unfold sortWorld;rw[heap_grow_old _ _ eu];simp only[putRow,mapBlock,heap_ahead];rw[aQ.getElem?_modify,dx rfl,l];rfl
theorem ad7{α} [dd α](enc:α->Value)(g)(c):(putCells enc 0 g c).size=c.size:=by simp[putCells]
theorem arH{α} [dd α](enc:α->Value)(g)(c){j}(l:j<g.size)(i:j<c.size):(putCells enc 0 g c)[j]?=some (enc g[j]!):=by grind[putCells]
theorem auP[dd X](L:SlLaysF.n6 P ρ)(ah:qT P (ρ.f 6)=true)(δ:X->D)(cf:X->X->Int)(hO:SWO (λx y=>decide (cf x y<0)))(g:dy)
 (hc:∀x y,Sat P g [.c (.d (δ x)),.c (.d (δ y))] (λr=>r=rI (cf x y))) (xs) (bc:xs≠ []) (bg:xs.length<4611686018427387904):
 zH P (ρ.f 6) [.c (.own 0 1 xs.length),.c (.d (.fn g []))] [.arr 1 (xs.map λx=> [δ x]) false]
  (λr=>∃ys:am X,ys.Perm xs/\ys.Pairwise (λa b=>¬cf b a<0)/\r=⟨.tup [],[.arr 1 (ys.map λx=> [δ x]) false]⟩):=by
 refine⟨ah,λw A u a2 hA hH hP bf hW=>?_⟩;obtain⟨⟨_,hn,a0⟩,_⟩:=hP 0 _ rfl;rw[aW]at hn;rcases a0 with⟨_,h0⟩|⟨b,hb,ay,_,an⟩
 .simp_all
 obtain⟨bh,⟨te,I⟩,ac⟩:=an rfl;rw[aW,Nat.mul_one]at ac;have af:Go.AM.Handed u [.arr 1 (xs.map λx=> [δ x]) false] b:=⟨0,_,rfl,hb⟩;have a5:b<w.heap.size:=hH.1 b af;have ae:∀l,A l->l≠b:=λl h e=>(hA l h).2 (e▸af)
 match a2,hW with
 |[],hW=>exact hW.elim
 |[_],hW=>exact hW.2.elim
 |_::_::_::_,hW=>exact hW.2.2.elim
 |[v1,v2],hW=>
 obtain⟨ar,au,_⟩:=hW;have au:∃vs:am Value,v2=.func (.func g) #[] vs.toArray/\vs=[]:=by have:RD w A (.fn g []) v2:=au<;>grind[RD,RDf]
 obtain⟨vs,rfl,rfl⟩:=au;have ar:∃cap,v1=.slice (some ⟨b,0,none⟩) xs.length cap:=by
  rcases ar with⟨h,_⟩|⟨l,cap,t,h1,h2,h3,_⟩
  .grind
  grind
 obtain⟨cap,rfl⟩:=ar;obtain⟨R,a6,a3⟩:=abt xs 0 ay;have aw:R.length=xs.length:=ek
 obtain⟨d0,bi⟩:∃d0,d0∈R:=List.exists_mem_of_ne_nil R (λe=>bc ek);have:dd (El w A δ):=⟨d0⟩;have ax:OneCell (λp:El w A δ=>p.1.1):=λp=>CR.one (B:=u) (w:=w) (ok:=A) (c:=.d (δ p.1.2)) p.2 rfl
 have av:SWO (ltOf λx y:El w A δ=>cf x.1.2 y.1.2):=⟨λx=>hO.irrefl _,λx y z=>hO.trans _ _ _,λx y z=>hO.ntrans _ _ _⟩;have ag:Holds (λp:El w A δ=>p.1.1) w b 0 R.toArray:=by
  intro j hj;have ai:j<R.length:=ek
  constructor
  .grind
  simp only[dn,I];simp
 have al:CmpLays1 P g #[] (λp:El w A δ=>p.1.1) (λx y=>cf x.1.2 y.1.2) b 0 R.toArray.size w:=by
  intro m J dk bj x y;have hk:zP w (sortWorld (λp:El w A δ=>p.1.1) w b 0 m dk J) A A:=λl h=>⟨h,UV _ w b m dk J (hA l h).1 (ae l h)⟩
  have be:∀l,A l->l<(sortWorld (λp:El w A δ=>p.1.1) w b 0 m dk J).heap.size:=λl h=>by grind[sortWorld,size_grow,size_putRow,heap_ahead]
  have a7:Glb A (sortWorld (λp:El w A δ=>p.1.1) w b 0 m dk J):=λk hk=>by obtain⟨h1,m2,h2⟩:=hH.2 k hk;refine⟨h1,m2,?_⟩;rw[<-h2];simp only[bL,UV _ w b m dk J (hA k h1).1 (ae k h1)]
  refine((hc x.1.2 y.1.2).2 (sortWorld (λp:El w A δ=>p.1.1) w b 0 m dk J) A [x.1.1,y.1.1] ⟨be,a7⟩ ⟨RD.keep hk _ _ x.2,RD.keep hk _ _ y.2,trivial⟩).mono ?_;rintro e w' ⟨v,r,rfl,rfl,az,a8⟩;refine⟨?_,aps a8⟩;obtain⟨_,ι2,hv,_⟩:=az<;>grind[rI,int,VR,WR,CR,RD]
 have eg:∀args w,(callFunc g args).run P w=.ok (.enter g args) w:=λargs w=>Z8 (hc default default).1 args w
 have aa:=Any.slices_SortFunc L (λp:El w A δ=>p.1.1) ax (λx y=>cf x.1.2 y.1.2) av g #[] b 0 cap R.toArray w eg al ag a5 ek;rw[show R.toArray.size=xs.length by grind]at aa;refine aa.mono ?_;rintro e w' ⟨rfl,d',n,J,ao,aq,rfl⟩;obtain⟨p1,_,p3⟩:=ao;have T:d'.size=xs.length:=by rw[p1];simp[aw]
 have a1:(d'.toList.map λp=>p.1.2).length=xs.length:=by simp[T]
 refine⟨_,_,rfl,⟨d'.toList.map λp=>p.1.2,?_,?_,rfl⟩,⟨aO _,u,?_,?_,?_,?_,?_,?_⟩,?_⟩
 .have:d'.toList.Perm R:=by
   have e1:d'.extract 0 xs.length=d':=by rw[<-T];simp
   have e2:R.toArray.extract 0 xs.length=R.toArray:=by rw[<-aw];simp
   rw[e1,e2]at p3;exact p3
  rw[<-a6];exact this.map _
 .rw[List.pairwise_map,bZ];intro i j hi hj ba;have a9:i<d'.size:=by simpa using hi
  have ai:j<d'.size:=by simpa using hj
  have:=aq i j (bD _) ba (by rw[<-T];exact ai);rw[getElem!_pos d' j ai,getElem!_pos d' i a9]at this;simpa[ltOf]using this
 .exact⟨[],rfl,trivial⟩
 .intro p x hp;have hp:aget [(0,Pl.arr 1 ((d'.toList.map λp=>p.1.2).map λx=> [δ x]) false)] p=some x:=hp;obtain⟨rfl,rfl⟩:=yM hp;have ad:=adQ (λp:El w A δ=>p.1.1) w b n d' J I;have ak:zP w (sortWorld (λp:El w A δ=>p.1.1) w b 0 n d' J) A (Fr.ok ⟨w,A,Go.AM.Handed u [.arr 1 (xs.map λx=> [δ x]) false],λ_=>none⟩ u (xD (yj 0 1) [Pl.arr 1 ((d'.toList.map λp=>p.1.2).map λx=> [δ x]) false]) (sortWorld (λp:El w A δ=>p.1.1) w b 0 n d' J)):=by
   intro l h;refine⟨⟨.inl h,?_,?_⟩,UV _ w b n d' J (hA l h).1 (ae l h)⟩
   .have:=(hA l h).1;unfold sortWorld;rw[size_grow,size_putRow,heap_ahead];omega
   rintro⟨p,x,o,_,ab⟩;have o:aget [(0,Pl.arr 1 ((d'.toList.map λp=>p.1.2).map λx=> [δ x]) false)] p=some x:=o;obtain⟨rfl,rfl⟩:=yM o;rw[hb]at ab;exact ae l h (bN ab).symm
  refine⟨Nat.one_pos,by rw[aW,a1,hn],.inr ⟨b,hb,?_,(λh=>by cases h),λ_=>⟨_,⟨te,ad⟩,by rw[ad7,aW,a1,Nat.mul_one];exact ac⟩⟩⟩;refine asF _ 0 λj x hj=>?_
  rw[am.getElem?_map]at hj;cases U:d'.toList[j]? with
  |none=>rw[U]at hj;cases hj
  |some q=>
   rw[U]at hj;cases hj;have aj:j<d'.size:=by have:=(am.getElem?_eq_some_iff.1 U).1;simpa using this
   refine⟨q.1.1,?_,RD.keep ak _ _ q.2⟩;simp only[bL,ad];rw[cY,arH _ _ _ aj ej,getElem!_pos d' j aj];rw[aQ.getElem?_toList,aQ.getElem?_eq_getElem aj]at U;simp[bN U]
 .intro p q x y l o hy bd;have o:aget [(0,Pl.arr 1 ((d'.toList.map λp=>p.1.2).map λx=> [δ x]) false)] p=some x:=o;have hy:aget [(0,Pl.arr 1 ((d'.toList.map λp=>p.1.2).map λx=> [δ x]) false)] q=some y:=hy;obtain⟨rfl,_⟩:=yM o;obtain⟨rfl,_⟩:=yM hy;exact absurd rfl bd
 .intro p x l o ab;have o:aget [(0,Pl.arr 1 ((d'.toList.map λp=>p.1.2).map λx=> [δ x]) false)] p=some x:=o;obtain⟨rfl,_⟩:=yM o;rw[hb]at ab;cases ab;exact .inl af
 .intro p x o;have o:aget [(0,Pl.arr 1 ((d'.toList.map λp=>p.1.2).map λx=> [δ x]) false)] p=some x:=o;obtain⟨rfl,rfl⟩:=yM o;rfl
 .intro p x _ _;rfl
 refine⟨rfl,rfl,⟨rfl,?_⟩,?_,λl a4 hm=>?_,λl t m hs=>?_⟩
 .show w.drawn<=w.drawn+n;omega
 .unfold sortWorld;rw[size_grow,size_putRow,heap_ahead];omega
 .exact UV _ w b n d' J a4 (λe=>hm (e▸af))
 by_cases e:l=b
 .subst e;simp only[bI,I]at hs;simp only[bI,adQ (λp:El w A δ=>p.1.1) w l n d' J I,ad7];exact hs
 have bb:l<w.heap.size:=by
  rcases Nat.lt_or_ge l w.heap.size with h|h
  .exact h
  simp[bI,aQ.getElem?_eq_none h]at hs
 simp only[bI,UV _ w b n d' J bb e];exact hs
end
end
end Go.Proofs.YtnlbmefhdiabcaaGreat
namespace Go.Proofs
section
open Go.Shelf
def Tryz.sortRows_ren:Go.Shelf.Ren:=⟨fun|6=>191|15=>240|14=>239|28=>284|29=>285|20=>248|21=>277|22=>278|23=>279|24=>280|25=>281|26=>282|27=>283|46=>308|47=>309|48=>310|49=>311|50=>312|57=>323|n=>n,fun|22=>30|24=>66|25=>105|3=>3|39=>147|0=>0|53=>205|55=>208|4=>4|46=>271|45=>270|50=>257|5=>5|9=>9|66=>294|70=>298|76=>304|77=>214|n=>n,fun|n=>n⟩
theorem Tryz.sortRows:Go.Proofs.SlLaysF.n6 Tryz.prog Tryz.sortRows_ren:={
 mixed:=er
 f6:=⟨Tryz.f191.name,et,Tryz.func191.trans (aM some er)⟩
 f14:=⟨Tryz.f239.name,et,Tryz.func239.trans (aM some er)⟩
 f15:=Tryz.func240.trans (aM some er)
 f20:=⟨Tryz.f248.name,et,Tryz.func248.trans (aM some er)⟩
 f21:=⟨Tryz.f277.name,et,Tryz.func277.trans (aM some er)⟩
 f22:=⟨Tryz.f278.name,et,Tryz.func278.trans (aM some er)⟩
 f23:=⟨Tryz.f279.name,et,Tryz.func279.trans (aM some er)⟩
 f24:=⟨Tryz.f280.name,et,Tryz.func280.trans (aM some er)⟩
 f25:=⟨Tryz.f281.name,et,Tryz.func281.trans (aM some er)⟩
 f26:=⟨Tryz.f282.name,et,Tryz.func282.trans (aM some er)⟩
 f27:=⟨Tryz.f283.name,et,Tryz.func283.trans (aM some er)⟩
 f28:=Tryz.func284.trans (aM some er)
 f29:=Tryz.func285.trans (aM some er)
 f46:=⟨Tryz.f308.name,et,Tryz.func308.trans (aM some er)⟩
 f47:=Tryz.func309.trans (aM some er)
 f48:=Tryz.func310.trans (aM some er)
 f49:=⟨Tryz.f311.name,et,Tryz.func311.trans (aM some er)⟩
 f50:=⟨Tryz.f312.name,et,Tryz.func312.trans (aM some er)⟩
 f57:=⟨Tryz.f323.name,et,Tryz.func323.trans (aM some er)⟩
 t0:=Tryz.underlying0
 a0:=Tryz.isAgg0
 z0:=Tryz.sizeOf0
 v0:=Tryz.zeroValue0
 t3:=Tryz.underlying3
 a3:=Tryz.isAgg3
 z3:=Tryz.sizeOf3
 v3:=Tryz.zeroValue3
 t4:=Tryz.underlying4
 a4:=Tryz.isAgg4
 z4:=Tryz.sizeOf4
 v4:=Tryz.zeroValue4
 t5:=Tryz.underlying5
 a5:=Tryz.isAgg5
 z5:=Tryz.sizeOf5
 v5:=Tryz.zeroValue5
 t9:=Tryz.underlying9
 a9:=Tryz.isAgg9
 z9:=Tryz.sizeOf9
 v9:=Tryz.zeroValue9
 t22:=Tryz.underlying30
 a22:=Tryz.isAgg30
 z22:=Tryz.sizeOf30
 v22:=Tryz.zeroValue30
 a24:=Tryz.isAgg66
 z24:=Tryz.sizeOf66
 t25:=Tryz.underlying105
 a25:=Tryz.isAgg105
 z25:=Tryz.sizeOf105
 v25:=Tryz.zeroValue105
 t39:=Tryz.underlying147
 a39:=Tryz.isAgg147
 z39:=Tryz.sizeOf147
 v39:=Tryz.zeroValue147
 t45:=Tryz.underlying270
 a45:=Tryz.isAgg270
 z45:=Tryz.sizeOf270
 v45:=Tryz.zeroValue270
 t46:=Tryz.underlying271
 a46:=Tryz.isAgg271
 z46:=Tryz.sizeOf271
 v46:=Tryz.zeroValue271
 t50:=Tryz.underlying257
 a50:=Tryz.isAgg257
 z50:=Tryz.sizeOf257
 v50:=Tryz.zeroValue257
 t53:=Tryz.underlying205
 a53:=Tryz.isAgg205
 z53:=Tryz.sizeOf205
 v53:=Tryz.zeroValue205
 t55:=Tryz.underlying208
 a55:=Tryz.isAgg208
 z55:=Tryz.sizeOf208
 v55:=Tryz.zeroValue208
 t66:=Tryz.underlying294
 a66:=Tryz.isAgg294
 z66:=Tryz.sizeOf294
 v66:=Tryz.zeroValue294
 t70:=Tryz.underlying298
 a70:=Tryz.isAgg298
 z70:=Tryz.sizeOf298
 v70:=Tryz.zeroValue298
 t76:=Tryz.underlying304
 a76:=Tryz.isAgg304
 z76:=Tryz.sizeOf304
 v76:=Tryz.zeroValue304
 t77:=Tryz.underlying214
 a77:=Tryz.isAgg214
 z77:=Tryz.sizeOf214
 v77:=Tryz.zeroValue214}
end
end Go.Proofs
namespace Go.Proofs.YtnlbmefhdiabcaaGreat
section
open Go Go.AM Go.Shelf
theorem aiW(g):zH Pg Xq [.c .nil,.c (.d (.fn g []))] [] (λr=>r=⟨.tup [],[]⟩):=by
 refine⟨er,λw A u o hA R T I i=>?_⟩
 match o,i with
 |[],i=>exact i.elim
 |[_],i=>exact i.2.elim
 |_::_::_::_,i=>exact i.2.2.elim
 |[v1,J],i=>
 obtain⟨l,_,_⟩:=i;have l:v1=.slice none 0 0:=l;subst l;refine(AnyF.slices_SortFunc_none (P:=Pg) (ρ:=Tryz.sortRows_ren) {Tryz.sortRows with} none 0 J w).mono ?_;rintro e w' ⟨rfl,rfl⟩;refine⟨_,_,rfl,rfl,⟨aO _,u,⟨[],rfl,trivial⟩,?_,?_,?_,?_,?_⟩,Grows.refl _ _⟩
 .intro p y j;cases j
 .intro p q y z b j;cases j
 .intro p y b j;cases j
 .intro p y j;cases j
 grind
theorem as0(xs)(i:xs≠ [])(g:xs.length<4611686018427387904):
 zH Pg Xq [.c (.own 0 1 xs.length),.c (.d (.fn YA []))] [.arr 1 (zd xs) false]
  (λr=>∃ys:am (am Val),ys.Perm xs/\ys.Pairwise (λa b=>¬ordR b a<0)/\r=⟨.tup [],[.arr 1 (zd ys) false]⟩):=
 auP (P:=Pg) (ρ:=Tryz.sortRows_ren) Tryz.sortRows er (λr=>.sl (rowD r)) ordR yP.swo YA (λx y=>Zh x y) xs i g
end
section
open Go Go.Proofs Go.RowKit Go.Maps Go.Shelf
attribute [local go_sem] Oper.semAt_some
abbrev Sl:=bC dQ×Nat×Nat
abbrev encS:Sl->Value:=λx=>.slice x.1 x.2.1 x.2.2
def kO{a:Type}(f:Nat->a)(k):=(List.range k).map f
theorem aoW{α}(f:Nat->α)(k):kO f (k+1)=kO f k++[f k]:=by grind[kO,List.range_succ]
theorem auS{α}(f:Nat->α)(k):(kO f k).length=k:=by simp[kO]
theorem aD8(g:am Sl):kO (λj=>g[j]?.getD default) g.length=g:=by
 apply List.ext_getElem
 .simp[kO]
 grind[kO]
set_option maxRecDepth 100000 in
set_option maxHeartbeats 2000000 in
theorem ayG(F:dT)(n:Nat)(P:F.fn 192)(ab:F.round=none)(hn:1<=n)(l Bs Bo n₀ b off len cap:Nat)(g:am Sl)(I:len*8<=140737488351232)(hb:b<n₀)(J Jx:am Sl->World->Prop)
 (hY:∀pre x W,J pre W->pre.length<len->YieldAt F (n-1) Tryz.prog l #[encS x] W λe W'=>
  (e=.returned (.bool true)/\J (pre++[x]) W'/\Below n₀ W W')\/(e=.returned (.bool false)/\Jx (pre++[x]) W'))
 (W:World) (ad:W.cell? ⟨Bs,Bo,none⟩=some (.slice (some ⟨b,off,none⟩) len cap)) (hc:∀j,j<len->W.cell? ⟨b,off+j,none⟩=some (encS (g[j]?.getD default))) (h0:J [] W):
 CallsIn F n Tryz.prog 192 #[.func (.yield l) #[] #[],.pointer (some ⟨Bs,Bo,none⟩)] W λe W'=>(∃v,e=.returned v)/\
  ((∃ys,ys=kO (λj=>g[j]?.getD default) len/\J ys W')\/(∃pre,(∃k,k<=len/\pre=kO (λj=>g[j]?.getD default) k)/\Jx pre W')):=by
 refine callsIn_of_wp Tryz.func192 rfl P ?_ ab;simp only[Tryz.ntmps192,dj,aN,cB,dO,dP,cQ,cR,dl,cW,co,bY]
 gi_wp2
 gi_loopw [7] (λi wr=>∃k:Nat,k<=len/\i=.int .i64 k/\J (kO (λj=>g[j]?.getD default) k) wr/\Below n₀ W wr)
  (λi _=>len-(intOf i).toNat)
 case atStart=>exact⟨0,bD _,rfl,h0,Below.refl _ _⟩
 case round=>
  obtain⟨k,hk,rfl,R,r⟩:=hrel;have T:k<len->wr.cell? ⟨b,off+k,none⟩=some (encS (g[k]?.getD default)):=λh=>(r.cell (p:=⟨b,off+k,none⟩) hb).trans (hc k h)
  by_cases aa:k<len
  .obtain⟨fn,tmps,assign,body,hy,hR⟩:=hY _ (g[k]?.getD default) wr R (by grind[auS]);have ac:=T aa
   gi_wp2
   refine hR.mono ?_;rintro e W3 (⟨rfl,ae,U⟩|⟨rfl,o⟩)
   ·
    gi_wp2
    go_roundw
    case rel=>exact⟨k+1,ej,ep,by grind[aoW],r.trans U⟩
    case measure=>grind[intOf]
   gi_wp2
   refine bodyPost_ret (results_none rfl _ _ _) rfl ?_;exact⟨⟨_,rfl⟩,.inr ⟨_,⟨k+1,ej,(aoW _ _).symm⟩,o⟩⟩
  obtain rfl:k=len:=ej
  gi_wp2
  go_end0
  grind
set_option maxRecDepth 100000 in
set_option maxHeartbeats 1000000 in
theorem anv(F:dT)(n:Nat)(g:F.fn 192)(j:F.round=none)(l p o:Nat)(a:bC dQ)(c:Nat)(J:am Sl->World->Prop)(W:World)(r:W.cell? ⟨p,o,none⟩=some (.slice a 0 c))(h0:J [] W):
 CallsIn F n Tryz.prog 192 #[.func (.yield l) #[] #[],.pointer (some ⟨p,o,none⟩)] W λe W'=>(∃v,e=.returned v)/\J [] W':=by
 refine callsIn_of_wp Tryz.func192 rfl g ?_ j;simp only[Tryz.ntmps192,dj,aN,cB,dO,dP,cQ,cR,dl,cW,co,bY]
 gi_wp2
 gi_loopw [7] (λi wr=>i=.int .i64 0/\J [] wr) (λ_ _=>0)
 case atStart=>grind
 case round=>
  obtain⟨rfl,I⟩:=hrel
  gi_wp2
  go_end0
  grind
def ah5:=(Code.region 2 #[{dst:=some 5,op:=Op.assign (bV 7),type:=66,pos:= "iter.go:51",after:= #[],guard:=none}] false)
def aqR:=(Code.block 1 (Code.region 3 #[{dst:=some 8,op:=Op.load 30 (bV 2),type:=30,pos:= "iter.go:52",after:= #[],guard:=none},{dst:=some 9,op:=Op.move (bV 5),type:=66,pos:= "iter.go:52",after:= #[],guard:=none},{dst:=some 10,op:=Op.buildSlice 30 1 #[(0,bV 9)],type:=30,pos:= "iter.go:52",after:= #[{on:=1,ground:=dI}],guard:=none},{dst:=some 11,op:=Op.call {callee:=dH Builtin.append,args:= #[bV 8,bV 10],argTypes:= #[30,30]},type:=30,pos:= "iter.go:52",after:= #[{on:=0,ground:=dI},{on:=2,ground:=dI}],guard:=none},{dst:=none,op:=Op.store 30 (bV 2) (bV 11),type:=0,pos:= "iter.go:52",after:= #[{on:=3,ground:=dI},{on:=3,ground:=Ground.chain},{on:=0,ground:=du},{on:=1,ground:=du},{on:=2,ground:=du},{on:=3,ground:=du}],guard:=none}] false))
def apRec(fn:dy)(i:Value)(j D:Nat)(st:LoopState)(g:bC Code):Loop:=
 {state:=st,pending:=g,fn,tmps:= #[.slice none 0 0,i,.pointer (some ⟨j,0,none⟩),undef,.slice none 0 0,undef,i,undef,undef,undef,undef,undef,undef],params:= #[7],assign:=ah5,body:=aqR,defers:=D}
structure ApAt(w0:World)(fn:dy)(sv:Value)(Bs l D:Nat)(ss:am Sl)(W:World):Prop where
 box:∃v,W.heap[Bs]?=some (.cells #[v] 30 (0,0))/\W.ownsRow w0.heap.size 66 1 v ss.length (ss.map encS)/\(v=.slice none 0 0↔ss=[])
 L:W.heap[l]?=some (.loop (apRec fn sv Bs D .ready none))
 K:W.heap[D]?=some (.deferred (some []))
 below:Below w0.heap.size w0 W
 drawn:w0.drawn<=W.drawn
theorem vW(W:World)(l)(o):W.grownBy (W.putObj l o) (some l):=
 ⟨rfl,rfl,rfl,ep,λk _ hk=>aZ (λe=>hk (by rw[e]))⟩
theorem aim(W:World)(b)(v):W.grownBy (W.setCell ⟨b,0,none⟩ v) (some b):=
 ⟨rfl,rfl,rfl,(dS W _ v).size,λk _ hk=>Below.heap_setCell _ _ _ k (λe=>hk (by rw[e]))⟩
theorem XS{W:World}{yS}{e}{size}{v}{k}{xs}(h:W.ownsRow yS e size v k xs){j}{o}(r:W.heap[j]?=some o)(p:∀i,o≠ .cells i e (0,0)):
 v.ownBlock=none\/v.ownBlock≠some j:=by
 rcases h.2 with⟨rfl,_⟩|⟨g,cap,i,rfl,_,l,_⟩
 .exact .inl rfl
 grind[dJ]
theorem aaE{W:World}{B}{v}{t}(h:W.heap[B]?=some (.cells #[v] t (0,0))):W.cell? ⟨B,0,none⟩=some v/\W.frozen? ⟨B,0,none⟩=false:=by constructor<;>simp[bL,dn,h]
theorem ain{W:World}{B}{v}{t}(v')(h:W.heap[B]?=some (.cells #[v] t (0,0))):(W.setCell ⟨B,0,none⟩ v').heap[B]?=some (.cells #[v'] t (0,0)):=by
 obtain⟨g,hk⟩:=aQ.getElem?_eq_some_iff.1 h;show(W.heap.modify B _)[B]?=_
 grind
theorem aiL{W:World}{yS}{e}{size}{v}{k}{xs}(h:W.ownsRow yS e size v k xs):∀(j) (o:Obj),v.ownBlock=some j->W.heap[j]?=some o->o.isWalk=false:=by
 intro j o r l;rcases h.2 with⟨rfl,_⟩|⟨g,cap,p,rfl,_,i,_⟩
 .grind[dJ]
 have:g=j:=by grind[dJ]
 subst this;rw[i]at l;cases l;rfl
theorem aBF{B}{j A C}(g:Below B j A)(i:Below B j C)(hs:A.heap.size<=C.heap.size):Below B A C:=
 ⟨i.os.trans g.os.symm,i.tape.trans g.tape.symm,i.output.trans g.output.symm,hs,λk hk=>(i.block k hk).trans (g.block k hk).symm⟩
section
variable {P:Program}(w:World)
theorem ao4(yS)(t ty e)(i)(z)(size bytes)(ht:P.underlying t=some (.slice e))(hi:P.info? e=some i)(hz:i.zero=some z)
 (R:i.size=size) (ab:i.bytes=bytes)
 (v) (n) (xs) (r:w.ownsRow yS e size v n xs)
 (a) (m c) (l:am Value) (hl:l.length=m*size) (o:∀j u,l[j]?=some u->w.cell? (a.add j)=some u) (h1:∀u∈l,u.oneCell'=true)
 (ae:n+m<=maxLen) (p:(n+m)*bytes<=140737488355328) {v'}{w'}(hr:(dD #[t,t] ty #[v,.slice (some a) m c]).run P w=.ok v' w'):w.drawn<=w'.drawn:=by
 subst R;subst ab;have aa:n+m<=9223372036854775807:=by grind[maxLen]
 rcases r.2 with⟨rfl,rfl⟩|⟨g,cap,T,rfl,af,hg,ah,ag,ac,ad⟩
 .by_cases hm:m=0
  .subst hm;have hn:l=[]:=aT ek;subst hn;simp[dD,run_underlying ht,sizeOf,typeInfo,hi,Builtin.lenOf,c9,loadCells,loadCellsFrom]at hr;simp_all
  have h:=run_append_nil (P:=P) w t ty e i z ht hi hz a m c l hl o ej ej (by have hb:=p;simp only[cY]at hb;omega);rw[h]at hr;cases hr<;>simp_all
 by_cases J:n+m<=cap
 .have U:n*i.size+l.length<=T.size:=by rw[hl,ac,<-Nat.add_mul];simp_all[bH]
  have h:=run_append_room (P:=P) w t ty e i ht hi g n cap T hg a m c l hl o h1 J U;rw[h]at hr;cases hr<;>simp_all
 have I:∀j u,xs[j]?=some u->w.cell? ((⟨g,0,none⟩:dQ).add j)=some u:=r.cells (g:=g) rfl;have h:=run_append_grow (P:=P) w t ty e i z ht hi hz ⟨g,0,none⟩ n cap xs r.1 I a m c l hl o ej ej (growslice_fits ej p);rw[h]at hr;cases hr<;>simp_all
end
theorem adA{F}{n}{P}(w){ops}{rest}{o}{a}{Q:Exit->Act->World->Prop}
 (hg:o.guard=none) (s x) (t) (R:o.op=Op.call {callee:=dH Builtin.append,args:= #[s,x],argTypes:= #[t,t]})
 (yS) (e) (i) (z) (size bytes) (h1:P.underlying t=some (.slice e)) (h2:P.info? e=some i) (h3:i.zero=some z) (h4:i.size=size) (h5:i.bytes=bytes) (h6:z.cells.size=size) (h7:0<size)
 (v) (k) (xs) (hs:a.eval s=v) (l:w.ownsRow yS e size v k xs) (I) (m c) (g) (hx:a.eval x=.slice (some I) m c) (hn:g.length=m*size)
 (hc:∀j u,g[j]?=some u->w.cell? (I.add j)=some u) (r:∀u∈g,u.oneCell'=true) (T:k+m<=maxLen) (U:(k+m)*bytes<=140737488355328) (b3:yS<=w.heap.size)
 (hK:∀v' w',w'.ownsRow yS e size v' (k+m) (xs++g)->w.grownBy w' v.ownBlock->w.drawn<=w'.drawn->wpListIn F n P ops Q rest (a.put o.dst v') w'):
 wpListIn F n P ops Q (o::rest) a w:=by
 refine wpListIn_plain hg λK J=>?_
 obtain⟨v',w',p,r1,r2,r3⟩:=run_append_own (P:=P) w yS t o.type e i z size bytes h1 h2 h3 h4 h5 h6 h7 v k xs l I m c g hn hc r T U b3;have r4:=ao4 w yS t o.type e i z size bytes h1 h2 h3 h4 h5 v k xs l I m c g hn hc r T U p;unfold Oper.wpIn;refine⟨?_,?_⟩
 .grind[Oper.about,d9,Target.leads,Sem.run_pure]
 rw[Oper.semAt_plain F _ _ ek];simp[execOp,R,d9,invoke,builtin,hs,hx,p,Result.andThen];exact J _ _ (hK v' w' r1 r2 r4)
theorem aGw:(Tryz.prog.info? 66).map (λi=>(i.zero,i.size,i.bytes))=some (some (.slice none 0 0),1,24):=er
set_option maxRecDepth 100000 in
set_option maxHeartbeats 2000000 in
theorem aEG(F:dT)(m:Nat)(T:World)(fn:dy)(a8:F.fn fn)(sv:Value)(i l D:Nat)(an:i≠l)(aq:D≠l)(a1:D≠i)(bj:T.heap.size<=i)(bk:T.heap.size<=l)
 (N:Nat) (hN:N<=maxLen) (bl:N*24<=140737488355328) (ss:am Sl) (x:Sl) (W:World) (h:ApAt T fn sv i l D ss W) (bi:ss.length<N):
 YieldAt F m Tryz.prog l #[encS x] W λe W'=>e=.returned (.bool true)/\ApAt T fn sv i l D (ss++[x]) W'/\Below T.heap.size W W':=by
 obtain⟨i0,hi,be,bf,bg⟩:=info_parts aGw;obtain⟨v,hv,ai,_⟩:=h.box;refine⟨fn, #[.slice none 0 0,sv,.pointer (some ⟨i,0,none⟩),undef,.slice none 0 0,undef,sv,encS x,undef,undef,undef,undef,undef],ah5,aqR,by simpa[apRec]using run_yield (P:=Tryz.prog) (args:= #[encS x]) h.L rfl,roundIn_of_wpIn a8 ?_⟩;have hl:l<W.heap.size:=(aQ.getElem?_eq_some_iff.1 h.L).1;have a3:=run_beginRound (P:=Tryz.prog) h.L rfl;obtain⟨p,ab⟩:∃p,W.putObj l (.loop {apRec fn sv i D .ready none with state:=.busy})=p:=⟨_,rfl⟩;rw[ab]at a3;have ax:W.grownBy p (some l):=by grind[vW]
 have a9:bW W p:=by rw[<-ab];exact dZ _ h.L rfl
 have ah:p.heap[i]?=some (.cells #[v] 30 (0,0)):=by grind[aZ]
 have aj:p.heap[D]?=some (.deferred (some [])):=by rw[<-ab];exact(aZ aq).trans h.K
 have ak:p.heap[l]?=some (.loop {apRec fn sv i D .ready none with state:=.busy}):=by grind[dv]
 have J:p.ownsRow T.heap.size 66 1 v ss.length (ss.map encS):=ai.kept ax (XS ai h.L (λr e=>by cases e));have ae:Below T.heap.size T p:=h.below.grown ax h.below.size (λk e=>ek);obtain⟨bm,bo⟩:=aaE ah;have ao:i<p.heap.size:=(aQ.getElem?_eq_some_iff.1 ah).1;have bb:l<p.heap.size:=(aQ.getElem?_eq_some_iff.1 ak).1;have ar:D<p.heap.size:=(aQ.getElem?_eq_some_iff.1 aj).1;have R:∀{j:Nat}{o:Obj},p.heap[j]?=some o->(∀r,o≠ .cells r 66 (0,0))->some j≠v.ownBlock:=λhj bq=>by grind[XS]
 have a4:p.drawn=W.drawn:=by rw[<-ab];rfl
 clear ab;unfold ah5
 gi_wp2_with (rw[Oper.semAt_eq _ _ _ (λc h=>by cases h)];go_simp;try go_bits)
 unfold aqR
 gi_wp2_with (first
  |(gi_at_builtin;refine adA _ rfl _ _ 30 rfl T.heap.size 66 i0 (.slice none 0 0) 1 24 Tryz.underlying30 hi be bf bg rfl et _ _ _ rfl (J.alloc _) ⟨p.heap.size,0,none⟩ 1 1 [encS x] rfl rfl (cell_one_new _ _ _) (by simp_all[Value.oneCell']) ej ej (by have:=ae.size;simp;omega) ?_;intro v' w3 I ay a5
    have az:w3.heap[i]?=some (.cells #[v] 30 (0,0)):=(ay.block i ew (R ah (λr e=>by cases e))).trans ((Below.heap_alloc _ _ i ao).trans ah);obtain⟨bn,bp⟩:=aaE az;obtain⟨g',g,U,rfl,a0,bh,bs,bt,bu,bv⟩:∃g' g U,v'=.slice (some ⟨g',0,none⟩) (ss.length+1) g/\T.heap.size<=g'/\w3.heap[g']?=some (.cells U 66 (0,0))/\ss.length+1<=g/\g<=maxLen/\U.size=g*1/\U.toList.take ((ss.length+1)*1)=ss.map encS++[encS x]:=by rcases I.2 with⟨_,h0⟩|h'<;>simp_all
    go_frame)
  |(rw[Oper.semAt_eq _ _ _ (λc h=>by cases h)];go_simp;try go_bits))
 have aa:(p.alloc (.cells #[encS x] 66)).grownBy w3 v.ownBlock:=ay;have av:w3.heap[l]?=some (.loop {apRec fn sv i D .ready none with state:=.busy}):=(aa.block l ew (R ak (λr e=>by cases e))).trans ((Below.heap_alloc _ _ l bb).trans ak);have au:w3.heap[D]?=some (.deferred (some [])):=(aa.block D ew (R aj (λr e=>by cases e))).trans ((Below.heap_alloc _ _ D ar).trans aj);obtain⟨w4,al⟩:∃w4,w3.setCell ⟨i,0,none⟩ (.slice (some ⟨g',0,none⟩) (ss.length+1) g)=w4:=⟨_,rfl⟩;rw[al];have ag:w3.grownBy w4 (some i):=by grind[aim]
 have bd:w4.heap[i]?=some (.cells #[.slice (some ⟨g',0,none⟩) (ss.length+1) g] 30 (0,0)):=by grind[ain]
 have ad:w4.heap[l]?=some (.loop {apRec fn sv i D .ready none with state:=.busy}):=(ag.block l (aQ.getElem?_eq_some_iff.1 av).1 (λe=>an ek)).trans av;have a2:w4.heap[D]?=some (.deferred (some [])):=(ag.block D (aQ.getElem?_eq_some_iff.1 au).1 (λe=>a1 ek)).trans au;have ac:=I.kept ag (XS I az (λr e=>by cases e));have bc:l<w4.heap.size:=(aQ.getElem?_eq_some_iff.1 ad).1;have aw:Below T.heap.size T w3:=(ae.alloc ae.size _).grown aa (by have:=ae.size;simp;omega) (λk e=>(J.lt k e).1);have af:Below T.heap.size T w4:=aw.grown ag aw.size (λk e=>ek);have ba:bW W w4:=((a9.trans (KeepsWalks.alloc _ _)).trans (KeepsWalks.of_grownBy aa (aiL (J.alloc _)))).trans (by grind[dS]);have a6:w4.drawn=w3.drawn:=by rw[<-al];rfl
 clear al;have a7:T.drawn<=w4.drawn:=by rw[a6];exact aJ h.drawn (aJ (Nat.le_of_eq a4.symm) a5)
 refine⟨_,_,run_endRound none ad,rfl,⟨⟨_,(aZ an).trans bd,?_,ep⟩,dv bc,(aZ aq).trans a2,af.grown (vW _ _ _) af.size (λk e=>ek),a7⟩,aBF h.below (af.grown (vW _ _ _) af.size (λk e=>ek)) (ba.trans (dZ _ ad rfl)).size⟩;have:=ac.kept (vW w4 l (.loop {{apRec fn sv i D .ready none with state:=.busy}with state:=if(none:bC Code).isNone then .ready else .done,pending:=none})) (XS ac ad (λr e=>by cases e));simpa using this
set_option maxRecDepth 100000 in
set_option maxHeartbeats 2000000 in
theorem aqU(F:dT)(n:Nat)(al:F.fn 238)(ai:F.round=none)(hn:2<=n)(g:Nat)(lb:aQ Value)(aw:F.fn g)(eg:∀args w,(callFunc g args).run Tryz.prog w=.ok (.enter g args) w)
 (zs:am Sl) (N:Nat) (hN:N<=maxLen) (an:N*24<=140737488355328) (w:World) (aj:∀(l:Nat) (J:am Sl->World->Prop) (W:World),Below w.heap.size w W->
  (∀pre x j,J pre j->pre.length<N->YieldAt F (n-1-1) Tryz.prog l #[encS x] j λe W'=>e=.returned (.bool true)/\J (pre++[x]) W'/\Below w.heap.size j W')->
  J [] W->CallsIn F (n-1) Tryz.prog g (#[.func (.yield l) #[] #[]]++lb) W λe W'=>(∃v,e=.returned v)/\J zs W'):
 CallsIn F n Tryz.prog 238 #[.slice none 0 0,.func (.func g) #[] lb] w λe w'=>∃v:Value,e=.returned v/\w'.ownsRow w.heap.size 66 1 v zs.length (zs.map encS)/\(v=.slice none 0 0↔zs=[])/\Below w.heap.size w w'/\w.drawn<=w'.drawn:=by
 have h1:1<=n:=ej
 refine callsIn_of_wp_marks Tryz.func238 rfl al ?_ ai;simp only[Tryz.ntmps238,dj,aN,cB,dO,dP,cQ,cR,dl,cW,co,bY]
 gi_wp2
 refine wpIn_rangeFunc ?_;intro fn aq;rw[ai];obtain⟨i,p⟩:∃i,w.alloc (.cells #[.slice none 0 0] 30)=i:=⟨_,rfl⟩;have ar:i.heap.size=w.heap.size+1:=by rw[<-p];simp
 have au:i.heap[w.heap.size]?=some (.cells #[.slice none 0 0] 30 (0,0)):=by grind[cS]
 have aa:Below w.heap.size w i:=by rw[<-p];exact(Below.refl _ w).alloc (aO _) _
 rw[p];obtain⟨j,r⟩:∃j,(i.alloc (.deferred (some []))).alloc (.loop (apRec fn (.func (.func g) #[] lb) w.heap.size i.heap.size .ready none))=j:=⟨_,rfl⟩;have ah:∀k,k<i.heap.size->j.heap[k]?=i.heap[k]? :=λk hk=>by grind[Below.heap_alloc]
 have ac:Below w.heap.size w j:=by rw[<-r];exact(aa.alloc aa.size _).alloc (by have:=aa.size;simp;omega) _
 have az:j.heap.size=i.heap.size+2:=by rw[<-r];simp
 have hM:ApAt w fn (.func (.func g) #[] lb) w.heap.size (i.heap.size+1) i.heap.size [] j:=
  ⟨⟨_,(ah w.heap.size ej).trans au,⟨rfl,.inl ⟨rfl,rfl⟩⟩,ep⟩,
   by grind[cS],
   by grind[Below.heap_alloc,cS],ac,by rw[<-r,<-p];exact aO _⟩
 refine⟨i.heap.size+1,[{target:=.collected i.heap.size,args:= #[]}],j,{target:=.fn (.func g) lb,args:= #[.func (.yield (i.heap.size+1)) #[] #[]]},j,g,
  #[.func (.yield (i.heap.size+1)) #[] #[]]++lb,j,?_,?_,?_,?_,λ_=>h1,?_⟩
 .rw[<-r];exact run_enterLoop_outer _ _ _ _ _
 .simp[d9,go_sem]
 .grind[Target.leads]
 .grind[invoke]
 refine(aj (i.heap.size+1) (ApAt w fn (.func (.func g) #[] lb) w.heap.size (i.heap.size+1) i.heap.size) j ac
  (λpre x W hJ hl=>aEG F (n-1-1) w fn aq _ w.heap.size (i.heap.size+1) i.heap.size ej ej ej (aO _) ej N hN an pre x W hJ hl) hM).mono ?_
 rintro e W2 ⟨⟨v0,rfl⟩,h2⟩;obtain⟨v,hv,U,ag⟩:=h2.box;have ae:=h2.drawn;have T:=run_endLoop (P:=Tryz.prog) h2.L (by simp[apRec]);obtain⟨R,I⟩:∃R,W2.putObj (i.heap.size+1) (.loop {apRec fn (.func (.func g) #[] lb) w.heap.size i.heap.size .ready none with state:=.exhausted})=R:=⟨_,rfl⟩;rw[I]at T;have af:W2.grownBy R (some (i.heap.size+1)):=by grind[vW]
 have av:R.heap[w.heap.size]?=some (.cells #[v] 30 (0,0)):=by grind[aZ]
 have ab:R.heap[i.heap.size]?=some (.deferred (some [])):=by rw[<-I];exact(aZ ej).trans h2.K
 have o:=U.kept af (XS U h2.L (λak e=>by cases e));have ad:Below w.heap.size w R:=h2.below.grown af h2.below.size (λk e=>ek);obtain⟨ax,ay⟩:=aaE av;have ao:R.drawn=W2.drawn:=by rw[<-I];rfl
 clear I;refine⟨none,R,T,?_⟩
 gi_wp2
 rw[<-ar];refine⟨ep,.inl ⟨_,_,rfl,run_takeDeferred ab,?_⟩⟩;exact⟨_,results_tmp rfl _ _ _,v,rfl,o.kept (vW _ _ _) (XS o ab (λak e=>by cases e)),ag,ad.grown (vW _ _ _) ad.size (λk e=>ek),by rw[<-ao]at ae;exact ae⟩
end
section
open Go Go.AM Go.Proofs Go.Shelf
def tr:Value->Sl
 |.slice a n c=>(a,n,c)
 |_=>default
theorem avl{w}{ok:Nat->Prop}{l}{v}(h:RD w ok (.sl l) v):encS (tr v)=v:=by simp only[RD]at h;obtain⟨a,n,c,rfl,_⟩:=h;rfl
theorem aCb{a:Type}(f:a->Sl)(g:am a)(j)(h:j<g.length):(g.map f)[j]?.getD default=f g[j]:=by simp[h]
theorem apW(rows)(hl:rows.length<=1000000):
 zH Pg Kd [.c .nil,.c (.d (.fn jm [[.sl (zd rows)]]))] []
  (λr=>(rows=[]/\r=⟨.w (.c .nil),[]⟩)\/(rows≠ []/\r=⟨.w (.c (.own 0 1 rows.length)),[.arr 1 (zd rows) false]⟩)):=by
 refine⟨er,λw A u a4 hA hH hP bd U=>?_⟩
 match a4,U with
 |[],U=>exact U.elim
 |[_],U=>exact U.2.elim
 |_::_::_::_,U=>exact U.2.2.elim
 |[v1,v2],U=>
 obtain⟨an,ao,_⟩:=U;have an:v1=.slice none 0 0:=an;subst an;have ao:∃vs:am Value,v2=.func (.func 192) #[] vs.toArray/\∃b o aq,vs=.pointer (some ⟨b,o,none⟩)::aq/\A b/\RDc w A b o [.sl (zd rows)]/\aq=[]:=by have:RD w A (.fn jm [[.sl (zd rows)]]) v2:=ao;simp only[RD,RDf]at this;exact this
 obtain⟨vs,rfl,Bs,Bo,aq,rfl,a5,ad,rfl⟩:=ao;have av:=(hA Bs a5).1;have ad:∃v,w.cell? ⟨Bs,Bo,none⟩=some v/\RD w A (.sl (zd rows)) v:=by grind[RDc]
 obtain⟨sv,ah,bb⟩:=ad;have af:=bb;simp only[RD]at af;obtain⟨sa,n,sc,rfl,hn,bg,be,a3⟩:=af;rw[zq]at hn;subst hn;have hz:∃P:am (El w A λr:am Val=>D.sl (rowD r)),P.map (λp=>p.1.2)=rows/\(rows=[]\/∃b off,sa=some ⟨b,off,none⟩/\A b/\∀j p,P[j]?=some p->w.cell? ⟨b,off+j,none⟩=some p.1.1):=by
  rcases a3 with h|⟨b,off,sz,h1,h2,h3⟩
  .simp_all[zd]
  cases rows with
  |nil=>simp_all
  |cons a r=>
   have hs:sz=1:=by grind[zd,RDs]
   subst hs;obtain⟨P,h4,h5⟩:=abt (δ:=λr:am Val=>D.sl (rowD r)) (a::r) off h3
   grind
 obtain⟨P,a8,az⟩:=hz;have a6:P.length=rows.length:=ek
 have bc:(P.map λp=>tr p.1.1).length=rows.length:=ek
 have eg:∀args w,(callFunc 192 args).run Tryz.prog w=.ok (.enter 192 args) w:=λargs w=>Z8 er args w
 have ak:=callsIn_wide.1 (aqU Fence.wide 3 trivial rfl ej 192 #[.pointer (some ⟨Bs,Bo,none⟩)] trivial eg (P.map λp=>tr p.1.1) rows.length ek ej w (by
  intro l J W hb hY h0;have aw:W.cell? ⟨Bs,Bo,none⟩=some (.slice sa rows.length sc):=(hb.cell (p:=⟨Bs,Bo,none⟩) av).trans ah;rcases az with rfl|⟨b,off,rfl,au,aa⟩
  .have ai:P=[]:=aT ek;subst ai;exact anv Fence.wide _ trivial rfl l Bs Bo sa sc J W aw h0
  refine(ayG Fence.wide _ trivial rfl ej l Bs Bo w.heap.size b off rows.length sc (P.map λp=>tr p.1.1) ej (hA b au).1 J (λ_ _=>False) ?_ W aw ?_ h0).mono ?_
  .simp_all
  .intro j hj;have a0:j<P.length:=ej
   rw[aCb _ _ _ a0,avl P[j].2];exact(hb.cell (p:=⟨b,off+j,none⟩) (hA b au).1).trans (aa j _ (am.getElem?_eq_getElem a0))
  grind[aD8]))
 refine ak.mono ?_;rintro e w' ⟨v,rfl,ae,a2,i,a7⟩;have aj:∀b,A b->w'.heap[b]?=w.heap[b]? :=λb h=>i.block b (hA b h).1
 have R:Grows (Go.AM.Handed u []) w w':=by
  refine⟨i.os,i.tape,⟨i.output,a7⟩,i.size,λb hb _=>i.block b hb,λb t m hs=>?_⟩;have a9:b<w.heap.size:=by
   rcases Nat.lt_or_ge b w.heap.size with h|h
   .exact h
   simp[bI,aQ.getElem?_eq_none h]at hs
  simp only[bI,i.block b a9];exact hs
 rw[bc]at ae;rcases ae.2 with⟨rfl,h0⟩|⟨g,cap,ar,rfl,ag,hg,a1,ax,ay,al⟩
 .have ac:rows=[]:=aT h0;refine⟨_,_,rfl,.inl ⟨ac,rfl⟩,⟨aO _,u,rfl,?_,?_,?_,?_,?_⟩,R⟩
  .intro p y T;cases T
  .intro p q y z b T;cases T
  .intro p y b T;cases T
  .intro p y T;cases T
  grind
 by_cases ac:rows=[]
 .subst ac;have ai:P=[]:=aT (by simpa using a6);subst ai;have:=a2.2 rfl;cases this
 refine⟨_,_,rfl,.inr ⟨ac,rfl⟩,⟨bD _,λ_=>⟨some g,rows.length⟩,?_,?_,?_,?_,?_,?_⟩,R⟩
 .refine .inr ⟨g,cap,66,rfl,aO _,rfl,a1,ax,?_⟩;simp only[bI,hg,ay]
 .intro p x T;have T:aget [(0,Pl.arr 1 (zd rows) false)] p=some x:=T;obtain⟨rfl,rfl⟩:=yM T;refine⟨Nat.one_pos,by rw[zq],.inr ⟨g,rfl,?_,(λh=>by cases h),λ_=>⟨ar,⟨66,hg⟩,by rw[zq,ay];omega⟩⟩⟩;have hK:zP w w' A (Fr.ok ⟨w,A,Go.AM.Handed u [],λ_=>none⟩ (λ_=>⟨some g,rows.length⟩) (xD (yj 0 1) [Pl.arr 1 (zd rows) false]) w'):=by intro b h;refine⟨⟨.inl h,dR (hA b h).1 i.size,?_⟩,aj b h⟩;rintro⟨p,x,hx,_,I⟩;have I:some g=some b:=I;cases I;exact absurd (hA g h).1 ej
  refine asF (δ:=λr:am Val=>D.sl (rowD r)) rows 0 λj x hj=>?_
  rw[<-a8,am.getElem?_map]at hj;cases ab:P[j]? with
  |none=>rw[ab]at hj;cases hj
  |some q=>
   rw[ab]at hj;cases hj;refine⟨q.1.1,?_,RD.keep hK _ _ q.2⟩;have bf:j<P.length:=(am.getElem?_eq_some_iff.1 ab).1;have e1:(ar.toList.take (rows.length*1))[j]?=some q.1.1:=by rw[al,am.getElem?_map,am.getElem?_map,ab];exact aM some (avl q.2)
   rw[am.getElem?_take]at e1;rw[dx ej]at e1;simp only[bL,hg,cY];simpa using e1
 .intro p q x y b' hx hy ba;have hx:aget [(0,Pl.arr 1 (zd rows) false)] p=some x:=hx;have hy:aget [(0,Pl.arr 1 (zd rows) false)] q=some y:=hy;obtain⟨rfl,_⟩:=yM hx;obtain⟨rfl,_⟩:=yM hy;exact absurd rfl ba
 .intro p x b' hx I;have I:some g=some b':=I;cases I;exact .inr ag
 .intro p x hx;have hx:aget [(0,Pl.arr 1 (zd rows) false)] p=some x:=hx;obtain⟨rfl,rfl⟩:=yM hx;rfl
 intro p x h _;exact absurd h (dz _)
end
section
open Go Go.AM
attribute [local irreducible] Sat zH z6
def itC(rows:am (am Val)):C:=.d (.fn jm [[.sl (zd rows)]])
theorem ax8(rows):ex aaL [.c (.d (.sl (zd rows)))] (rC (itC rows)):=by refine zJ ?_;refine z7 T0 aaD.ok er ?_;exact⟨rfl,rfl⟩
theorem auA(rows)(g:rows.length<=1000000):Sat Pg kU [.c (itC rows)] (λr=>(rows=[]/\r=⟨.w (.c .nil),[]⟩)\/(rows≠ []/\r=⟨.w (.c (.own 0 1 rows.length)),[.arr 1 (zd rows) false]⟩)):=by
 refine kS.s T0 ?_;refine zH.mono (apW rows g) ?_;rintro _ (⟨h,rfl⟩|⟨h,rfl⟩)
 ·(conv=>whnf);exact .inl ⟨h,rfl⟩
 (conv=>whnf);exact .inr ⟨h,rfl⟩
theorem amY(rows)(j:rows.length<=1000000):
 Sat Pg Jz [.c (itC rows),.c (.d (.fn YA []))] (λr=>∃ys:am (am Val),ys.Perm rows/\ys.Pairwise (λa b=>¬ordR b a<0)/\r=rC (.d (.sl (zd ys)))):=by
 refine Sat.data (Q:=λr=>∃ys:am (am Val),ys.Perm rows/\ys.Pairwise (λa b=>¬ordR b a<0)/\DQ (rC (.d (.sl (zd ys)))) r) ?_ ?_
 .refine Jm.s T0 ?_;refine aX (auA rows j) ?_;rintro _ (⟨h,rfl⟩|⟨h,rfl⟩)
  ·(conv=>whnf);refine zH.mono (aiW YA) ?_;rintro _ rfl;(conv=>whnf);subst h;exact⟨[],List.Perm.refl _,dh,rfl,rfl⟩
  (conv=>whnf);refine zH.mono (as0 rows h ej) ?_;rintro _ ⟨ys,i,hs,rfl⟩;have g:=i.length_eq;(conv=>whnf);refine⟨ys,i,hs,rfl,?_⟩;have:(zd ys).take rows.length=zd ys:=by grind[zq]
  exact aM (λl=>rC (.d (.sl l))) this
 rintro r ⟨ys,o,p,I,J⟩<;>grind
end
section
open Go Go.AM
theorem axi(u:Nat->Gh):Go.AM.Handed u []= λ_=>False:=by funext b;apply propext;exact⟨λ⟨i,x,h,_⟩=>by simp at h,λh=>h.elim⟩
theorem aoY{u:Nat->Gh}{w}{A:Nat->Prop}:∀{args:am W}{g:am Value},(∀x∈args,∃d,x=.c (.d d))->qN u w A args g->qN (λ_=>⟨none,0⟩) w A args g
 |[],[],_,_=>trivial
 |[],_::_,_,h=>h.elim
 |_::_,[],_,h=>h.elim
 |x::r,v::vs,i,h=>by obtain⟨d,rfl⟩:=i x (aD ..);exact⟨h.1,aoY (λy j=>i y (aK _ j)) h.2⟩
theorem aEA{P}{k}{args}{Q:Res->Prop}(h:Sat P k args Q)(j:∀x∈args,∃d,x=.c (.d d)):zH P k args [] Q:=by refine⟨h.1,λw A u i hA hH hP l hW=>(h.2 w A i ⟨λb hb=>(hA b hb).1,hH.2⟩ (aoY j hW)).mono ?_⟩;rintro e w' ⟨v,r,he,hq,g,hg⟩;rw[axi];obtain⟨o,ι',I,J,R,T,U,_⟩:=g;exact⟨v,r,he,hq,⟨o,ι',I,J,R,T,U,λp x j=>absurd j (dz _)⟩,hg⟩
attribute [local irreducible] Sat zH z6
def uj(out:am Chg)(x:Chg):am Chg:=
 match out.getLast? with
 |some y=>bif ordR y.row x.row==0 then out.dropLast++[⟨y.row,aG.wrap (y.n+x.n)⟩]else out++[x]
 |none=> [x]
def jh(l:am Chg):=l.foldl uj []
theorem aBt(out)(x):(uj out x).length<=out.length+1:=by grind[uj]
theorem snoc{a:Type}:∀(l:am a),0<l.length->∃o y,l=o++[y]
 |[],h=>absurd h (Nat.lt_irrefl 0)
 |[x],_=>⟨[],x,rfl⟩
 |x::z::r,_=>by obtain⟨o,y,h⟩:=snoc (z::r) ep;exact⟨x::o,y,by rw[h];rfl⟩
def qU(k:Int)(r:am Val):Chg:=⟨r,k⟩
def awH(k:Int)(ys:am (am Val))(n i:Nat)(g:am (am D)):S:=⟨[(1,zh k),(6,cV (.own 49 2 n)),(13,.w (.c (.d (.sl (zd ys))))),(14,zh ys.length),(15,zh i)],[(49,.arr 2 g false)]⟩
theorem akW(x:Chg):∀y∈aI [x.ds].length [x.ds],y.length=2:=by intro y g;have g:y∈ [x.ds]:=g;rw[bA]at g;rw[g];rfl
theorem au5(k)(ys)(out)(x)(i):awH k ys (out.length+1) i ((yz out).take out.length++[x.ds])=awH k ys (out++[x]).length i (yz (out++[x])):=by grind[yz,aC]
theorem UI(rows)(k)(hl:rows.length<=100000):
 Sat Pg akt [.c (.d (.sl (zd rows))),.c (int k)] (λr=>∃ys:am (am Val),ys.Perm rows/\ys.Pairwise (λa b=>¬ordR b a<0)/\r=rC (.d (.sl (yz (jh (ys.map (qU k))))))):=by
 refine Sat.data (Q:=λr=>∃ys:am (am Val),ys.Perm rows/\ys.Pairwise (λa b=>¬ordR b a<0)/\DQ (rC (.d (.sl (yz (jh (ys.map (qU k))))))) r) ?_ (λr ⟨ys,J,R,U,h4⟩=>⟨U,ys,J,R,h4⟩);refine WU.s T3 ?_;refine aF (ax8 rows) ?_;refine zH.mono (aEA (amY rows ej) (by intro x hx;simp at hx;rcases hx with rfl|rfl<;>exact⟨_,rfl⟩)) ?_;rintro _ ⟨ys,hp,hs,rfl⟩;have ad:=hp.length_eq
 conv=>whnf
 refine zX (P:=Pg) (f:=T3.f) (body:=(WU.l 0)) ys.length (λi=>awH k ys (jh ((ys.take i).map (qU k))).length i (yz (jh ((ys.take i).map (qU k))))) (λi=>(jh ((ys.take i).map (qU k))).length<=i) ⟨by simp[jh],⟨_,zx 6 49 2 ej ej rfl,?_⟩⟩ ?_
 ·(conv=>whnf);rw[zq];rfl
 intro i hi hR;obtain⟨out,I⟩:∃out,out=jh ((ys.take i).map (qU k)):=⟨_,rfl⟩;have hR:out.length<=i:=ek
 show mwpR Pg T3.f (WU.l 0) _ (awH k ys (jh ((ys.take i).map (qU k))).length i (yz (jh ((ys.take i).map (qU k)))));rw[<-I];have wi:i<ys.length->aG.wrap ((i:Int)+1)=((i+1:Nat):Int):=λh=>zu h ej
 refine zg (λJ=>?_) (λJ=>?_)
 .have j:i<ys.length:=by have J:decide ((i:Int)<(ys.length:Int))=true:=J;simp_all
  have p:jh ((ys.take (i+1)).map (qU k))=uj out (qU k ys[i]):=by grind[aY,jh]
  refine zw (zZ j) ?_;refine zg (λR=>?_) (λR=>?_)
  .have ab:0<out.length:=by have R:decide ((out.length:Int)>0)=true:=R;simp_all
   obtain⟨o,y,aa⟩:=snoc out ab;have ae:out.length=o.length+1:=ek
   have T:out[o.length]?=some y:=ek
   have wl:aG.wrap ((out.length:Int)-1)=(o.length:Int):=by grind[zT]
   have g:uj out (qU k ys[i])=bif ordR y.row ys[i]==0 then o++[⟨y.row,aG.wrap (y.n+k)⟩]else out++[qU k ys[i]]:=by grind[uj,qU]
   (conv=>whnf);rw[wl];refine aw2 ?_;refine⟨_,V0 T,?_⟩;refine aF (Zh y.row ys[i]) ?_;refine zt (b:=ordR y.row ys[i]==0) (λU=>?_) (λU=>?_)
   .rw[U,aE]at g;(conv=>whnf);rw[wl];refine aw2 ?_;refine⟨_,V0 T,?_⟩;(conv=>whnf);refine aw2 ?_;refine⟨_,V0 T,by show 1+1<=2;omega,?_⟩;refine zI j (?_) ?_
    .grind
    (conv=>whnf);rw[wi j,p,g];have e1:(yz out).set o.length [D.sl (rowD y.row),D.lit (.int .i64 (aG.wrap (y.n+k)))]=yz (o++[⟨y.row,aG.wrap (y.n+k)⟩]):=by have:=arg out o.length ⟨y.row,aG.wrap (y.n+k)⟩;rw[aa,av1]at this;rw[aa];exact this
    have e2:(o++[(⟨y.row,aG.wrap (y.n+k)⟩:Chg)]).length=out.length:=ek
    rw[e2,<-e1];rfl
   rw[U,aA]at g;(conv=>whnf);refine⟨akW (qU k ys[i]),by grind[zW],ek,?_⟩;refine zI j (?_) ?_
   .grind
   (conv=>whnf);rw[wi j,p,g];exact au5 k ys out (qU k ys[i]) (i+1)
  have hz:out=[]:=by have R:decide ((out.length:Int)>0)=false:=R;have:=aR R;simp_all
  have g:uj out (qU k ys[i])=out++[qU k ys[i]]:=by rw[hz];rfl
  (conv=>whnf);refine⟨akW (qU k ys[i]),by grind[zW],ek,?_⟩;refine zI j (?_) ?_
  .grind
  (conv=>whnf);rw[wi j,p,g];exact au5 k ys out (qU k ys[i]) (i+1)
 have ac:i=ys.length:=by have J:decide ((i:Int)<(ys.length:Int))=false:=J;have:=aR J;omega
 subst ac;rw[aS]at I;(conv=>whnf);refine⟨ys,hp,hs,rfl,?_⟩;have:(yz out).take out.length=yz out:=by rw[<-xA,aS]
 rw[<-I];exact aM (λl=>rC (.d (.sl l))) this
end
section
open Go Go.AM
attribute [local irreducible] Sat zH z6
namespace So.C
structure En(a:Type) where
 d0:a->D
 d1:a->D
abbrev en{a:Type}(E:En a)(x:a):am D:=[E.d0 x,E.d1 x]
abbrev sz:Nat:=2
abbrev cal{a:Type}(E:En a)(x y:a):am W:=[.agg [.d (E.d0 x),.d (E.d1 x)],.agg [.d (E.d0 y),.d (E.d1 y)]]
abbrev clo{a:Type}(E:En a)(g:dy):W:=.c (.d (.fn g []))
noncomputable abbrev cI_L0:=(wB.l 0)
noncomputable abbrev cI_L1:=(wB.l 1)
abbrev cI_ok:=wB.ok
noncomputable abbrev cM_L0:=(xx.l 0)
noncomputable abbrev cM_L1:=(xx.l 1)
noncomputable abbrev cM_L2:=(xx.l 2)
noncomputable abbrev cM_L3:=(xx.l 3)
noncomputable abbrev cM_L4:=(xx.l 4)
abbrev cM_ok:=xx.ok
noncomputable abbrev cO_L0:=(ZE.l 0)
abbrev cO_ok:=ZE.ok
noncomputable abbrev cS_L0:=(wx.l 0)
noncomputable abbrev cS_L1:=(wx.l 1)
noncomputable abbrev cS_L2:=(wx.l 2)
abbrev cS_ok:=wx.ok
abbrev cT_ok:=Va.ok
noncomputable abbrev cW_L0:=(jd.l 0)
abbrev cW_ok:=jd.ok
theorem abA{α}(E:En α):abc Xr sz (en E) (cal E) (clo E):=age
abbrev insSort'{a:Type}(E:En a):=(abA E).p
theorem Je{α}(E:En α):UM Q9 sz (en E) (clo E):=abb
abbrev swapRange'{a:Type}(E:En a):=(Je E).p
theorem afM{α}(E:En α):aeq VE sz (en E) (clo E):=ajz
abbrev rotate'{a:Type}(E:En a):=(afM E).p
theorem symMerge{α}(E:En α):ahX WH sz (en E) (cal E) (clo E):=adC
theorem stable{α}(E:En α):aqA VG sz (en E) (cal E) (clo E):=ajA
theorem SortStable{α}(E:En α):SortStable j9 sz (en E) (cal E) (clo E):=kQ
end So.C
theorem ald(g:dy)(c:Chg->Chg->Int)(i:CmpOK c)(j:∀x y:Chg,ex g [x.w,y.w] (rI (c x y)))(l)(n)(p:l.length=n)(o:n<=1000000):
 zH Pg j9 [.c (.own 0 2 n),.c (.d (.fn g []))] [.arr 2 (yz l) false]
  (λr=>∃l',PermW 0 n l l'/\yA c 0 n l'/\r=⟨.tup [],[.arr 2 (yz l') false]⟩):=
 So.C.SortStable ⟨λx:Chg=>D.sl (rowD x.row),λx=>.lit (.int .i64 x.n)⟩ g c i (λ_ _=>True) (λx y _=>(j y x).mono λ_ e=>⟨_,e,Iff.rfl⟩) l n p o (λ_ _ _ _ _ _ _ _ _=>trivial)
def aiH(a b:Chg):=ordR a.row b.row
theorem aFl:CmpOK aiH:=yP.on Chg.row
theorem atg(x y):ex kh [x.w,y.w] (rI (aiH x y)):=by obtain⟨a,m⟩:=x;obtain⟨b,n⟩:=y;refine aia.s T3 ?_;refine aF (Zh a b) ?_;rfl
def agP(l):=(jh l).filter λx=>!(x.n==0)
def ayu(N:Nat)(l:am Chg)(n i:Nat)(g:am (am D)):S:=⟨[(6,cV (.own 52 2 n)),(16,cV (.own 600208 2 N)),(17,zh N),(18,zh i)],[(52,.arr 2 g false),(600208,.arr 2 (yz l) false)]⟩
theorem aqT(N)(l)(out)(x)(i):ayu N l (out.length+1) i ((yz out).take out.length++[x.ds])=ayu N l (out++[x]).length i (yz (out++[x])):=by grind[yz,aC]
theorem adr(xs ys)(hx:xs.length<=100000)(hy:ys.length<=100000):
 Sat Pg aml [Xf xs,Xf ys] (λr=>∃l,l.Perm (xs++ys)/\yA aiH 0 l.length l/\r=rC (.d (.sl (yz (agP l))))):=by
 refine Sat.data (Q:=λr=>∃l:am Chg,l.Perm (xs++ys)/\yA aiH 0 l.length l/\DQ (rC (.d (.sl (yz (agP l))))) r) ?_ (λr ⟨l,T,J,U,h4⟩=>⟨U,l,T,J,h4⟩);refine VS.s T3 ?_;refine Sat.cal (aha xs ys hx hy) ?_;obtain⟨N,hN⟩:∃N,N=(xs++ys).length:=⟨_,rfl⟩;rw[<-hN];obtain⟨l0,ab⟩:∃l0,l0=xs++ys:=⟨_,rfl⟩;rw[<-ab];rw[<-ab]at hN;have aj:N<=200000:=ek
 conv=>whnf
 refine zH.mono (ald kh aiH aFl atg l0 N hN.symm ej) ?_;rintro _ ⟨l,p1,s1,rfl⟩;have ah:=p1.len
 conv=>whnf
 refine zX (P:=Pg) (f:=T3.f) (body:=(VS.l 0)) N (λi=>ayu N l (jh (l.take i)).length i (yz (jh (l.take i)))) (λi=>(jh (l.take i)).length<=i) ⟨by simp[jh],⟨_,zx 6 52 2 ej ej rfl,?_⟩⟩ ?_
 .exact rfl
 intro i hi hR;obtain⟨out,I⟩:∃out,out=jh (l.take i):=⟨_,rfl⟩;have hR:out.length<=i:=ek
 show mwpR Pg T3.f (VS.l 0) _ (ayu N l (jh (l.take i)).length i (yz (jh (l.take i))));rw[<-I];have wi:i<N->aG.wrap ((i:Int)+1)=((i+1:Nat):Int):=λh=>zu h ej
 refine zg (λT=>?_) (λT=>?_)
 .have p:i<N:=by have T:decide ((i:Int)<(N:Int))=true:=T;have:=aV T;omega
  have ag:i<l.length:=ej
  have af:l[i]?=some l[i]:=am.getElem?_eq_getElem ag;have j:jh (l.take (i+1))=uj out l[i]:=by grind[aY,jh]
  refine aw2 ?_;refine⟨_,V0 af,?_⟩;refine zg (λJ=>?_) (λJ=>?_)
  .have ad:0<out.length:=by have J:decide ((out.length:Int)>0)=true:=J;simp_all
   obtain⟨o,y,ac⟩:=snoc out ad;have ak:out.length=o.length+1:=ek
   have R:out[o.length]?=some y:=ek
   have wl:aG.wrap ((out.length:Int)-1)=(o.length:Int):=by grind[zT]
   have g:uj out l[i]=bif ordR y.row l[i].row==0 then o++[⟨y.row,aG.wrap (y.n+l[i].n)⟩]else out++[l[i]]:=by grind[uj]
   (conv=>whnf);rw[wl];refine aw2 ?_;refine⟨_,V0 R,?_⟩;refine aF (Zh y.row l[i].row) ?_;refine zt (b:=ordR y.row l[i].row==0) (λU=>?_) (λU=>?_)
   .rw[U,aE]at g;(conv=>whnf);rw[wl];refine aw2 ?_;refine⟨_,V0 R,?_⟩;(conv=>whnf);refine aw2 ?_;refine⟨_,V0 R,by show 1+1<=2;omega,?_⟩;refine zI p (?_) ?_
    .grind
    (conv=>whnf);rw[wi p,j,g];have e1:(yz out).set o.length [D.sl (rowD y.row),D.lit (.int .i64 (aG.wrap (y.n+l[i].n)))]=yz (o++[⟨y.row,aG.wrap (y.n+l[i].n)⟩]):=by have:=arg out o.length ⟨y.row,aG.wrap (y.n+l[i].n)⟩;rw[ac,av1]at this;rw[ac];exact this
    have e2:(o++[(⟨y.row,aG.wrap (y.n+l[i].n)⟩:Chg)]).length=out.length:=ek
    rw[e2,<-e1];rfl
   rw[U,aA]at g;(conv=>whnf);refine⟨akW l[i],by grind[zW],ek,?_⟩;refine zI p (?_) ?_
   .grind
   (conv=>whnf);rw[wi p,j,g];exact aqT N l out l[i] (i+1)
  have hz:out=[]:=by have J:decide ((out.length:Int)>0)=false:=J;have:=aR J;exact aT ej
  have g:uj out l[i]=out++[l[i]]:=by rw[hz];rfl
  (conv=>whnf);refine⟨akW l[i],by grind[zW],ek,?_⟩;refine zI p (?_) ?_
  .grind
  (conv=>whnf);rw[wi p,j,g];exact aqT N l out l[i] (i+1)
 have ae:i=N:=ek
 subst ae;rw[show l.take i=l by grind]at I;(conv=>whnf);refine zH.mono (acb ki (λx=>x.n==0) ath out ej) ?_;rintro _ ⟨ai,aa,rfl⟩;(conv=>whnf);refine⟨l,?_,?_,rfl,?_⟩
 .exact p1.perm
 .grind
 rw[show agP l=out.filter (λx=>!(x.n==0))from by rw[I];rfl];exact aM (λl=>rC (.d (.sl l))) aa
end
section
open Go Go.AM
theorem alI(y:Nat)(g:y<=1000000):bF.wrap (y:Int)=(y:Int):=by grind[IntKind.wrap,IntKind.bits]
theorem aHh:bF.wrap 0=0:=alI 0 ej
theorem aDL(y:Nat)(g:y<=1000000):Wy false bF (y:Int) 32=0:=by
 show(y:Int).fdiv (2^min (32:Nat) 64)=_
 grind
theorem awt(y:Nat)(j:y<=1000000):WQ .and bF (y:Int) 4294967295=(y:Int):=by
 have g:(dw 64 (y:Int)).toNat=y:=ek
 have i:(dw 64 4294967295).toNat=2^32-1:=rfl;show bF.wrap ((dw 64 (y:Int)&&&dw 64 4294967295).toNat:Int)=_;rw[BitVec.toNat_and,g,i,Nat.and_two_pow_sub_one_eq_mod,Nat.mod_eq_of_lt ej]
 grind[alI]
attribute [local irreducible] Sat zH z6
set_option maxRecDepth 100000
def u64(n:Int):C:=.d (.lit (.int .u64 n))
def rM(y:Int):Res:=⟨.tup [.c (u64 0),.c (u64 y)],[]⟩
theorem ax5(y:Nat)(g:y<=1000000):ex JM [.c (u64 1),.c (u64 y)] (rM y):=by
 have i:Wy false bF 1 32=0:=aDL 1 ej;have a0:Wy false bF 0 32=0:=aDL 0 ej;have l:WQ .and bF 1 4294967295=1:=awt 1 ej;have j:WQ .and bF 0 4294967295=0:=awt 0 ej;refine JH.s T0 ?_;refine⟨et,?_⟩
 conv=>whnf
 refine⟨et,?_⟩
 conv=>whnf
 refine⟨et,?_⟩
 conv=>whnf
 refine⟨et,?_⟩
 conv=>whnf
 refine⟨et,?_⟩
 conv=>whnf
 simp only[i,aDL y g,awt y g,l,Int.zero_mul,Int.mul_zero,Int.one_mul,aHh,Int.zero_add,alI y g,a0,j];rfl
theorem aFw(y:Nat)(g:y<=1000000):ex akw [.c (u64 1),.c (u64 y)] (rM y):=by refine ajR.s T0 ?_;refine aF (ax5 y g) ?_;rfl
def axT(n:Nat)(i:Int)(g:am (am D)):S:=⟨[(7,cV (.own 30 1 n)),(8,zh i)],[(30,.arr 1 g false)]⟩
def aIu(n i:Nat)(g):=axT n i g
theorem auR{α}(g j:am α)(i)(h:i+j.length<=g.length):(zM g i j).take (i+j.length)=g.take i++j/\(zM g i j).length=g.length:=by
 unfold zM;constructor
 .rw[cP ew,bM ew]
 grind
theorem alc(row)(n:Nat)(T:n<=1000000):
 ex aaK [.c (.d (.sl (zd [row]))),.c (int n)] (rC (.d (.sl (zd (aB n row))))):=by
 refine zJ ?_;refine Qu.s T0 ?_;have c1:bF.wrap ((1:Nat):Int)=1:=alI 1 ej;rw[show bF.wrap ((zd [row]).length:Int)=1 from c1,alI n T];refine aF (aFw n T) ?_;refine zt (λJ=>?_) (λJ=>?_)
 .exact absurd (aV J:(n:Int)>9223372036854775807) ej
 have wn:aG.wrap (n:Int)=(n:Int):=zT ej ej
 conv=>whnf
 rw[wn];refine⟨ej,ej,by grind[zW],ej,?_⟩
 conv=>whnf
 refine⟨by intro y U;have U:y∈ [[D.sl (rowD row)]]:=U;grind,?_⟩
 conv=>whnf
 obtain⟨e,he⟩:∃e,e=[D.sl (rowD row)]:=⟨_,rfl⟩
 refine yD (P:=Pg) (f:=T0.f) (body:=(Qu.l 0)) (λz:Nat×am (am D)=>aIu n z.1 z.2) (λz=>n-z.1)
  (λz=>z.1<=n/\(z.1=0->n=0)/\z.2.length=n/\z.2.take z.1=aB z.1 e)
  ⟨(min 1 n,zM (aB n [D.sl []]) 0 ((zd [row]).take n)),⟨Nat.min_le_right _ _,λh=>ek,?_,?_⟩,zi ?_⟩ ?_
 .grind[zM]
 .cases n<;>grind[zd,zM]
 .exact rfl
 rintro⟨i,g⟩ R;have hS:i<=n/\(i=0->n=0)/\g.length=n/\g.take i=aB i e:=R;clear R;obtain⟨g1,g2,g3,g4⟩:=hS;refine zg (λp=>?_) (λp=>?_)
 .have ad:i<n:=by have p:decide ((i:Int)<(n:Int))=true:=p;simp_all
  refine aw2 ?_ (hA:=by grind[ye]) (hB:=by grind[ye]);refine⟨by grind[ye],by grind[ye],by grind[ye],?_⟩;(conv=>whnf);have o:∀y∈g.take i,y.length=1:=ek
  refine⟨o,?_⟩;(conv=>whnf);obtain⟨j,ac⟩:∃j,j=(g.take i).take (n-i):=⟨_,rfl⟩;have ab:min (g.take i).length (n-i)=j.length:=ek
  have hk:j.length=min i (n-i):=ek
  have aa:j=aB j.length e:=ek
  have h3:=auR g j i ej;have wk:aG.wrap ((i:Int)+(j.length:Int))=((i+j.length:Nat):Int):=by grind[zT]
  refine⟨(i+j.length,zM g i j),⟨⟨ek,λh=>ek,h3.2.trans g3,?_⟩,ek⟩,zi ?_⟩
  .grind[List.replicate_append_replicate]
  (conv=>whnf);show axT n (aG.wrap ((i:Int)+((min (g.take i).length (n-i):Nat):Int))) (zM g i ((g.take i).take (n-i)))=axT n ((i+j.length:Nat):Int) (zM g i j)
  grind
 have I:i=n:=ek
 subst I;refine UP ?_;rw[show zd (aB i row)=aB i e by simp_all[zd],<-g4];rfl
end
section
open Go Go.AM
attribute [local irreducible] Sat zH z6
def Qh(e:Int):Res:=⟨.tup [.c .nil,.c (int e)],[]⟩
def aqp(rows ys:am (am Val)):=ys.Perm rows/\ys.Pairwise (λa b=>¬ordR b a<0)
def anq(xs ys)(z):=∃l:am Chg,l.Perm (xs++ys)/\yA aiH 0 l.length l/\z=agP l
def acG(rows)(k)(z):=∃ys:am (am Val),aqp rows ys/\z=jh (ys.map (qU k))
def QJ(x y)(r):=
 bif tblErr x !=0 then r=Qh (tblErr x)else bif tblErr y !=0 then r=Qh (tblErr y)else bif !qV x.cols y.cols then r=Qh 10
 else∃u v z,acG x.rows (-1) u/\acG y.rows 1 v/\anq u v z/\r=⟨.tup [.c (.d (.sl (yz z))),.c (int 0)],[]⟩
theorem Yh(l):(jh l).length<=l.length:=by
 have:∀(l out:am Chg),(l.foldl uj out).length<=out.length+l.length:=by intro l;induction l<;>grind[aBt]
 grind[jh]
def aBY(x y:Tbl)(i:Int):S:=⟨[(2,cV (.ptr 2 0)),(3,cV (.ptr 3 0)),(11,cV (.own 11 2 2)),(12,zh 2),(13,zh i)],
 [(2,.box [.d (.sl (zj x.cols)),.d (.sl (zd x.rows))]),(3,.box [.d (.sl (zj y.cols)),.d (.sl (zd y.rows))]),(11,.arr 2 [x.ds,y.ds] false)]⟩
attribute [local irreducible] QJ in
theorem asY(x y:Tbl)(hx:x.rows.length<=50000)(hy:y.rows.length<=50000):Sat Pg ae8 [x.w,y.w] (QJ x y):=by
 obtain⟨j,p⟩:=x;obtain⟨o,r⟩:=y;refine z7 T3 aeB.ok er ?_;have v1:aG.wrap ((0:Int)+1)=1:=zT ej ej;have v2:aG.wrap ((1:Int)+1)=2:=zT ej ej
 conv=>whnf
 refine zX (P:=Pg) (f:=T3.f) (body:=(aeB.l 0)) 2 (λi=>match i with|0=>aBY ⟨j,p⟩ ⟨o,r⟩ 0|1=>aBY ⟨j,p⟩ ⟨o,r⟩ 1|_=>aBY ⟨j,p⟩ ⟨o,r⟩ 2) (λi=>(1<=i->(tblErr ⟨j,p⟩ !=0)=false)/\(2<=i->(tblErr ⟨o,r⟩ !=0)=false)) ⟨⟨λh=>absurd h ej,λh=>absurd h ej⟩,zi ?_⟩ ?_
 .exact rfl
 intro i hi I;obtain rfl|rfl|rfl:i=0\/i=1\/i=2:=ej
 .refine aw2 ?_ (hA:=et) (hB:=et);refine⟨_,rfl,?_⟩;refine aF (qk ⟨j,p⟩) ?_;refine zt (b:=tblErr ⟨j,p⟩ !=0) (λg=>?_) (λg=>?_)
  ·(conv=>whnf);unfold QJ;rw[g,aE];rfl
  (conv=>whnf);refine⟨et,⟨λ_=>g,λh=>absurd h ej⟩,zi ?_⟩;(conv=>whnf);rw[v1];rfl
 .refine aw2 ?_ (hA:=et) (hB:=et);refine⟨_,rfl,?_⟩;refine aF (qk ⟨o,r⟩) ?_;refine zt (b:=tblErr ⟨o,r⟩ !=0) (λg=>?_) (λg=>?_)
  ·(conv=>whnf);unfold QJ;rw[I.1 ej,aA,g,aE];rfl
  (conv=>whnf);refine⟨et,⟨λ_=>I.1 ej,λ_=>g⟩,zi ?_⟩;(conv=>whnf);rw[v2];rfl
 have T:=I.1 ej;have U:=I.2 ej;refine aF (aiT j o) ?_;refine zt (b:=!qV j o) (λg=>?_) (λg=>?_)
 ·(conv=>whnf);unfold QJ;rw[T,aA,U,aA,g,aE];rfl
 (conv=>whnf);refine aX (UI p (-1) ek) ?_;rintro _ ⟨us,u1,u2,rfl⟩;obtain⟨u,J⟩:∃u,u=jh (us.map (qU (-1))):=⟨_,rfl⟩;have aa:u.length<=50000:=by rw[J];exact aJ (Yh _) (by rw[aW,u1.length_eq];exact hx)
 rw[<-J];(conv=>whnf);refine aX (UI r 1 ek) ?_;rintro _ ⟨vs,v3,v4,rfl⟩;obtain⟨v,R⟩:∃v,v=jh (vs.map (qU 1)):=⟨_,rfl⟩;have ab:v.length<=50000:=by rw[R];exact aJ (Yh _) (by rw[aW,v3.length_eq];exact hy)
 rw[<-R];(conv=>whnf);refine aX (adr u v ej ej) ?_;rintro _ ⟨l,l1,l2,rfl⟩;(conv=>whnf);unfold QJ;rw[T,aA,U,aA,g,aA];exact⟨u,v,agP l,⟨us,⟨u1,u2⟩,J⟩,⟨vs,⟨v3,v4⟩,R⟩,⟨l,l1,l2,rfl⟩,rfl⟩
def jW(nc:Int)(p:bC Chg)(c:Chg):=
 ((((c.row.length:Int) !=nc||c.n==0)||decide (c.n< -20000))||decide (c.n>20000))||(match p with|some q=>decide (ordR q.row c.row>=0)|none=>false)
def qt(cols:am Col):bC Chg->am Chg->Int
 |_,[]=>0
 |p,c::r=>bif jW cols.length p c then 10 else bif valuesErr cols c.row !=0 then valuesErr cols c.row else qt cols (some c) r
def UG(l:am Chg)(i:Nat):bC Chg:=match i with|0=>none|j+1=>l[j]?
def uH:Int->am Chg->bC Int
 |t,[]=>some t
 |t,c::r=>bif decide (c.n<0)then none else uH (yL false (aG.wrap (t+c.n)) 40000) r
def y0(l:am Chg):=(l.map λc=>aB c.n.toNat c.row).flatten
def ah0(e:Int):Res:=⟨.tup [.agg [.d (.sl []),.d (.sl [])],.c (int e)],[]⟩
def aOk(t:Tbl):Res:=⟨.tup [t.w,.c (int 0)],[]⟩
def aF8(cols:am Col):Res:=⟨.tup [.agg [.d (.sl (zj cols)),.d (.sl [])],.c (int 0)],[]⟩
def jS(t:Tbl)(cs:am Chg)(r):=
 bif tblErr t !=0 then r=ah0 (tblErr t)else bif qt t.cols none cs !=0 then r=ah0 (qt t.cols none cs)
 else∃u z,acG t.rows 1 u/\anq u cs z/\match uH 0 z with
  |none=>r=ah0 5
  |some n=>bif decide (n>20000)then r=ah0 7 else r=aOk ⟨t.cols,y0 z⟩\/(z=[]/\r=aF8 t.cols)
def Qm(t:Tbl)(cs:am Chg)(r:Res):=r.v.plain=true/\jS t cs r.asData
def aHl(t:Tbl)(cs:am Chg)(i:Int):S:=⟨[(1,.w (Xf cs)),(2,cV (.ptr 2 0)),(4,cV (.ptr 4 0)),(23,.w (Xf cs)),(24,zh cs.length),(25,zh i)],
 [(2,.box [.d (.sl (zj t.cols)),.d (.sl (zd t.rows))]),(4,.box [.nil,.nil])]⟩
def aHm(t:Tbl)(z:am Chg)(i:Nat)(T:Int):S:=⟨[(2,cV (.ptr 2 0)),(4,cV (.ptr 4 0)),(10,.w (Xf z)),(11,zh T),(84,.w (Xf z)),(85,zh z.length),(86,zh i)],
 [(2,.box [.d (.sl (zj t.cols)),.d (.sl (zd t.rows))]),(4,.box [.nil,.nil])]⟩
theorem asN(l):∀y∈zd l,y.length=1:=by intro y g;obtain⟨r,_,rfl⟩:=bE.1 g;rfl
def ajK(cols:am Col)(z:am Chg)(i:Int)(g:am (am Val)):S:=⟨[(4,cV (.ptr 4 0)),(14,cV (.ptr 14 0)),(107,.w (Xf z)),(108,zh z.length),(109,zh i)],[(4,.box [.nil,.nil]),(14,.box [.d (.sl (zj cols)),.own 121 1 g.length]),(121,.arr 1 (zd g) false)]⟩
def aHn(cols:am Col)(z:am Chg):Nat->S
 |0=>⟨[(4,cV (.ptr 4 0)),(14,cV (.ptr 14 0)),(107,.w (Xf z)),(108,zh z.length),(109,zh 0)],[(4,.box [.nil,.nil]),(14,.box [.d (.sl (zj cols)),.nil])]⟩
 |i+1=>ajK cols z ((i+1:Nat):Int) (y0 (z.take (i+1)))
theorem alB:∀(l),(∀c∈l,c.n<=20000)->(y0 l).length<=l.length*20000
 |[],_=>by simp[y0]
 |c::r,h=>by
  have j:=alB r λx g=>h x (aK _ g)
  have i:=h c (aD ..);have:(y0 (c::r)).length=c.n.toNat+(y0 r).length:=by simp[y0]
  rw[this,aN];omega
theorem ayr(l)(c):y0 (l++[c])=y0 l++aB c.n.toNat c.row:=by simp[y0]
theorem ajZ(cols):∀(cs) (p:bC Chg),qt cols p cs=0->∀c∈cs, -20000<=c.n/\c.n<=20000
 |[],_,_,c,g=>by cases g
 |a::r,p,h,c,g=>by
  simp only[qt]at h;cases i:jW cols.length p a
  .rw[i,aA]at h;cases j:(valuesErr cols a.row !=0)
   .rw[j,aA]at h;rcases aP.1 g with rfl|g
    .simp_all[jW]
    exact ajZ cols r _ h c g
   simp_all
  simp_all
theorem aqE{out}{a}{B K}(hB:0<=B)(I:0<=K)(hs:B+K<=4000000000000000000)(l:∀c∈out, -B<=c.n/\c.n<=B)(r: -K<=a.n/\a.n<=K):∀c∈uj out a, -(B+K)<=c.n/\c.n<=B+K:=by
 intro c g;have j:∀c∈out, -(B+K)<=c.n/\c.n<=B+K:=λc g=>ek
 unfold uj at g;split at g
 .rename_i y o;have p:=l y (bU o);cases i:(ordR y.row a.row==0)
  .rw[i,aA]at g
   grind
  rw[i,aE]at g
  grind[List.dropLast_subset,zT]
 grind
theorem agv{K}(g:0<=K):∀(l out:am Chg) (B:Int),0<=B->B+l.length*K<=4000000000000000000->(∀c∈out, -B<=c.n/\c.n<=B)->(∀c∈l, -K<=c.n/\c.n<=K)->∀c∈l.foldl uj out, -(B+l.length*K)<=c.n/\c.n<=B+l.length*K
 |[],out,B,_,_,i,_,c,o=>ek
 |a::r,out,B,hB,hs,i,j,c,o=>by
  have e:((a::r).length:Int)*K=(r.length:Int)*K+K:=by simp_all[Int.add_mul]
  have I:0<=(r.length:Int)*K:=Int.mul_nonneg ej g;rw[e]at hs⊢;have:=agv g r (uj out a) (B+K) ej ej (aqE hB g ej i (j a (aD ..))) (λx p=>j x (aK _ p)) c o;omega
theorem ahT:∀(z) (t T:Int),0<=t->t<=40000->(∀c∈z,0<=c.n/\c.n<=4000000000000000000)->uH t z=some T->T<=20000->t<=T/\∀c∈z,c.n<=20000
 |[],t,T,_,_,_,h,_=>by have h:some t=some T:=h<;>simp_all
 |a::r,t,T,h0,p,g,h,i=>by
  have J:=g a (aD ..);have j:decide (a.n<0)=false:=cK ej;simp only[uH,j,aA]at h;rw[zT ej ej]at h;have l:yL false (t+a.n) 40000=if 40000<t+a.n then 40000 else t+a.n:=rfl
  rw[l]at h;have I:=ahT r _ T ek ek (λx o=>g x (aK _ o)) h i
  grind
attribute [local irreducible] Qm in
theorem afO(t:Tbl)(cs:am Chg)(ht:t.rows.length<=50000)(j:cs.length<=50000)(ai:t.cols.length<=100000):Sat Pg adS [t.w,Xf cs] (jS t cs):=by
 refine Sat.data (Q:=Qm t cs) ?_ (λr h=>by grind[Qm]);obtain⟨cols,rows⟩:=t;refine Yu.s T3 ?_;refine aF (qk ⟨cols,rows⟩) ?_;refine zt (b:=tblErr ⟨cols,rows⟩ !=0) (λU=>?_) (λU=>?_)
 ·(conv=>whnf);unfold Qm jS;refine⟨rfl,?_⟩;rw[U,aE];rfl
 (conv=>whnf);refine zX (P:=Pg) (f:=T3.f) (body:=(Yu.l 0)) cs.length (λi=>aHl ⟨cols,rows⟩ cs i) (λi=>qt cols none cs=qt cols (UG cs i) (cs.drop i)) ⟨rfl,zi ?_⟩ ?_
 ·(conv=>whnf);rw[xA];rfl
 intro i hi hR;have wi:i<cs.length->aG.wrap ((i:Int)+1)=((i+1:Nat):Int):=λh=>zu h ej
 refine zg (λh2=>?_) (λh2=>?_)
 .have g:i<cs.length:=by have h2:decide ((i:Int)<(cs.length:Int))=true:=h2;simp_all
  rw[zm g]at hR;refine zw (jf g) ?_;refine zg (λh3=>?_) (λh3=>?_)
  .have h3:((((cs[i].row.length:Int) !=(cols.length:Int)||cs[i].n==0)||decide (cs[i].n< -20000))||decide (cs[i].n>20000))=true:=by grind[zp,zy]
   have hb:jW cols.length (UG cs i) cs[i]=true:=by simp_all[jW]
   (conv=>whnf);unfold Qm jS;refine⟨rfl,?_⟩;rw[U,aA,show qt cols none cs=10 from by simp_all[qt]];rfl
  have h3:((((cs[i].row.length:Int) !=(cols.length:Int)||cs[i].n==0)||decide (cs[i].n< -20000))||decide (cs[i].n>20000))=false:=by grind[zp,zy]
  refine zg (b:=decide ((i:Int)>0)) (λh4=>?_) (λh4=>?_)
  .have aa:0<i:=by have:=aV h4;omega
   have wp:aG.wrap ((i:Int)-1)=((i-1:Nat):Int):=alH aa ej;have ae:i-1<cs.length:=ej
   have ag:UG cs i=some cs[i-1]:=by
    cases i with
    |zero=>omega
    |succ k=>exact am.getElem?_eq_getElem ae
   (conv=>whnf);rw[wp];refine zw (jf ae) ?_;refine aF (Zh cs[i-1].row cs[i].row) ?_;refine zt (b:=decide (ordR cs[i-1].row cs[i].row>=0)) (λh5=>?_) (λh5=>?_)
   .have hb:jW cols.length (UG cs i) cs[i]=true:=by grind[jW]
    (conv=>whnf);unfold Qm jS;refine⟨rfl,?_⟩;rw[U,aA,show qt cols none cs=10 from by simp_all[qt]];rfl
   have hb:jW cols.length (UG cs i) cs[i]=false:=by grind[jW]
   refine aF (Wh cols cs[i].row) ?_;refine zt (b:=valuesErr cols cs[i].row !=0) (λh6=>?_) (λh6=>?_)
   ·(conv=>whnf);unfold Qm jS;refine⟨rfl,?_⟩;rw[U,aA,show qt cols none cs=valuesErr cols cs[i].row from by simp_all[qt],h6];rfl
   refine zI g (?_) ?_
   .simp_all[qt,UG]
   (conv=>whnf);rw[wi g];rfl
  have aa:i=0:=ek
  have ag:UG cs i=none:=by rw[aa];rfl
  have hb:jW cols.length (UG cs i) cs[i]=false:=by grind[jW]
  refine aF (Wh cols cs[i].row) ?_;refine zt (b:=valuesErr cols cs[i].row !=0) (λh6=>?_) (λh6=>?_)
  ·(conv=>whnf);unfold Qm jS;refine⟨rfl,?_⟩;rw[U,aA,show qt cols none cs=valuesErr cols cs[i].row from by rw[hR];simp only[qt,hb,aA,h6,aE],h6];rfl
  refine zI g (?_) ?_
  .simp_all[qt,UG]
  (conv=>whnf);rw[wi g];rfl
 have p:i=cs.length:=ek
 have ad:qt cols none cs=0:=by rw[hR,p,List.drop_length];cases UG cs cs.length<;>rfl
 (conv=>whnf);refine aX (UI rows 1 (aJ ht ej)) ?_;rintro _ ⟨us,u1,u2,rfl⟩;obtain⟨u,hu⟩:∃u,u=jh (us.map (qU 1)):=⟨_,rfl⟩;have an:u.length<=50000:=by rw[hu];exact aJ (Yh _) (by rw[aW,u1.length_eq];exact ht)
 rw[<-hu];(conv=>whnf);refine aX (adr u cs ej ej) ?_;rintro _ ⟨l,l1,l2,rfl⟩;obtain⟨z,hz⟩:∃z,z=agP l:=⟨_,rfl⟩;have ao:z.length<=100000:=by rw[hz];refine aJ (List.length_filter_le _ _) (aJ (Yh _) ?_);rw[l1.length_eq,aC];omega
 rw[<-hz]
 have hq:∀r:Res,r.v.plain=true->(match uH 0 z with
  |none=>r.asData=ah0 5
  |some n=>bif decide (n>20000)then r.asData=ah0 7 else r.asData=aOk ⟨cols,y0 z⟩\/(z=[]/\r.asData=aF8 cols))->Qm ⟨cols,rows⟩ cs r:=by intro r hp hr;unfold Qm jS;refine⟨hp,?_⟩;rw[U,aA,ad];exact⟨u,z,⟨us,⟨u1,u2⟩,hu⟩,⟨l,l1,l2,hz⟩,hr⟩
 (conv=>whnf);refine yD (P:=Pg) (f:=T3.f) (body:=(Yu.l 1)) (λx:Nat×Int=>aHm ⟨cols,rows⟩ z x.1 x.2) (λx=>z.length-x.1) (λx=>x.1<=z.length/\uH 0 z=uH x.2 (z.drop x.1)/\∀c∈z.take x.1,¬c.n<0) ⟨(0,0),⟨bD _,rfl,λc j=>ek⟩,zi ?_⟩ ?_
 ·(conv=>whnf);rw[xA];rfl
 rintro⟨q,T⟩ hR;have hS:q<=z.length/\uH 0 z=uH T (z.drop q)/\∀c∈z.take q,¬c.n<0:=hR;clear hR;obtain⟨g1,g2,g3⟩:=hS;have wq:q<z.length->aG.wrap ((q:Int)+1)=((q+1:Nat):Int):=λh=>zu h ej
 refine zg (λk1=>?_) (λk1=>?_)
 .have g:q<z.length:=by have k1:decide ((q:Int)<(z.length:Int))=true:=k1;have:=aV k1;omega
  rw[zm g]at g2;refine zw (jf g) ?_;refine zg (b:=decide (z[q].n<0)) (λk2=>?_) (λk2=>?_)
  ·(conv=>whnf);refine hq _ rfl ?_;rw[g2];simp only[uH,k2,aE];rfl
  (conv=>whnf);refine⟨(q+1,yL false (aG.wrap (T+z[q].n)) 40000),⟨⟨ek,?_,?_⟩,ek⟩,zi ?_⟩
  .rw[g2];simp only[uH,k2,aA]
  .grind[aY]
  (conv=>whnf);rw[wq g];rfl
 have p:q=z.length:=ek
 rw[p,List.drop_length]at g2;rw[p,aS]at g3;refine zg (b:=decide (T>20000)) (λk3=>?_) (λk3=>?_)
 ·(conv=>whnf);refine hq _ rfl ?_;rw[g2];simp only[uH,k3,aE];rfl
 (conv=>whnf);refine Sat.cal (w7 cols (aJ ai ej)) ?_;have hT:T<=20000:=ek
 have al:∀c∈u, -50000<=c.n/\c.n<=50000:=by
  intro c j;rw[hu]at j;have h6:((us.map (qU 1)).length:Int)<=50000:=by rw[aW,u1.length_eq];grind
  have:=agv (K:=1) ej (us.map (qU 1)) [] 0 (cM _) ej (λc j=>by cases j) (λc j=>by obtain⟨r,_,rfl⟩:=bE.1 j;show-1<=(1:Int)/\(1:Int)<=1;omega) c j
  omega
 have af:∀c∈l, -50000<=c.n/\c.n<=50000:=by
  intro c j;rcases bG.1 (l1.mem_iff.1 j)with j|j
  .grind
  have:=ajZ cols cs none ad c j;omega
 have ak:(l.length:Int)<=100000:=by rw[l1.length_eq,aC];omega
 have R:∀c∈z,0<=c.n/\c.n<=4000000000000000000:=by intro c j;have hn:=g3 c j;rw[hz]at j;have:=agv (K:=50000) ej l [] 0 (cM _) ej (λc j=>by cases j) af c (cU.1 j).1;omega
 have ac:∀c∈z,0<c.n/\c.n<=20000:=by
  intro c j;have h7:=(ahT z 0 T (cM _) ej R g2 hT).2 c j;have h8:=R c j;have h9:c.n≠0:=by rw[hz]at j;have:=(cU.1 j).2;simpa using this
  omega
 (conv=>whnf);refine zX (P:=Pg) (f:=T3.f) (body:=(Yu.l 2)) z.length (λi=>aHn cols z i) (λ_=>True) ⟨trivial,zi ?_⟩ ?_
 ·(conv=>whnf);rw[xA];rfl
 intro i hi _;have wj:i<z.length->aG.wrap ((i:Int)+1)=((i+1:Nat):Int):=λh=>zu h ej
 cases i with
 |zero=>
  refine zg (λo=>?_) (λo=>?_)
  .have g:0<z.length:=by have o:decide (((0:Nat):Int)<(z.length:Int))=true:=o;have:=aV o;omega
   have hb:=ac z[0] (aL g);obtain⟨k,hk⟩:∃k:Nat,z[0].n=(k:Int):=⟨z[0].n.toNat,ej⟩;refine zw (jf g) ?_;rw[hk];refine aF (alc z[0].row k ej) ?_;refine⟨asN _,by unfold zW;rw[zq,bR];omega,by rw[zq,bR];omega,?_⟩;refine zI g trivial ?_;have e1:y0 (z.take 1)=aB k z[0].row:=by rw[aY g];simp[y0,hk]
   have v1:aG.wrap ((0:Int)+1)=1:=zT ej ej;rw[v1,zq];show ajK cols z 1 (aB k z[0].row)=ajK cols z 1 (y0 (z.take 1));rw[e1]
  have aj:z=[]:=by have o:decide (((0:Nat):Int)<(z.length:Int))=false:=o;have:=aR o;exact aT ej
  (conv=>whnf);refine hq _ rfl ?_;rw[g2];simp only[uH,k3,aA];exact .inr ⟨aj,rfl⟩
 |succ i=>
  have ah:(y0 (z.take (i+1))).length<=2000000000:=by
   have:=alB (z.take (i+1)) λc j=>(ac c (dF j)).2
   have h5:(z.take (i+1)).length<=100000:=by rw[dp];omega
   omega
  have ab:(zd (y0 (z.take (i+1)))).take (y0 (z.take (i+1))).length=zd (y0 (z.take (i+1))):=by rw[<-zq,aS]
  obtain⟨J,I⟩:∃J,J=y0 (z.take (i+1)):=⟨_,rfl⟩;show mwpR Pg T3.f (Yu.l 2) _ (ajK cols z ((i+1:Nat):Int) (y0 (z.take (i+1))));rw[<-I]at ah ab⊢;refine zg (λo=>?_) (λo=>?_)
  .have g:i+1<z.length:=by have o:decide (((i+1:Nat):Int)<(z.length:Int))=true:=o;have:=aV o;omega
   have hb:=ac z[i+1] (aL g);obtain⟨k,hk⟩:∃k:Nat,z[i+1].n=(k:Int):=⟨z[i+1].n.toNat,ej⟩;refine zw (jf g) ?_;rw[hk];refine aF (alc z[i+1].row k ej) ?_;refine⟨asN _,by unfold zW;rw[zq,bR];omega,by rw[zq,bR];omega,?_⟩;refine zI g trivial ?_;have e1:y0 (z.take (i+1+1))=J++aB k z[i+1].row:=by rw[aY g,ayr,hk,<-I];simp
   rw[wj g,zq];have e2:(zd J).take J.length++zd (aB k z[i+1].row)=zd (J++aB k z[i+1].row):=by rw[ab];simp[zd]
   show(⟨[(4,cV (.ptr 4 0)),(14,cV (.ptr 14 0)),(107,.w (Xf z)),(108,zh z.length),(109,zh ((i+1+1:Nat):Int))],[(4,.box [.nil,.nil]),(14,.box [.d (.sl (zj cols)),.own 121 1 (J.length+(aB k z[i+1].row).length)]),(121,.arr 1 ((zd J).take J.length++zd (aB k z[i+1].row)) false)]⟩:S)=ajK cols z ((i+1+1:Nat):Int) (y0 (z.take (i+1+1)));rw[e1,e2,<-aC];rfl
  have p:z.length<=i+1:=by have o:decide (((i+1:Nat):Int)<(z.length:Int))=false:=o;have:=aR o;omega
  rw[bM p]at I;(conv=>whnf);refine hq _ rfl ?_;rw[g2];simp only[uH,k3,aA];refine .inl ?_;rw[<-I];exact aM (λl=>(⟨.tup [.agg [.d (.sl (zj cols)),.d (.sl l)],.c (int 0)],[]⟩:Res)) ab
end
section
open Go Go.AM
def al8(v:Val):=(v.k=0/\v.n=0/\v.s=⟨#[]⟩)\/((v.k=1\/v.k=2)/\v.s=⟨#[]⟩)\/(v.k=3/\v.n=0)
theorem Qn{b}{x y:Int}(g:x≠0)(h:(bif b then x else y)=0):b=false/\y=0:=ek
theorem aEN{k}{v}(h:yy k v=0):al8 v:=by
 unfold yy at h;obtain⟨g,h⟩:=Qn ej h;obtain⟨_,h⟩:=Qn ej h;obtain⟨_,h⟩:=Qn ej h;obtain⟨_,h⟩:=Qn ej h;obtain⟨i,h⟩:=Qn ej h;obtain⟨j,_⟩:=Qn ej h;have hs:v.k=3\/v.s=⟨#[]⟩:=by by_cases e:v.k=3<;>simp_all[AM.beqS_iff]
 have l:v.n=0\/(v.k≠0/\v.k≠3):=by by_cases e:v.n=0<;>simp_all
 have hk:v.k=0\/v.k=1\/v.k=2\/v.k=3:=by
  by_cases e:v.k=0
  .grind
  have e':(v.k !=0)=true:=by simpa using e
  rw[e',bP]at g
  grind
 grind[al8]
theorem anO{a b}(h:xM a b=0):a=b:=by grind[abs]
theorem azf{a b}(h:ZZ a b=0):a=b:=by
 unfold ZZ at h;cases g:Wv a b
 .rw[g,aA]at h;cases i:zl a b
  .simp_all
  grind[AM.beqS_iff]
 simp_all
theorem aAg{a b}(o:al8 a)(l:al8 b)(h:zS a b=0):a=b:=by
 obtain⟨g,I,J⟩:=a;obtain⟨i,P,R⟩:=b;simp only[al8]at o l;unfold zS at h;simp only at h;have hk:g=i:=by
  by_cases e:g=i
  .exact e
  have e':(g !=i)=true:=by simpa using e
  rw[e',aE]at h;exact anO h
 subst hk;rw[show(g !=g)=false by simp,aA]at h;rcases o with⟨rfl,rfl,rfl⟩|⟨T,rfl⟩|⟨rfl,rfl⟩
 .grind
 .rcases l with⟨j,_,_⟩|⟨_,rfl⟩|⟨j,_⟩
  .omega
  .have p:(g==3)=false:=ew
   have r:(g==1||g==2)=true:=ek
   rw[p,aA,r,aE]at h;rw[anO h]
  omega
 rcases l with⟨j,_,_⟩|⟨j,_⟩|⟨_,rfl⟩
 .omega
 .omega
 rw[show((3:Int)==3)=true from rfl,aE]at h;rw[azf h]
def canR(r:am Val):=∀v∈r,al8 v
theorem afy:∀{a b:am Val},canR a->canR b->ordR a b=0->a=b
 |[],[],_,_,_=>rfl
 |[],_::_,_,_,h=>by have h:(-1:Int)=0:=h;omega
 |_::_,[],_,_,h=>by have h:(1:Int)=0:=h;omega
 |x::xs,y::ys,i,j,h=>by
  have h:(bif zS x y !=0 then zS x y else ordR xs ys)=0:=h;by_cases e:zS x y=0
  .rw[show(zS x y !=0)=false by simp[e],aA]at h;rw[aAg (i x (aD ..)) (j y (aD ..)) e,afy (λv g=>i v (aK _ g)) (λv g=>j v (aK _ g)) h]
  rw[show(zS x y !=0)=true by simp[e],aE]at h
  grind
theorem ahU:∀{cols:am Col}{row:am Val},row.length=cols.length->xG cols row=0->canR row
 |[],[],_,_=>λv j=>by cases j
 |[],_::_,h,_=>by cases h
 |_::_,[],h,_=>by cases h
 |c::cs,v::vs,i,h=>by
  have h:(bif yy c.t v !=0 then yy c.t v else xG cs vs)=0:=h;by_cases e:yy c.t v=0
  .rw[show(yy c.t v !=0)=false by simp[e],aA]at h;intro x g;rcases aP.1 g with rfl|g
   .exact aEN e
   exact ahU (by simpa using i) h x g
  rw[show(yy c.t v !=0)=true by simp[e],aE]at h
  grind
theorem jR{cols}{row}(h:valuesErr cols row=0):row.length=cols.length/\canR row:=by
 unfold valuesErr at h;obtain⟨g,i⟩:=Qn ej h
 grind[ahU]
def wt:am Chg->am Val->Int
 |[],_=>0
 |c::l,r=>(bif ordR c.row r==0 then c.n else 0)+wt l r
theorem agd(a b)(r):wt (a++b) r=wt a r+wt b r:=by induction a<;>grind[wt]
theorem awh{a b}(h:a.Perm b)(r):wt a r=wt b r:=by induction h<;>grind[wt]
theorem aeU{a b r}(h:ordR a b=0):(ordR a r==0)=(ordR b r==0):=by
 have i:=yP.zero.1 h;have key:ordR a r=0↔ordR b r=0:=by
  constructor
  .intro e;have e1:=yP.trans b a r ej ej;have g:=yP.trans r a b (by have:=yP.zero.1 e;omega) ej;have:=yP.ge.2 g;omega
  intro e;have e1:=yP.trans a b r ej ej;have g:=yP.trans r b a (by have:=yP.zero.1 e;omega) ej;have:=yP.ge.2 g;omega
 grind
theorem aoD{out}{y:Chg}(h:out.getLast?=some y):out=out.dropLast++[y]:=by
 obtain⟨ys,e⟩:=List.getLast?_eq_some_iff.1 h
 grind
theorem aF3{out}{a}{B K}(hs:B+K<=4000000000000000000)(i:∀c∈out, -B<=c.n/\c.n<=B)(o: -K<=a.n/\a.n<=K)(r):wt (uj out a) r=wt out r+wt [a] r:=by
 unfold uj;split
 .rename_i y g;have j:=i y (bU g);have I:=aoD g;cases p:(ordR y.row a.row==0)
  .rw[aA,agd]
  rw[aE];have l:ordR y.row a.row=0:=ek
  have e1:wt out r=wt out.dropLast r+wt [y] r:=by grind[agd]
  rw[agd,e1]
  grind[wt,aeU,zT]
 simp_all[wt]
theorem ajy{K}(g:0<=K)(r):∀(l out) (B:Int),0<=B->B+l.length*K<=4000000000000000000->(∀c∈out, -B<=c.n/\c.n<=B)->(∀c∈l, -K<=c.n/\c.n<=K)->wt (l.foldl uj out) r=wt out r+wt l r
 |[],out,B,_,_,_,_=>by simp[wt]
 |a::l,out,B,hB,hs,i,j=>by
  have e:((a::l).length:Int)*K=(l.length:Int)*K+K:=by simp_all[Int.add_mul]
  have I:0<=(l.length:Int)*K:=Int.mul_nonneg ej g;rw[e]at hs;have o:=j a (aD ..);rw[cA,ajy g r l (uj out a) (B+K) ej ej (aqE hB g ej i o) (λx p=>j x (aK _ p)),aF3 (B:=B) (K:=K) ej i o];simp only[wt];omega
theorem aBg(l)(r):wt (l.filter λx=>!(x.n==0)) r=wt l r:=by induction l<;>grind[wt]
def Asc(l:am Chg):=l.Pairwise λa b=>ordR a.row b.row<0
theorem aBC{out}{x}(h:Asc out)(R:∀y∈out,ordR y.row x.row<=0):Asc (uj out x)/\∀y∈uj out x,∃z,(z∈out\/z=x)/\y.row=z.row:=by
 unfold uj;split
 .rename_i y l;have o:=aoD l;have I:=bU l;have j:=h;rw[o]at j;unfold Asc at j;rw[bS]at j;cases P:(ordR y.row x.row==0)
  .rw[aA];have r:ordR y.row x.row≠0:=ek
   have p:ordR y.row x.row<0:=ek
   refine⟨?_,λz J=>?_⟩
   .unfold Asc;rw[bS];refine⟨h,cD _ _,λa g b i=>?_⟩;rw[bA]at i;subst i;rw[o]at g;rcases bG.1 g with g|g
    .exact yP.lt_of (j.2.2 a g y (bA.2 rfl)) ej
    grind
   grind
  rw[aE];refine⟨?_,λz J=>?_⟩
  .grind[Asc]
  grind
 refine⟨cD _ _,λy l=>⟨x,.inr rfl,ek⟩⟩
theorem aeu:∀(l out:am Chg),Asc out->l.Pairwise (λa b=>ordR a.row b.row<=0)->(∀y∈out,∀x∈l,ordR y.row x.row<=0)->Asc (l.foldl uj out)/\∀y∈l.foldl uj out,∃z,(z∈out\/z∈l)/\y.row=z.row
 |[],out,h,_,_=>⟨h,λy i=>⟨y,.inl i,rfl⟩⟩
 |a::l,out,h,hs,J=>by
  rw[cC]at hs;have o:=aBC h (λy i=>J y i a (aD ..));have I:=aeu l (uj out a) o.1 hs.2 (λy i x j=>by
   obtain⟨z,g,e⟩:=o.2 y i;rw[e];rcases g with g|rfl
   .exact J z g x (aK _ j)
   exact hs.1 x j)
  refine⟨I.1,λy i=>?_⟩;obtain⟨z,g,e⟩:=I.2 y i;rcases g with g|g
  .obtain⟨w,p,r⟩:=o.2 z g;rcases p with p|rfl
   .exact⟨w,.inl p,e.trans r⟩
   exact⟨w,.inr (aD ..),e.trans r⟩
  exact⟨z,.inr (aK _ g),e⟩
theorem ajx{l}{r}(h:∀c∈l,ordR r c.row<0):wt l r=0:=by
 induction l with
 |nil=>rfl
 |cons c l i=>
  have j:=h c (aD ..);have e:(ordR c.row r==0)=false:=by rw[beq_eq_false_iff_ne];intro e;have:=yP.zero.1 e;omega
  simp only[wt,e,aA,i λx g=>h x (aK _ g)];rfl
theorem Uy{c}{l}(h:Asc (c::l)):wt (c::l) c.row=c.n:=by
 unfold Asc at h;rw[cC]at h;have e:(ordR c.row c.row==0)=true:=by rw[yP.refl];rfl
 simp_all[wt,ajx]
theorem J2:∀{a b:am Chg},Asc a->Asc b->(∀c∈a,c.n≠0/\canR c.row)->(∀c∈b,c.n≠0/\canR c.row)->(∀r,wt a r=wt b r)->a=b
 |[],[],_,_,_,_,_=>rfl
 |[],y::b,_,o,_,I,h=>by have:=h y.row;rw[Uy o]at this;exact absurd this.symm (I y (aD ..)).1
 |x::a,[],j,_,p,_,h=>by have:=h x.row;rw[Uy j]at this;exact absurd this (p x (aD ..)).1
 |x::a,y::b,j,o,p,I,h=>by
  have R:=p x (aD ..);have T:=I y (aD ..);have pa:=j;have J:=o;unfold Asc at pa J;rw[cC]at pa J;rcases Int.lt_trichotomy (ordR x.row y.row) 0 with e|e|e
  .have:=h x.row;rw[Uy j,ajx (l:=y::b) λc g=>by
    rcases aP.1 g with rfl|g
    .exact e
    exact yP.lt_of e (by have:=J.1 c g;omega)]at this
   exact absurd this R.1
  .have P:=afy R.2 T.2 e;have en:x.n=y.n:=by have:=h x.row;rw[Uy j,P,Uy o]at this;exact this
   have i:x=y:=by obtain⟨U,xn⟩:=x;obtain⟨yr,yn⟩:=y;simp only at P en;rw[P,en]
   rw[i,J2 pa.2 J.2 (λc g=>p c (aK _ g)) (λc g=>I c (aK _ g)) λr=>by have:=h r;rw[i]at this;simp only[wt]at this;omega]
  have e':ordR y.row x.row<0:=(yP.anti _ _).2 e;have:=h y.row;rw[Uy o,ajx (l:=x::a) λc g=>by
   rcases aP.1 g with rfl|g
   .exact e'
   exact yP.lt_of e' (by have:=pa.1 c g;omega)]at this
  exact absurd this.symm T.1
theorem ayn{l}(h:yA aiH 0 l.length l):l.Pairwise λa b=>ordR a.row b.row<=0:=by rw[bZ];intro i j p o g;exact h i j _ _ (bD _) g o (am.getElem?_eq_getElem p) (am.getElem?_eq_getElem o)
theorem kM{xs ys z}{K}(P:0<=K)(hs:((xs++ys).length:Int)*K<=4000000000000000000)(R:∀c∈xs++ys, -K<=c.n/\c.n<=K)(hr:∀c∈xs++ys,canR c.row)(h:anq xs ys z):
 Asc z/\(∀c∈z,c.n≠0/\canR c.row/\∃x∈xs++ys,c.row=x.row)/\∀r,wt z r=wt xs r+wt ys r:=by
 obtain⟨l,p,g,rfl⟩:=h;have o:∀c∈l, -K<=c.n/\c.n<=K:=λc i=>R c (p.mem_iff.1 i)
 have J:(l.length:Int)*K<=4000000000000000000:=by rw[p.length_eq];exact hs
 have I:=aeu l [] dh (ayn g) (λy T=>by cases T);refine⟨I.1.filter _,λc i=>?_,λr=>?_⟩
 .have j:=cU.1 i;obtain⟨w,U,e⟩:=I.2 c j.1<;>grind
 show wt ((jh l).filter λx=>!(x.n==0)) r=_;rw[aBg,jh,ajy P r l [] 0 (cM _) ej (λc i=>by cases i) o,awh p,agd];simp[wt]
def cnt(rows:am (am Val))(r):=wt (rows.map (qU 1)) r
theorem aHp(k)(rows)(r):wt (rows.map (qU k)) r=k*cnt rows r:=by unfold cnt;induction rows<;>grind[wt,qU]
theorem V7{rows}{k}{z}(hk: -1<=k/\k<=1)(l:rows.length<=1000000)(h:acG rows k z)(r):wt z r=k*cnt rows r:=by
 obtain⟨ys,j,rfl⟩:=h;have i:(((ys.map (qU k)).length:Int))<=1000000:=by rw[aW,j.1.length_eq];omega
 rw[jh,ajy (K:=1) ej r _ [] 0 (cM _) ej (λc g=>by cases g) (λc g=>by obtain⟨y,_,rfl⟩:=bE.1 g;exact hk),<-aHp,awh (j.1.map (qU k))]
 simp[wt]
theorem Ku(a b)(r):cnt (a++b) r=cnt a r+cnt b r:=by grind[cnt,agd]
theorem aET(k)(a r):cnt (aB k a) r=bif ordR a r==0 then(k:Int)else 0:=by
 induction k with
 |zero=>cases(ordR a r==0)<;>rfl
 |succ k g=>
  rw[List.replicate_succ];show(bif ordR a r==0 then 1 else 0)+cnt (aB k a) r=_
  grind
theorem awI(z)(h:∀c∈z,0<=c.n)(r):cnt (y0 z) r=wt z r:=by
 induction z with
 |nil=>rfl
 |cons c l i=>
  have j:=h c (aD ..);have:y0 (c::l)=aB c.n.toNat c.row++y0 l:=by simp[y0]
  rw[this,Ku,aET,i λx g=>h x (aK _ g)]
  grind[wt]
theorem aae{cols}:∀{rows:am (am Val)},xi cols rows=0↔ ∀r∈rows,valuesErr cols r=0
 |[]=>⟨λ_ r hr=>by(cases hr),λ_=>rfl⟩
 |a::j=>by
  have p:=aae (cols:=cols) (rows:=j);simp only[xi];constructor
  .intro h;obtain⟨i,h⟩:=Qn ej h;cases o:(xG cols a !=0)
   .simp_all[valuesErr]
   simp_all
  intro h;have g:=h a (aD ..);unfold valuesErr at g;obtain⟨i,l⟩:=Qn ej g<;>simp_all
theorem qY(t):tblErr t=0↔t.cols.length<=32/\t.rows.length<=20000/\ux t.cols 0 t.cols=0/\∀r∈t.rows,valuesErr t.cols r=0:=by
 unfold tblErr;constructor
 .intro h;obtain⟨g,h⟩:=Qn ej h;simp only[bT,bK]at g;cases l:(ux t.cols 0 t.cols !=0)
  .rw[l,aA]at h;exact⟨ej,ej,ek,aae.1 h⟩
  simp_all
 rintro⟨g,o,i,j⟩;have e1:(decide ((t.cols.length:Int)>32)||decide ((t.rows.length:Int)>20000))=false:=ek
 rw[e1,aA,i];exact aae.2 j
end
end Go.Proofs.YtnlbmefhdiabcaaGreat
