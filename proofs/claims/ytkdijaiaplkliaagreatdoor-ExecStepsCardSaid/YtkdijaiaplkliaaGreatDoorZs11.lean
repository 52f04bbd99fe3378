import Derived.Shelf.SlSortCmp.Whole1
import Derived.Shelf.Small.Wraps
import Derived.Shelf.Sort.Plain
import Derived.Shelf.SlGeneric
import Derived.Ground.SlsfProg
import Derived.Ground.NamesProg
import Derived.Test.YtkdijaiaplkliaaGreatDoorProg
import Derived.Deep.RegionHeld3
import Derived.Shelf.SlSortCmp.NoneTotal
import Derived.Shelf.Slices.In.SortNone
import Derived.Test.YtkdijaiaplkliaaGreatDoorRows
import Derived.Lib.LaidPrint
import Derived.Test.YtkdijaiaplkliaaGreatDoorZs10
set_option linter.unusedSimpArgs false
set_option linter.unusedVariables false
set_option maxRecDepth 100000
set_option maxHeartbeats 4000000
open _root_ renaming List->am,cond_false->aA,of_decide_eq_false->aB,of_decide_eq_true->aD,cond_true->aG,congrArg->aI,decide_eq_true->bB,decide_eq_false_iff_not->bM,Option->bN,if_pos->bO,decide_eq_false->bQ,Array->bS,if_neg->cA,Inhabited->cP,eq_iff_iff->c6,decide_eq_true_eq->dd,or_false->dn
open List renaming take_length->aC,getElem_mem->aE,replicate->aH,length_append->aK,take->aL,mem_of_getElem?->aM,drop_eq_nil_of_le->aO,length_cons->aR,append_nil->aT,mem_map->aU,length_map->aW,getD->aY,mem_cons->aZ,mem_singleton->bC,take_of_length_le->bE,map_cons->bF,nil_append->bJ,append_assoc->bK,flatMap_cons->bL,length_take->bP,mem_append->bT,drop_length->bU,length_nil->bX,pairwise_cons->bY,length_filter_le->cg,not_mem_nil->cj,map_set->cz,ext_getElem?->cD,mem_flatMap->cK,map_append->cR,mem_filter->cS,mem_iff_getElem?->cT,length_replicate->cU,length->cY,mem_map_of_mem->c7,mem_cons_self->c9,map_nil->de,pairwise_map->df,cons_append->dl,flatMap_nil->dm
open Go.AM.Sat renaming w->aF,mono->bA,cal->cN
open Nat renaming zero_le->aJ,le_refl->aP,le_of_ble_eq_true->bI,le_trans->bV,zero_add->cL,mul_one->cZ,lt_or_ge->dg
open Go.IntKind renaming i64->aN,wrap_i64->bW
open Go renaming IntKind->aQ,World->aS
open Bool renaming or_eq_false_iff->aV,false_and->bZ,and_eq_true->ck,true_and->cn,not_eq_false'->cC,false_or->cG,and_eq_false_iff->cX
open Option.some renaming inj->aX
open Go.Proofs.YtkdijaiaplkliaaGreatDoor.Rows renaming laid_internal_strconv_uint64pow10->bD,laid_unicode_utf8_acceptRanges->bG
open And renaming intro->bH
open Go.World renaming shape?->bR,cell?->cE
open Go.Pinned renaming isNotPrint16->b9,isNotPrint32->cd,isPrint16->cq,isPrint32->cr,utf8First->cw
open Go.Proofs.Tryz renaming lays177_ren->cm
open Int renaming tdiv_eq_ediv_of_nonneg->cB,le_refl->cF,natCast_nonneg->c8
open Go.Lib renaming cell_of_heap->cH
open Go.Value renaming int->cJ
open Option renaming map_eq_some_iff->cM
open Go.Shelf renaming Ren->dh
open Eq renaming trans->di
open Exists renaming intro->dj
namespace Go.Proofs.YtkdijaiaplkliaaGreatDoor
open Go Go.AM
section
attribute [local irreducible] Sat zA zY
def uG (row:am Val)(at_:am Int):bN ByteArray:=(uo row at_).map λl=>⟨l.toArray⟩
def Zn (at_:am Int)(k:ByteArray):Nat ->am (am Val) ->am Int
 |_,[]=> []
 |i,r::g=>(bif decide (uG r at_=some k)then [(i:Int)]else [])++Zn at_ k (i+1) g
theorem akK (at_:am Int)(k:ByteArray)(r:am Val): ∀(i:Nat) (g:am (am Val)),Zn at_ k i (g++[r])=Zn at_ k i g++(bif decide (uG r at_=some k)then [((i+g.length:Nat):Int)]else [])
 |i,[]=>by simp[Zn]
 |i,x::g=>by
  simp only[dl,Zn,akK at_ k r (i+1) g,bK,aR];rw[show i+1+g.length=i+(g.length+1)by omega]
abbrev Bkt:Type:=am (ByteArray×am Int)
def Bk (F:ByteArray ->am Int)(m:Bkt):Prop:=(m.map (·.1)).Nodup /\(∀x∈m,x.2=F x.1 /\x.2≠ [])/\ ∀k,F k≠ [] -> ∃x∈m,x.1=k
def bkE (l:am Int):am AM.T:=[.sl 1 ((zg l).map (·.map AM.T.d))]
def jy (m:Bkt):am Value:=m.map λx=>.string x.1
def YD (m:Bkt):am (am AM.T):=m.map λx=>bkE x.2
theorem ah2 (l:am (am D)):tsD (l.map (·.map AM.T.d))=some l:=by
 have i: ∀r:am D,Y6 (r.map AM.T.d)=some r:=λr=>by
  induction r with
  |nil=>rfl
  |cons x r g=>simp only[bF,Y6,AM.T.toD,g]
 induction l with
 |nil=>rfl
 |cons x r g=>simp only[bF,tsD,i,g]
theorem Bk.nil (at_:am Int)(rows:am (am Val)):Bk (λk=>Zn at_ k 0 (rows.take 0)) []:=⟨by simp,by simp,λk h=>absurd rfl h⟩
theorem av5 (at_:am Int){rows:am (am Val)}{i:Nat}(h:i<rows.length)(k:ByteArray):Zn at_ k 0 (rows.take (i+1))=Zn at_ k 0 (rows.take i)++(bif decide (uG rows[i] at_=some k)then [(i:Int)]else []):=by
 rw[zR h,akK,bP,Nat.min_eq_left (by omega),cL]
theorem Bk.skip {F G:ByteArray ->am Int}{m:Bkt}(h:Bk F m)(g: ∀k,G k=F k):Bk G m:=by
 have:G=F:=funext g;rw[this];exact h
theorem Bk.new {F G:ByteArray ->am Int}{m:Bkt}(h:Bk F m){k:ByteArray}{n:Int}(hk:k∉m.map (·.1))(j: ∀q,G q=F q++(bif decide (some k=some q)then [n]else [])):Bk G (m++[(k,[n])]):=by
 obtain⟨J,P,o⟩:=h;have R:F k=[]:=by
  cases hf:F k with
  |nil=>rfl
  |cons a b=>
   obtain⟨x,g,e⟩:=o k (by rw[hf];simp);exact absurd (aU.2 ⟨x,g,e⟩) hk
 have l: ∀x∈m,(some k=some x.1)=False:=λx g=>by
  simp only[Option.some.injEq,c6,iff_false];intro e;exact hk (aU.2 ⟨x,g,e.symm⟩)
 refine⟨?_,λx g=>?_,λq r=>?_⟩
 ·rw[cR,List.nodup_append];refine⟨J,by simp,λa U b p e=>?_⟩;simp only[bF,de,bC]at p;subst p;subst e;exact hk U
 ·rcases bT.1 g with g|g
  ·have i:decide (some k=some x.1)=false:=by simpa using l x g
   rw[j,i];simpa using P x g
  simp only[bC]at g;subst g;simp[j,R]
 by_cases e:k=q
 ·exact⟨(k,[n]),by simp,e⟩
 have i:decide (some k=some q)=false:=by simpa using e
 rw[j,i,aA,aT]at r;obtain⟨x,g,I⟩:=o q r;exact⟨x,bT.2 (.inl g),I⟩
theorem Bk.old {F G:ByteArray ->am Int}{m:Bkt}(h:Bk F m){k:ByteArray}{l:am Int}{n:Int}{j:Nat}(p:m[j]? =some (k,l))(J: ∀q,G q=F q++(bif decide (some k=some q)then [n]else [])):Bk G (m.set j (k,l++[n])):=by
 obtain⟨h1,h2,h3⟩:=h;have g:=(am.getElem?_eq_some_iff.1 p).1;have o:(m.set j (k,l++[n])).map (·.1)=m.map (·.1):=by
  rw[cz];apply cD;intro i;rw[am.getElem?_set];split
  ·rename_i e;subst e;rw[bO (by simpa using g),am.getElem?_map,p];rfl
  rfl
 refine⟨by rw[o];exact h1,λx R=>?_,λq hq=>?_⟩
 ·obtain⟨i,hi⟩:=cT.1 R;rw[am.getElem?_set]at hi;split at hi
  ·rename_i e;subst e;first|(rw[bO g]at hi;cases hi)|cases hi
   have h4:l=F k:=(h2 _ (aM p)).1;simp[J,h4]
  rename_i e;have U:=aM hi;have P:k≠x.1:=λr=>by
   have a1:(m.map (·.1))[i]? =some k:=by rw[am.getElem?_map,hi,r];rfl
   have a2:(m.map (·.1))[j]? =some k:=by rw[am.getElem?_map,p];rfl
   have:j=i:=(am.getElem?_inj (by simpa using g) h1).1 (a2.trans a1.symm);exact e this
  have I:decide (some k=some x.1)=false:=by simpa using P
  rw[J,I];simpa using h2 x U
 by_cases e:k=q
 ·exact⟨(k,l++[n]),aM (i:=j) (by rw[am.getElem?_set,bO rfl,bO g]),e⟩
 have I:decide (some k=some q)=false:=by simpa using e
 rw[J,I,aA,aT]at hq;obtain⟨x,R,r⟩:=h3 q hq;have:q∈(m.set j (k,l++[n])).map (·.1):=by rw[o];exact aU.2 ⟨x,R,r⟩
 obtain⟨y,hy,e3⟩:=aU.1 this;exact⟨y,hy,e3⟩
theorem afg (at_:am Int)(k:ByteArray): ∀(i:Nat) (g:am (am Val)),(Zn at_ k i g).length<=g.length
 |_,[]=>aP _
 |i,r::g=>by
  have:=afg at_ k (i+1) g;simp only[Zn,aK,aR];cases decide (uG r at_=some k)<;>simp<;>omega
theorem Ul {m:Bkt}{j:Nat}{k:ByteArray}(h:(jy m)[j]? =some (.string k)): ∃l,m[j]? =some (k,l):=by
 simp only[jy,am.getElem?_map,cM]at h;obtain⟨⟨a,l⟩,g,i⟩:=h;cases i;exact⟨l,g⟩
theorem V7 (m:Bkt): ∀q∈jy m,qS none q=true:=λq g=>by
 simp only[jy,aU]at g;obtain⟨x,_,rfl⟩:=g;rfl
theorem aec {m:Bkt}{k:ByteArray}:Value.string k∈jy m↔k∈m.map (·.1):=by
 simp[jy]
theorem aq4 (m:Bkt)(k:ByteArray)(l:am Int):jy m++[.string k]=jy (m++[(k,l)]):=by simp[jy]
theorem aq5 (m:Bkt)(k:ByteArray)(l:am Int):YD m++[bkE l]=YD (m++[(k,l)]):=by simp[YD]
theorem akN (m:Bkt)(j:Nat)(k:ByteArray)(l:am Int):(YD m).set j (bkE l)=YD (m.set j (k,l)):=by simp[YD,cz]
theorem akL {m:Bkt}{j:Nat}{k:ByteArray}{l l':am Int}(h:m[j]? =some (k,l)):jy (m.set j (k,l'))=jy m:=by
 unfold jy;rw[cz];apply cD;intro i;rw[am.getElem?_set];split
 ·rename_i e;subst e;rw[bO (by simpa using (am.getElem?_eq_some_iff.1 h).1),am.getElem?_map,h];rfl
 rfl
def bkS (at_:am Int)(rows:am (am Val))(i:Nat)(m:Bkt):S:=⟨[(1,.w (.c (.d (.sl (zg at_))))),(5,.w (.c (.root 10))),(12,.w (.c (.d (.sl (zf rows))))),(13,zl rows.length),(14,zl i)],[(10,.deep (.mp false (jy m) (YD m)))]⟩
theorem adU (cols:am Col)(rows:am (am Val))(at_:am Int)(hl:rows.length<=1000000)(ab:at_.length<=1000000)(ae: ∀r∈rows,zQ r.length at_)(hv: ∀r∈rows,∀v∈r,VS v):
 Sat Pg kk [Tbl.w ⟨cols,rows⟩,.c (.d (.sl (zg at_)))] (λr=> ∃m,Bk (λk=>Zn at_ k 0 rows) m /\r=⟨.w (.c (.root 0)),[.deep (.mp false (jy m) (YD m))]⟩):=by
 refine QV.s T8 ?_;rw[zx];refine yq (P:=Pg) (f:=T8.f) (body:=(QV.l 0)) (λz:Nat×Bkt=>bkS at_ rows z.1 z.2) (λz=>rows.length - z.1) (λz=>z.1<=rows.length /\Bk (λk=>Zn at_ k 0 (rows.take z.1)) z.2) ⟨(0,[]),⟨aJ _,Bk.nil at_ rows⟩,ze ?_⟩ ?_
 ·exact rfl
 rintro⟨i,m⟩ ⟨hi,I⟩;have hi:i<=rows.length:=hi;have I:Bk (λk=>Zn at_ k 0 (rows.take i)) m:=I;show mwpR Pg T8.f (QV.l 0) _ (bkS at_ rows i m);unfold bkS;refine zi (λh1=>?_) (λh1=>?_)
 ·have g:i<rows.length:=by have:=aD h1;omega
  have hg:=yJ g;have wi:=zC g (by omega);have hk:=ada rows[i] at_ (ae _ (aE g)) ab (hv _ (aE g));have aa:=av5 at_ g;have ad: ∀x∈m,x.2.length<=i:=λx hx=>by
   have e1:x.2=Zn at_ x.1 0 (rows.take i):=(I.2.1 x hx).1;have:=afg at_ x.1 0 (rows.take i);rw[<- e1,bP]at this;omega
  have U:uG rows[i] at_=(uo rows[i] at_).map λl=>⟨l.toArray⟩:=rfl
  generalize uG rows[i] at_=ko at*;generalize uo rows[i] at_=kp at*;generalize rows[i]=x at*;cases kp with
  |none=>
   subst U;(conv=>whnf);refine⟨by omega,_,hg,rfl,?_⟩;refine aF hk ?_;refine⟨(i+1,m),⟨⟨g,I.skip λk=>by rw[aa];simp⟩,by show rows.length -(i+1)<rows.length - i;omega⟩,ze ?_⟩;(conv=>whnf);rw[wi];rfl
  |some l=>
   obtain⟨k,R⟩: ∃k:ByteArray,k=⟨l.toArray⟩:=⟨_,rfl⟩;have ag:Sat Pg Qk [yt x,.c (.d (.sl (zg at_)))] (λr=>r=⟨.tup [.c (str k),.c (bool true)],[]⟩):=by rw[R];exact hk
   obtain rfl:ko=some k:=by rw[R];exact U
   clear U hk R;(conv=>whnf);refine⟨by omega,_,hg,rfl,?_⟩;refine aF ag ?_;refine⟨rfl,?_⟩;(conv=>whnf);refine⟨rfl,V7 m,λJ=>?_,λj e hj he=>?_⟩
   ·(conv=>whnf);refine⟨by simp,by unfold ym;simp,by simp,?_⟩;(conv=>whnf);refine⟨rfl,?_⟩;(conv=>whnf);refine⟨rfl,V7 m,λj hj=>absurd (aM hj) J,λ_=>?_⟩;(conv=>whnf);refine⟨(i+1,m++[(k,[(i:Int)])]),⟨⟨g,I.new (λh=>J (aec.2 h)) aa⟩,by show rows.length -(i+1)<rows.length - i;omega⟩,ze ?_⟩;(conv=>whnf);rw[wi];show _=bkS at_ rows (i+1) (m++[(k,[(i:Int)])]);unfold bkS;rw[<- aq4,<- aq5];rfl
   obtain⟨o,p⟩:=Ul hj;obtain rfl:e=bkE o:=by
    have:(YD m)[j]? =some (bkE o):=by simp[YD,p]
    exact aX (he.symm.trans this)
   have aj:o.length<=i:=ad _ (aM p);unfold bkE;(conv=>whnf);refine⟨zg o,ah2 _,?_⟩;(conv=>whnf);rw[zB];refine⟨by simp,by unfold ym;simp;omega,by simp;omega,?_⟩;(conv=>whnf);refine⟨rfl,?_⟩;(conv=>whnf);refine⟨rfl,V7 m,λj2 af=>?_,λh=>absurd (aM hj) h⟩;obtain rfl:j2=j:=by
    obtain⟨l2,ac⟩:=Ul af;have a1:(m.map (·.1))[j2]? =some k:=by rw[am.getElem?_map,ac];rfl
    have a2:(m.map (·.1))[j]? =some k:=by rw[am.getElem?_map,p];rfl
    exact(am.getElem?_inj (by simpa using (am.getElem?_eq_some_iff.1 ac).1) I.1).1 (a1.trans a2.symm)
   (conv=>whnf);refine⟨(i+1,m.set j2 (k,o++[(i:Int)])),⟨⟨g,I.old p aa⟩,by show rows.length -(i+1)<rows.length - i;omega⟩,ze ?_⟩;(conv=>whnf);have ah:(zg o).take o.length=zg o:=by rw[<- zB,aC]
   have ai:(zg o++[[D.lit (.int .i64 i)]]).take (o.length+1)=zg (o++[(i:Int)]):=by rw[<- vu];exact bE (by simp[zB])
   rw[wi];show _=bkS at_ rows (i+1) (m.set j2 (k,o++[(i:Int)]));unfold bkS;rw[akL p,<- akN];simp only[AM.T.setE,List.set_set,ah,aR,bX,cL,List.take_succ_cons,List.take_zero,ai];rfl
 have ak:rows.length<=i:=by have:=aB h1;omega
 have e:i=rows.length:=by omega
 subst e;rw[aC]at I;(conv=>whnf);exact⟨m,I,rfl⟩
def bkD (m:Bkt):D:=.mp false (jy m) (m.map λx=> [D.sl (zg x.2)])
theorem akM: ∀m:Bkt,tsD (YD m)=some (m.map λx=> [D.sl (zg x.2)])
 | []=>rfl
 |x::r=>by
  have g:=akM r;have i:=ah2 (zg x.2);unfold YD at g⊢;have j:Y6 (bkE x.2)=some [D.sl (zg x.2)]:=by simp only[bkE,Y6,AM.T.toD,i]
  simp only[bF,tsD,j,g]
theorem ama (cols:am Col)(rows:am (am Val))(at_:am Int)(j:rows.length<=1000000)(g:at_.length<=1000000)(i: ∀r∈rows,zQ r.length at_)(o: ∀r∈rows,∀v∈r,VS v):
 Sat Pg kk [Tbl.w ⟨cols,rows⟩,.c (.d (.sl (zg at_)))] (λr=> ∃m,Bk (λk=>Zn at_ k 0 rows) m /\r=rC (.d (bkD m))):=by
 refine(adU cols rows at_ j g i o).data ?_;rintro r ⟨m,l,rfl⟩;refine⟨rfl,m,l,?_⟩;have h:=akM m;unfold bkD;simp only[Res.asData,V.asData,W.asData,C.asData,am.getElem?_cons_zero,AM.T.toD,h];rfl
def hjX (left g:am Int)(br:am (am Val))(F:ByteArray ->am Int)(x:am Val):am (am Val):=
 match uG x left with
 |none=> []
 |some k=>(F k).map λi=>x++zn (br.getD i.toNat []) g
def xi (cols:am Col)(l:am (am Val)):Int×Tbl:=bif decide (l.length<=20000)then(0,⟨cols,l⟩)else(7,⟨[],[]⟩)
theorem akO (at_:am Int)(k:ByteArray): ∀(i:Nat) (g:am (am Val)),∀n∈Zn at_ k i g,(i:Int)<=n /\n<i+g.length
 |_,[],n,h=>by cases h
 |i,r::g,n,h=>by
  simp only[Zn,bT]at h;rcases h with h|h
  ·cases j:decide (uG r at_=some k)
   ·rw[j]at h;cases h
   rw[j,aG,bC]at h;subst h;simp only[aR];omega
  have:=akO at_ k (i+1) g n h;simp only[aR];omega
def hjS (l:am C)(cols:am Col)(left j:am Int)(m:Bkt)(o:am (am Val))(i:Nat)(g:am (am Val)):S:=
 ⟨[(6,cV (.ptr 6 0)),(8,cV (.ptr 8 0)),(10,.w (.c (.d (.sl (zg left))))),(11,.w (.c (.d (.sl (zg j))))),(12,.w (.c (.d (bkD m)))),(13,cV (.ptr 13 0)),(40,.w (.c (.d (.sl (zf o))))),(41,zl o.length),(42,zl i)],
 [(6,.box l),(8,.box [.nil,.nil]),(13,.box [.d (.sl (zm cols)),.own 80 1 g.length]),(80,.arr 1 (zf g) false)]⟩
def hjT (p:am C)(cols:am Col)(left o:am Int)(m:Bkt)(r:am (am Val))(i:Nat)(x:am Val)(l:am Int)(j:Nat)(g:am (am Val)):S:=
 ⟨[(6,cV (.ptr 6 0)),(8,cV (.ptr 8 0)),(10,.w (.c (.d (.sl (zg left))))),(11,.w (.c (.d (.sl (zg o))))),(12,.w (.c (.d (bkD m)))),(13,cV (.ptr 13 0)),(15,.w (yt x)),(40,.w (.c (.d (.sl (zf r))))),(41,zl r.length),(42,zl i),(56,.w (.c (.d (.sl (zg l))))),(57,zl l.length),(58,zl j)],
 [(6,.box p),(8,.box [.nil,.nil]),(13,.box [.d (.sl (zm cols)),.own 80 1 g.length]),(80,.arr 1 (zf g) false)]⟩
theorem aiw {cols:am Col}{l:am (am Val)}(h:20000<l.length):xi cols l=(7,⟨[],[]⟩):=by
 unfold xi;rw[show decide (l.length<=20000)=false by simpa using h];rfl
theorem avF {Q:E ->S ->Prop}{s:S}(U:am Col)(br:am (am Val))(cols:am Col)(left g:am Int)(m:Bkt)(ar:am (am Val))(i:Nat)(x:am Val)(l:am Int)(p R:am (am Val))(y:Int×Tbl)
 (I:p.length<=20000) (ak:l.length<=1000000) (al:g.length<=100000) (hx:x.length<=100000) (hl: ∀n∈l,0<=n /\n<br.length) (af: ∀r∈br,zQ r.length g)
 (hy:y=xi cols (p++(l.map (λn=>x++zn (br.getD n.toNat []) g)++R)))
 (h0:yX s [6,8,10,11,12,13,15,40,41,42,56,57,58] (· =hjT [.d (.sl (zm U)),.d (.sl (zf br))] cols left g m ar i x l 0 p))
 (aa: ∀T:am (am Val),y=(7,⟨[],[]⟩) ->Q .ret ⟨[(8,cV (.ptr 8 0)),(9,zl 7)],[(6,.box [.d (.sl (zm U)),.d (.sl (zf br))]),(8,.box [.nil,.nil]),(13,.box [.d (.sl (zm cols)),.own 80 1 T.length]),(80,.arr 1 (zf T) false)]⟩)
 (hQ: ∀T:am (am Val),T.length<=20000 ->y=xi cols (T++R) ->Q (.exit 2) (xD (hjT [.d (.sl (zm U)),.d (.sl (zf br))] cols left g m ar i x l l.length T) 59 (ya (decide ((l.length:Int)<l.length))))):
 zY (mwpR Pg T8.f (qq.l 0)) [6,8,10,11,12,13,15,40,41,42,56,57,58] Q s:=by
 refine yq (P:=Pg) (f:=T8.f) (body:=(qq.l 0)) (λz:Nat×am (am Val)=>hjT [.d (.sl (zm U)),.d (.sl (zf br))] cols left g m ar i x l z.1 z.2) (λz=>l.length - z.1)
  (λz=>z.1<=l.length /\z.2.length<=20000 /\y=xi cols (z.2++((l.drop z.1).map (λn=>x++zn (br.getD n.toNat []) g)++R))) ⟨(0,p),⟨aJ _,I,hy⟩,h0⟩ ?_
 clear h0 hy I;rintro⟨j,T⟩ ⟨hj,hT,J⟩;have hj:j<=l.length:=hj;have hT:T.length<=20000:=hT;have J:y=xi cols (T++((l.drop j).map (λn=>x++zn (br.getD n.toNat []) g)++R)):=J;show mwpR Pg T8.f (qq.l 0) _ (hjT [.d (.sl (zm U)),.d (.sl (zf br))] cols left g m ar i x l j T);have ai:(zf T).take T.length=zf T:=by rw[<- zx,aC]
 unfold hjT;refine zi (λh1=>?_) (λh1=>?_)
 ·have o:j<l.length:=by have:=aD h1;omega
  have hg:=y5 o;have wi:=zC o (by omega);have hn:=hl _ (aE o);rw[zq o,bF]at J;clear hQ;generalize l[j]=n at*;have ae:(zf br)[n.toNat]? =some [.sl (rowD (br.getD n.toNat []))]:=by
   have h6:n.toNat<br.length:=by omega
   rw[show br.getD n.toNat []=br[n.toNat]by simp[aY,am.getElem?_eq_getElem h6]];simp[zf,am.getElem?_eq_getElem h6]
  have ag:=acg (br.getD n.toNat []) g (by omega) (by
   have h6:n.toNat<br.length:=by omega
   rw[show br.getD n.toNat []=br[n.toNat]by simp[aY,am.getElem?_eq_getElem h6]];exact af _ (aE h6))
  have ac:=w7 x (zn (br.getD n.toNat []) g) hx (by simp[zn];omega);generalize br.getD n.toNat []=b at*;generalize x++zn b g=B at*;(conv=>whnf);refine⟨by omega,_,hg,rfl,?_⟩;refine zi (b:=(T.length:Int)==20000) (λh2=>?_) (λh2=>?_)
  ·have ab:T.length=20000:=by
    have:=eq_of_beq h2;omega
   have aj:y=(7,⟨[],[]⟩):=by rw[J];exact aiw (by simp;omega)
   (conv=>whnf);exact aa T aj
  have ab:T.length≠20000:=λe=>by rw[e]at h2;cases h2
  (conv=>whnf);refine⟨hn.1,_,ae,rfl,?_⟩;refine aF ag ?_;refine aF ac ?_;refine⟨by simp,by unfold ym;simp;omega,by simp;omega,?_⟩;(conv=>whnf);refine⟨(j+1,T++[B]),⟨⟨o,by show(T++[B]).length<=20000;simp;omega,by rw[J];simp⟩,by show l.length -(j+1)<l.length - j;omega⟩,ze ?_⟩;(conv=>whnf);have ah:(rowD B).take B.length=rowD B:=by rw[<- zt,aC]
  rw[wi,ai,ah];show _=hjT [.d (.sl (zm U)),.d (.sl (zf br))] cols left g m ar i x l (j+1) (T++[B]);unfold hjT;rw[xm,aK];rfl
 have ad:j=l.length:=by have:=aB h1;omega
 subst ad;rw[bU]at J;have hQ:=hQ T hT (by rw[J];rfl);unfold xD hjT at hQ;(conv=>whnf);exact hQ
theorem ajM (st:Stp)(a b:Tbl)(cols:am Col)(ba:st.cols.length<=1000000)(a5:a.rows.length<=1000000)(ax:b.rows.length<=1000000)(aw:b.cols.length<=1000000)
 (ae: ∀x∈a.rows,zQ x.length (zh a.cols st.cols)) (ad: ∀y∈b.rows,zQ y.length (zh b.cols st.cols)/\zQ y.length (oth st.cols 0 b.cols)) (al: ∀x∈a.rows,x.length<=100000) (a9:(oth st.cols 0 b.cols).length<=100000)
 (ak: ∀r∈a.rows,∀v∈r,VS v) (a1: ∀r∈b.rows,∀v∈r,VS v):
 Sat Pg Qj [st.w,a.w,b.w,.c (.d (.sl (zm cols)))]
  (λr=>r=wK (xi cols (a.rows.flatMap (hjX (zh a.cols st.cols) (oth st.cols 0 b.cols) b.rows (λk=>Zn (zh b.cols st.cols) k 0 b.rows))))):=by
 obtain⟨ac,p⟩:=a;obtain⟨bc,br⟩:=b;have ah:=ua ac (.sl (zf p)) st.cols (by omega);have ai:=ua bc (.sl (zf br)) st.cols (by omega);have aj:=ach bc (.sl (zf br)) st.cols (by simpa using aw);have a8:(zh ac st.cols).length=st.cols.length:=by simp[zh]
 have bb:(zh bc st.cols).length=st.cols.length:=by simp[zh]
 have ab:=ama bc br (zh bc st.cols) ax (by omega) (λr hr=>(ad r hr).1) a1;obtain⟨op,⟨eo,nm,⟨vk,vn,vs⟩,bi⟩,bf,au,bh,bg,n,bj⟩:=st;rw[qT];simp only at ah ai aj a8 bb ab ba ae ad a5 ax aw al ak a1 a9⊢;generalize zh ac au=left at*;generalize zh bc au=right at*;generalize oth au 0 bc=o at*;obtain⟨F,hF⟩: ∃F:ByteArray ->am Int,F= λk=>Zn right k 0 br:=⟨_,rfl⟩
 have a4: ∀k,∀n∈F k,0<=n /\n<br.length:=λk n hn=>by
  rw[hF]at hn;have:=akO right k 0 br n hn;omega
 have a3: ∀k,(F k).length<=br.length:=λk=>by rw[hF];exact afg right k 0 br
 rw[<- hF]at ab⊢;clear hF;obtain⟨y,hy⟩: ∃y,y=xi cols (p.flatMap (hjX left o br F)):=⟨_,rfl⟩;rw[<- hy];refine zD ?_;refine qq.s T8 ?_;refine aF ah ?_;refine aF aj ?_;refine aF ai ?_;refine bA ab ?_;rintro _ ⟨m,hm,rfl⟩
 conv=>whnf
 rw[zx];refine yq (P:=Pg) (f:=T8.f) (body:=(qq.l 1)) (λz:Nat×am (am Val)=>hjS [.d (.sl (zm bc)),.d (.sl (zf br))] cols left o m p z.1 z.2) (λz=>p.length - z.1) (λz=>z.1<=p.length /\z.2.length<=20000 /\y=xi cols (z.2++(p.drop z.1).flatMap (hjX left o br F))) ⟨(0,[]),⟨aJ _,aJ _,hy⟩,⟨_,jm 13 1 80 1 (by omega) (by omega) rfl,?_⟩⟩ ?_
 ·exact rfl
 clear ah ai aj ab hy;rintro⟨i,g⟩ ⟨hi,I,J⟩;have hi:i<=p.length:=hi;have I:g.length<=20000:=I;have J:y=xi cols (g++(p.drop i).flatMap (hjX left o br F)):=J;show mwpR Pg T8.f (qq.l 1) _ (hjS [.d (.sl (zm bc)),.d (.sl (zf br))] cols left o m p i g);have bd:(zf g).take g.length=zf g:=by rw[<- zx,aC]
 unfold hjS;refine zi (λh1=>?_) (λh1=>?_)
 ·have U:i<p.length:=by have:=aD h1;omega
  have hg:=yJ U;have wi:=zC U (by omega);have an:=aE U;have hk:=ada p[i] left (ae _ an) (by omega) (ak _ an);have al:=al _ an;rw[zq U,bL]at J;obtain⟨R,aa⟩: ∃R,R=(p.drop (i+1)).flatMap (hjX left o br F):=⟨_,rfl⟩;rw[<- aa]at J;unfold hjX at J;have ag:uG p[i] left=(uo p[i] left).map λl=>⟨l.toArray⟩:=rfl
  clear ae ak;generalize uG p[i] left=ko at*;generalize uo p[i] left=kp at*;generalize p[i]=x at*;cases kp with
  |none=>
   subst ag;(conv=>whnf);refine⟨by omega,_,hg,rfl,?_⟩;refine aF hk ?_;refine⟨(i+1,g),⟨⟨U,I,by rw[J,aa];rfl⟩,by show p.length -(i+1)<p.length - i;omega⟩,ze ?_⟩;(conv=>whnf);rw[wi];rfl
  |some l=>
   obtain⟨k,af⟩: ∃k:ByteArray,k=⟨l.toArray⟩:=⟨_,rfl⟩;have a7:Sat Pg Qk [yt x,.c (.d (.sl (zg left)))] (λr=>r=⟨.tup [.c (str k),.c (bool true)],[]⟩):=by rw[af];exact hk
   obtain rfl:ko=some k:=by rw[af];exact ag
   clear ag hk af;have J:y=xi cols (g++((F k).map (λi=>x++zn (br.getD i.toNat []) o)++R)):=J;have a2:=a4 k;(conv=>whnf);refine⟨by omega,_,hg,rfl,?_⟩;refine aF a7 ?_;refine⟨rfl,?_⟩;(conv=>whnf);refine⟨rfl,V7 m,λa0=>?_,λj e hj he=>?_⟩
   ·have av:F k=[]:=by
     cases hf:F k with
     |nil=>rfl
     |cons u v=>
      obtain⟨z,hz,be⟩:=hm.2.2 k (by rw[hf];simp);exact absurd (aec.2 (aU.2 ⟨z,hz,be⟩)) a0
    rw[av]at J;(conv=>whnf);refine avF bc br cols left o m p i x [] g R y I (by simp) (by omega) (by omega) (by simp) (λr hr=>(ad r hr).2) J ⟨_,XA 56 .nil (.sl []) _ rfl rfl,?_⟩ (λT ao=>?_) (λT hT aq=>?_)
    ·exact rfl
    ·subst ao;exact⟨rfl,rfl⟩
    unfold xD hjT;(conv=>whnf);refine⟨(i+1,T),⟨⟨U,hT,by rw[aq,aa]⟩,by show p.length -(i+1)<p.length - i;omega⟩,ze ?_⟩;(conv=>whnf);rw[wi];rfl
   obtain⟨l0,ay⟩:=Ul hj;obtain rfl:e=[D.sl (zg l0)]:=by
    have:(m.map λx=> [D.sl (zg x.2)])[j]? =some [D.sl (zg l0)]:=by simp[ay]
    exact aX (he.symm.trans this)
   have az:l0=F k:=(hm.2.1 _ (aM ay)).1;subst az;(conv=>whnf);rw[zB];refine avF bc br cols left o m p i x (F k) g R y I (by have:=a3 k;omega) (by omega) (by omega) a2 (λr hr=>(ad r hr).2) J (ze ?_) (λT ao=>?_) (λT hT aq=>?_)
   ·exact rfl
   ·subst ao;exact⟨rfl,rfl⟩
   unfold xD hjT;(conv=>whnf);refine⟨(i+1,T),⟨⟨U,hT,by rw[aq,aa]⟩,by show p.length -(i+1)<p.length - i;omega⟩,ze ?_⟩;(conv=>whnf);rw[wi];rfl
 have a6:p.length<=i:=by have:=aB h1;omega
 rw[aO a6]at J;have J:y=(0,⟨cols,g⟩):=by
  rw[J];unfold xi;rw[dm,aT,show decide (g.length<=20000)=true by simpa using I];rfl
 subst J;(conv=>whnf);refine⟨rfl,?_⟩;show Res.mk (.tup [.agg [.d (.sl (zm cols)),.d (.sl ((zf g).take g.length))],.c (int 0)]) []=_;rw[bd];rfl
theorem atU (l:am Int): ∀y∈zg l,y.length=1:=λy g=>by
 simp only[zg,aU]at g;obtain⟨x,_,rfl⟩:=g;rfl
theorem agj (g:FuncId)(J R:am D)(p:Int ->Bool)(l:am Int)(hp: ∀x∈l,Sat Pg g [.c (int x),.c (.fp J),.c (.fp R)] (λr=>r=rB (p x))):
 Sat Pg Kx [.c (.d (.sl (zg l))),.c (.d (.fn g [J,R]))] (λr=>r=rI (yj p 0 l)):=by
 refine w8 0 (by kernel_rfl) rfl λo=>?_
 rw[zB]at o;refine YN.s T8 ?_;refine yx (P:=Pg) (f:=T8.f) (body:=(YN.l 0)) l.length (λi=>⟨[(0,.w (.c (.d (.sl (zg l))))),(1,.w (.c (.d (.fn g [J,R])))),(7,zl (zg l).length),(8,zl i)],[]⟩) (λi=>yj p 0 l=yj p i (l.drop i)) ⟨rfl,ze ?_⟩ ?_
 ·exact rfl
 intro i hi I;refine zi (λU=>?_) (λU=>?_)
 ·have j:i<l.length:=by have:=aD U;rw[zB]at this;omega
  (conv=>whnf);refine⟨by omega,_,y5 j,rfl,?_⟩;(conv=>whnf);refine cN (hp l[i] (aE j)) ?_;rw[zq j]at I;refine zi (λh3=>?_) (λh3=>?_)
  ·simp only[yj,h3,aG]at I;(conv=>whnf);exact aI rI I.symm
  simp only[yj,h3,aA]at I;(conv=>whnf);refine⟨j,I,ze ?_⟩;(conv=>whnf);rw[zC j o];rfl
 have aa:l.length<=i:=by have:=aB U;rw[zB]at this;omega
 rw[aO aa]at I;(conv=>whnf);exact aI rI I.symm
def ayc (g:FuncId)(i j:am D)(n:Nat)(x:Nat×Nat×am (am D)):S:=⟨[(0,cV (.own 100000 1 n)),(1,.w (.c (.d (.fn g [i,j])))),(5,zl x.1),(6,zl x.2.1)],[(100000,.arr 1 x.2.2 false)]⟩
theorem aeL (g:FuncId)(c0 c1:am D)(p:Int ->Bool)(l:am Int)(hp: ∀x∈l,Sat Pg g [.c (int x),.c (.fp c0),.c (.fp c1)] (λr=>r=rB (p x)))(hl:l.length<=1000000):
 zA Pg YA [.c (.own 0 1 l.length),.c (.d (.fn g [c0,c1]))] [.arr 1 (zg l) false] (λr=> ∃o:am (am D),o.take (l.filter λx=>!p x).length=zg (l.filter λx=>!p x)/\r=⟨.w (.c (.own 0 1 (l.filter λx=>!p x).length)),[.arr 1 o false]⟩):=by
 refine xX T8 Yw.ok (by kernel_rfl) (by simp) ?_
 conv=>whnf
 have ht:(zg l).take l.length=zg l:=by rw[<- zB,aC]
 rw[ht];refine cN (agj g c0 c1 p l hp) ?_;rcases afB p l 0 with⟨h1,h2⟩|⟨k,h1,h2,h3,h4⟩
 ·have h1:yj p 0 l= -1:=h1;rw[h1,h2];(conv=>whnf);exact⟨zg l,ht,rfl⟩
 have h2:yj p 0 l=((k:Nat):Int):=by simpa using h2
 rw[h2];have wk:aN.wrap ((k:Int)+1)=((k+1:Nat):Int):=zC h1 (by omega);(conv=>whnf)
 refine yq (P:=Pg) (f:=T8.f) (body:=(Yw.l 0)) (ayc g c0 c1 l.length) (λx=>l.length - x.2.1)
  (λx=>x.1<x.2.1 /\x.2.1<=l.length /\x.2.2.length=l.length /\(∀y∈x.2.2,y.length=1)/\x.2.2.take x.1=zg ((l.take x.2.1).filter λc=>!p c)/\x.2.2.drop x.2.1=zg (l.drop x.2.1))
  ⟨(k,k+1,zg l),⟨by show k<k+1;omega,by show k+1<=l.length;omega,zB l,atU l,by rw[h4];simp[zg,List.map_take],by simp[zg,List.map_drop]⟩,ze ?_⟩ ?_
 ·(conv=>whnf);rw[wk];rfl
 rintro⟨i,j,o⟩ hR;have hS:i<j /\j<=l.length /\o.length=l.length /\(∀y∈o,y.length=1)/\o.take i=zg ((l.take j).filter λc=>!p c)/\o.drop j=zg (l.drop j):=hR;clear hR;obtain⟨g1,g2,g3,g4,g5,g6⟩:=hS;refine zi (λU=>?_) (λU=>?_)
 ·have I:j<l.length:=by have U:decide ((j:Int)<(l.length:Int))=true:=U;have:=aD U;omega
  have J:j<o.length:=by omega
  have ad:o[j]? =some [D.lit (.int .i64 l[j])]:=by
   rw[zq I,zq J]at g6;have:o[j]::o.drop (j+1)=[D.lit (.int .i64 l[j])]::zg (l.drop (j+1)):=g6;rw[am.getElem?_eq_getElem J,(List.cons.inj this).1]
  have aa:o.drop (j+1)=zg (l.drop (j+1)):=by
   rw[zq I,zq J]at g6;have:o[j]::o.drop (j+1)=[D.lit (.int .i64 l[j])]::zg (l.drop (j+1)):=g6;exact(List.cons.inj this).2
  have wj:aN.wrap ((j:Int)+1)=((j+1:Nat):Int):=zC I (by omega);have wi:aN.wrap ((i:Int)+1)=((i+1:Nat):Int):=zC (n:=l.length) (by omega) (by omega);have hf:=anf (λc=>!p c) I;(conv=>whnf);refine⟨by show(0:Int)<=(j:Int);omega,by show(j:Int)<(l.length:Int);omega,?_⟩;(conv=>whnf);refine⟨_,ad,?_⟩;refine aF (hp l[j] (aE I)) ?_;refine zw (b:=!p l[j]) (λh6=>?_) (λh6=>?_)
  ·rw[h6]at hf;(conv=>whnf);refine⟨by show(0:Int)<=(i:Int);omega,by show(i:Int)<(l.length:Int);omega,?_⟩;have R:i<o.length:=by omega
   have ac:o[i]? =some o[i]:=am.getElem?_eq_getElem R;have ab:o[i].length=1:=g4 _ (aE _);refine⟨o[i],ac,by rw[ab];exact aP _,?_⟩;rw[show z8 o[i] 0 [D.lit (.int .i64 l[j])]=[D.lit (.int .i64 l[j])]from aqp ab];(conv=>whnf);refine⟨(i+1,j+1,o.set i [D.lit (.int .i64 l[j])]),⟨⟨by show i+1<j+1;omega,by show j+1<=l.length;omega,by show(o.set i _).length=_;simpa using g3,?_,?_,?_⟩,by show l.length -(j+1)<l.length - j;omega⟩,ze ?_⟩
   ·intro y hy;rcases List.mem_or_eq_of_mem_set hy with hy|rfl
    ·exact g4 y hy
    rfl
   ·show(o.set i _).take (i+1)=_;rw[amx R,hf,g5,aG,<- vu];rfl
   ·show(o.set i _).drop (j+1)=_;rw[amv (by omega),aa]
   (conv=>whnf);rw[wi,wj];rfl
  rw[h6]at hf;(conv=>whnf);refine⟨(i,j+1,o),⟨⟨by show i<j+1;omega,by show j+1<=l.length;omega,g3,g4,?_,aa⟩,by show l.length -(j+1)<l.length - j;omega⟩,ze ?_⟩
  ·show o.take i=_;rw[hf,g5,aA,aT]
  (conv=>whnf);rw[wj];rfl
 have hj:j=l.length:=by have U:decide ((j:Int)<(l.length:Int))=false:=U;have:=aB U;omega
 subst hj;rw[aC]at g5;have hi:(l.filter λc=>!p c).length=i:=by
  have:=aI cY g5;rw[zB,bP]at this;omega
 rw[hi];(conv=>whnf);refine⟨by simp only[z6];omega,by simp only[z6];omega,by simp only[z6];omega,?_⟩;(conv=>whnf);refine⟨by simp only[z6];omega,by simp only[z6];omega,?_⟩;(conv=>whnf);refine⟨_,?_,rfl⟩;simp only[z6,Int.toNat_natCast,z8];rw[bK,List.take_append_of_le_length (by rw[bP];omega),List.take_take,Nat.min_self,g5]
def Zv (c:Int ->Int)(l:am Int)(h:Nat):Bool:=match l[h]? with|some x=>decide (c x<0)|none=>false
def Vm (c:Int ->Int)(l:am Int):Nat:=vp (Zv c l) l.length 0 l.length
def aeq (c:Int ->Int)(l:am Int)(i:Nat):Bool:=match l[i]? with|some x=>c x==0|none=>false
theorem awu (c:Int ->Int)(l:am Int):Vm c l<=l.length:=(acK _ _ _ _ _ (aJ _) (aP _)).2
def ats (g:FuncId)(o p:am D)(l:Int)(gs:am Int)(i j:Nat):S:=⟨[(0,.w (.c (.d (.sl (zg gs))))),(1,zl l),(2,.w (.c (.d (.fn g [o,p])))),(8,zl gs.length),(9,zl i),(10,zl j)],[]⟩
theorem ab8 (fn:FuncId)(c0 c1:am D)(o:Int)(k:Int ->Int)(gs:am Int)(hl:gs.length<=1000000)(J: ∀x∈gs,Sat Pg fn [.c (int x),.c (int o),.c (.fp c0),.c (.fp c1)] (λr=>r=rI (k x))):Sat Pg QH [.c (.d (.sl (zg gs))),.c (int o),.c (.d (.fn fn [c0,c1]))] (λr=>r=⟨.tup [.c (int (Vm k gs)),.c (bool (aeq k gs (Vm k gs)))],[]⟩):=by
 refine wO.s T8 ?_;refine yq (P:=Pg) (f:=T8.f) (body:=(wO.l 0)) (λx:Nat×Nat=>ats fn c0 c1 o gs x.1 x.2) (λx=>x.2 - x.1) (λx=>x.1<=x.2 /\x.2<=gs.length /\Vm k gs=vp (Zv k gs) gs.length x.1 x.2) ⟨(0,gs.length),⟨aJ _,aP _,rfl⟩,ze ?_⟩ ?_
 ·(conv=>whnf);rw[zB];rfl
 rintro⟨i,j⟩ hx;obtain⟨ae,aa,hR⟩:i<=j /\j<=gs.length /\Vm k gs=vp (Zv k gs) gs.length i j:=hx;show mwpR Pg T8.f (wO.l 0) _ (ats fn c0 c1 o gs i j);unfold ats;have wh:=ara i j (by omega);refine zi (λh1=>?_) (λh1=>?_)
 ·have ab:i<j:=by have:=aD h1;omega
  have hm:(i+j)/2<gs.length:=by omega
  have hg:=y5 hm;have hp:Zv k gs ((i+j)/2)=decide (k gs[(i+j)/2]<0):=by unfold Zv;rw[am.getElem?_eq_getElem hm]
  have hc:=J gs[(i+j)/2] (aE hm);have I:Vm k gs=bif Zv k gs ((i+j)/2)then vp (Zv k gs) gs.length ((i+j)/2+1) j else vp (Zv k gs) gs.length i ((i+j)/2):=by
   rw[hR];have e1:vp (Zv k gs) gs.length i j=vp (Zv k gs) (gs.length - 1+1) i j:=by rw[Nat.sub_add_cancel (by omega)]
   rw[e1];simp only[vp];rw[bB ab,aG,ZD (Zv k gs) (gs.length - 1) gs.length ((i+j)/2+1) j (by omega) (by omega),ZD (Zv k gs) (gs.length - 1) gs.length i ((i+j)/2) (by omega) (by omega)]
  rw[hp]at I;have ac:aN.wrap ((((i+j)/2:Nat):Int)+1)=(((i+j)/2+1:Nat):Int):=zC hm (by omega);generalize gs[(i+j)/2]=g at*;generalize k g=c at*;have af:(i+j)/2<j /\i<=(i+j)/2:=by omega
  generalize(i+j)/2=m at*;(conv=>whnf);refine⟨by omega,?_⟩;(conv=>whnf);rw[wh];(conv=>whnf);refine⟨by omega,_,hg,rfl,?_⟩;refine aF hc ?_;refine zw (b:=decide (c<0)) (λh2=>?_) (λh2=>?_)
  ·rw[h2,aG]at I;(conv=>whnf);refine⟨(m+1,j),⟨⟨by show m+1<=j;omega,aa,I⟩,by show j -(m+1)<j - i;omega⟩,ze ?_⟩;(conv=>whnf);rw[ac];rfl
  rw[h2,aA]at I;(conv=>whnf);refine⟨(i,m),⟨⟨by show i<=m;omega,by show m<=gs.length;omega,I⟩,by show m - i<j - i;omega⟩,ze ?_⟩;exact rfl
 have ad: ¬i<j:=by have:=aB h1;omega
 have R:Vm k gs=i:=by
  rw[hR];have e:vp (Zv k gs) gs.length i j=vp (Zv k gs) 0 i j:=ZD _ _ _ _ _ (by omega) (by omega);rw[e];rfl
 rw[R];clear hR R;by_cases U:i<gs.length
 ·have hg:=y5 U;have hh:aeq k gs i=(k gs[i]==0):=by unfold aeq;rw[am.getElem?_eq_getElem U]
  have hc:=J gs[i] (aE U);rw[hh];clear hh;have e1:decide ((i:Int)<(gs.length:Int))=true:=bB (by omega);generalize gs[i]=g at*;generalize k g=c at*;refine zi (λp=>?_) (λp=>?_)
  ·(conv=>whnf);refine⟨by omega,_,hg,rfl,?_⟩;refine aF hc ?_;rfl
  have p:decide ((i:Int)<(gs.length:Int))=false:=p;rw[e1]at p;cases p
 have hh:aeq k gs i=false:=by unfold aeq;rw[am.getElem?_eq_none (by omega)]
 have e1:decide ((i:Int)<(gs.length:Int))=false:=bQ (by omega);rw[hh];clear hh;refine zi (λp=>?_) (λp=>?_)
 ·have p:decide ((i:Int)<(gs.length:Int))=true:=p;rw[e1]at p;cases p
 exact rfl
namespace So.I
structure En (α:Type) where
 d:α ->D
 c0:am D
 c1:am D
abbrev en {α:Type}(E:En α)(x:α):am D:=[E.d x]
abbrev sz:Nat:=1
abbrev cal {α:Type}(E:En α)(x y:α):am W:=[.c (.d (E.d x)),.c (.d (E.d y)),.c (.fp E.c0),.c (.fp E.c1)]
abbrev clo {α:Type}(E:En α)(g:FuncId):W:=.c (.d (.fn g [E.c0,E.c1]))
noncomputable abbrev cI_L0:=(qG.l 0)
noncomputable abbrev cI_L1:=(qG.l 1)
abbrev cI_ok:=qG.ok
noncomputable abbrev cM_L0:=(xf.l 0)
noncomputable abbrev cM_L1:=(xf.l 1)
noncomputable abbrev cM_L2:=(xf.l 2)
noncomputable abbrev cM_L3:=(xf.l 3)
noncomputable abbrev cM_L4:=(xf.l 4)
abbrev cM_ok:=xf.ok
noncomputable abbrev cO_L0:=(j8.l 0)
abbrev cO_ok:=j8.ok
noncomputable abbrev cS_L0:=(qQ.l 0)
noncomputable abbrev cS_L1:=(qQ.l 1)
noncomputable abbrev cS_L2:=(qQ.l 2)
abbrev cS_ok:=qQ.ok
abbrev cT_ok:=WG.ok
noncomputable abbrev cW_L0:=(jp.l 0)
abbrev cW_ok:=jp.ok
theorem kf {α:Type}(E:En α):KV YY sz (en E) (cal E) (clo E):=acD
abbrev insSort' {α:Type}(E:En α):=(kf E).p
theorem W4 {α:Type}(E:En α):WC QJ sz (en E) (clo E):=KT
abbrev swapRange' {α:Type}(E:En α):=(W4 E).p
theorem ab3 {α:Type}(E:En α):aa6 Vi sz (en E) (clo E):=ae4
abbrev rotate' {α:Type}(E:En α):=(ab3 E).p
theorem symMerge {α:Type}(E:En α):ad6 Wf sz (en E) (cal E) (clo E):=aat
theorem stable {α:Type}(E:En α):akn Vj sz (en E) (cal E) (clo E):=ae5
theorem SortStable {α:Type}(E:En α):SortStable jM sz (en E) (cal E) (clo E):=Jk
end So.I
abbrev atz {α:Type}(d:α ->D)(l:am α):am (am D):=l.map λx=> [d x]
abbrev aeO {α:Type}(d:α ->D)(g i:am D):=So.I.SortStable ⟨d,g,i⟩
def nV (br:am (am Val))(g:Int)(i:Int):Val:=at0 (br.getD i.toNat []) g.toNat
theorem ab4 {br:am (am Val)}{i:Int}(h:0<=i /\i<br.length):(zf br)[i.toNat]? =some [.sl (rowD (br.getD i.toNat []))]/\br.getD i.toNat []∈br:=by
 have g:i.toNat<br.length:=by omega
 rw[show br.getD i.toNat []=br[i.toNat]by simp[aY,am.getElem?_eq_getElem g]];exact⟨by simp[zf,am.getElem?_eq_getElem g],aE g⟩
theorem acB {row:am Val}{k:Int}(h:0<=k /\k<row.length):(rowD row)[k.toNat]? =some (at0 row k.toNat).ds:=by
 have g:k.toNat<row.length:=by omega
 rw[show at0 row k.toNat=row[k.toNat]by simp[at0,aY,am.getElem?_eq_getElem g]];simp[rowD,am.getElem?_eq_getElem g]
theorem auK (l:am Col)(br:am (am Val))(g i:Int)(hi:0<=i /\i<br.length)(J: ∀r∈br,0<=g /\g<r.length):
 Sat Pg Yy [.c (int i),.c (.fp [.sl (zm l),.sl (zf br)]),.c (.fp [.lit (.int .i64 g)])] (λr=>r=rB ((nV br g i).k==0)):=by
 obtain⟨o,p⟩:=ab4 hi;have j:=J _ p;have I:=acB j;unfold nV;generalize br.getD i.toNat []=row at*;generalize at0 row g.toNat=v at*;obtain⟨v1,v2,v3⟩:=v;refine Jm.s T8 ?_;refine⟨hi.1,_,o,rfl,?_⟩
 conv=>whnf
 refine⟨j.1,_,I,rfl,?_⟩;exact rfl
theorem auL (J:am Col)(br:am (am Val))(g i j:Int)(hi:0<=i /\i<br.length)(p:0<=j /\j<br.length)(I: ∀r∈br,0<=g /\g<r.length):
 Sat Pg uF [.c (int i),.c (int j),.c (.fp [.sl (zm J),.sl (zf br)]),.c (.fp [.lit (.int .i64 g)])] (λr=>r=rI (yZ (nV br g i).n (nV br g j).n)):=by
 obtain⟨P,R⟩:=ab4 hi;have o:=I _ R;have U:=acB o;obtain⟨g1,g2⟩:=ab4 p;have g3:=I _ g2;have g4:=acB g3;unfold nV;generalize br.getD i.toNat []=row at*;generalize br.getD j.toNat []=l at*;generalize at0 row g.toNat=v at*;generalize at0 l g.toNat=u at*;obtain⟨v1,v2,v3⟩:=v;obtain⟨u1,u2,u3⟩:=u;refine Jn.s T8 ?_;refine⟨hi.1,_,P,rfl,?_⟩
 conv=>whnf
 refine⟨o.1,_,U,rfl,?_⟩
 conv=>whnf
 refine⟨p.1,_,g1,rfl,?_⟩
 conv=>whnf
 refine⟨g3.1,_,g4,rfl,?_⟩;exact rfl
theorem auM (o:am Col)(br:am (am Val))(j i g:Int)(hi:0<=i /\i<br.length)(P: ∀r∈br,0<=j /\j<r.length):
 Sat Pg Yz [.c (int i),.c (int g),.c (.fp [.sl (zm o),.sl (zf br)]),.c (.fp [.lit (.int .i64 j)])] (λr=>r=rI (yZ (nV br j i).n g)):=by
 obtain⟨p,I⟩:=ab4 hi;have l:=P _ I;have J:=acB l;unfold nV;generalize br.getD i.toNat []=row at*;generalize at0 row j.toNat=v at*;obtain⟨v1,v2,v3⟩:=v;refine Jo.s T8 ?_;refine⟨hi.1,_,p,rfl,?_⟩
 conv=>whnf
 refine⟨l.1,_,J,rfl,?_⟩;exact rfl
end
end Go.Proofs.YtkdijaiaplkliaaGreatDoor
namespace Go.AM
theorem avr {s:S}(g:am Operand){l:am (am D)}{i:am (Nat×Pl)}(h:frz s s.pl (g.map cO)=some (l,i)):X0 s (s.withPl i):=λ_ _ ι _ _ hr=>⟨ι,(UD s g rfl hr h).1⟩
theorem zA.cut {P:Program}{k:Nat}{args:am W}{sz:Nat}{i:am (am D)}{L:am (am D)}{Q:Res ->Prop}(h:zA P k args [.arr sz i false] Q)
 (hq: ∀r,Q r -> ∃g:am (am D),∃n,g.take n=L /\n=L.length /\r=⟨.w (.c (.own 0 sz n)),[.arr sz g false]⟩):
 zA P k args [.arr sz i false] (λr=>r=⟨.w (.c (.own 1 sz L.length)),[.gone,.arr sz L false]⟩):=by
 refine⟨h.1,λw A ι0 vals h1 h2 h3 h4 h5=>(h.2 w A ι0 vals h1 h2 h3 h4 h5).mono ?_⟩;rintro e w' ⟨v,r,rfl,hQ,aa,hg⟩;obtain⟨g,n,hL,hn,rfl⟩:=hq r hQ;refine⟨v,_,rfl,rfl,?_,hg⟩;obtain⟨_,ι,o,hp,_,hm,_,_⟩:=aa
 let ι2:Nat ->Gh:=λp=>if p=1 then⟨(ι 0).b,n,.nilFunc,[]⟩else ι p
 have e1:yG (zN 0 ([Pl.arr sz g false]).length) [Pl.arr sz g false]=[(0,.arr sz g false)]:=rfl;have e2:yG (zN 0 ([Pl.gone,Pl.arr sz L false]).length) [Pl.gone,Pl.arr sz L false]=[(1,.arr sz L false)]:=rfl;have hb:(ι2 1).b=(ι 0).b:=rfl;have U: ∀b,Owns ι2 [(1,.arr sz L false)] b↔Owns ι [(0,.arr sz g false)] b:=λb=>by
  constructor
  ·rintro⟨p,x,j,hl,R⟩;obtain⟨rfl,rfl⟩:=zy j;exact⟨0,.arr sz g false,rfl,rfl,R⟩
  rintro⟨p,x,j,hl,R⟩;obtain⟨rfl,rfl⟩:=zy j;exact⟨1,.arr sz L false,rfl,rfl,R⟩
 have ad:Fr.ok ⟨w,A,Handed ι0 [.arr sz i false],λ_=>none⟩ ι2 [(1,.arr sz L false)] w'=Fr.ok ⟨w,A,Handed ι0 [.arr sz i false],λ_=>none⟩ ι [(0,.arr sz g false)] w':=by
  funext b;unfold Fr.ok;rw[c6,U]
 rw[e1]at hp hm o;obtain⟨h0,ac,J⟩:=hp 0 (.arr sz g false) rfl;have af:n<=g.length:=by
  have o:CR ι w' (Fr.ok ⟨w,A,Handed ι0 [.arr sz i false],λ_=>none⟩ ι [(0,.arr sz g false)] w') (.own 0 sz n) v:=o;simp only[CR]at o;rcases o with⟨_,h,_⟩|⟨b,cap,t,_,h,_⟩
  ·omega
  rw[ac];exact h
 have l:L.length=n:=hn.symm;refine⟨by simp,ι2,?_⟩;simp only[e2,ad];refine⟨?_,?_,?_,?_,?_,?_⟩
 ·have o:CR ι w' (Fr.ok ⟨w,A,Handed ι0 [.arr sz i false],λ_=>none⟩ ι [(0,.arr sz g false)] w') (.own 0 sz n) v:=o;show CR ι2 w' (Fr.ok ⟨w,A,Handed ι0 [.arr sz i false],λ_=>none⟩ ι [(0,.arr sz g false)] w') (.own 1 sz L.length) v;simp only[CR]at o⊢;rcases o with⟨I,a2,a3⟩|⟨b,cap,t,I,a2,a3,a4,a5,a6⟩
  ·exact .inl ⟨I,by rw[l];exact a2,a3⟩
  exact .inr ⟨b,cap,t,I,by rw[l];exact aP n,by rw[l];exact a3,by rw[l];exact a4,a5,a6⟩
 ·intro p x j;obtain⟨rfl,rfl⟩:=zy j;refine⟨h0,l,?_⟩;rcases J with⟨I,rfl⟩|⟨b,I,a2,a3,a4⟩
  ·exact .inl ⟨I,by rw[<- hL];simp⟩
  refine .inr ⟨b,I,by rw[<- hL];exact RDs.take n a2,(λh=>by cases h),λ_=>?_⟩;obtain⟨ab,c1,c2⟩:=a4 rfl;exact⟨ab,c1,bV (Nat.mul_le_mul_right _ (by omega)) c2⟩
 ·intro p q x y b j hy ae;obtain⟨rfl,rfl⟩:=zy j;obtain⟨rfl,rfl⟩:=zy hy;exact absurd rfl ae
 ·intro p x b j R;obtain⟨rfl,rfl⟩:=zy j;exact hm 0 (.arr sz g false) b rfl R
 ·intro p x j;obtain⟨rfl,rfl⟩:=zy j;rfl
 intro p x hp j;obtain⟨rfl,rfl⟩:=zy j;simp at hp
end Go.AM
namespace Go.Proofs.YtkdijaiaplkliaaGreatDoor
open Go Go.AM
attribute [local irreducible] Sat zA zY
set_option maxRecDepth 100000
set_option maxHeartbeats 1000000
def afu (br:am (am Val))(g:Int)(i j:Int):Int:=yZ (nV br g i).n (nV br g j).n
theorem Ux (br:am (am Val))(g:Int):CmpOK (afu br g):=CmpOK.onF V9 (f:=λi=>(nV br g i).n)
theorem asw (J:am Col)(br:am (am Val))(g:Int)(ht: ∀r∈br,0<=g /\g<r.length)(l:am Int)(n:Nat)(hn:l.length=n)(I:n<=1000000)(U: ∀i∈l,0<=i /\i<br.length):
 zA Pg jM [.c (.own 0 1 n),.c (.d (.fn uF [[.sl (zm J),.sl (zf br)],[.lit (.int .i64 g)]]))] [.arr 1 (zg l) false] (λr=>r=⟨.tup [],[.arr 1 (zg (yS (afu br g) l)) false]⟩):=by
 have o: ∀L:am (Int×Nat),atz (λx:Int×Nat=>D.lit (.int .i64 x.1)) L=zg (L.map Prod.fst):=λL=>by simp[atz,zg,Function.comp_def]
 have e:zg l=atz (λx:Int×Nat=>D.lit (.int .i64 x.1)) (qy l):=by rw[o,QB]
 rw[e];refine zA.mono (aeO (λx:Int×Nat=>D.lit (.int .i64 x.1)) [.sl (zm J),.sl (zf br)] [.lit (.int .i64 g)] uF (uJ (afu br g)) (kY (Ux br g)) (λx y=>x.2<y.2 /\(0<=x.1 /\x.1<br.length)/\(0<=y.1 /\y.1<br.length)) (λx y p=>?_) (qy l) n (by rw[V4,hn]) I ?_) ?_
 ·refine(auL J br g y.1 x.1 p.2.2 p.2.1 ht).mono ?_;rintro _ rfl;exact⟨_,rfl,ahZ (Ux br g) p.1⟩
 ·intro i j x y P R h3 hx hy;have hm: ∀(k:Nat) (z:Int×Nat),(qy l)[k]? =some z ->z.1∈l:=λk z hz=>by
   have:=aM hz;have h:=c7 (f:=Prod.fst) this;rwa[QB]at h
  exact⟨KN l n i j x y P R h3 hx hy,U _ (hm i x hx),U _ (hm j y hy)⟩
 rintro _ ⟨l',P,R,rfl⟩;rw[show So.eL _ l'=_ from o l',acv (Ux br g) hn P R]
theorem ahJ (g:FuncId)(i j:am D)(p:Int ->Bool)(l:am Int)(P: ∀x∈l,Sat Pg g [.c (int x),.c (.fp i),.c (.fp j)] (λr=>r=rB (p x)))(J:l.length<=1000000):
 zA Pg YA [.c (.own 0 1 l.length),.c (.d (.fn g [i,j]))] [.arr 1 (zg l) false] (λr=>r=⟨.w (.c (.own 1 1 (zg (l.filter λx=>!p x)).length)),[.gone,.arr 1 (zg (l.filter λx=>!p x)) false]⟩):=by
 refine(aeL g i j p l P J).cut ?_;rintro r ⟨o,I,rfl⟩;exact⟨o,_,I,by rw[zB],rfl⟩
end Go.Proofs.YtkdijaiaplkliaaGreatDoor
namespace Go.Proofs.YtkdijaiaplkliaaGreatDoor
open Go Go.AM
section
attribute [local irreducible] Sat zA zY
def Qs (br:am (am Val))(g:Int)(l:am Int):am Int:=yS (afu br g) (l.filter λi=>!((nV br g i).k==0))
structure MJ (G:am Int ->am Int)(m0 m:Bkt)(seen:am Nat):Prop where
 ks:m.map (·.1)=m0.map (·.1)
 vs: ∀(j:Nat) (x y:ByteArray×am Int),m[j]? =some x ->m0[j]? =some y ->x.2=if j∈seen then G y.2 else y.2
 nd:seen.Nodup
 lt: ∀j∈seen,j<m0.length
theorem MJ.len {G:am Int ->am Int}{g m:Bkt}{seen:am Nat}(h:MJ G g m seen):m.length=g.length:=by simpa using aI cY h.ks
theorem MJ.start (G:am Int ->am Int)(i:Bkt):MJ G i i []:=⟨rfl,λj x y l g=>by rw[l]at g;cases g;simp,by simp,by simp⟩
theorem MJ.step {G:am Int ->am Int}{I m:Bkt}{seen:am Nat}(h:MJ G I m seen){j:Nat}{k:ByteArray}{l:am Int}(p:m[j]? =some (k,l))(hs:j∉seen):MJ G I (m.set j (k,G l)) (j::seen):=by
 have g:=(am.getElem?_eq_some_iff.1 p).1;refine⟨?_,λi x y o r=>?_,List.nodup_cons.2 ⟨hs,h.nd⟩,λi hi=>?_⟩
 ·rw[cz,<- h.ks];apply cD;intro i;rw[am.getElem?_set];split
  ·rename_i e;subst e;rw[bO (by simpa using g),am.getElem?_map,p];rfl
  rfl
 ·rw[am.getElem?_set]at o;split at o
  ·rename_i e;subst e;first|(rw[bO g]at o;cases o)|cases o
   have:=h.vs _ _ y p r;rw[cA hs]at this;have this:l=y.2:=this;rw[bO (by simp),<- this]
  rename_i e;have:=h.vs i x y o r;rw[this];by_cases hi:i∈seen
  ·rw[bO hi,bO (by simp[hi])]
  rw[cA hi,cA (by simp[hi];exact λJ=>e J.symm)]
 rcases aZ.1 hi with rfl|hi
 ·rw[<- h.len];exact g
 exact h.lt i hi
theorem aeB: ∀(n:Nat) (l:am Nat),l.Nodup ->(∀x∈l,x<n) ->l.length<=n
 |0,l,_,h=>by
  cases l with
  |nil=>exact aP _
  |cons x r=>exact absurd (h x (by simp)) (by omega)
 |n+1,l,i,h=>by
  by_cases p:n∈l
  ·have j:=aeB n (l.erase n) (i.erase n) (λx g=>by
    have o:=(List.Nodup.mem_erase_iff i).1 g;have:=h x o.2;have:=o.1;omega)
   rw[List.length_erase_of_mem p]at j;omega
  have:=aeB n l i (λx g=>by
   have j:=h x g;have:x≠n:=λe=>p (e▸g)
   omega)
  omega
theorem MJ.room {G:am Int ->am Int}{g m:Bkt}{seen:am Nat}(h:MJ G g m seen){j:Nat}(p:j<g.length)(hs:j∉seen):seen.length<g.length:=by
 have l:(j::seen).Nodup:=List.nodup_cons.2 ⟨hs,h.nd⟩;have o: ∀i∈j::seen,i<g.length:=λi hi=>by
  rcases aZ.1 hi with rfl|hi
  ·exact p
  exact h.lt i hi
 have:=aeB _ _ l o;simp at this;omega
def mjS (j:am Col)(l:am (am Val))(o:am Col)(br:am (am Val))(cols:am Col)(g p:Int)(left i:am Int)(m:Bkt)(seen:am Nat):S:=
 ⟨[(3,.w (.c (.d (.sl (zm cols))))),(5,cV (.ptr 5 0)),(6,cV (.ptr 6 0)),(8,cV (.ptr 8 0)),(9,zl g),(10,cV (.ptr 10 0)),(11,.w (.c (.d (.sl (zg left))))),(12,.w (.c (.d (.sl (zg i))))),(13,.w (.c (.root 50))),(50,.w (.c (.iter 50)))],
 [(5,.box [.d (.sl (zm j)),.d (.sl (zf l))]),(6,.fbox [.sl (zm o),.sl (zf br)]),(8,.box [.nil,.nil]),(10,.fbox [.lit (.int .i64 p)]),(50,.deep (.mpi false (jy m) (YD m) seen))]⟩
theorem ayk {Q:E ->S ->Prop}{s:S}(ac:am Col)(ar:am (am Val))(R:am Col)(br:am (am Val))(cols:am Col)(o g:Int)(left p:am Int)(I:Bkt)
 (aq:(I.map (·.1)).Nodup) (ao: ∀x∈I,x.2.length<=1000000 /\ ∀i∈x.2,0<=i /\i<br.length) (ht: ∀r∈br,0<=g /\g<r.length)
 (h0:yX s [3,5,6,8,9,10,11,12,13,50] (· =mjS ac ar R br cols o g left p I []))
 (hQ: ∀m seen,MJ (Qs br g) I m seen ->(∀j,j<I.length ->j∈seen) ->Q (.exit 0) (xD (mjS ac ar R br cols o g left p m seen) 52 (ya false))):
 zY (mwpR Pg T8.f (yM.l 0)) [3,5,6,8,9,10,11,12,13,50] Q s:=by
 refine yq (P:=Pg) (f:=T8.f) (body:=(yM.l 0)) (λz:Bkt×am Nat=>mjS ac ar R br cols o g left p z.1 z.2) (λz=>I.length - z.2.length)
  (λz=>MJ (Qs br g) I z.1 z.2) ⟨(I,[]),MJ.start _ _,h0⟩ ?_
 clear h0;rintro⟨m,seen⟩ U;have U:MJ (Qs br g) I m seen:=U;have ai:(jy m).length=I.length:=by rw[<- U.len];simp[jy]
 show mwpR Pg T8.f (yM.l 0) _ (mjS ac ar R br cols o g left p m seen);unfold mjS
 conv=>whnf
 refine⟨λag=>?_,λj hj ae=>?_⟩
 ·have hQ:=hQ m seen U (λj hj=>ag j (by rw[ai];exact hj));unfold xD mjS at hQ;(conv=>whnf);exact hQ
 (conv=>whnf);refine λk e hk he=>?_
 obtain⟨k',l,rfl,J⟩: ∃k' l,k= .string k' /\m[j]? =some (k',l):=by
  simp only[jy,am.getElem?_map,cM]at hk;obtain⟨⟨a,l⟩,h1,h2⟩:=hk;exact⟨a,l,h2.symm,h1⟩
 obtain rfl:e=bkE l:=by
  have:(YD m)[j]? =some (bkE l):=by simp[YD,J]
  exact aX (he.symm.trans this)
 have ab:j<I.length:=by rw[<- ai];exact hj
 have au:=U.room ab ae;have ad:l.length<=1000000 /\ ∀i∈l,0<=i /\i<br.length:=by
  have h1:=U.vs j _ _ J (am.getElem?_eq_getElem ab);rw[cA ae]at h1;have h1:l=I[j].2:=h1;rw[h1];exact ao _ (aE ab)
 have ah:=ahJ Yy [.sl (zm R),.sl (zf br)] [.lit (.int .i64 g)] (λi=>(nV br g i).k==0) l (λx hx=>auK R br g x (ad.2 x hx) ht) ad.1;have aw:(l.filter λi=>!((nV br g i).k==0)).length<=l.length:=cg _ _;have aa:=asw R br g ht (l.filter λi=>!((nV br g i).k==0)) _ rfl (by omega) (λi hi=>ad.2 i (cS.1 hi).1);have af:=U.step J ae;have al:(Qs br g l).length=(l.filter λi=>!((nV br g i).k==0)).length:=by unfold Qs;exact(u0 (Ux br g) _).length_eq
 rw[show yS (afu br g) (l.filter λi=>!((nV br g i).k==0))=Qs br g l from rfl]at aa;have ak:(m.map (·.1)).Nodup:=by rw[U.ks];exact aq
 clear hQ;generalize hA:(l.filter λi=>!((nV br g i).k==0))=A at*;generalize Qs br g l=B at*;refine⟨rfl,?_⟩;unfold bkE;(conv=>whnf);refine⟨zg l,ah2 _,?_⟩;(conv=>whnf);rw[zB];refine zA.mono ah ?_;rintro _ rfl;rw[zB];(conv=>whnf);refine zA.mono aa ?_;rintro _ rfl;(conv=>whnf);refine⟨rfl,?_⟩;(conv=>whnf);refine⟨rfl,V7 m,λj2 an=>?_,λh=>absurd (aM hk) h⟩;obtain rfl:j2=j:=by
  obtain⟨l2,aj⟩:=Ul an;have a1:(m.map (·.1))[j2]? =some k':=by rw[am.getElem?_map,aj];rfl
  have a2:(m.map (·.1))[j]? =some k':=by rw[am.getElem?_map,J];rfl
  exact(am.getElem?_inj (by simpa using (am.getElem?_eq_some_iff.1 aj).1) ak).1 (a1.trans a2.symm)
 (conv=>whnf);refine⟨(m.set j2 (k',B),j2::seen),⟨af,by show I.length -(seen.length+1)<I.length - seen.length;omega⟩,ze ?_⟩;(conv=>whnf);have av:(zg B).take A.length=zg B:=by rw[<- al];rw[<- zB B,aC]
 show _=mjS ac ar R br cols o g left p (m.set j2 (k',B)) (j2::seen);unfold mjS;rw[akL J,<- akN];simp only[AM.T.setE,List.set_set,av];rfl
def mjP (br:am (am Val))(j N:Int)(g:am Int)(l:am Int):am Val:=
 bif decide (0<Vm (λi=>yZ (nV br j i).n (N+1)) l)then zn (br.getD (l.getD (Vm (λi=>yZ (nV br j i).n (N+1)) l - 1) 0).toNat []) g else aH g.length yf
def ZU (left g:am Int)(i j:Int)(br:am (am Val))(G:ByteArray ->am Int)(x:am Val):am Val:=
 match uG x left with
 |some k=>bif (at0 x i.toNat).k==2 then mjP br j (at0 x i.toNat).n g (G k)else aH g.length yf
 |none=>aH g.length yf
def WT (o:am Col)(br:am (am Val))(cols:am Col)(g p:Int)(left j:am Int)(m:Bkt)(l:am (am Val))(i:Nat)(out:am (am Val)):S:=
 ⟨[(6,cV (.ptr 6 0)),(8,cV (.ptr 8 0)),(9,zl g),(10,cV (.ptr 10 0)),(11,.w (.c (.d (.sl (zg left))))),(12,.w (.c (.d (.sl (zg j))))),(13,.w (.c (.d (bkD m)))),(16,cV (.ptr 16 0)),(68,.w (.c (.d (.sl (zf l))))),(69,zl l.length),(70,zl i)],
 [(6,.fbox [.sl (zm o),.sl (zf br)]),(8,.box [.nil,.nil]),(10,.fbox [.lit (.int .i64 p)]),(16,.box [.d (.sl (zm cols)),.own 127 1 out.length]),(127,.arr 1 (zf out) false)]⟩
noncomputable def mjRest:ACode:=xp (xp (xp (xp (xp yM.A.code))))
theorem ayl {Q:E ->S ->Prop}{s:S}(bc:am Col)(br:am (am Val))(cols:am Col)(o J:Int)(left g:am Int)(m:Bkt)(I:am (am Val))(G:ByteArray ->am Int)
 (bj:I.length<=20000) (bk:br.length<=1000000) (bl:left.length<=100000) (bm:g.length<=100000) (bn:(m.map (·.1)).Nodup) (a7: ∀x∈m,x.2=G x.1) (a8: ∀k,G k≠ [] -> ∃x∈m,x.1=k) (hG: ∀k,(G k).length<=1000000 /\ ∀i∈G k,0<=i /\i<br.length)
 (hx: ∀x∈I,x.length<=100000 /\zQ x.length left /\(0<=o /\o<x.length)/\ ∀v∈x,VS v /\v.n<9223372036854775807) (hy: ∀y∈br,zQ y.length g /\(0<=J /\J<y.length))
 (h0:yX s [6,8,9,10,11,12,13,16,68,69,70] (· =WT bc br cols o J left g m I 0 []))
 (hQ:Q (.exit 2) (xD (WT bc br cols o J left g m I I.length (I.map λx=>x++ZU left g o J br G x)) 71 (ya (decide ((I.length:Int)<I.length))))):
 zY (mwpR Pg T8.f (yM.l 1)) [6,8,9,10,11,12,13,16,68,69,70] Q s:=by
 refine yx (P:=Pg) (f:=T8.f) (body:=(yM.l 1)) I.length (λi=>WT bc br cols o J left g m I i ((I.take i).map λx=>x++ZU left g o J br G x)) (λ_=>True) ⟨trivial,h0⟩ ?_;clear h0;intro i hi _;have p: ∀h:i<I.length,(I.take (i+1)).map (λx=>x++ZU left g o J br G x)=(I.take i).map (λx=>x++ZU left g o J br G x)++[I[i]++ZU left g o J br G I[i]]:=λh=>by
  rw[zR h,cR];rfl
 have ai:i=I.length ->I.map (λx=>x++ZU left g o J br G x)=(I.take i).map (λx=>x++ZU left g o J br G x):=λh=>by rw[h,aC]
 have bi:((I.take i).map (λx=>x++ZU left g o J br G x)).length=i:=by simp;omega
 show mwpR Pg T8.f (yM.l 1) _ (WT bc br cols o J left g m I i ((I.take i).map λx=>x++ZU left g o J br G x));generalize(I.take i).map (λx=>x++ZU left g o J br G x)=U at*;have ad:(zf U).take U.length=zf U:=by rw[<- zx,aC]
 unfold WT;refine zi (λh1=>?_) (λh1=>?_)
 ·have R:i<I.length:=by have:=aD h1;omega
  have hg:=yJ R;have p:=p R;obtain⟨bo,be,ag,aq⟩:=hx _ (aE R);have wi:=zC R (by omega);have hk:=ada I[i] left be (by omega) (λv hv=>(aq v hv).1);have ao:=acB ag;have az:at0 I[i] o.toNat∈I[i]:=by
   have h6:o.toNat<I[i].length:=by omega
   rw[show at0 I[i] o.toNat=I[i][o.toNat]by simp[at0,aY,am.getElem?_eq_getElem h6]];exact aE h6
  have a0:=(aq _ az);have bp:(aH g.length yf).length=g.length:=by simp
  have af:=w7 I[i] (aH g.length yf) (by omega) (by omega);clear ai hx hQ aq az;unfold ZU at p;have ak:uG I[i] left=(uo I[i] left).map λl=>⟨l.toArray⟩:=rfl
  generalize uG I[i] left=ko at*;generalize uo I[i] left=kp at*;generalize at0 I[i] o.toNat=v at*;generalize I[i]=x at*;obtain⟨v1,v2,v3⟩:=v;have bg:aH (((zg g).length:Int)).toNat WA=rowD (aH g.length yf):=by
   rw[zB];simp[rowD];exact .inr rfl
  have ac:(((zg g).length:Int)).toNat=g.length:=by rw[zB];simp
  have ah:aL (((zg g).length:Int)).toNat (aH (((zg g).length:Int)).toNat [D.lit (.int .i64 0),D.lit (.int .i64 0),D.lit (.string ⟨#[]⟩)])=rowD (aH g.length yf):=by
   rw[show [D.lit (.int .i64 0),D.lit (.int .i64 0),D.lit (.string ⟨#[]⟩)]=WA from rfl,bg,ac];exact bE (by simp[zt])
  cases kp with
  |none=>
   subst ak;(conv=>whnf);refine⟨by omega,_,hg,rfl,?_⟩;(conv=>whnf);(conv=>whnf);refine⟨by omega,by omega,by unfold ym;rw[ac];omega,by rw[zB];omega,?_⟩;refine aF hk ?_;rw[ah];refine cN af ?_;have p:(I.take (i+1)).map (λx=>x++ZU left g o J br G x)=U++[x++aH g.length yf]:=p;generalize x++aH g.length yf=B at*;(conv=>whnf);refine⟨by simp,by unfold ym;simp;omega,by simp;omega,?_⟩;(conv=>whnf);refine⟨R,trivial,ze ?_⟩;(conv=>whnf);have aa:(rowD B).take B.length=rowD B:=by rw[<- zt,aC]
   rw[wi,ad,aa];show _=WT bc br cols o J left g m I (i+1) _;rw[p];unfold WT;rw[xm,aK];rfl
  |some l=>
   obtain⟨k,aj⟩: ∃k:ByteArray,k=⟨l.toArray⟩:=⟨_,rfl⟩;have a6:Sat Pg Qk [yt x,.c (.d (.sl (zg left)))] (λr=>r=⟨.tup [.c (str k),.c (bool true)],[]⟩):=by rw[aj];exact hk
   obtain rfl:ko=some k:=by rw[aj];exact ak
   clear ak hk aj;have p:(I.take (i+1)).map (λx=>x++ZU left g o J br G x)=U++[x++(bif v1==2 then mjP br J v2 g (G k)else aH g.length yf)]:=p;(conv=>whnf);refine⟨by omega,_,hg,rfl,?_⟩;(conv=>whnf);(conv=>whnf);refine⟨by omega,by omega,by unfold ym;rw[ac];omega,by rw[zB];omega,?_⟩;refine aF a6 ?_;refine⟨ag.1,_,ao,rfl,?_⟩;(conv=>whnf);cases ay:(v1==2)with
   |false=>
    rw[ay,aA]at p;(conv=>whnf);rw[ah];refine cN af ?_;have p:(I.take (i+1)).map (λx=>x++ZU left g o J br G x)=U++[x++aH g.length yf]:=p;generalize x++aH g.length yf=B at*;(conv=>whnf);refine⟨by simp,by unfold ym;simp;omega,by simp;omega,?_⟩;(conv=>whnf);refine⟨R,trivial,ze ?_⟩;(conv=>whnf);have aa:(rowD B).take B.length=rowD B:=by rw[<- zt,aC]
    rw[wi,ad,aa];show _=WT bc br cols o J left g m I (i+1) _;rw[p];unfold WT;rw[xm,aK];rfl
   |true=>
    rw[ay,aG]at p;unfold mjP at p;have a1:aN.wrap (v2+1)=v2+1:=yk (by have:=a0.1.2.1;simp only at this;omega) (by have:=a0.2;simp only at this;omega);have ab:=ab8 Yz [.sl (zm bc),.sl (zf br)] [.lit (.int .i64 J)] (v2+1) (λi=>yZ (nV br J i).n (v2+1)) (G k) (hG k).1 (λj hj=>auM bc br J j (v2+1) ((hG k).2 j hj) (λr hr=>(hy r hr).2));have bb:=awu (λi=>yZ (nV br J i).n (v2+1)) (G k);(conv=>whnf);refine⟨rfl,?_⟩;(conv=>whnf);refine⟨rfl,V7 m,λax=>?_,λj e hj he=>?_⟩
    ·have ae:G k=[]:=by
      cases hf:G k with
      |nil=>rfl
      |cons u w=>
       obtain⟨z,hz,bf⟩:=a8 k (by rw[hf];simp);exact absurd (aec.2 (aU.2 ⟨z,hz,bf⟩)) ax
     have a9:Vm (λi=>yZ (nV br J i).n (v2+1)) (G k)=0:=by rw[ae];rfl
     rw[a9]at ab p;rw[ae]at ab;generalize aeq (λi=>yZ (nV br J i).n (v2+1)) [] 0=hit at*;(conv=>whnf);refine⟨ag.1,_,ao,rfl,?_⟩;(conv=>whnf);rw[a1];refine aF ab ?_;rw[ah];refine cN af ?_;have p:(I.take (i+1)).map (λx=>x++ZU left g o J br G x)=U++[x++aH g.length yf]:=p;generalize x++aH g.length yf=B at*;(conv=>whnf);refine⟨by simp,by unfold ym;simp;omega,by simp;omega,?_⟩;(conv=>whnf);refine⟨R,trivial,ze ?_⟩;(conv=>whnf);have aa:(rowD B).take B.length=rowD B:=by rw[<- zt,aC]
     rw[wi,ad,aa];show _=WT bc br cols o J left g m I (i+1) _;rw[p];unfold WT;rw[xm,aK];rfl
    obtain⟨l0,av⟩:=Ul hj;obtain rfl:e=[D.sl (zg l0)]:=by
     have:(m.map λx=> [D.sl (zg x.2)])[j]? =some [D.sl (zg l0)]:=by simp[av]
     exact aX (he.symm.trans this)
    have aw:l0=G k:=a7 _ (aM av);subst aw;have ae:=hG k;generalize G k=L at*;obtain⟨n,hn⟩: ∃n,n=Vm (λi=>yZ (nV br J i).n (v2+1)) L:=⟨_,rfl⟩;rw[<- hn]at ab p bb;generalize aeq (λi=>yZ (nV br J i).n (v2+1)) L n=hit at*;clear hn;(conv=>whnf);refine⟨ag.1,_,ao,rfl,?_⟩;(conv=>whnf);rw[a1];refine aF ab ?_;refine zw (b:=decide ((n:Int)>0)) (λh5=>?_) (λh5=>?_)
    ·have an:0<n:=by have:=aD h5;omega
     rw[bB an,aG]at p;have al:n - 1<L.length:=by omega
     have bd:aN.wrap ((n:Int) - 1)=((n - 1:Nat):Int):=by rw[yk (by omega) (by omega)];omega
     have a5:=y5 al;rw[show L.getD (n - 1) 0=L[n - 1]by simp[aY,am.getElem?_eq_getElem al]]at p;have hb:=ae.2 _ (aE al);generalize L[n - 1]=u at*;obtain⟨a4,a2⟩:=ab4 hb;have ba:=acg (br.getD u.toNat []) g (by omega) (hy _ a2).1;have bh:(zn (br.getD u.toNat []) g).length=g.length:=by simp[zn]
     have a3:=w7 x (zn (br.getD u.toNat []) g) (by omega) (by omega);generalize br.getD u.toNat []=b at*;generalize zn b g=P at*;(conv=>whnf);rw[bd];(conv=>whnf);refine⟨by omega,_,a5,rfl,?_⟩;(conv=>whnf);refine⟨hb.1,_,a4,rfl,?_⟩;refine aF ba ?_;refine cN a3 ?_;have p:(I.take (i+1)).map (λx=>x++ZU left g o J br G x)=U++[x++P]:=p;generalize x++P=B at*;(conv=>whnf);refine⟨by simp,by unfold ym;simp;omega,by simp;omega,?_⟩;(conv=>whnf);refine⟨R,trivial,ze ?_⟩;(conv=>whnf);have aa:(rowD B).take B.length=rowD B:=by rw[<- zt,aC]
     rw[wi,ad,aa];show _=WT bc br cols o J left g m I (i+1) _;rw[p];unfold WT;rw[xm,aK];rfl
    have an: ¬0<n:=by have:=aB h5;omega
    rw[bQ an,aA]at p;(conv=>whnf);rw[ah];refine cN af ?_;have p:(I.take (i+1)).map (λx=>x++ZU left g o J br G x)=U++[x++aH g.length yf]:=p;generalize x++aH g.length yf=B at*;(conv=>whnf);refine⟨by simp,by unfold ym;simp;omega,by simp;omega,?_⟩;(conv=>whnf);refine⟨R,trivial,ze ?_⟩;(conv=>whnf);have aa:(rowD B).take B.length=rowD B:=by rw[<- zt,aC]
    rw[wi,ad,aa];show _=WT bc br cols o J left g m I (i+1) _;rw[p];unfold WT;rw[xm,aK];rfl
 have au:i=I.length:=by have:=aB h1;omega
 rw[ai au]at hQ;subst au;unfold xD WT at hQ;(conv=>whnf);exact hQ
theorem at5 {s:S}(ac:am Col)(R:am (am Val))(bc:am Col)(br:am (am Val))(cols:am Col)(g p:Int)(left o:am Int)(F:ByteArray ->am Int)(m0:Bkt)
 (af:R.length<=20000) (ag:br.length<=1000000) (ah:left.length<=100000) (ai:o.length<=100000) (hm:Bk F m0) (hF: ∀k,(F k).length<=1000000 /\ ∀i∈F k,0<=i /\i<br.length)
 (P: ∀x∈R,x.length<=100000 /\zQ x.length left /\(0<=g /\g<x.length)/\ ∀v∈x,VS v /\v.n<9223372036854775807) (hy: ∀y∈br,zQ y.length o /\(0<=p /\p<y.length))
 (h0:yX s [3,5,6,8,9,10,11,12,13,50] (· =mjS ac R bc br cols g p left o m0 [])):
 zY (mwpR Pg T8.f (yM.l 0)) [3,5,6,8,9,10,11,12,13,50] (j5 0 (Vp (mwpR Pg T8.f mjRest) (Qf yM.A.res [] (DQ ⟨.w (Tbl.w ⟨cols,R.map λx=>x++ZU left o g p br (λk=>Qs br p (F k)) x⟩),[]⟩)))) s:=by
 have aa: ∀l,(Qs br p l).length<=l.length /\ ∀i∈Qs br p l,i∈l:=λl=>by
  unfold Qs;have hp:=u0 (Ux br p) (l.filter λi=>!((nV br p i).k==0));exact⟨by rw[hp.length_eq];exact cg _ _,λi hi=>(cS.1 (hp.mem_iff.1 hi)).1⟩
 refine ayk ac R bc br cols g p left o m0 hm.1 (λx P=>by rw[(hm.2.1 x P).1];exact hF x.1) (λr hr=>(hy r hr).2) h0 (λm seen hM J=>?_);clear h0;have ab: ∀x∈m,x.2=Qs br p (F x.1):=λx P=>by
  obtain⟨j,hj⟩:=cT.1 P;have I:j<m0.length:=by rw[<- hM.len];exact(am.getElem?_eq_some_iff.1 hj).1
  have h1:=hM.vs j x m0[j] hj (am.getElem?_eq_getElem I);rw[bO (J j I)]at h1;have h2:x.1=m0[j].1:=by
   have a1:(m.map (·.1))[j]? =some x.1:=by rw[am.getElem?_map,hj];rfl
   rw[hM.ks,am.getElem?_map,am.getElem?_eq_getElem I]at a1;exact(aX a1).symm
  rw[h1,h2,(hm.2.1 _ (aE I)).1]
 have ad: ∀k,Qs br p (F k)≠ [] -> ∃x∈m,x.1=k:=λk hk=>by
  have aj:F k≠ []:=λe=>hk (by rw[e];rfl)
  obtain⟨x,P,e⟩:=hm.2.2 k aj;have:k∈m.map (·.1):=by rw[hM.ks];exact aU.2 ⟨x,P,e⟩
  obtain⟨y,hy,e2⟩:=aU.1 this;exact⟨y,hy,e2⟩
 have ae:=λ(Q:E ->S ->Prop) (s:S)=>ayl (Q:=Q) (s:=s) bc br cols g p left o m R (λk=>Qs br p (F k)) af ag ah ai (by rw[hM.ks];exact hm.1) ab ad (λk=>⟨bV (aa _).1 (hF k).1,λi hi=>(hF k).2 i ((aa _).2 i hi)⟩) P hy
 have hD:=akM m;clear ab ad aa hM J hm hF P hy;unfold xD mjS
 conv=>whnf
 rw[zx];refine ae _ _ ⟨_,(jm 16 1 127 1 (by omega) (by omega) rfl).trans (XA 13 (.root 50) (bkD m) _ rfl (by show(match AM.T.toD (.mpi false (jy m) (YD m) seen)with|some x=>_|none=>_)=_;simp only[AM.T.toD,hD];rfl)),?_⟩ ?_
 ·exact rfl
 have hR: ∀U:am (am Val),(zf U).take U.length=zf U:=λU=>by rw[<- zx,aC]
 generalize(R.map λx=>x++ZU left o g p br (λk=>Qs br p (F k)) x)=U at*;unfold xD WT;(conv=>whnf);refine⟨rfl,?_⟩;show Res.mk (.w (.agg [.d (.sl (zm cols)),.d (.sl ((zf U).take U.length))])) []=_;rw[hR];rfl
theorem ahP (st:Stp)(a b:Tbl)(cols:am Col)(ah:st.cols.length<=100000)(J:a.rows.length<=20000)(l:b.rows.length<=1000000)(P:b.cols.length<=1000000)(U:(oth (st.cols++[sFrom]) 0 b.cols).length<=100000)
 (hx: ∀x∈a.rows,x.length<=100000 /\zQ x.length (zh a.cols st.cols)/\(0<=zj a.cols sFrom /\zj a.cols sFrom<x.length)/\ ∀v∈x,VS v /\v.n<9223372036854775807)
 (p: ∀y∈b.rows,zQ y.length (zh b.cols st.cols)/\zQ y.length (oth (st.cols++[sFrom]) 0 b.cols)/\(0<=zj b.cols sFrom /\zj b.cols sFrom<y.length)/\ ∀v∈y,VS v):
 Sat Pg XK [st.w,a.w,b.w,.c (.d (.sl (zm cols)))]
  (λr=>r=⟨.w (Tbl.w ⟨cols,a.rows.map λx=>x++ZU (zh a.cols st.cols) (oth (st.cols++[sFrom]) 0 b.cols) (zj a.cols sFrom) (zj b.cols sFrom) b.rows (λk=>Qs b.rows (zj b.cols sFrom) (Zn (zh b.cols st.cols) k 0 b.rows)) x⟩),[]⟩):=by
 obtain⟨o,ar⟩:=a;obtain⟨j,br⟩:=b;obtain⟨op,⟨eo,nm,⟨vk,vn,vs⟩,av⟩,an,g,aq,ao,n,ay⟩:=st;rw[qT];simp only at ah J l P U hx p⊢;have ak:=xz o (.d (.sl (zf ar))) sFrom ⟨_,rfl⟩;have al:=xz j (.d (.sl (zf br))) sFrom ⟨_,rfl⟩;have ai:=ua o (.sl (zf ar)) g (by omega);have aj:=ua j (.sl (zf br)) g (by omega);have ab:=ach j (.sl (zf br)) (g++[sFrom]) P;have af:=vW g (by omega);have ad:Sat Pg Kw [Tbl.w ⟨j,br⟩,.c (.d (.sl (aL ((zp g).length+(aL 1 (zp [sFrom])).length) (aL (zp g).length (zp g)++aL 1 (zp [sFrom])))))] (λr=>r=rC (.d (.sl (zg (oth (g++[sFrom]) 0 j))))):=by
  rw[show aL ((zp g).length+(aL 1 (zp [sFrom])).length) (aL (zp g).length (zp g)++aL 1 (zp [sFrom]))=zp (g++[sFrom])by
   rw[aC,show aL 1 (zp [sFrom])=zp [sFrom]from rfl,acx,show(zp g).length+(zp [sFrom]).length=(zp (g++[sFrom])).length by simp[zF],aC]]
  exact ab
 have aw:(zh o g).length=g.length:=by simp[zh]
 have ax:(zh j g).length=g.length:=by simp[zh]
 have R:=adU j br (zh j g) l (by omega) (λr hr=>(p r hr).1) (λr hr=>(p r hr).2.2.2);generalize zh o g=left at*;generalize zh j g=right at*;generalize zj o sFrom=ae at*;generalize zj j sFrom=th at*;obtain⟨F,hF⟩: ∃F:ByteArray ->am Int,F= λk=>Zn right k 0 br:=⟨_,rfl⟩
 have I: ∀k,(F k).length<=1000000 /\ ∀i∈F k,0<=i /\i<br.length:=λk=>by
  rw[hF];refine⟨bV (afg right k 0 br) l,λn hn=>?_⟩;have:=akO right k 0 br n hn;omega
 rw[show(λk=>Qs br th (Zn right k 0 br))= λk=>Qs br th (F k)by rw[hF]];rw[<- hF]at R;clear hF;have ag:=λ(s:S) (m:Bkt) (hm:Bk F m)=>at5 (s:=s) o ar j br cols ae th left (oth (g++[sFrom]) 0 j) F m J l (by omega) U hm I (λx h=>hx x h) (λy h=>⟨(p y h).2.1,(p y h).2.2.1⟩)
 generalize oth (g++[sFrom]) 0 j=au at*;clear hx p I;refine zD ?_;refine yM.s T8 ?_;refine aF ak ?_;refine aF al ?_
 repeat' (first
  |(refine bA ai ?_;rintro _ rfl;conv=>whnf)
  |(refine bA aj ?_;rintro _ rfl;conv=>whnf)
  |(refine bA af ?_;rintro _ (⟨aa,rfl⟩|rfl)<;>conv=>whnf)
  |(refine⟨by simp,by unfold ym;simp only[zF];simp;omega,by simp only[zF];simp;omega,?_⟩;conv=>whnf)
  |(refine⟨by simp,by unfold ym;simp,by simp,?_⟩;conv=>whnf)
  |(refine bA ad ?_;rintro _ rfl;conv=>whnf)
  |(subst aa;refine bA ab ?_;rintro _ rfl;conv=>whnf)
  |(refine bA R ?_;rintro _ ⟨m,hm,rfl⟩;conv=>whnf)
  |(refine bH ?_ ?_<;>conv=>whnf))
 all_goals refine ag _ m hm ⟨_,avr [.tmp 6,.tmp 10] rfl,?_⟩
 all_goals conv=>whnf
 all_goals rfl
end
section
open Go Go.AM Go.Sort Go.Shelf
def axa {X:Type}(P:Program)(g:FuncId)(i:am (am D))(δ:X ->D)(j:X ->X ->Int):Prop:=
 ∀(x y:X) (W:aS) (A:Nat ->Prop) (u v:Value) (vs:am Value),(∀b,A b ->b<W.heap.size) ->RD W A (δ x) u ->RD W A (δ y) v ->RDf W A vs i ->
  Calls P g (#[u,v]++vs.toArray) W λe w'=>e= .returned (.int .i64 (j x y))/\ ∃q os,w'=grow (W.drewN q) os
section
variable {P:Program}{ρ:Ren}{X:Type}
abbrev Jt (w:aS)(A:Nat ->Prop)(δ:X ->D):={p:Value×X //RD w A (δ p.2) p.1}
theorem aoc {w:aS}{A:Nat ->Prop}{δ:X ->D}{b:Nat}: ∀(xs:am X) (o:Nat),RDs w A b 1 o (xs.map λx=> [δ x]) -> ∃g:am (Jt w A δ),g.map (λp=>p.1.2)=xs /\ ∀j p,g[j]? =some p ->w.cell? ⟨b,o+j,none⟩=some p.1.1
 | [],_,_=>⟨[],rfl,λj p h=>by simp at h⟩
 |x::r,o,h=>by
  simp only[bF,RDs,RDc]at h;obtain⟨_,⟨⟨v,l,I⟩,_⟩,J⟩:=h;obtain⟨g,P,R⟩:=aoc r (o+1) J;refine⟨⟨(v,x),I⟩::g,by simp[P],λj p i=>?_⟩;cases j with
  |zero=>simp at i;subst i;exact l
  |succ j=>
   have:=R j p (by simpa using i);rw[<- this];congr 2;omega
theorem aoF {w:aS}{ok:Nat ->Prop}{δ:X ->D}{b:Nat}: ∀(xs:am X) (o:Nat),(∀j x,xs[j]? =some x -> ∃v,w.cell? ⟨b,o+j,none⟩=some v /\RD w ok (δ x) v) ->RDs w ok b 1 o (xs.map λx=> [δ x])
 | [],_,_=>by simp only[de,RDs]
 |x::r,o,h=>by
  simp only[bF,RDs,RDc];refine⟨rfl,⟨?_,trivial⟩,aoF r (o+1) λj x l=>?_⟩
  ·exact h 0 x rfl
  obtain⟨v,g,i⟩:=h (j+1) x (by simpa using l);exact⟨v,by rw[<- g];congr 2;omega,i⟩
theorem Yf {α:Type} [cP α](enc:α ->Value)(w:aS)(g m:Nat)(j:bS α)(os:bS Obj){b:Nat}(l:b<w.heap.size)(i:b≠g):(sortWorld enc w g 0 m j os).heap[b]? =w.heap[b]? :=by
 unfold sortWorld;rw[heap_grow_old _ _ (by simpa using l)];simp only[putRow,mapBlock,heap_ahead];rw[bS.getElem?_modify,cA (Ne.symm i)]
theorem Yg {α:Type} [cP α](enc:α ->Value)(w:aS)(g m:Nat)(i:bS α)(os:bS Obj){c:bS Value}{e:TypeId}{j:Nat×Nat}(l:w.heap[g]? =some (.cells c e j)):
 (sortWorld enc w g 0 m i os).heap[g]? =some (.cells (putCells enc 0 i c) e j):=by
 have o:g<w.heap.size:=(bS.getElem?_eq_some_iff.1 l).1;unfold sortWorld;rw[heap_grow_old _ _ (by simpa using o)];simp only[putRow,mapBlock,heap_ahead];rw[bS.getElem?_modify,bO rfl,l];rfl
theorem Yt {α:Type} [cP α](enc:α ->Value)(g:bS α)(c:bS Value):(putCells enc 0 g c).size=c.size:=by simp[putCells]
theorem aaA {α:Type} [cP α](enc:α ->Value)(g:bS α)(c:bS Value){j:Nat}(l:j<g.size)(i:j<c.size):(putCells enc 0 g c)[j]? =some (enc g[j]!):=by
 simp[putCells,l,i]
theorem amz (L:SlLaysF.n6 P ρ)(al:xT P (ρ.f 6)=true)(δ:X ->D)(cf:X ->X ->Int)(hO:SWO (λx y=>decide (cf x y<0)))(g:FuncId)
 (R:am (am D)) (a8:xT P g=true) (hc:axa P g R δ cf) (xs:am X) (a1:xs≠ []) (a0:xs.length<4611686018427387904):
 zA P (ρ.f 6) [.c (.own 0 1 xs.length),.c (.d (.fn g R))] [.arr 1 (xs.map λx=> [δ x]) false]
  (λr=> ∃ys:am X,ys.Perm xs /\ys.Pairwise (λa b=> ¬cf b a<0)/\r=⟨.tup [],[.arr 1 (ys.map λx=> [δ x]) false]⟩):=by
 refine⟨al,λw A ι vals hA hH hP bf hW=>?_⟩;obtain⟨⟨_,hn,a4⟩,_⟩:=hP 0 _ rfl;rw[aW]at hn;rcases a4 with⟨_,h0⟩|⟨b,hb,a3,_,au⟩
 ·exact absurd (by simpa using h0) a1
 obtain⟨bg,⟨te,U⟩,ad⟩:=au rfl;rw[aW,cZ]at ad;have af:Go.AM.Handed ι [.arr 1 (xs.map λx=> [δ x]) false] b:=⟨0,_,rfl,hb⟩;have a7:b<w.heap.size:=hH.1 b af;have ak: ∀l,A l ->l≠b:=λl h e=>(hA l h).2 (e▸af)
 match vals,hW with
 | [],hW=>exact hW.elim
 | [_],hW=>exact hW.2.elim
 |_::_::_::_,hW=>exact hW.2.2.elim
 | [v1,v2],hW=>
 obtain⟨ax,ay,_⟩:=hW;have ay: ∃vs:am Value,v2= .func (.func g) #[] vs.toArray /\RDf w A vs R:=by
  have:RD w A (.fn g R) v2:=ay;simpa only[RD]using this
 obtain⟨vs,rfl,be⟩:=ay;have ax: ∃cap,v1= .slice (some ⟨b,0,none⟩) xs.length cap:=by
  rcases ax with⟨h,_⟩|⟨l,cap,t,h1,h2,h3,_⟩
  ·rw[hb]at h;cases h
  rw[hb]at h1;cases h1;exact⟨cap,h3⟩
 obtain⟨cap,rfl⟩:=ax;obtain⟨ds,an,ag⟩:=aoc xs 0 a3;have ah:ds.length=xs.length:=by rw[<- an];simp
 obtain⟨d0,bh⟩: ∃d0,d0∈ds:=List.exists_mem_of_ne_nil ds (λe=>a1 (by rw[<- an,e];rfl));have:cP (Jt w A δ):=⟨d0⟩;have a2:OneCell (λp:Jt w A δ=>p.1.1):=λp=>CR.one (ι:=ι) (w:=w) (ok:=A) (c:=.d (δ p.1.2)) p.2 rfl
 have az:SWO (ltOf λx y:Jt w A δ=>cf x.1.2 y.1.2):=⟨λx=>hO.irrefl _,λx y z=>hO.trans _ _ _,λx y z=>hO.ntrans _ _ _⟩;have ai:Holds (λp:Jt w A δ=>p.1.1) w b 0 ds.toArray:=by
  intro j hj;have aj:j<ds.length:=by simpa using hj
  constructor
  ·have:=ag j ds[j] (am.getElem?_eq_getElem aj);rw[this,getElem!_pos ds.toArray j hj];rfl
  simp only[aS.frozen?,U];simp
 have ar:CmpLays1 P g vs.toArray (λp:Jt w A δ=>p.1.1) (λx y=>cf x.1.2 y.1.2) b 0 ds.toArray.size w:=by
  intro m os dk bi x y;have hk:zP w (sortWorld (λp:Jt w A δ=>p.1.1) w b 0 m dk os) A A:=λl h=>⟨h,Yf _ w b m dk os (hA l h).1 (ak l h)⟩
  have bd: ∀l,A l ->l<(sortWorld (λp:Jt w A δ=>p.1.1) w b 0 m dk os).heap.size:=λl h=>by
   have:=(hA l h).1;unfold sortWorld;rw[size_grow,size_putRow,heap_ahead];omega
  exact hc x.1.2 y.1.2 (sortWorld (λp:Jt w A δ=>p.1.1) w b 0 m dk os) A x.1.1 y.1.1 vs bd (RD.keep hk _ _ x.2) (RD.keep hk _ _ y.2) (RDf.keep hk _ _ be)
 have eg: ∀args w,(callFunc g args).run P w= .ok (.enter g args) w:=λargs w=>jI a8 args w
 have ac:=Any.slices_SortFunc L (λp:Jt w A δ=>p.1.1) a2 (λx y=>cf x.1.2 y.1.2) az g vs.toArray b 0 cap ds.toArray w eg ar ai a7 (by simpa[ah]using a0);rw[show ds.toArray.size=xs.length by simp[ah]]at ac;refine ac.mono ?_;rintro e w' ⟨rfl,o,n,os,av,aw,rfl⟩;obtain⟨p1,_,p3⟩:=av;have aa:o.size=xs.length:=by rw[p1];simp[ah]
 have a5:(o.toList.map λp=>p.1.2).length=xs.length:=by simp[aa]
 refine⟨_,_,rfl,⟨o.toList.map λp=>p.1.2,?_,?_,rfl⟩,⟨aP _,ι,?_,?_,?_,?_,?_,?_⟩,?_⟩
 ·have:o.toList.Perm ds:=by
   have e1:o.extract 0 xs.length=o:=by rw[<- aa];simp
   have e2:ds.toArray.extract 0 xs.length=ds.toArray:=by rw[<- ah];simp
   rw[e1,e2]at p3;exact p3
  rw[<- an];exact this.map _
 ·rw[df,List.pairwise_iff_getElem];intro i j hi hj ba;have a9:i<o.size:=by simpa using hi
  have aj:j<o.size:=by simpa using hj
  have:=aw i j (aJ _) ba (by rw[<- aa];exact aj);rw[getElem!_pos o j aj,getElem!_pos o i a9]at this;simpa[ltOf]using this
 ·exact⟨[],rfl,trivial⟩
 ·intro p x hp;have hp:aget [(0,Pl.arr 1 ((o.toList.map λp=>p.1.2).map λx=> [δ x]) false)] p=some x:=hp;obtain⟨rfl,rfl⟩:=zy hp;have ae:=Yg (λp:Jt w A δ=>p.1.1) w b n o os U;have aq:zP w (sortWorld (λp:Jt w A δ=>p.1.1) w b 0 n o os) A (Fr.ok ⟨w,A,Go.AM.Handed ι [.arr 1 (xs.map λx=> [δ x]) false],λ_=>none⟩ ι (yG (zN 0 1) [Pl.arr 1 ((o.toList.map λp=>p.1.2).map λx=> [δ x]) false]) (sortWorld (λp:Jt w A δ=>p.1.1) w b 0 n o os)):=by
   intro l h;refine⟨⟨.inl h,?_,?_⟩,Yf _ w b n o os (hA l h).1 (ak l h)⟩
   ·have:=(hA l h).1;unfold sortWorld;rw[size_grow,size_putRow,heap_ahead];omega
   rintro⟨p,x,J,_,I⟩;have J:aget [(0,Pl.arr 1 ((o.toList.map λp=>p.1.2).map λx=> [δ x]) false)] p=some x:=J;obtain⟨rfl,rfl⟩:=zy J;have I:(ι 0).b=some l:=I;rw[hb]at I;exact ak l h (aX I).symm
  refine⟨Nat.one_pos,by rw[aW,a5,hn],.inr ⟨b,hb,?_,(λh=>by cases h),λ_=>⟨_,⟨te,ae⟩,by rw[Yt,aW,a5,cZ];exact ad⟩⟩⟩;refine aoF _ 0 λj x hj=>?_
  rw[am.getElem?_map]at hj;cases ab:o.toList[j]? with
  |none=>rw[ab]at hj;cases hj
  |some q=>
   rw[ab]at hj;cases hj;have ao:j<o.size:=by have:=(am.getElem?_eq_some_iff.1 ab).1;simpa using this
   refine⟨q.1.1,?_,RD.keep aq _ _ q.2⟩;simp only[cE,ae];rw[cL,aaA _ _ _ ao (by omega),getElem!_pos o j ao];rw[bS.getElem?_toList,bS.getElem?_eq_getElem ao]at ab;simp[aX ab]
 ·intro p q x y l J hy bc;have J:aget [(0,Pl.arr 1 ((o.toList.map λp=>p.1.2).map λx=> [δ x]) false)] p=some x:=J;have hy:aget [(0,Pl.arr 1 ((o.toList.map λp=>p.1.2).map λx=> [δ x]) false)] q=some y:=hy;obtain⟨rfl,_⟩:=zy J;obtain⟨rfl,_⟩:=zy hy;exact absurd rfl bc
 ·intro p x l J I;have J:aget [(0,Pl.arr 1 ((o.toList.map λp=>p.1.2).map λx=> [δ x]) false)] p=some x:=J;obtain⟨rfl,rfl⟩:=zy J;have I:(ι 0).b=some l:=I;rw[hb]at I;cases I;exact .inl af
 ·intro p x J;have J:aget [(0,Pl.arr 1 ((o.toList.map λp=>p.1.2).map λx=> [δ x]) false)] p=some x:=J;obtain⟨rfl,rfl⟩:=zy J;rfl
 ·intro p x _ _;rfl
 refine⟨rfl,rfl,rfl,?_,λl a6 hm=>?_,λl t m hs=>?_⟩
 ·unfold sortWorld;rw[size_grow,size_putRow,heap_ahead];omega
 ·exact Yf _ w b n o os a6 (λe=>hm (e▸af))
 by_cases e:l=b
 ·subst e;simp only[bR,U]at hs;simp only[bR,Yg (λp:Jt w A δ=>p.1.1) w l n o os U,Yt];exact hs
 have bb:l<w.heap.size:=by
  rcases dg l w.heap.size with h|h
  ·exact h
  simp[bR,bS.getElem?_eq_none h]at hs
 simp only[bR,Yf _ w b n o os bb e];exact hs
end
end
end Go.Proofs.YtkdijaiaplkliaaGreatDoor
namespace Go.Proofs
section
open Go.Shelf
def Tryz.lays122_ren:dh:=⟨fun|122=>100|215=>151|n=>n,fun|3=>3|4=>4|n=>n,fun|n=>n⟩
theorem Tryz.lays122:Go.Proofs.Lays.n122 Tryz.prog Tryz.lays122_ren:={
 mixed:=by kernel_rfl
 f122:=Tryz.func100.trans (aI some (by kernel_rfl))
 f215:=Tryz.func151.trans (aI some (by kernel_rfl))
 t3:=Tryz.underlying3
 a3:=Tryz.isAgg3
 z3:=Tryz.sizeOf3
 v3:=Tryz.zeroValue3
 t4:=Tryz.underlying4
 a4:=Tryz.isAgg4
 z4:=Tryz.sizeOf4
 v4:=Tryz.zeroValue4}
def Tryz.sortInts_ren:dh:=⟨fun|6=>138|15=>178|14=>177|28=>215|29=>216|20=>186|21=>208|22=>209|23=>210|24=>211|25=>212|26=>213|27=>214|46=>232|47=>233|48=>234|49=>235|50=>236|57=>259|n=>n,fun|22=>149|24=>3|25=>171|3=>3|39=>228|0=>0|53=>288|55=>290|4=>4|46=>282|45=>281|50=>78|5=>5|9=>9|66=>302|70=>306|76=>323|77=>100|n=>n,fun|n=>n⟩
theorem Tryz.sortInts:Go.Proofs.SlLaysF.n6 Tryz.prog Tryz.sortInts_ren:={
 mixed:=by kernel_rfl
 f6:=⟨Tryz.f138.name,by decide,Tryz.func138.trans (aI some (by kernel_rfl))⟩
 f14:=⟨Tryz.f177.name,by decide,Tryz.func177.trans (aI some (by kernel_rfl))⟩
 f15:=Tryz.func178.trans (aI some (by kernel_rfl))
 f20:=⟨Tryz.f186.name,by decide,Tryz.func186.trans (aI some (by kernel_rfl))⟩
 f21:=⟨Tryz.f208.name,by decide,Tryz.func208.trans (aI some (by kernel_rfl))⟩
 f22:=⟨Tryz.f209.name,by decide,Tryz.func209.trans (aI some (by kernel_rfl))⟩
 f23:=⟨Tryz.f210.name,by decide,Tryz.func210.trans (aI some (by kernel_rfl))⟩
 f24:=⟨Tryz.f211.name,by decide,Tryz.func211.trans (aI some (by kernel_rfl))⟩
 f25:=⟨Tryz.f212.name,by decide,Tryz.func212.trans (aI some (by kernel_rfl))⟩
 f26:=⟨Tryz.f213.name,by decide,Tryz.func213.trans (aI some (by kernel_rfl))⟩
 f27:=⟨Tryz.f214.name,by decide,Tryz.func214.trans (aI some (by kernel_rfl))⟩
 f28:=Tryz.func215.trans (aI some (by kernel_rfl))
 f29:=Tryz.func216.trans (aI some (by kernel_rfl))
 f46:=⟨Tryz.f232.name,by decide,Tryz.func232.trans (aI some (by kernel_rfl))⟩
 f47:=Tryz.func233.trans (aI some (by kernel_rfl))
 f48:=Tryz.func234.trans (aI some (by kernel_rfl))
 f49:=⟨Tryz.f235.name,by decide,Tryz.func235.trans (aI some (by kernel_rfl))⟩
 f50:=⟨Tryz.f236.name,by decide,Tryz.func236.trans (aI some (by kernel_rfl))⟩
 f57:=⟨Tryz.f259.name,by decide,Tryz.func259.trans (aI some (by kernel_rfl))⟩
 t0:=Tryz.underlying0
 a0:=Tryz.isAgg0
 z0:=Tryz.sizeOf0
 v0:=Tryz.zeroValue0
 t3:=Tryz.underlying3
 a3:=Tryz.isAgg3
 z3:=Tryz.sizeOf3
 v3:=Tryz.zeroValue3
 t4:=Tryz.underlying4
 a4:=Tryz.isAgg4
 z4:=Tryz.sizeOf4
 v4:=Tryz.zeroValue4
 t5:=Tryz.underlying5
 a5:=Tryz.isAgg5
 z5:=Tryz.sizeOf5
 v5:=Tryz.zeroValue5
 t9:=Tryz.underlying9
 a9:=Tryz.isAgg9
 z9:=Tryz.sizeOf9
 v9:=Tryz.zeroValue9
 t22:=Tryz.underlying149
 a22:=Tryz.isAgg149
 z22:=Tryz.sizeOf149
 v22:=Tryz.zeroValue149
 a24:=Tryz.isAgg3
 z24:=Tryz.sizeOf3
 t25:=Tryz.underlying171
 a25:=Tryz.isAgg171
 z25:=Tryz.sizeOf171
 v25:=Tryz.zeroValue171
 t39:=Tryz.underlying228
 a39:=Tryz.isAgg228
 z39:=Tryz.sizeOf228
 v39:=Tryz.zeroValue228
 t45:=Tryz.underlying281
 a45:=Tryz.isAgg281
 z45:=Tryz.sizeOf281
 v45:=Tryz.zeroValue281
 t46:=Tryz.underlying282
 a46:=Tryz.isAgg282
 z46:=Tryz.sizeOf282
 v46:=Tryz.zeroValue282
 t50:=Tryz.underlying78
 a50:=Tryz.isAgg78
 z50:=Tryz.sizeOf78
 v50:=Tryz.zeroValue78
 t53:=Tryz.underlying288
 a53:=Tryz.isAgg288
 z53:=Tryz.sizeOf288
 v53:=Tryz.zeroValue288
 t55:=Tryz.underlying290
 a55:=Tryz.isAgg290
 z55:=Tryz.sizeOf290
 v55:=Tryz.zeroValue290
 t66:=Tryz.underlying302
 a66:=Tryz.isAgg302
 z66:=Tryz.sizeOf302
 v66:=Tryz.zeroValue302
 t70:=Tryz.underlying306
 a70:=Tryz.isAgg306
 z70:=Tryz.sizeOf306
 v70:=Tryz.zeroValue306
 t76:=Tryz.underlying323
 a76:=Tryz.isAgg323
 z76:=Tryz.sizeOf323
 v76:=Tryz.zeroValue323
 t77:=Tryz.underlying100
 a77:=Tryz.isAgg100
 z77:=Tryz.sizeOf100
 v77:=Tryz.zeroValue100}
def Tryz.lays189_ren:dh:=⟨fun|189=>184|125=>178|257=>221|128=>215|129=>216|294=>243|295=>244|296=>245|297=>246|298=>247|299=>248|216=>249|300=>250|301=>251|328=>269|329=>233|330=>234|331=>270|332=>271|215=>151|343=>282|n=>n,fun|28=>149|3=>3|46=>228|0=>0|51=>288|53=>290|4=>4|183=>282|182=>281|131=>78|5=>5|9=>9|218=>302|222=>306|228=>323|229=>100|n=>n,fun|n=>n⟩
theorem Tryz.lays189:Go.Proofs.Lays.n189 Tryz.prog Tryz.lays189_ren:={
 mixed:=by kernel_rfl
 f125:=Tryz.func178.trans (aI some (by kernel_rfl))
 f128:=Tryz.func215.trans (aI some (by kernel_rfl))
 f129:=Tryz.func216.trans (aI some (by kernel_rfl))
 f189:=Tryz.func184.trans (aI some (by kernel_rfl))
 f215:=Tryz.func151.trans (aI some (by kernel_rfl))
 f216:=Tryz.func249.trans (aI some (by kernel_rfl))
 f257:=Tryz.func221.trans (aI some (by kernel_rfl))
 f294:=Tryz.func243.trans (aI some (by kernel_rfl))
 f295:=Tryz.func244.trans (aI some (by kernel_rfl))
 f296:=Tryz.func245.trans (aI some (by kernel_rfl))
 f297:=Tryz.func246.trans (aI some (by kernel_rfl))
 f298:=Tryz.func247.trans (aI some (by kernel_rfl))
 f299:=Tryz.func248.trans (aI some (by kernel_rfl))
 f300:=Tryz.func250.trans (aI some (by kernel_rfl))
 f301:=Tryz.func251.trans (aI some (by kernel_rfl))
 f328:=Tryz.func269.trans (aI some (by kernel_rfl))
 f329:=Tryz.func233.trans (aI some (by kernel_rfl))
 f330:=Tryz.func234.trans (aI some (by kernel_rfl))
 f331:=Tryz.func270.trans (aI some (by kernel_rfl))
 f332:=Tryz.func271.trans (aI some (by kernel_rfl))
 f343:=Tryz.func282.trans (aI some (by kernel_rfl))
 t0:=Tryz.underlying0
 a0:=Tryz.isAgg0
 z0:=Tryz.sizeOf0
 v0:=Tryz.zeroValue0
 t3:=Tryz.underlying3
 a3:=Tryz.isAgg3
 z3:=Tryz.sizeOf3
 v3:=Tryz.zeroValue3
 t4:=Tryz.underlying4
 a4:=Tryz.isAgg4
 z4:=Tryz.sizeOf4
 v4:=Tryz.zeroValue4
 t5:=Tryz.underlying5
 a5:=Tryz.isAgg5
 z5:=Tryz.sizeOf5
 v5:=Tryz.zeroValue5
 t9:=Tryz.underlying9
 a9:=Tryz.isAgg9
 z9:=Tryz.sizeOf9
 v9:=Tryz.zeroValue9
 t28:=Tryz.underlying149
 a28:=Tryz.isAgg149
 z28:=Tryz.sizeOf149
 v28:=Tryz.zeroValue149
 t46:=Tryz.underlying228
 a46:=Tryz.isAgg228
 z46:=Tryz.sizeOf228
 v46:=Tryz.zeroValue228
 t51:=Tryz.underlying288
 a51:=Tryz.isAgg288
 z51:=Tryz.sizeOf288
 v51:=Tryz.zeroValue288
 t53:=Tryz.underlying290
 a53:=Tryz.isAgg290
 z53:=Tryz.sizeOf290
 v53:=Tryz.zeroValue290
 t131:=Tryz.underlying78
 a131:=Tryz.isAgg78
 z131:=Tryz.sizeOf78
 v131:=Tryz.zeroValue78
 t182:=Tryz.underlying281
 a182:=Tryz.isAgg281
 z182:=Tryz.sizeOf281
 v182:=Tryz.zeroValue281
 t183:=Tryz.underlying282
 a183:=Tryz.isAgg282
 z183:=Tryz.sizeOf282
 v183:=Tryz.zeroValue282
 t218:=Tryz.underlying302
 a218:=Tryz.isAgg302
 z218:=Tryz.sizeOf302
 v218:=Tryz.zeroValue302
 t222:=Tryz.underlying306
 a222:=Tryz.isAgg306
 z222:=Tryz.sizeOf306
 v222:=Tryz.zeroValue306
 t228:=Tryz.underlying323
 a228:=Tryz.isAgg323
 z228:=Tryz.sizeOf323
 v228:=Tryz.zeroValue323
 t229:=Tryz.underlying100
 a229:=Tryz.isAgg100
 z229:=Tryz.sizeOf100
 v229:=Tryz.zeroValue100}
end
end Go.Proofs
namespace Go.Proofs.YtkdijaiaplkliaaGreatDoor
section
open Go Go.AM Go.Proofs Go.RowKit Go.Sort
def aeD (x y z:Int):Int:=bif x !=0 then x else bif y !=0 then y else z
theorem aul (W:aS)(b:Nat)(t:TypeId)(f:Nat×Nat)(x y z:Int)(h:W.heap[b]? =some (.cells #[.int .i64 x,.int .i64 y,.int .i64 z] t f)):
 Calls Tryz.prog 140 #[.slice (some ⟨b,0,none⟩) 3 3] W λe w'=>e= .returned (.int .i64 (aeD x y z))/\w'=W:=by
 have r:W.cell? ⟨b,0,none⟩=some (.int .i64 x):=by rw[cH h];rfl
 have I:W.cell? ⟨b,1,none⟩=some (.int .i64 y):=by rw[cH h];rfl
 have J:W.cell? ⟨b,2,none⟩=some (.int .i64 z):=by rw[cH h];rfl
 go_enter Tryz.func140,Tryz.ntmps140
 go_wp2
 go_loopw [8] (λi wr=> ∃k:Nat,k<=3 /\i= .int .i64 k /\wr=W /\(1<=k ->x=0)/\(2<=k ->y=0)/\(3<=k ->z=0)) (λi _=>3 -(intOf i).toNat)
 case atStart=>exact⟨0,by omega,rfl,rfl,λh=>by omega,λh=>by omega,λh=>by omega⟩
 case round=>
  obtain⟨k,hk,rfl,rfl,h0,o,p⟩:=hrel;obtain rfl|rfl|rfl|rfl:k=0\/k=1\/k=2\/k=3:=by omega
  ·by_cases g:x=0
   ·subst g
    go_wp2
    go_roundw
    case rel=>exact⟨1,by omega,by go_num,by trivial,λ_=>by trivial,λh=>by omega,λh=>by omega⟩
    case measure=>simp[intOf]
   go_wp2
   go_ret
   refine⟨?_,rfl⟩;unfold aeD;rw[show(x !=0)=true by simpa using g];rfl
  ·have g:=h0 (by omega);subst g;by_cases j:y=0
   ·subst j
    go_wp2
    go_roundw
    case rel=>exact⟨2,by omega,by go_num,by trivial,λ_=>by trivial,λ_=>by trivial,λh=>by omega⟩
    case measure=>simp[intOf]
   go_wp2
   go_ret
   refine⟨?_,rfl⟩;unfold aeD;rw[show(y !=0)=true by simpa using j];rfl
  ·have g:=h0 (by omega);have j:=o (by omega);subst g j;by_cases l:z=0
   ·subst l
    go_wp2
    go_roundw
    case rel=>exact⟨3,by omega,by go_num,by trivial,λ_=>by trivial,λ_=>by trivial,λ_=>by trivial⟩
    case measure=>simp[intOf]
   go_wp2
   go_ret
   exact⟨rfl,rfl⟩
  have g:=h0 (by omega);have j:=o (by omega);have l:=p (by omega);subst g j l
  go_wp2
  go_ret
  exact⟨rfl,rfl⟩
def va (l:am Spa)(i:Int):Spa:=l.getD i.toNat ⟨0,0⟩
def Kd (l:am Spa)(a b:Int):Int:=aeD (yZ (va l a).a (va l b).a) (yZ (va l a).b (va l b).b) (yZ a b)
theorem acu {w:aS}{ok:Nat ->Prop}{b sz:Nat}: ∀(x:am Spa) (o:Nat),RDs w ok b sz o (qW x) -> ∀(i:Nat) (h:i<x.length),sz=2 /\w.cell? ⟨b,o+i*2,none⟩=some (.int .i64 x[i].a)/\w.cell? ⟨b,o+i*2+1,none⟩=some (.int .i64 x[i].b)
 | [],_,_,i,h=>by simp at h
 |v::r,o,h,i,hi=>by
  simp only[qW,bF,RDs,Spa.ds,RDc,RD]at h;obtain⟨g,⟨⟨_,j,rfl,_⟩,⟨_,l,rfl,_⟩,_⟩,p⟩:=h;have hs:sz=2:=by simpa using g.symm
  subst hs;cases i with
  |zero=>exact⟨rfl,by simpa using j,by simpa using l⟩
  |succ i=>
   obtain⟨P,I,J⟩:=acu r (o+2) p i (by simpa using hi);refine⟨rfl,?_,?_⟩
   ·rw[show o+(i+1)*2=o+2+i*2 by omega];exact I
   rw[show o+(i+1)*2=o+2+i*2 by omega];exact J
theorem atx (W:aS)(x y:Int):Calls Tryz.prog 100 #[.int .i64 x,.int .i64 y] W λe w'=>e= .returned (.int .i64 (yZ x y))/\w'=W:=by
 refine(Any.cmp_Compare_int Tryz.lays122 x y W).mono ?_;rintro e w' ⟨rfl,rfl⟩;refine⟨?_,rfl⟩;have:Lib.compareInt x y=yZ x y:=by
  unfold Lib.compareInt yZ;by_cases g:x<y
  ·rw[bO g,bB g];rfl
  rw[cA g,bQ g,aA];by_cases i:x>y
  ·rw[bO i,bB i];rfl
  rw[cA i,bQ i];rfl
 rw[this]
theorem WH {W:aS}{p:Addr}{v:Value}(o:Obj)(h:W.cell? p=some v):(W.alloc o).drew.cell? p=some v:=by
 have g:p.block<W.heap.size:=by
  rcases dg p.block W.heap.size with e|e
  ·exact e
  simp[cE,bS.getElem?_eq_none e]at h
 rw[<- h];show(W.alloc o).cell? p=_;simp only[cE,World.alloc];rw[bS.getElem?_push_lt g,bS.getElem?_eq_getElem g]
theorem auh (l:am Spa)(W:aS)(a b:Nat)(R:a<l.length)(U:b<l.length)(p co g i cap:Nat)(P:W.cell? ⟨p,co,none⟩=some (.slice (some ⟨g,i,none⟩) l.length cap))
 (r:W.cell? ⟨g,i+a*2,none⟩=some (.int .i64 l[a].a)) (a2:W.cell? ⟨g,i+a*2+1,none⟩=some (.int .i64 l[a].b)) (I:W.cell? ⟨g,i+b*2,none⟩=some (.int .i64 l[b].a)) (J:W.cell? ⟨g,i+b*2+1,none⟩=some (.int .i64 l[b].b)):
 Calls Tryz.prog 139 #[.int .i64 a,.int .i64 b,.pointer (some ⟨p,co,none⟩)] W λe w'=>e= .returned (.int .i64 (Kd l a b))/\ ∃q os,w'=grow (W.drewN q) os:=by
 have j:Kd l a b=aeD (yZ l[a].a l[b].a) (yZ l[a].b l[b].b) (yZ a b):=by
  unfold Kd va;rw[show l.getD ((a:Int)).toNat ⟨0,0⟩=l[a]by simp[aY,am.getElem?_eq_getElem R],show l.getD ((b:Int)).toNat ⟨0,0⟩=l[b]by simp[aY,am.getElem?_eq_getElem U]]
 rw[j];clear j;generalize l[a]=u at*;generalize l[b]=v at*
 go_enter Tryz.func139,Tryz.ntmps139
 go_wp2
 go_region_held3 (λW'=>W'.cell? ⟨p,co,none⟩=some (.slice (some ⟨g,i,none⟩) l.length cap)/\W'.cell? ⟨g,i+a*2,none⟩=some (.int .i64 u.a)/\W'.cell? ⟨g,i+a*2+1,none⟩=some (.int .i64 u.b)/\W'.cell? ⟨g,i+b*2,none⟩=some (.int .i64 v.a)/\W'.cell? ⟨g,i+b*2+1,none⟩=some (.int .i64 v.b))
  (first|exact⟨P,r,a2,I,J⟩|exact⟨WH _ P,WH _ r,WH _ a2,WH _ I,WH _ J⟩)
  (first
   |(go_at_call 100;refine Calls.mono (atx _ _ _) ?_;rintro e w2 ⟨rfl,rfl⟩)
   |(go_at_call 140;refine Calls.mono (aul _ _ _ _ _ _ _ (heap_alloc_new _ _)) ?_;rintro e w3 ⟨rfl,rfl⟩))
 go_wp2
 go_ret
 refine⟨rfl,?_⟩;refine⟨1, #[_],di ((show∀(w:aS) (o:Obj),(w.alloc o).drew=grow (w.drewN 1) #[o]from λw o=>by rw[alloc_eq_grow];rfl) _ _) rfl⟩
end
section
open Go Go.AM
theorem adZ {α:Type}{R:α ->α ->Prop}(g: ∀a b,R a b ->R b a ->a=b): ∀{p j:am α},p.Perm j ->p.Pairwise R ->j.Pairwise R ->p=j
 | [],j,h,_,_=>h.nil_eq
 |a::r,[],h,_,_=>absurd h.length_eq (by simp)
 |a::r,b::s,h,I,J=>by
  have e:a=b:=by
   by_cases i:a=b
   ·exact i
   have l:a∈b::s:=h.mem_iff.1 (by simp);have o:b∈a::r:=h.mem_iff.2 (by simp);have l:a∈s:=by rcases aZ.1 l with e|e;exact absurd e i;exact e
   have o:b∈r:=by rcases aZ.1 o with e|e;exact absurd e.symm i;exact e
   exact g a b ((bY.1 I).1 b o) ((bY.1 J).1 a l)
  subst e;rw[adZ g ((List.perm_cons a).1 h) (bY.1 I).2 (bY.1 J).2]
theorem arf {a b:Int}(h:yZ a b=0):a=b:=by
 unfold yZ at h;by_cases g:a<b
 ·rw[bB g]at h;cases h
 rw[bQ g,aA]at h;by_cases i:a>b
 ·rw[bB i]at h;cases h
 omega
theorem ar2 {x y z:Int}(h:aeD x y z=0):z=0:=by
 unfold aeD at h;cases g:(x !=0)
 ·rw[g,aA]at h;cases i:(y !=0)
  ·rw[i,aA]at h;exact h
  rw[i,aG]at h;subst h;cases i
 rw[g,aG]at h;subst h;cases g
theorem acs (l:am Spa):CmpOK (Kd l):=
 CmpOK.both (CmpOK.onF V9 (f:=λi=>(va l i).a)) (CmpOK.both (CmpOK.onF V9 (f:=λi=>(va l i).b)) V9)
theorem avc (l:am Spa)(a b:Int)(i: ¬Kd l b a<0)(j: ¬Kd l a b<0):a=b:=by
 have g:Kd l a b=0:=by
  have:=(acs l).anti b a;omega
 exact arf (ar2 g)
def wR (n:Nat):am Int:=(List.range n).map Int.ofNat
def uB (l:am Spa):am Int:=yS (Kd l) (wR l.length)
theorem aeC (l:am Spa):(uB l).Perm (wR l.length):=u0 (acs l) _
theorem ahv (l:am Spa): ∀i∈uB l,0<=i /\i<l.length:=λi hi=>by
 have:=(aeC l).mem_iff.1 hi;simp only[wR,aU,List.mem_range]at this;obtain⟨k,h,rfl⟩:=this;exact⟨c8 k,by simpa using h⟩
theorem kI (l:am Spa):(uB l).length=l.length:=by rw[(aeC l).length_eq];simp[wR]
theorem aui (l:am Spa){ys:am Int}(j:ys.Perm (wR l.length))(hs:ys.Pairwise λa b=> ¬Kd l b a<0):ys=uB l:=
 adZ (R:=λa b=> ¬Kd l b a<0) (λa b g i=>avc l a b g i) (j.trans (aeC l).symm) hs
  ((JG (Kd l) (acs l) (wR l.length) [] List.Pairwise.nil).2.imp fun{a b} h=>by have:=(acs l).anti b a;omega)
end
section
open Go Go.AM Go.Shelf
attribute [local irreducible] Sat zA zY
def ve (l:am Spa)(g:am Int):Nat ->Nat ->Nat ->am Int ->Int×am Int
 |0,_,_,i=>(-9223372036854775808,i)
 |f+1,lo,hi,i=>bif decide (hi<=lo)then(-9223372036854775808,i)else
   (zU true (zU true (va l (g.getD ((lo+hi)/2) 0)).b (ve l g f lo ((lo+hi)/2) i).1) (ve l g f ((lo+hi)/2+1) hi (ve l g f lo ((lo+hi)/2) i).2).1,
    (ve l g f ((lo+hi)/2+1) hi (ve l g f lo ((lo+hi)/2) i).2).2.set ((lo+hi)/2) (zU true (zU true (va l (g.getD ((lo+hi)/2) 0)).b (ve l g f lo ((lo+hi)/2) i).1) (ve l g f ((lo+hi)/2+1) hi (ve l g f lo ((lo+hi)/2) i).2).1))
theorem apO {P:Program}{f:FuncId ->am W ->bN W}{t:ATr}{K g:S ->Prop}{s:S}(i: ∀s,K s ->g s)(h:mwtrR P f t s K):mwtrR P f t s g:=
 JT (.tree t) (Q:=λ_=>K) (Q':=λ_=>g) (λ_=>i) s h
def ay9:ACode ->ATr
 | .seq (.tree (.run _ t)) _=>t
 |_=>.fin
noncomputable def mostTr:ATr:=ay9 (xp (xp (xp Un.A.code)))
theorem alm (l:am Int)(m:Nat)(x:Int):(zg l).set ((m:Int)).toNat [.lit (.int .i64 x)]=zg (l.set m x):=by
 unfold zg;rw[cz];rfl
theorem aln {l:am Int}{m:Nat}(h:m<l.length)(x:am D):((zg l).set ((m:Int)).toNat x)[((m:Int)).toNat]? =some x:=
 am.getElem?_set_self (by rw[zB];exact h)
theorem ahX (l:am Spa){i:Int}(g:0<=i)(j:i<l.length):(qW l)[i.toNat]? =some (va l i).ds:=by
 have h:i.toNat<l.length:=by omega
 unfold qW va;rw[am.getElem?_map,aY,am.getElem?_eq_getElem h];rfl
theorem WU (l:am Spa)(i:am Int): ∀(f lo hi:Nat) (g:am Int),(ve l i f lo hi g).2.length=g.length
 |0,_,_,_=>rfl
 |f+1,lo,hi,g=>by
  simp only[ve];cases decide (hi<=lo)
  ·simp only[aA,List.length_set,WU l i f]
  rfl
theorem ap8 (l:am Spa)(g:am Int)(n:Nat)(hl:l.length=n)(hn:n<=1000000)(ai:g.length=n)(ad: ∀i∈g,0<=i /\i<l.length): ∀(f lo hi:Nat) (j:am Int),hi - lo<=f ->lo<=n ->hi<=n ->j.length=n ->
 zA Pg alr [.c (.d (.sl (qW l))),.agg [.own 0 1 n,.own 1 1 n],.c (int lo),.c (int hi)] [.arr 1 (zg g) false,.arr 1 (zg j) false]
  (λr=>r=⟨.w (.c (int (ve l g f lo hi j).1)),[.arr 1 (zg g) false,.arr 1 (zg (ve l g f lo hi j).2) false]⟩):=by
 intro f;induction f with
 |zero=>
  intro lo hi j h1 h2 h3 I;refine xX T8 Un.ok (by kernel_rfl) (by simp) ?_;refine zi (λh=>?_) (λh=>?_)
  ·exact rfl
  have:=aB h;omega
 |succ f ih=>
  intro lo hi j h1 h2 h3 I;simp only[ve];refine xX T8 Un.ok (by kernel_rfl) (by simp) ?_;refine zi (b:=decide ((lo:Int)>=(hi:Int))) (λh=>?_) (λh=>?_)
  ·have:=aD h;rw[show decide (hi<=lo)=true by simp;omega];exact rfl
  have:=aB h;have af:lo<hi:=by omega
  rw[show decide (hi<=lo)=false by simp;omega,aA];have ag:(lo+hi)/2<hi:=by omega
  have ah:lo<=(lo+hi)/2:=by omega
  have J:=ih lo ((lo+hi)/2) j (by omega) (by omega) (by omega) I;have R:=ih ((lo+hi)/2+1) hi (ve l g f lo ((lo+hi)/2) j).2 (by omega) (by omega) h3 (by rw[WU];exact I);have w1:aN.wrap ((lo:Int)+hi)=((lo+hi:Nat):Int):=by rw[yk (by omega) (by omega)];omega
  have w2:((lo+hi:Nat):Int).tdiv 2=(((lo+hi)/2:Nat):Int):=by rw[cB (by omega)];omega
  have w3:aN.wrap ((((lo+hi)/2:Nat):Int)+1)=(((lo+hi)/2+1:Nat):Int):=by rw[yk (by omega) (by omega)];omega
  have hv:=ad (g.getD ((lo+hi)/2) 0) (by rw[aY,am.getElem?_eq_getElem (by omega)];exact aE _);have ho:(zg g)[(((lo+hi)/2:Nat):Int).toNat]? =some [.lit (.int .i64 (g.getD ((lo+hi)/2) 0))]:=by
   rw[y5 (r:=g) (i:=(lo+hi)/2) (by omega),aY,am.getElem?_eq_getElem (by omega)];rfl
  have hs:=ahX l hv.1 hv.2;have wq:aN.wrap (((lo+hi)/2:Nat):Int)=(((lo+hi)/2:Nat):Int):=yk (by omega) (by omega);have aa:(ve l g f ((lo+hi)/2+1) hi (ve l g f lo ((lo+hi)/2) j).2).2.length=n:=by rw[WU,WU];exact I
  (conv=>whnf);refine⟨by omega,?_⟩;(conv=>whnf);rw[w1,w2,wq,w3];generalize ve l g f ((lo+hi)/2+1) hi (ve l g f lo ((lo+hi)/2) j).2=A2 at*;generalize ve l g f lo ((lo+hi)/2) j=A1 at*;generalize(lo+hi)/2=m at*;generalize g.getD m 0=ix at*;generalize va l ix=sp at*;obtain⟨sa,sb⟩:=sp;obtain⟨v1,aj⟩:=A1;obtain⟨v2,o⟩:=A2;simp only at*;have p:m<o.length:=by have:o.length=n:=aa;omega
  refine apO (P:=Pg) (f:=T8.f) (t:=mostTr) (K:=λs=>s=⟨[(5,cV (.ptr 5 0)),(9,zl m)],[(5,.box [.own 100000 1 n,.own 100001 1 n]),(100000,.arr 1 (zg g) false),(100001,.arr 1 ((zg o).set ((m:Int)).toNat [.lit (.int .i64 (zU true (zU true sb v1) v2))]) false)]⟩) ?_ ?_
  ·rintro _ rfl;(conv=>whnf);refine⟨by omega,by omega,?_⟩;(conv=>whnf);refine⟨_,aln p _,?_⟩;(conv=>whnf);rw[alm];rfl
  (conv=>whnf);have U:0<=(m:Int):=by omega
  have ab:(m:Int)<(n:Int):=by omega
  have ae:=hv.1;have ac:(zg o)[((m:Int)).toNat]? =some [.lit (.int .i64 o[m])]:=y5 p
  repeat' (first
   |((with_reducible refine bH U (bH ab ?_));conv=>whnf)
   |(refine zA.mono J ?_;rintro _ rfl;conv=>whnf)
   |(refine zA.mono R ?_;rintro _ rfl;conv=>whnf)
   |((with_reducible refine bH ae (dj _ (bH hs ?_)));refine⟨rfl,?_⟩;conv=>whnf)
   |((with_reducible refine dj _ (bH ho ?_));conv=>whnf)
   |((with_reducible refine dj _ (bH ac ?_));refine⟨aP 1,?_⟩;conv=>whnf)
   |((with_reducible refine bH ?_ ?_)<;>conv=>whnf)
   |rfl)
end
end Go.Proofs.YtkdijaiaplkliaaGreatDoor
namespace Go.AM
theorem jK {α:Type}{a b p:Nat}{x y z:α}(h:aget [(a,x),(b,y)] p=some z):(p=a /\z=x)\/(p≠a /\p=b /\z=y):=by
 rw[yb]at h;split at h
 ·rename_i e;cases h;exact .inl ⟨e.symm,rfl⟩
 rename_i e;obtain⟨i,j⟩:=zy h;exact .inr ⟨λg=>e g.symm,i,j⟩
theorem zA.conv {P:Program}{k:Nat}{args:am W}{hs:am Pl}{Q Q':Res ->Prop}(h:zA P k args hs Q)
 (hq: ∀r,Q r -> ∃g,Q' g /\ ∀F ι0 w' v,Zi F ι0 hs.length w' r v ->Zi F ι0 hs.length w' g v):zA P k args hs Q':=
 ⟨h.1,λw A ι vals j l o p I=>(h.2 w A ι vals j l o p I).mono λ_ _ ⟨v,r,U,J,hr,hg⟩=>
  let⟨g,i,R⟩:=hq r J
  ⟨v,g,U,i,R _ _ _ _ hr,hg⟩⟩
def Zo (pre:am D)(c:C)(post:am D):am C:=pre.map .d++c::post.map .d
theorem avw {ι ι':Nat ->Gh}{w:aS}{ok:Nat ->Prop}: ∀{l:am D}{vs:am Value},CRs ι w ok (l.map .d) vs ->CRs ι' w ok (l.map .d) vs
 | [],[],_=>trivial
 | [],_::_,h=>h.elim
 |_::_,[],h=>h.elim
 |_::_,_::_,h=>⟨h.1,avw h.2⟩
theorem ad5 {ι ι':Nat ->Gh}{w:aS}{ok:Nat ->Prop}{c c':C}(g: ∀v,CR ι w ok c v ->CR ι' w ok c' v){post:am D}: ∀{pre:am D}{vs:am Value},CRs ι w ok (Zo pre c post) vs ->CRs ι' w ok (Zo pre c' post) vs
 | [],[],h=>h.elim
 | [],v::vs,h=>⟨g v h.1,avw h.2⟩
 |_::_,[],h=>h.elim
 |d::pre,v::vs,h=>⟨h.1,ad5 g h.2⟩
theorem Zi.rename {F:Fr}{ι0:Nat ->Gh}{w':aS}{v:Value}{m m':Nat}{pre post:am D}{sz n:Nat}{i:am (am D)}{a b:Nat}{r r':Res}(R:a≠0)(hb:b≠0)
 (hr:yG (zN 0 r.pl.length) r.pl=[(0,.box (Zo pre (.own a sz n) post)),(a,.arr sz i false)]) (hv:r.v= .tup [])
 (af:yG (zN 0 r'.pl.length) r'.pl=[(0,.box (Zo pre (.own b sz n) post)),(b,.arr sz i false)]) (ag:r'.v= .tup []) (hm:m'<=r'.pl.length) (h0:1<=m) (ah:m'<=b)
 (h:Zi F ι0 m w' r v):Zi F ι0 m' w' r' v:=by
 obtain⟨_,ι,h1,h2,h3,h4,h5,h6⟩:=h;simp only[hr,hv]at h1 h2 h3 h4 h5 h6
 let ι2:Nat ->Gh:=λp=>if p=b then ι a else ι p
 have g:ι2 b=ι a:=bO rfl;have j:ι2 0=ι 0:=cA (λe=>hb e.symm);have I: ∀(x y:Pl) (c:Nat),aget [(0,x),(c,y)] 0=some x:=λx y c=>rfl
 have g1: ∀(x y:Pl) (c:Nat),c≠0 ->aget [(0,x),(c,y)] c=some y:=λx y c hc=>by
  rw[yb,cA (λe=>hc e.symm),yb,bO rfl]
 have aa: ∀c,Owns ι2 [(0,.box (Zo pre (.own b sz n) post)),(b,.arr sz i false)] c↔Owns ι [(0,.box (Zo pre (.own a sz n) post)),(a,.arr sz i false)] c:=λc=>by
  constructor
  ·rintro⟨p,x,l,hl,o⟩;rcases jK l with⟨rfl,rfl⟩|⟨_,rfl,rfl⟩
   ·exact⟨0,_,I _ _ _,rfl,by simpa only[foot,j]using o⟩
   exact⟨a,_,g1 _ _ _ R,rfl,by simpa only[foot,g]using o⟩
  rintro⟨p,x,l,hl,o⟩;rcases jK l with⟨rfl,rfl⟩|⟨_,rfl,rfl⟩
  ·exact⟨0,_,I _ _ _,rfl,by simpa only[foot,j]using o⟩
  exact⟨b,_,g1 _ _ _ hb,rfl,by simpa only[foot,g]using o⟩
 have ae:F.ok ι2 [(0,.box (Zo pre (.own b sz n) post)),(b,.arr sz i false)] w'=F.ok ι [(0,.box (Zo pre (.own a sz n) post)),(a,.arr sz i false)] w':=by
  funext c;unfold Fr.ok;rw[c6,aa]
 refine⟨hm,ι2,?_⟩;simp only[af,ag,ae];have ad:VR ι2 w' (F.ok ι [(0,.box (Zo pre (.own a sz n) post)),(a,.arr sz i false)] w') (.tup []) v:=by
  obtain⟨us,J,P⟩:=h1;exact⟨us,J,by cases us with|nil=>trivial|cons _ _=>exact P.elim⟩
 refine⟨ad,?_,?_,?_,?_,?_⟩
 ·intro p x l;rcases jK l with⟨rfl,rfl⟩|⟨_,rfl,rfl⟩
  ·obtain⟨bl,ac,J,P,e3⟩:=h2 0 _ (I _ _ _);refine⟨bl,ac,by rw[j];exact J,P,ad5 (λu hu=>?_) e3⟩;simp only[CR]at hu⊢;rw[g];exact hu
  obtain⟨J,P,e3⟩:=h2 a _ (g1 _ _ _ R);exact⟨J,by rw[g];exact P,by rw[g];exact e3⟩
 ·intro p q x y c l hy ab o U;have k:=h3 0 a _ _ c (I _ _ _) (g1 _ _ _ R) (λe=>R e.symm);rcases jK l with⟨rfl,rfl⟩|⟨_,rfl,rfl⟩<;>rcases jK hy with⟨rfl,rfl⟩|⟨_,rfl,rfl⟩
  ·exact ab rfl
  ·exact k (by simpa only[foot,j]using o) (by simpa only[foot,g]using U)
  ·exact k (by simpa only[foot,j]using U) (by simpa only[foot,g]using o)
  exact ab rfl
 ·intro p x c l o;rcases jK l with⟨rfl,rfl⟩|⟨_,rfl,rfl⟩
  ·exact h4 0 _ c (I _ _ _) (by simpa only[foot,j]using o)
  exact h4 a _ c (g1 _ _ _ R) (by simpa only[foot,g]using o)
 ·intro p x l;rcases jK l with⟨rfl,rfl⟩|⟨_,rfl,rfl⟩<;>rfl
 intro p x hp l;rcases jK l with⟨rfl,rfl⟩|⟨_,rfl,rfl⟩
 ·rw[j];exact h6 0 _ (by omega) (I _ _ _)
 omega
theorem zA.nilArg {P:Program}{k:Nat}{args:am W}{pre post:am D}{sz:Nat}(af:0<sz)(o: ∀x∈args,x= .c (.ptr 0 0)\/ ∃d,x= .c (.d d)){Q Q':Res ->Prop}
 (h:zA P k args [.box (Zo pre (.own 1 sz 0) post),.arr sz [] false] Q)
 (hq: ∀r,Q r -> ∃R,Q' R /\ ∀F ι0 w' v,Zi F ι0 2 w' r v ->Zi F ι0 1 w' R v):zA P k args [.box (Zo pre .nil post)] Q':=by
 refine⟨h.1,λw A ι vals h1 h2 h3 h4 h5=>?_⟩
 let ι2:Nat ->Gh:=λp=>if p=1 then⟨none,0,.nilFunc,[]⟩else ι p
 have ag:ι2 0=ι 0:=rfl;have hH: ∀b,Handed ι2 [.box (Zo pre (.own 1 sz 0) post),.arr sz [] false] b↔Handed ι [.box (Zo pre .nil post)] b:=λb=>by
  constructor
  ·rintro⟨i,x,g,I⟩
   match i,g with
   |0,g=>cases g;exact⟨0,_,rfl,I⟩
   |1,g=>cases g;cases I
   |i+2,g=>simp at g
  rintro⟨i,x,g,I⟩
  match i,g with
  |0,g=>cases g;exact⟨0,_,rfl,I⟩
  |i+1,g=>simp at g
 have J:Handed ι2 [.box (Zo pre (.own 1 sz 0) post),.arr sz [] false]=Handed ι [.box (Zo pre .nil post)]:=by funext b;rw[c6,hH]
 have hw:qd ι2 w A args vals:=by
  have gen: ∀(args:am W) (vals:am Value),(∀x∈args,x= .c (.ptr 0 0)\/ ∃d,x= .c (.d d)) ->qd ι w A args vals ->qd ι2 w A args vals:=by
   intro args;induction args with
   |nil=>intro vals _ h;cases vals with|nil=>trivial|cons _ _=>exact h.elim
   |cons x r ih=>
    intro vals g h;cases vals with
    |nil=>exact h.elim
    |cons u vals=>
     refine⟨?_,ih vals (λy l=>g y (List.mem_cons_of_mem _ l)) h.2⟩;rcases g x c9 with rfl|⟨d,rfl⟩
     ·exact h.1
     exact h.1
  exact gen args vals o h5
 refine(h.2 w A ι2 vals (λb U=>⟨(h1 b U).1,by rw[J];exact(h1 b U).2⟩) ⟨λb U=>h2.1 b ((hH b).1 U),h2.2⟩ (λi x g=>?_) (λi j x y b g l ad I ac=>?_) hw).mono ?_
 ·match i,g with
  |0,g=>
   cases g;obtain⟨⟨bl,aa,e1,e2,e3⟩,_⟩:=h3 0 _ rfl;exact⟨⟨bl,aa,e1,e2,ad5 (c:=.nil) (c':=.own 1 sz 0) (λu hu=>Or.inl ⟨rfl,rfl,hu⟩) e3⟩,rfl⟩
  |1,g=>cases g;exact⟨⟨af,rfl,.inl ⟨rfl,rfl⟩⟩,rfl⟩
  |i+2,g=>simp at g
 ·match i,g,j,l with
  |0,g,0,l=>exact ad rfl
  |0,g,1,l=>cases l;cases ac
  |1,g,j,l=>cases g;cases I
  |i+2,g,j,l=>simp at g
  |i,g,j+2,l=>simp at l
 rintro e w' ⟨v,r,rfl,hQ,hr,hg⟩;obtain⟨R,ab,hc⟩:=hq r hQ;rw[J]at hr hg;have ae:Zi ⟨w,A,Handed ι [.box (Zo pre .nil post)],λ_=>none⟩ ι2 1 w' R v:=hc _ _ _ _ hr;refine⟨v,R,rfl,ab,?_,hg⟩;obtain⟨a1,ιr,a2,a3,a4,a5,a6,a7⟩:=ae;exact⟨a1,ιr,a2,a3,a4,a5,a6,λp x hp g=>by
  have:p=0:=by simpa using hp
  subst this;exact a7 0 x hp g⟩
theorem af8 {w:aS}{A:Nat ->Prop}{ι:Nat ->Gh}{sz:Nat}{hs:am Pl}(J:PR ι w A 0 (.arr sz [] false))(R:hs=[.arr sz [] false]):Zi ⟨w,A,Handed ι hs,λ_=>none⟩ ι 1 w ⟨.tup [],[.arr sz [] false]⟩ (.tuple #[]):=by
 subst R;obtain⟨r,I,i⟩:=J;refine⟨aP _,ι,⟨[],rfl,trivial⟩,?_,?_,?_,?_,λ_ _ _ _=>rfl⟩
 ·intro p x U;obtain⟨rfl,rfl⟩:=zy (show aget [(0,Pl.arr sz [] false)] p=some x from U);refine⟨r,I,?_⟩;rcases i with i|⟨b,l,_,_,o⟩
  ·exact .inl i
  exact .inr ⟨b,l,by simp only[RDs],(λh=>by cases h),o⟩
 ·intro p q x y b g hy j;obtain⟨rfl,_⟩:=zy (show aget [(0,Pl.arr sz [] false)] p=some x from g);obtain⟨rfl,_⟩:=zy (show aget [(0,Pl.arr sz [] false)] q=some y from hy);exact absurd rfl j
 ·intro p x b g P;obtain⟨rfl,rfl⟩:=zy (show aget [(0,Pl.arr sz [] false)] p=some x from g);exact .inl ⟨0,_,rfl,P⟩
 intro p x g;obtain⟨rfl,rfl⟩:=zy (show aget [(0,Pl.arr sz [] false)] p=some x from g);rfl
end Go.AM
namespace Go.Proofs.YtkdijaiaplkliaaGreatDoor
section
open Go Go.AM Go.Shelf
attribute [local irreducible] zY
theorem ahY (l:am Spa):Go.Sort.SWO λx y:Int=>decide (Kd l x y<0):=(acs l).swo
abbrev Ix (l:am Spa):={i:Int //0<=i /\i<(l.length:Int)}
theorem av8 (l:am Spa):axa (X:=Ix l) Pg UK [[.sl (qW l)]] (λx=>.lit (.int .i64 x.1)) (λx y=>Kd l x.1 y.1):=by
 rintro⟨x,hx⟩ ⟨y,hy⟩ W A u v vs hA P R g;obtain⟨a,rfl⟩: ∃a:Nat,x=a:=⟨x.toNat,by omega⟩;obtain⟨b,rfl⟩: ∃b:Nat,y=b:=⟨y.toNat,by omega⟩;simp only[RD]at P R;obtain⟨rfl,_⟩:=P;obtain⟨rfl,_⟩:=R;simp only[RDf]at g;obtain⟨cb,co,aa,rfl,_,I,rfl⟩:=g;simp only[RDc]at I;obtain⟨⟨sv,h1,p⟩,_⟩:=I;simp only[RD]at p;obtain⟨ad,n,cap,rfl,J,_,_,j⟩:=p;rw[Wq]at J;subst J;have i:a<l.length:=by omega
 have r:b<l.length:=by omega
 rcases j with j|⟨sb,o,sz,rfl,_,hr⟩
 ·rw[show l=[]by cases l with|nil=>rfl|cons _ _=>cases j]at i;cases i
 obtain⟨_,U,a2⟩:=acu l o hr a i;obtain⟨_,b1,b2⟩:=acu l o hr b r;exact auh l W a b i r cb co sb o cap h1 U a2 b1 b2
theorem awk (l:am Spa): ∃xs:am (Ix l),xs.map (λx=>x.1)=wR l.length:=by
 refine⟨(wR l.length).attach.map λx=>⟨x.1,?_⟩,?_⟩
 ·have:=x.2;simp only[wR,aU,List.mem_range]at this;obtain⟨k,h,e⟩:=this;rw[<- e];exact⟨c8 k,by simpa using h⟩
 rw[List.map_map];exact List.attach_map_subtype_val _
theorem anD (l:am Spa)(n:Nat)(hn:l.length=n)(hl:n<=1000000):
 zA Pg kA [.c (.own 0 1 n),.c (.d (.fn UK [[.sl (qW l)]]))] [.arr 1 (zg (wR n)) false] (λr=>r=⟨.tup [],[.arr 1 (zg (uB l)) false]⟩):=by
 by_cases h0:n=0
 ·subst h0;have o:l=[]:=by cases l with|nil=>rfl|cons _ _=>cases hn
  subst o;refine⟨by kernel_rfl,λw A ι vals hA hH hP R g=>?_⟩
  match vals,g with
  | [],g=>exact g.elim
  | [_],g=>exact g.2.elim
  |_::_::_::_,g=>exact g.2.2.elim
  | [v1,v2],g=>
  have I:CR ι w A (.own 0 1 0) v1:=g.1;obtain⟨a,cap,rfl⟩: ∃a cap,v1= .slice a 0 cap:=by
   rcases I with⟨_,_,h⟩|⟨b',cap,t,_,_,h3,_⟩
   ·exact⟨none,0,h⟩
   exact⟨_,_,h3⟩
  refine(AnyF.slices_SortFunc_none (P:=Pg) (ρ:=Tryz.sortInts_ren) {Tryz.sortInts with} a cap v2 w).mono ?_;rintro e w' ⟨rfl,rfl⟩;exact⟨_,_,rfl,rfl,af8 (hP 0 _ rfl).1 rfl,Grows.refl _ _⟩
 subst hn;obtain⟨xs,i⟩:=awk l;have j:xs.length=l.length:=by
  have:=aI cY i;simpa[wR]using this
 have p:xs≠ []:=λe=>by subst e;simp at j;omega
 have J:=amz (P:=Pg) (ρ:=Tryz.sortInts_ren) Tryz.sortInts (by kernel_rfl) (X:=Ix l) (λx=>.lit (.int .i64 x.1)) (λx y=>Kd l x.1 y.1)
  ⟨λx=>(ahY l).irrefl x.1,λx y z=>(ahY l).trans x.1 y.1 z.1,λx y z=>(ahY l).ntrans x.1 y.1 z.1⟩ UK [[.sl (qW l)]] (by kernel_rfl) (av8 l) xs p (by omega)
 have U: ∀ys:am (Ix l),ys.map (λx=> [D.lit (.int .i64 x.1)])=zg (ys.map λx=>x.1):=λys=>by unfold zg;rw[List.map_map];rfl
 rw[U,i,j]at J;refine zA.mono J ?_;rintro r ⟨ys,hp,hs,rfl⟩;rw[U,aui l (ys:=ys.map λx=>x.1) (by rw[<- i];exact hp.map _) (by rw[df];exact hs)]
end
section
open Go Go.AM
attribute [local irreducible] Sat zA zY
def ZY (l:am Spa):am Int:=(ve l (uB l) l.length 0 l.length (aH l.length 0)).2
theorem ahu (l:am Spa):(ZY l).length=l.length:=by unfold ZY;rw[WU,cU]
def UU (n j:Nat):am Int:=wR j++aH (n - j) 0
theorem arZ (n:Nat):UU n 0=aH n 0:=rfl
theorem auf (n:Nat):UU n n=wR n:=by simp[UU]
theorem aab (n:Nat):(wR n).length=n:=by simp[wR]
theorem anA (n:Nat):wR (n+1)=wR n++[(n:Int)]:=by unfold wR;rw[List.range_succ,cR];rfl
theorem alM {n j:Nat}(h:j<=n):(UU n j).length=n:=by simp[UU,aab];omega
theorem aug {n j:Nat}(h:j<n):(UU n j).set j (j:Int)=UU n (j+1):=by
 unfold UU;rw[List.set_append_right _ _ (by rw[aab];exact aP _),aab,Nat.sub_self,anA,show n - j=(n -(j+1))+1 by omega,List.replicate_succ,List.set_cons_zero,bK];rfl
def ofS (l:am Spa)(n j:Nat):S:=
 ⟨[(1,cV (.ptr 1 0)),(2,cV (.ptr 2 0)),(3,.w (.c (.own 8 1 n))),(10,zl n),(11,zl j)],[(1,.box [.d (.sl (qW l))]),(2,.box [.nil,.nil]),(8,.arr 1 (zg (UU n j)) false)]⟩
theorem ack (l:am Spa)(hl:l.length<=1000000):Sat Pg apJ [.c (.d (.sl (qW l)))] (λr=>r=⟨.w (.agg [.d (.sl (zg (uB l))),.d (.sl (zg (ZY l)))]),[]⟩):=by
 have R:=anD l l.length rfl hl;have i:=ap8 l (uB l) l.length rfl hl (kI l) (ahv l) l.length 0 l.length (aH l.length 0) (by omega) (aJ _) (aP _) cU;refine zD ?_;refine gw.s T8 ?_;refine⟨by omega,cF _,by unfold ym;rw[Wq];simp;omega,by rw[Wq];omega,?_⟩
 conv=>whnf
 generalize o:l.length=n at*;have I:(qW l).length=n:=by rw[Wq,o]
 rw[I];refine yx (P:=Pg) (f:=T8.f) (body:=(gw.l 0)) n (λj=>ofS l n j) (λ_=>True) ⟨trivial,?_⟩ ?_
 ·refine ze ?_;(conv=>whnf);unfold ofS;rw[arZ,show zg (aH n 0)=aH n [.lit (.int .i64 0)]by simp[zg]];rfl
 intro j U _;show mwpR Pg T8.f (gw.l 0) _ (ofS l n j);have hg: ∀h:j<n,(zg (UU n j))[((j:Int)).toNat]? =some [.lit (.int .i64 ((UU n j)[j]'(by rw[alM U];exact h)))]:=λh=>y5 (by rw[alM U];exact h)
 unfold ofS;refine zi (λp=>?_) (λp=>?_)
 ·have g:j<n:=by have:=aD p;omega
  have wi:=zC g (by omega);(conv=>whnf);refine⟨by omega,by omega,?_⟩;(conv=>whnf);refine⟨_,hg g,aP 1,?_⟩;(conv=>whnf);refine⟨g,trivial,ze ?_⟩;(conv=>whnf);rw[wi];show _=ofS l n (j+1);unfold ofS;rw[<- aug g,<- alm];rfl
 have J:j=n:=by have:=aB p;omega
 subst J;rw[auf];(conv=>whnf);refine zA.mono R ?_;rintro _ rfl;(conv=>whnf);refine⟨by omega,cF _,by rw[I];unfold ym;simp;omega,by omega,?_⟩;(conv=>whnf);rw[I];rw[show zg (aH j 0)=aH ((j:Int)).toNat [.lit (.int .i64 0)]by simp[zg]]at i;refine zA.mono i ?_;rintro _ rfl;(conv=>whnf);refine⟨rfl,?_⟩;have hM:(ve l (uB l) j 0 j (aH j 0)).2=ZY l:=by unfold ZY;rw[o]
 rw[hM];refine di (b:=⟨.w (.agg [.d (.sl ((zg (uB l)).take j)),.d (.sl ((zg (ZY l)).take ((j:Int)).toNat))]),[]⟩) rfl ?_;rw[bE (by rw[zB,kI,o];exact aP _),bE (by rw[zB,ahu,o];simp)]
theorem adS (a:am Int)(I:a.length<=1000000):Sat Pg abK [.c (.d (.sl (zg a))),.c (.d (.sl (zg a)))] (λr=>r=rB true):=by
 refine zD ?_;refine WF.s T8 ?_;rw[show((((zg a).length:Nat):Int) !=((zg a).length:Nat))=false by simp]
 conv=>whnf
 rw[zB];refine yx (P:=Pg) (f:=T8.f) (body:=(WF.l 0)) a.length (λj=>⟨[(0,.w (.c (.d (.sl (zg a))))),(1,.w (.c (.d (.sl (zg a))))),(12,zl a.length),(13,zl j)],[]⟩) (λ_=>True) ⟨trivial,ze ?_⟩ ?_
 ·exact rfl
 intro j J _;refine zi (λi=>?_) (λi=>?_)
 ·have g:j<a.length:=by have:=aD i;omega
  have o:=y5 g;have p:=zC g (by omega);generalize a[j]=x at*;(conv=>whnf);refine⟨by omega,_,o,rfl,?_⟩;(conv=>whnf);(conv=>whnf);refine⟨by omega,_,o,rfl,?_⟩;(conv=>whnf);(conv=>whnf);rw[show(x !=x)=false by simp];(conv=>whnf);refine⟨g,trivial,ze ?_⟩;(conv=>whnf);rw[p];rfl
 exact⟨rfl,rfl⟩
theorem agn (l:am Spa)(g:l.length<=1000000):Sat Pg ajt [.c (.d (.sl (qW l))),.agg [.d (.sl (zg (uB l))),.d (.sl (zg (ZY l)))]] (λr=>r=rB true):=by
 have i:=ack l g;have j:=adS (uB l) (by rw[kI];exact g);have o:=adS (ZY l) (by rw[ahu];exact g);generalize uB l=I at*;generalize ZY l=p at*;refine zD ?_;refine aje.s T8 ?_;refine aF i ?_;refine aF j ?_;refine aF o ?_;exact⟨rfl,rfl⟩
def jL (l:am Spa)(g i:am Int)(s:Spa):Nat ->Nat ->Nat ->am Int×Int ->am Int×Int
 |0,_,_,st=>st
 |f+1,lo,hi,st=>bif decide (hi<=lo)||decide (i.getD ((lo+hi)/2) 0<=s.a)then st else
   bif decide ((va l (g.getD ((lo+hi)/2) 0)).a>=s.b)then jL l g i s f lo ((lo+hi)/2) (st.1,st.2+1)else
    jL l g i s f ((lo+hi)/2+1) hi
     ((jL l g i s f lo ((lo+hi)/2) (st.1,st.2+1)).1++(bif XS (va l (g.getD ((lo+hi)/2) 0)).a (va l (g.getD ((lo+hi)/2) 0)).b&&(XS s.a s.b&&decide ((va l (g.getD ((lo+hi)/2) 0)).b>s.a))then [g.getD ((lo+hi)/2) 0]else []),
      (jL l g i s f lo ((lo+hi)/2) (st.1,st.2+1)).2)
theorem acN (l:am Spa)(g i:am Int)(s:Spa): ∀(f lo hi:Nat) (st:am Int×Int),(jL l g i s f lo hi st).1.length<=st.1.length+(hi - lo)/\st.2<=(jL l g i s f lo hi st).2 /\(jL l g i s f lo hi st).2<=st.2+((hi - lo:Nat):Int)
 |0,lo,hi,st=>⟨Nat.le_add_right _ _,cF _,by simp only[jL];omega⟩
 |f+1,lo,hi,st=>by
  simp only[jL];cases j:(decide (hi<=lo)||decide (i.getD ((lo+hi)/2) 0<=s.a))
  ·have J:lo<hi:=by
    simp only[aV]at j;have:=aB j.1;omega
   obtain⟨o,a2,a3⟩:=acN l g i s f lo ((lo+hi)/2) (st.1,st.2+1);simp only at o a2 a3;cases P:decide ((va l (g.getD ((lo+hi)/2) 0)).a>=s.b)
   ·simp only[aA];obtain⟨p,r,I⟩:=acN l g i s f ((lo+hi)/2+1) hi ((jL l g i s f lo ((lo+hi)/2) (st.1,st.2+1)).1++(bif XS (va l (g.getD ((lo+hi)/2) 0)).a (va l (g.getD ((lo+hi)/2) 0)).b&&(XS s.a s.b&&decide ((va l (g.getD ((lo+hi)/2) 0)).b>s.a))then [g.getD ((lo+hi)/2) 0]else []),(jL l g i s f lo ((lo+hi)/2) (st.1,st.2+1)).2);simp only[aK]at p r I;have R:(bif XS (va l (g.getD ((lo+hi)/2) 0)).a (va l (g.getD ((lo+hi)/2) 0)).b&&(XS s.a s.b&&decide ((va l (g.getD ((lo+hi)/2) 0)).b>s.a))then [g.getD ((lo+hi)/2) 0]else []).length<=1:=by
     cases(XS (va l (g.getD ((lo+hi)/2) 0)).a (va l (g.getD ((lo+hi)/2) 0)).b&&(XS s.a s.b&&decide ((va l (g.getD ((lo+hi)/2) 0)).b>s.a)))<;>simp
    exact⟨by omega,by omega,by omega⟩
   simp only[aA,aG];exact⟨by omega,by omega,by omega⟩
  simp only[aG];exact⟨by omega,by omega,by omega⟩
def K5 (l:am Spa)(i g:am Int)(s:Spa):am D:=[.sl (qW l),.sl (zg i),.sl (zg g),.lit (.int .i64 s.a),.lit (.int .i64 s.b)]
theorem ajL (l:am Spa)(o p:am Int)(s:Spa)(n:Nat)(hl:l.length=n)(hn:n<=1000000)(ak:o.length=n)(aj:p.length=n)(ac: ∀i∈o,0<=i /\i<l.length): ∀(f lo hi:Nat) (g:am Int) (j:Int),hi - lo<=f ->lo<=n ->hi<=n ->g.length+(hi - lo)<=1000000 ->0<=j ->j+((hi - lo:Nat):Int)<=1000000 ->
 zA Pg YW [.c (.ptr 0 0),.c (int lo),.c (int hi)] [.box (Zo (K5 l o p s) (.own 1 1 g.length) [.lit (.int .i64 j)]),.arr 1 (zg g) false]
  (λr=>r=⟨.tup [],[.box (Zo (K5 l o p s) (.own 2 1 (jL l o p s f lo hi (g,j)).1.length) [.lit (.int .i64 (jL l o p s f lo hi (g,j)).2)]),.gone,.arr 1 (zg (jL l o p s f lo hi (g,j)).1) false]⟩):=by
 intro f;induction f with
 |zero=>
  intro lo hi g j h1 h2 h3 h4 h5 h6;refine zA.conv (Q:=λr=>r=⟨.tup [],[.box (Zo (K5 l o p s) (.own 1 1 g.length) [.lit (.int .i64 j)]),.arr 1 (zg g) false]⟩) ?_ ?_
  ·have w1:aN.wrap ((lo:Int)+hi)=((lo+hi:Nat):Int):=by rw[yk (by omega) (by omega)];omega
   have U:decide ((lo:Int)>=(hi:Int))=true:=by simp;omega
   unfold K5;refine xX T8 jf.ok (by kernel_rfl) (by simp) ?_;(conv=>whnf);refine⟨by omega,?_⟩;(conv=>whnf);rw[U];exact rfl
  rintro r rfl;exact⟨_,rfl,λF ι0 w' v h=>Zi.rename (a:=1) (b:=2) (by omega) (by omega) rfl rfl rfl rfl (by simp) (by simp) (by simp) h⟩
 |succ f ih=>
  intro lo hi g j h1 h2 h3 h4 h5 h6
  refine zA.conv (Q:=λr=>(jL l o p s (f+1) lo hi (g,j)=(g,j)/\r=⟨.tup [],[.box (Zo (K5 l o p s) (.own 1 1 g.length) [.lit (.int .i64 j)]),.arr 1 (zg g) false]⟩)\/
   r=⟨.tup [],[.box (Zo (K5 l o p s) (.own 2 1 (jL l o p s (f+1) lo hi (g,j)).1.length) [.lit (.int .i64 (jL l o p s (f+1) lo hi (g,j)).2)]),.gone,.arr 1 (zg (jL l o p s (f+1) lo hi (g,j)).1) false]⟩) ?_ ?_
  ·have w1:aN.wrap ((lo:Int)+hi)=((lo+hi:Nat):Int):=by rw[yk (by omega) (by omega)];omega
   cases U:decide ((lo:Int)>=(hi:Int))with
   |true=>
    have he:jL l o p s (f+1) lo hi (g,j)=(g,j):=by
     simp only[jL];rw[show decide (hi<=lo)=true by have:=aD U;simp;omega];rfl
    unfold K5;refine xX T8 jf.ok (by kernel_rfl) (by simp) ?_;(conv=>whnf);refine⟨by omega,?_⟩;(conv=>whnf);rw[U];(conv=>whnf);exact .inl ⟨he,rfl⟩
   |false=>
    have ag:lo<hi:=by have:=aB U;omega
    have ah:(lo+hi)/2<hi:=by omega
    have ai:lo<=(lo+hi)/2:=by omega
    have w2:((lo+hi:Nat):Int).tdiv 2=(((lo+hi)/2:Nat):Int):=by rw[cB (by omega)];omega
    have w3:aN.wrap ((((lo+hi)/2:Nat):Int)+1)=(((lo+hi)/2+1:Nat):Int):=by rw[yk (by omega) (by omega)];omega
    have wq:aN.wrap (((lo+hi)/2:Nat):Int)=(((lo+hi)/2:Nat):Int):=yk (by omega) (by omega);have wv:aN.wrap (j+1)=j+1:=yk (by omega) (by omega);have hv:=ac (o.getD ((lo+hi)/2) 0) (by rw[aY,am.getElem?_eq_getElem (by omega)];exact aE _);have ho:(zg o)[(((lo+hi)/2:Nat):Int).toNat]? =some [.lit (.int .i64 (o.getD ((lo+hi)/2) 0))]:=by
     rw[y5 (r:=o) (i:=(lo+hi)/2) (by omega),aY,am.getElem?_eq_getElem (by omega)];rfl
    have ab:(zg p)[(((lo+hi)/2:Nat):Int).toNat]? =some [.lit (.int .i64 (p.getD ((lo+hi)/2) 0))]:=by
     rw[y5 (r:=p) (i:=(lo+hi)/2) (by omega),aY,am.getElem?_eq_getElem (by omega)];rfl
    have hs:=ahX l hv.1 hv.2;have P:=ih lo ((lo+hi)/2) g (j+1) (by omega) (by omega) (by omega) (by omega) (by omega) (by omega);obtain⟨b1,b2,b3⟩:=acN l o p s f lo ((lo+hi)/2) (g,j+1);have I:=λ(J:am Int) (h:J.length<=g.length+((lo+hi)/2 - lo)+1)=>ih ((lo+hi)/2+1) hi J (jL l o p s f lo ((lo+hi)/2) (g,j+1)).2 (by omega) (by omega) h3 (by omega) (by omega) (by omega)
    have aa:decide (hi<=lo)=false:=by simp;omega
    simp only[jL,aa,cG];simp only at b1;generalize jL l o p s f lo ((lo+hi)/2) (g,j+1)=A1 at*;generalize(lo+hi)/2=m at*;generalize o.getD m 0=ix at*;generalize p.getD m 0=mm at*;generalize va l ix=sp at*;obtain⟨sa,sb⟩:=sp;obtain⟨a1,v1⟩:=A1;obtain⟨R,c2⟩:=s;simp only at*;unfold K5 at P I⊢;refine xX T8 jf.ok (by kernel_rfl) (by simp) ?_;(conv=>whnf);refine⟨by omega,?_⟩;(conv=>whnf);rw[U];(conv=>whnf);rw[w1,w2,wq];refine⟨by omega,_,ab,rfl,?_⟩;refine zi (λk1=>?_) (λk1=>?_)
    ·rw[show decide (mm<=R)=true from k1];(conv=>whnf);exact .inl ⟨rfl,rfl⟩
    rw[show decide (mm<=R)=false from k1];(conv=>whnf);rw[wv];refine zA.mono P ?_;rintro _ rfl;(conv=>whnf);refine⟨by omega,_,ho,rfl,?_⟩;(conv=>whnf);refine⟨by omega,_,hs,rfl,?_⟩;refine zi (λk2=>?_) (λk2=>?_)
    ·rw[show decide (sa>=c2)=true from k2];(conv=>whnf);exact .inr rfl
    rw[show decide (sa>=c2)=false from k2];have ad:(zg a1).take a1.length=zg a1:=by rw[<- zB,aC]
    have hN:=I a1 (by omega);have hA:=I (a1++[ix]) (by simp;omega);have ae:=J4 sa sb;have af:=J4 R c2;clear ih P I;generalize XS sa sb=y1 at*;generalize XS R c2=y2 at*;refine aF ae ?_;cases y1 with
    |false=>
     rw[aA,aA,bZ,aA,aT];(conv=>whnf);rw[w3];refine zA.mono hN ?_;rintro _ rfl;(conv=>whnf);exact .inr rfl
    |true=>
     rw[aA,aA,cn];refine aF af ?_;cases y2 with
     |false=>
      rw[bZ,aA,aT];(conv=>whnf);rw[w3];refine zA.mono hN ?_;rintro _ rfl;(conv=>whnf);exact .inr rfl
     |true=>
      rw[cn];refine zi (λk3=>?_) (λk3=>?_)
      ·rw[show decide (sb>R)=true from k3,aG];(conv=>whnf);refine⟨by simp,by unfold ym;simp;omega,by simp;omega,?_⟩;(conv=>whnf);rw[ad,w3];rw[<- vu,aK]at hA;refine zA.mono hA ?_;rintro _ rfl;(conv=>whnf);exact .inr rfl
      rw[show decide (sb>R)=false from k3,aA,aT];(conv=>whnf);rw[w3];refine zA.mono hN ?_;rintro _ rfl;(conv=>whnf);exact .inr rfl
  rintro r (⟨he,rfl⟩|rfl)
  ·rw[he];exact⟨_,rfl,λF ι0 w' v h=>Zi.rename (a:=1) (b:=2) (by omega) (by omega) rfl rfl rfl rfl (by simp) (by simp) (by simp) h⟩
  exact⟨_,rfl,λF ι0 w' v h=>h⟩
end
section
open Go Go.AM Go.Sort Go.Shelf
attribute [local irreducible] zY
def Kb (xs:am Int):am Int:=xs.mergeSort λx y=>decide (x<=y)
theorem V2 (xs:am Int):(Kb xs).Perm xs:=List.mergeSort_perm _ _
theorem alW {w:aS}{ok:Nat ->Prop}{b:Nat}: ∀(xs:am Int) (o:Nat),(∀(j:Nat) (x:Int),xs[j]? =some x ->w.cell? ⟨b,o+j,none⟩=some (.int .i64 x)) ->RDs w ok b 1 o (zg xs)
 | [],_,_=>by simp only[zg,de,RDs]
 |x::r,o,h=>by
  simp only[zg,bF,RDs,RDc,RD];refine⟨rfl,⟨⟨_,h 0 x rfl,rfl,rfl⟩,trivial⟩,alW r (o+1) λj x g=>?_⟩;have:=h (j+1) x (by simpa using g);rw[<- this];congr 2;omega
theorem ap6 (xs:am Int)(ar:xs.length<=1000000):zA Pg adq [.c (.own 0 1 xs.length)] [.arr 1 (zg xs) false] (λr=>r=⟨.tup [],[.arr 1 (zg (Kb xs)) false]⟩):=by
 refine⟨by kernel_rfl,λw A ι vals hA hH hP aq hW=>?_⟩
 match vals,hW with
 | [],hW=>exact hW.elim
 |_::_::_,hW=>exact hW.2.elim
 | [v1],hW=>
 obtain⟨⟨ai,hn,aa⟩,_⟩:=hP 0 _ rfl;have ad:=aa;have U:CR ι w A (.own 0 1 xs.length) v1:=hW.1;rw[zB]at hn;by_cases af:xs=[]
 ·subst af;obtain⟨a,cap,rfl⟩: ∃a cap,v1= .slice a 0 cap:=by
   rcases U with⟨_,_,h⟩|⟨g,cap,t,_,_,h3,_⟩
   ·exact⟨none,0,h⟩
   exact⟨_,_,h3⟩
  refine(Any.slices_Sort_int_none Tryz.lays189 a cap w).mono ?_;rintro e w' ⟨rfl,rfl⟩;rw[show Kb []=[]by simp[Kb]];exact⟨_,_,rfl,rfl,af8 ⟨ai,hn,ad⟩ rfl,Grows.refl _ _⟩
 rcases aa with⟨_,h0⟩|⟨b,hb,ag,_,ac⟩
 ·exact absurd (by cases xs with|nil=>rfl|cons a r=>simp[zg]at h0) af
 obtain⟨au,⟨te,i⟩,l⟩:=ac rfl;rw[zB,cZ]at l;have I:Go.AM.Handed ι [.arr 1 (zg xs) false] b:=⟨0,_,rfl,hb⟩;have ak:b<w.heap.size:=hH.1 b I;have av: ∀g,A g ->g≠b:=λg h e=>(hA g h).2 (e▸I)
 have U: ∃cap,v1= .slice (some ⟨b,0,none⟩) xs.length cap:=by
  rcases U with⟨h,_⟩|⟨g,cap,t,h1,h2,h3,_⟩
  ·rw[hb]at h;cases h
  rw[hb]at h1;cases h1;exact⟨cap,h3⟩
 obtain⟨cap,rfl⟩:=U;have J:=abw xs 0 ag;have P:Holds (cJ .i64) w b 0 xs.toArray:=by
  intro j hj;have al:j<xs.length:=by simpa using hj
  constructor
  ·have:=J j al;rw[this,getElem!_pos xs.toArray j hj];simp
  simp only[aS.frozen?,i];simp
 refine(Any.slices_Sort_int Tryz.lays189 b 0 cap xs w P ak (by omega)).mono ?_;rintro e w' ⟨rfl,n,os,rfl⟩;have ah:(Kb xs).length=xs.length:=(V2 xs).length_eq;show∃v r,_ /\r=_ /\_ /\_;rw[show(xs.mergeSort λx y=>decide (x<=y))=Kb xs from rfl];generalize Kb xs=ys at*
 change∃v r,_ /\_ /\Zi ⟨w,A,Go.AM.Handed ι [.arr 1 (zg xs) false],λ_=>none⟩ ι 1 (sortWorld (cJ .i64) w b 0 n ys.toArray os) r v /\Grows (Go.AM.Handed ι [.arr 1 (zg xs) false]) w (sortWorld (cJ .i64) w b 0 n ys.toArray os)
 have o:=Yg (cJ .i64) w b n ys.toArray os i;refine⟨_,_,rfl,rfl,⟨aP _,ι,⟨[],rfl,trivial⟩,?_,?_,?_,?_,?_⟩,?_⟩
 ·intro p x hp;obtain⟨rfl,rfl⟩:=zy (show aget [(0,Pl.arr 1 (zg ys) false)] p=some x from hp);refine⟨Nat.one_pos,by rw[zB,ah,hn],.inr ⟨b,hb,?_,(λh=>by cases h),λ_=>⟨_,⟨te,o⟩,by rw[Yt,zB,ah,cZ];exact l⟩⟩⟩;refine alW ys 0 λj x hj=>?_
  have ab:j<ys.toArray.size:=by have:=(am.getElem?_eq_some_iff.1 hj).1;simpa using this
  simp only[cE,o];have ae:j<ys.length:=by simpa using ab
  rw[cL,aaA _ _ _ ab (by omega),getElem!_pos ys.toArray j ab];rw[am.getElem?_eq_getElem ae]at hj;simp[<- aX hj]
 ·intro p q x y g hx hy ao;obtain⟨rfl,_⟩:=zy (show aget [(0,Pl.arr 1 (zg ys) false)] p=some x from hx);obtain⟨rfl,_⟩:=zy (show aget [(0,Pl.arr 1 (zg ys) false)] q=some y from hy);exact absurd rfl ao
 ·intro p x g hx R;obtain⟨rfl,rfl⟩:=zy (show aget [(0,Pl.arr 1 (zg ys) false)] p=some x from hx);have R:(ι 0).b=some g:=R;rw[hb]at R;cases R;exact .inl I
 ·intro p x hx;obtain⟨rfl,rfl⟩:=zy (show aget [(0,Pl.arr 1 (zg ys) false)] p=some x from hx);rfl
 ·intro p x _ _;rfl
 refine⟨rfl,rfl,rfl,?_,λg aj hm=>?_,λg t m hs=>?_⟩
 ·unfold sortWorld;rw[size_grow,size_putRow,heap_ahead];omega
 ·exact Yf _ w b n ys.toArray os aj (λe=>hm (e▸I))
 by_cases e:g=b
 ·subst e;simp only[bR,i]at hs;simp only[bR,Yg (cJ .i64) w g n ys.toArray os i,Yt];exact hs
 have an:g<w.heap.size:=by
  rcases dg g w.heap.size with h|h
  ·exact h
  simp[bR,bS.getElem?_eq_none h]at hs
 simp only[bR,Yf _ w b n ys.toArray os an e];exact hs
end
section
open Go Go.AM
attribute [local irreducible] Sat zA zY
def Q6 (l:am Spa)(s:Spa):am Int×Int:=jL l (uB l) (ZY l) s l.length 0 l.length ([],0)
def UC (l:am Spa)(s:Spa):am Int:=Kb (Q6 l s).1
theorem alb (l:am Spa)(s:Spa):(Q6 l s).1.length<=l.length:=by
 have:=(acN l (uB l) (ZY l) s l.length 0 l.length ([],0)).1;unfold Q6;simpa using this
theorem atK (l:am Spa)(s:Spa):(UC l s).length<=l.length:=by
 unfold UC;rw[(V2 _).length_eq];exact alb l s
theorem ame (l:am Spa)(s:Spa)(i:l.length<=1000000):
 zA Pg YW [.c (.ptr 0 0),.c (int 0),.c (int l.length)] [.box (Zo (K5 l (uB l) (ZY l) s) .nil [.lit (.int .i64 0)])]
  (λr=>r=⟨.tup [],[.box (Zo (K5 l (uB l) (ZY l) s) (.own 1 1 (Q6 l s).1.length) [.lit (.int .i64 (Q6 l s).2)]),.arr 1 (zg (Q6 l s).1) false]⟩):=by
 have h:=ajL l (uB l) (ZY l) s l.length rfl i (kI l) (ahu l) (ahv l) l.length 0 l.length [] 0 (by omega) (aJ _) (aP _) (by simp;omega) (cF _) (by simp;omega);refine zA.nilArg (by omega) ?_ h ?_
 ·intro x g;simp only[aZ,cj,dn]at g;rcases g with rfl|rfl|rfl
  ·exact .inl rfl
  ·exact .inr ⟨_,rfl⟩
  exact .inr ⟨_,rfl⟩
 rintro r rfl;exact⟨_,rfl,λF ι0 w' v h=>Zi.rename (a:=2) (b:=1) (by omega) (by omega) rfl rfl rfl rfl (by simp) (by simp) (by simp) h⟩
theorem ajO (l:am Spa)(s:Spa)(o:l.length<=1000000):
 Sat Pg anr [.c (.d (.sl (qW l))),.agg [.d (.sl (zg (uB l))),.d (.sl (zg (ZY l)))],.agg [int s.a,int s.b]]
  (λr=>r=⟨.w (.c (.ptr 0 0)),[.box (Zo (K5 l (uB l) (ZY l) s) (.own 1 1 (Q6 l s).1.length) [.lit (.int .i64 (Q6 l s).2)]),.arr 1 (zg (UC l s)) false]⟩):=by
 have g:=agn l o;have i:=ame l s o;have j:=ap6 (Q6 l s).1 (by have:=alb l s;omega);unfold UC;unfold K5 at*;generalize Q6 l s=R at*;generalize uB l=P at*;generalize ZY l=J at*;obtain⟨p,I⟩:=s;obtain⟨f,vs⟩:=R;simp only at*;refine am8.s T8 ?_;refine aF g ?_;rw[Wq];refine zA.mono i ?_;rintro _ rfl
 conv=>whnf
 refine zA.mono j ?_;rintro _ rfl;exact rfl
theorem adw (l:am Spa)(s:Spa)(i:l.length<=1000000):
 Sat Pg afN [.c (.d (.sl (qW l))),.agg [.d (.sl (zg (uB l))),.d (.sl (zg (ZY l)))],.agg [int s.a,int s.b]] (λr=>r=rC (.d (.sl (zg (UC l s))))):=by
 have hr:=ajO l s i;have g:(UC l s).length=(Q6 l s).1.length:=(V2 _).length_eq;unfold K5 at hr;generalize Q6 l s=R at*;generalize UC l s=L at*;generalize uB l=I at*;generalize ZY l=p at*;obtain⟨j,o⟩:=s;obtain⟨f,vs⟩:=R;simp only at*;refine zD ?_;refine afm.s T8 ?_;refine aF hr ?_;refine⟨rfl,?_⟩;refine di (b:=⟨.w (.c (.d (.sl ((zg L).take f.length)))),[]⟩) rfl ?_;rw[bE (by rw[zB,g];exact aP _)];rfl
def vL (cols:am Col)(l:am (am Val)):Res:=bif decide (l.length<=20000)then qE ⟨cols,l⟩ 0 else qE ⟨[],[]⟩ 7
theorem apT {cols:am Col}{l:am (am Val)}(h:20000<l.length):vL cols l=qE ⟨[],[]⟩ 7:=by
 unfold vL;rw[show decide (l.length<=20000)=false by simpa using h];rfl
theorem axF {Q:E ->S ->Prop}{s:S}(cols bc:am Col)(br:am (am Val))(left right:am Int)(p q U q2:Int)(g:am Int)(ar:am (am Val))(i:Nat)(x:am Val)(r I:Int)(out R:am (am Val))(Y:Res)
 (ab:out.length<=20000) (a1:br.length<=1000000) (a2:left.length<=100000) (a4:right.length<=100000) (a3:g.length<=100000) (a5:x.length<=100000) (hx:zQ x.length left) (hp:0<=p /\p<x.length) (hq:0<=q /\q<x.length)
 (hy: ∀y∈br,zQ y.length right /\zQ y.length g /\zQ y.length [U,q2])
 (hY:Y=vL cols (out++(wZ p q U q2 left right g x r I br++R)))
 (h0:yX s [4,6,10,11,12,13,14,15,17,18,60,61,62,75,76,77] (· =UX cols bc br left right p q U q2 g ar i x r I 0 out))
 (af: ∀(T:am (am Val)) (u v:Int),Y=qE ⟨[],[]⟩ 7 ->Q .ret ⟨[(6,cV (.ptr 6 0)),(7,zl 7)],[(4,.box [.d (.sl (zm bc)),.d (.sl (zf br))]),(6,.box [.nil,.nil]),(15,.box [.d (.sl (zm cols)),.own 143 1 T.length]),(18,.box [int r,int I]),(22,.box [int u,int v]),(143,.arr 1 (zf T) false)]⟩)
 (hQ: ∀T:am (am Val),T.length<=20000 ->Y=vL cols (T++R) ->Q (.exit 2) (xD (UX cols bc br left right p q U q2 g ar i x r I br.length T) 78 (ya (decide ((br.length:Int)<br.length))))):
 zY (mwpR Pg T8.f (yg.l 0)) [4,6,10,11,12,13,14,15,17,18,60,61,62,75,76,77] Q s:=by
 refine yq (P:=Pg) (f:=T8.f) (body:=(yg.l 0)) (λz:Nat×am (am Val)=>UX cols bc br left right p q U q2 g ar i x r I z.1 z.2) (λz=>br.length - z.1)
  (λz=>z.1<=br.length /\z.2.length<=20000 /\Y=vL cols (z.2++(wZ p q U q2 left right g x r I (br.drop z.1)++R))) ⟨(0,out),⟨aJ _,ab,hY⟩,h0⟩ ?_
 clear h0 hY ab;rintro⟨j,T⟩ ⟨hj,hT,o⟩;have hj:j<=br.length:=hj;have hT:T.length<=20000:=hT;have o:Y=vL cols (T++(wZ p q U q2 left right g x r I (br.drop j)++R)):=o;show mwpR Pg T8.f (yg.l 0) _ (UX cols bc br left right p q U q2 g ar i x r I j T);have aq:(zf T).take T.length=zf T:=by rw[<- zx,aC]
 unfold UX;refine zi (λh1=>?_) (λh1=>?_)
 ·have J:j<br.length:=by have:=aD h1;omega
  have hg:=yJ J;obtain⟨av,aw,ah⟩:=hy _ (aE J);have wi:=zC J (by omega);have ac:=U8 br[j] U q2 (ah _ (by simp)) (ah _ (by simp));have al:=ub x left (by omega) hx;have ao:=ub br[j] right (by omega) av;have an:=ub br[j] g (by omega) aw;have aj:=acf (zn x left) (zn br[j] right);rw[zq J]at o;have ae:wZ p q U q2 left right g x r I (br[j]::br.drop (j+1))=(bif VY U q2 left right r I x br[j]then [gX p q g x br[j] (zU true r (at0 br[j] U.toNat).n) (zU false I (at0 br[j] q2.toNat).n)]else [])++wZ p q U q2 left right g x r I (br.drop (j+1)):=by unfold wZ;rw[bL]
  rw[ae]at o;clear hQ hy ae;unfold VY at o;obtain⟨R',aa⟩: ∃R',R'=wZ p q U q2 left right g x r I (br.drop (j+1))++R:=⟨_,rfl⟩;rw[bK,<- aa]at o;generalize br[j]=y at*;generalize at0 y U.toNat=u1 at*;generalize at0 y q2.toNat=u2 at*;generalize ZB (zn x left) (zn y right)=ag at*;unfold QA at ac;generalize xK u1 u2=b at*;obtain⟨_,u1,_⟩:=u1;obtain⟨_,u2,_⟩:=u2;simp only at ac o;(conv=>whnf);refine⟨by omega,_,hg,rfl,?_⟩;refine aF ac ?_;cases b with
  |false=>
   have o:Y=vL cols (T++R'):=by rw[o,bZ,aA,bJ]
   (conv=>whnf);refine⟨(j+1,T),⟨⟨J,hT,by rw[o,aa]⟩,by show br.length -(j+1)<br.length - j;omega⟩,ze ?_⟩;(conv=>whnf);rw[wi];rfl
  |true=>
   rw[cn]at o;refine zi (b:=false||decide (zU true r u1>=zU false I u2)) (λh2=>?_) (λh2=>?_)
   ·rw[cG]at h2;have o:Y=vL cols (T++R'):=by rw[o,h2,Bool.not_true,bZ,aA,bJ]
    (conv=>whnf);refine⟨(j+1,T),⟨⟨J,hT,by rw[o,aa]⟩,by show br.length -(j+1)<br.length - j;omega⟩,ze ?_⟩;(conv=>whnf);rw[wi];rfl
   rw[cG]at h2;rw[h2,Bool.not_false,cn]at o;refine aF al ?_;refine aF ao ?_;refine aF aj ?_;cases ag with
   |false=>
    have o:Y=vL cols (T++R'):=by rw[o,aA,bJ]
    (conv=>whnf);refine⟨(j+1,T),⟨⟨J,hT,by rw[o,aa]⟩,by show br.length -(j+1)<br.length - j;omega⟩,ze ?_⟩;(conv=>whnf);rw[wi];rfl
   |true=>
    rw[aG]at o;refine zi (b:=(T.length:Int)==20000) (λh3=>?_) (λh3=>?_)
    ·have ai:T.length=20000:=by
      have:=eq_of_beq h3;omega
     have ax:Y=qE ⟨[],[]⟩ 7:=by rw[o];exact apT (by simp;omega)
     (conv=>whnf);exact af T u1 u2 ax
    have ai:T.length≠20000:=λe=>by rw[e]at h3;cases h3
    (conv=>whnf);refine bA (uq x (by omega)) ?_;rintro _ (⟨ad,rfl⟩|rfl)
    ·subst ad;simp at hp;omega
    refine aF an ?_;refine⟨XP _,by unfold ym;simp only[zt];simp[zn];omega,by simp only[zt];simp[zn];omega,?_⟩;(conv=>whnf);rw[show aL (rowD x).length (rowD x)++rowD (zn y g)=rowD (x++zn y g)by rw[aC];simp[rowD],show(rowD x).length+(rowD (zn y g)).length=(x++zn y g).length by simp[zt]];have a0:x.length<=(x++zn y g).length:=by simp
    unfold gX at o;generalize x++zn y g=R0 at*;(conv=>whnf);refine⟨by omega,_,rfl,rfl,?_⟩;(conv=>whnf);refine⟨by omega,_,rfl,rfl,?_⟩;(conv=>whnf);refine⟨hp.1,by omega,?_⟩;(conv=>whnf);refine⟨(at0 R0 p.toNat).ds,Yq (by omega),bI rfl,?_⟩;(conv=>whnf);rw[show(rowD R0).set p.toNat (z8 (at0 R0 p.toNat).ds 1 [.lit (.int .i64 (zU true r u1))])=rowD (setN R0 p (zU true r u1))from XO _ _ _];generalize zU true r u1=lo at*;have ay:=Wo R0 p lo;generalize setN R0 p lo=R1 at*;refine⟨hq.1,by omega,?_⟩;(conv=>whnf);refine⟨(at0 R1 q.toNat).ds,Yq (by omega),bI rfl,?_⟩;(conv=>whnf);rw[show(rowD R1).set q.toNat (z8 (at0 R1 q.toNat).ds (0+1) [.lit (.int .i64 (zU false I u2))])=rowD (setN R1 q (zU false I u2))from XO _ _ _];generalize zU false I u2=hi at*;have az:=Wo R1 q hi;generalize setN R1 q hi=R2 at*;have au:aL R0.length (rowD R2)=rowD R2:=by rw[show R0.length=R2.length by omega,<- zt,aC]
    rw[au];refine⟨by simp,by unfold ym;simp;omega,by simp;omega,?_⟩;(conv=>whnf);refine⟨(j+1,T++[R2]),⟨⟨J,by show(T++[R2]).length<=20000;simp;omega,by rw[o,aa];simp⟩,by show br.length -(j+1)<br.length - j;omega⟩,ze ?_⟩;(conv=>whnf);rw[wi,aq];show _=UX cols bc br left right p q U q2 g ar i x r I (j+1) (T++[R2]);unfold UX;rw[xm,aK];rfl
 have ak:j=br.length:=by have:=aB h1;omega
 subst ak;rw[bU]at o;have hQ:=hQ T hT (by rw[o];rfl);unfold xD UX at hQ;(conv=>whnf);exact hQ
theorem axG {s:S}(cols bc:am Col)(br:am (am Val))(left right:am Int)(p q r I:Int)(g:am Int)(j:am (am Val))
 (au:j.length<=1000000) (af:br.length<=1000000) (ah:left.length<=100000) (aj:right.length<=100000) (ai:g.length<=100000)
 (hx: ∀x∈j,x.length<=100000 /\zQ x.length left /\zQ x.length [p,q])
 (hy: ∀y∈br,zQ y.length right /\zQ y.length g /\zQ y.length [r,I])
 (h0:yX s [4,6,10,11,12,13,14,15,60,61,62] (· =aeG cols bc br left right p q r I g j 0 [])):
 zY (mwpR Pg T8.f (yg.l 1)) [4,6,10,11,12,13,14,15,60,61,62] (j5 0 (Vp (mwpR Pg T8.f ovRest) (Qf yg.A.res [] (DQ (vL cols (xI p q r I left right g j br)))))) s:=by
 obtain⟨Y,hY⟩: ∃Y,Y=vL cols (xI p q r I left right g j br):=⟨_,rfl⟩;rw[<- hY]
 refine yq (P:=Pg) (f:=T8.f) (body:=(yg.l 1)) (λz:Nat×am (am Val)=>aeG cols bc br left right p q r I g j z.1 z.2) (λz=>j.length - z.1)
  (λz=>z.1<=j.length /\z.2.length<=20000 /\Y=vL cols (z.2++xI p q r I left right g (j.drop z.1) br)) ⟨(0,[]),⟨aJ _,aJ _,hY⟩,h0⟩ ?_
 clear h0 hY;rintro⟨i,U⟩ ⟨hi,hU,o⟩;have hi:i<=j.length:=hi;have hU:U.length<=20000:=hU;have o:Y=vL cols (U++xI p q r I left right g (j.drop i) br):=o;show mwpR Pg T8.f (yg.l 1) _ (aeG cols bc br left right p q r I g j i U);have ak:(zf U).take U.length=zf U:=by rw[<- zx,aC]
 unfold aeG;refine zi (λh1=>?_) (λh1=>?_)
 ·have J:i<j.length:=by have:=aD h1;omega
  have hg:=yJ J;obtain⟨al,an,aa⟩:=hx _ (aE J);have wi:=zC J (by omega);have ac:=U8 j[i] p q (aa _ (by simp)) (aa _ (by simp));rw[zq J]at o;have ad:xI p q r I left right g (j[i]::j.drop (i+1)) br=WV p q r I left right g br j[i]++xI p q r I left right g (j.drop (i+1)) br:=by
   unfold xI;rw[bL]
  rw[ad]at o;obtain⟨R,ab⟩: ∃R,R=xI p q r I left right g (j.drop (i+1)) br:=⟨_,rfl⟩;rw[<- ab]at o;have ae:=λ(Q':E ->S ->Prop) (s':S) (s1 s2:Int)=>axF (Q:=Q') (s:=s') cols bc br left right p q r I g j i j[i] s1 s2 U R Y hU af ah aj ai al an (aa _ (by simp)) (aa _ (by simp)) hy
  clear hx ad;unfold WV at o;generalize j[i]=x at*;generalize at0 x p.toNat=u1 at*;generalize at0 x q.toNat=u2 at*;unfold QA at ac;generalize xK u1 u2=b at*;obtain⟨_,u1,_⟩:=u1;obtain⟨_,u2,_⟩:=u2;simp only at ac o;(conv=>whnf);refine⟨by omega,_,hg,rfl,?_⟩;refine aF ac ?_;cases b with
  |false=>
   have o:Y=vL cols (U++R):=by rw[o,aA,bJ]
   (conv=>whnf);refine⟨(i+1,U),⟨⟨J,hU,by rw[o,ab]⟩,by show j.length -(i+1)<j.length - i;omega⟩,ze ?_⟩;(conv=>whnf);rw[wi];rfl
  |true=>
   rw[aG]at o;(conv=>whnf);refine ae _ _ u1 u2 o (ze ?_) (λT u v ao=>?_) (λT hT aq=>?_)
   ·(conv=>whnf);unfold UX;rw[zx];rfl
   ·subst ao;exact⟨rfl,rfl⟩
   unfold xD UX;(conv=>whnf);refine⟨(i+1,T),⟨⟨J,hT,by rw[aq,ab]⟩,by show j.length -(i+1)<j.length - i;omega⟩,ze ?_⟩;(conv=>whnf);rw[wi];rfl
 have ag:j.length<=i:=by have:=aB h1;omega
 rw[aO ag]at o;have o:Y=qE ⟨cols,U⟩ 0:=by
  rw[o];unfold vL;rw[show xI p q r I left right g [] br=[]from rfl,aT,show decide (U.length<=20000)=true by simpa using hU];rfl
 subst o;(conv=>whnf);refine⟨rfl,?_⟩;refine di (b:=⟨.tup [.agg [.d (.sl (zm cols)),.d (.sl ((zf U).take U.length))],.c (int 0)],[]⟩) rfl ?_;rw[ak];rfl
def apU (a b:Tbl)(g:am ByteArray):Res:=bif (jV 7 g a b).1 !=0 then qE ⟨[],[]⟩ (jV 7 g a b).1 else
 vL (jV 7 g a b).2 (xI (zj a.cols sFrom) (zj a.cols sTo) (zj b.cols sFrom) (zj b.cols sTo) (zh a.cols g) (zh b.cols g) (oth (g++[sFrom,sTo]) 0 b.cols) a.rows b.rows)
theorem acd (a b:Tbl)(g:am ByteArray)(aj:g.length<=100000)(ae:a.cols.length<=1000000)(J:b.cols.length<=1000000):Sat Pg q0 [a.w,b.w,.c (.d (.sl (zp g)))] (λr=>r=apU a b g):=by
 have hc:=aaj 7 g a b (by omega) ae J;have I:=@ah1 7 g a b (by omega);have ag:=qp a.cols (.sl (zf a.rows)) g (by omega);have ah:=qp b.cols (.sl (zf b.rows)) g (by omega);have aa:=qp a.cols (.sl (zf a.rows)) [sFrom,sTo] (by simp);have ab:=qp b.cols (.sl (zf b.rows)) [sFrom,sTo] (by simp);have R:=aeZ b.cols (.sl (zf b.rows)) (g++[sFrom,sTo]) J;have af:=vW g (by omega);have U:Sat Pg Zu [b.w,.c (.d (.sl (aL ((zp g).length+(aL 2 (zp [sFrom,sTo])).length) (aL (zp g).length (zp g)++aL 2 (zp [sFrom,sTo])))))] (λr=>r=rC (.d (.sl (zg (oth (g++[sFrom,sTo]) 0 b.cols))))):=by
  rw[show aL ((zp g).length+(aL 2 (zp [sFrom,sTo])).length) (aL (zp g).length (zp g)++aL 2 (zp [sFrom,sTo]))=zp (g++[sFrom,sTo])by
   rw[aC,show aL 2 (zp [sFrom,sTo])=zp [sFrom,sTo]from rfl,acx,show(zp g).length+(zp [sFrom,sTo]).length=(zp (g++[sFrom,sTo])).length by simp[zF],aC]]
  exact R
 unfold apU;generalize jV 7 g a b=c at*;obtain⟨c1,c2⟩:=c;simp only at I⊢;refine zD ?_;obtain⟨j,ar⟩:=a;obtain⟨i,br⟩:=b;simp only at*;refine yg.s T8 ?_;refine aF hc ?_;refine zw (λo=>?_) (λo=>?_)
 ·rw[show(c1 !=0)=true from o];exact⟨rfl,rfl⟩
 have o:(c1 !=0)=false:=o;rw[o];have ad:c1=0:=by simpa using o
 subst ad;obtain⟨ka,kb,hj⟩:=I rfl;obtain⟨i1,i2⟩:=jP hj.jn;have i3:=vt hj.i1;have i4:=vt hj.i2;have wa:=q9 ka;have wb:=q9 kb;have fa:=xE ka;have fb:=xE kb;have ol:=Wj (g++[sFrom,sTo]) i 0;have oi:=kJ (g++[sFrom,sTo]) i;have p1:zh j [sFrom,sTo]=[zj j sFrom,zj j sTo]:=rfl;have p2:zh i [sFrom,sTo]=[zj i sFrom,zj i sTo]:=rfl;have l1:(zh j g).length=g.length:=by simp[zh]
 have l2:(zh i g).length=g.length:=by simp[zh]
 have hm:=λ(s:S)=>axG (s:=s) c2 i br (zh j g) (zh i g) (zj j sFrom) (zj j sTo) (zj i sFrom) (zj i sTo) (oth (g++[sFrom,sTo]) 0 i) ar (by have:=fa.2;simp only at this;omega) (by have:=fb.2;simp only at this;omega) (by omega) (by omega) (by have:=fb.1;simp only at this;omega)
  (λx hx=>by have l:=wa x hx;have:=fa.1;simp only at this l;exact⟨by omega,by rw[l];exact i1,by rw[l];exact i3⟩)
  (λy hy=>by have l:=wb y hy;simp only at l;exact⟨by rw[l];exact i2,by rw[l];exact oi,by rw[l];exact i4⟩)
 rw[p1]at aa;rw[p2]at ab;clear i1 i2 i3 i4 wa wb fa fb ol oi p1 p2 l1 l2 hj ka kb I o;generalize zj j sFrom=p at*;generalize zj j sTo=q at*;generalize zj i sFrom=p2 at*;generalize zj i sTo=q2 at*;generalize zh j g=left at*;generalize zh i g=right at*;generalize oth (g++[sFrom,sTo]) 0 i=ai at*;refine aF ag ?_;refine aF ah ?_
 repeat' (first
  |(refine bA aa ?_;rintro _ rfl;conv=>whnf)
  |(refine bA ab ?_;rintro _ rfl;conv=>whnf)
  |(refine bA af ?_;rintro _ (⟨P,rfl⟩|rfl)<;>conv=>whnf)
  |(refine⟨by simp,by unfold ym;simp only[zF];simp;omega,by simp only[zF];simp;omega,?_⟩;conv=>whnf)
  |(refine⟨by simp,by unfold ym;simp,by simp,?_⟩;conv=>whnf)
  |(refine bA U ?_;rintro _ rfl;conv=>whnf)
  |(subst P;refine bA R ?_;rintro _ rfl;conv=>whnf)
  |(refine bH ?_ ?_<;>conv=>whnf))
 all_goals rw[zx]
 all_goals refine hm _ ⟨_,jm 15 1 143 1 (by omega) (by omega) rfl,?_⟩
 all_goals conv=>whnf
 all_goals rfl
def abO (y:am Val)(right:am Int):ByteArray:=(uG y right).getD ⟨#[]⟩
def Yp (br:am (am Val))(n:Int):am Val:=br.getD n.toNat []
def aqh (p q:Int)(g:am Int)(x y:am Val)(lo hi:Int)(u:Spa):am Val:=setN (setN (x++zn y g) p (zU true lo u.a)) q (zU false hi u.b)
def akc (p q:Int)(right g:am Int)(br:am (am Val))(l:am Spa)(x:am Val)(k:ByteArray)(lo hi:Int)(n:Int):am (am Val):=
 bif !zo (abO (Yp br n) right) k then []else [aqh p q g x (Yp br n) lo hi (va l n)]
def KK (p q:Int)(right g:am Int)(br:am (am Val))(l:am Spa)(x:am Val)(k:ByteArray)(lo hi:Int)(i:am Int):am (am Val):=i.flatMap (akc p q right g br l x k lo hi)
def sjS (l:am Spa)(I:am Col)(br:am (am Val))(cols:am Col)(left right:am Int)(p q:Int)(o:am Int)(P J:am Int)(r:am (am Val))(i:Nat)(x:am Val)(k:ByteArray)(lo hi:Int)(g:am Int)(j:Nat)(out:am (am Val)):S:=
 ⟨[(4,.w (.c (.d (.sl (qW l))))),(7,cV (.ptr 7 0)),(10,cV (.ptr 10 0)),(12,.w (.c (.d (.sl (zg left))))),(13,.w (.c (.d (.sl (zg right))))),(14,.w (.c (.d (.sl (zg [p,q]))))),(15,.w (.c (.d (.sl (zg o))))),(16,cV (.ptr 16 0)),(17,cV (.ptr 17 0)),(19,.w (yt x)),(22,cV (str k)),(24,cV (.ptr 24 0)),(57,.w (.c (.d (.sl (zf r))))),(58,zl r.length),(59,zl i),(96,.w (.c (.d (.sl (zg g))))),(97,zl g.length),(98,zl j)],
 [(7,.box [.d (.sl (zm I)),.d (.sl (zf br))]),(10,.box [.nil,.nil]),(16,.box [.d (.sl (zg P)),.d (.sl (zg J))]),(17,.box [.d (.sl (zm cols)),.own 159 1 out.length]),(24,.box [int lo,int hi]),(159,.arr 1 (zf out) false)]⟩
theorem amf (row:am Val)(at_:am Int)(i:zQ row.length at_)(g:at_.length<=1000000)(j: ∀v∈row,VS v):Sat Pg Qk [yt row,.c (.d (.sl (zg at_)))] (λr=>r=⟨.tup [.c (str (abO row at_)),.c (bool (uG row at_).isSome)],[]⟩):=by
 refine cN (ada row at_ i g j) ?_;unfold abO uG;cases uo row at_<;>rfl
theorem ayw {Q:E ->S ->Prop}{s:S}(l:am Spa)(bc:am Col)(br:am (am Val))(cols:am Col)(left right:am Int)(p q:Int)(g:am Int)(od mo:am Int)(ar:am (am Val))(i:Nat)(x:am Val)(k:ByteArray)(lo hi:Int)(o:am Int)(out R:am (am Val))(Y:Int×Tbl)
 (ac:out.length<=20000) (an:l.length=br.length) (a0:o.length<=1000000) (a2:right.length<=100000) (a1:g.length<=100000) (av:x.length<=100000) (hp:0<=p /\p<x.length) (hq:0<=q /\q<x.length) (hid: ∀n∈o,0<=n /\n<br.length)
 (hy: ∀y∈br,zQ y.length right /\zQ y.length g) (hv: ∀r∈br,∀v∈r,VS v)
 (hY:Y=xi cols (out++(KK p q right g br l x k lo hi o++R)))
 (h0:yX s [4,7,10,12,13,14,15,16,17,19,22,24,57,58,59,96,97,98] (· =sjS l bc br cols left right p q g od mo ar i x k lo hi o 0 out))
 (af: ∀T:am (am Val),Y=(7,⟨[],[]⟩) ->Q .ret ⟨[(10,cV (.ptr 10 0)),(11,zl 7)],[(7,.box [.d (.sl (zm bc)),.d (.sl (zf br))]),(10,.box [.nil,.nil]),(16,.box [.d (.sl (zg od)),.d (.sl (zg mo))]),(17,.box [.d (.sl (zm cols)),.own 159 1 T.length]),(24,.box [int lo,int hi]),(159,.arr 1 (zf T) false)]⟩)
 (hQ: ∀T:am (am Val),T.length<=20000 ->Y=xi cols (T++R) ->Q (.exit 2) (xD (sjS l bc br cols left right p q g od mo ar i x k lo hi o o.length T) 99 (ya (decide ((o.length:Int)<o.length))))):
 zY (mwpR Pg T8.f (yU.l 0)) [4,7,10,12,13,14,15,16,17,19,22,24,57,58,59,96,97,98] Q s:=by
 refine yq (P:=Pg) (f:=T8.f) (body:=(yU.l 0)) (λz:Nat×am (am Val)=>sjS l bc br cols left right p q g od mo ar i x k lo hi o z.1 z.2) (λz=>o.length - z.1)
  (λz=>z.1<=o.length /\z.2.length<=20000 /\Y=xi cols (z.2++(KK p q right g br l x k lo hi (o.drop z.1)++R))) ⟨(0,out),⟨aJ _,ac,hY⟩,h0⟩ ?_
 clear h0 hY ac;rintro⟨j,T⟩ ⟨hj,hT,J⟩;have hj:j<=o.length:=hj;have hT:T.length<=20000:=hT;have J:Y=xi cols (T++(KK p q right g br l x k lo hi (o.drop j)++R)):=J;show mwpR Pg T8.f (yU.l 0) _ (sjS l bc br cols left right p q g od mo ar i x k lo hi o j T);have aq:(zf T).take T.length=zf T:=by rw[<- zx,aC]
 unfold sjS;refine zi (λh1=>?_) (λh1=>?_)
 ·have U:j<o.length:=by have:=aD h1;omega
  have hg:=y5 U;have wi:=zC U (by omega);have hn:=hid _ (aE U);rw[zq U]at J;have ae:KK p q right g br l x k lo hi (o[j]::o.drop (j+1))=akc p q right g br l x k lo hi o[j]++KK p q right g br l x k lo hi (o.drop (j+1)):=by
   unfold KK;rw[bL]
  rw[ae]at J;clear hQ ae;obtain⟨R',ad⟩: ∃R',R'=KK p q right g br l x k lo hi (o.drop (j+1))++R:=⟨_,rfl⟩;rw[bK,<- ad]at J;unfold akc at J;generalize o[j]=n at*;have h6:n.toNat<br.length:=by omega
  have aa:Yp br n=br[n.toNat]:=by simp[Yp,aY,am.getElem?_eq_getElem h6]
  have al:(zf br)[n.toNat]? =some [.sl (rowD (Yp br n))]:=by
   rw[aa];simp[zf,am.getElem?_eq_getElem h6]
  have ab:=ahX l hn.1 (by rw[an];exact hn.2);obtain⟨ag,ah⟩:zQ (Yp br n).length right /\zQ (Yp br n).length g:=by rw[aa];exact hy _ (aE h6)
  have hk:=amf (Yp br n) right ag (by omega) (by rw[aa];exact hv _ (aE h6));have ao:=acg (Yp br n) g (by omega) ah;have aj:=w7 x (zn (Yp br n) g) av (by simp[zn];omega);unfold aqh at J;clear hy hv aa ag ah;generalize Yp br n=y at*;generalize(uG y right).isSome=kb at*;generalize abO y right=ks at*;generalize va l n=sp at*;obtain⟨u1,u2⟩:=sp;simp only at J;have ab:(qW l)[n.toNat]? =some [.lit (.int .i64 u1),.lit (.int .i64 u2)]:=ab;(conv=>whnf);refine⟨by omega,_,hg,rfl,?_⟩;(conv=>whnf);(conv=>whnf);refine⟨hn.1,_,al,rfl,?_⟩;refine aF hk ?_;refine zw (b:=!zo ks k) (λh2=>?_) (λh2=>?_)
  ·have J:Y=xi cols (T++R'):=by rw[J,h2,aG,bJ]
   (conv=>whnf);refine⟨(j+1,T),⟨⟨U,hT,by rw[J,ad]⟩,by show o.length -(j+1)<o.length - j;omega⟩,ze ?_⟩;(conv=>whnf);rw[wi];rfl
  rw[h2,aA]at J;refine zi (b:=(T.length:Int)==20000) (λh3=>?_) (λh3=>?_)
  ·have ai:T.length=20000:=by
    have:=eq_of_beq h3;omega
   have aw:Y=(7,⟨[],[]⟩):=by rw[J];exact aiw (by simp;omega)
   (conv=>whnf);exact af T aw
  have ai:T.length≠20000:=λe=>by rw[e]at h3;cases h3
  have az:x.length<=(x++zn y g).length:=by simp
  generalize x++zn y g=I at*;refine aF ao ?_;refine aF aj ?_;refine⟨by omega,_,rfl,rfl,?_⟩;(conv=>whnf);refine⟨by omega,_,rfl,rfl,?_⟩;(conv=>whnf);refine⟨hn.1,_,ab,rfl,?_⟩;(conv=>whnf);refine⟨hn.1,_,ab,rfl,?_⟩;(conv=>whnf);refine⟨hp.1,by omega,?_⟩;(conv=>whnf);have ax:=Wo I p (zU true lo u1);have ay:=Wo (setN I p (zU true lo u1)) q (zU false hi u2);have au:aL I.length (rowD (setN (setN I p (zU true lo u1)) q (zU false hi u2)))=rowD (setN (setN I p (zU true lo u1)) q (zU false hi u2)):=by
   rw[show I.length=(setN (setN I p (zU true lo u1)) q (zU false hi u2)).length by omega,<- zt,aC]
  refine bH ?_ ?_;all_goals conv=>whnf
  all_goals refine⟨(at0 I p.toNat).ds,Yq (by omega),bI rfl,?_⟩
  all_goals conv=>whnf
  all_goals rw[show(rowD I).set p.toNat (z8 (at0 I p.toNat).ds (0+1) [.lit (.int .i64 (zU true lo u1))])=rowD (setN I p (zU true lo u1))from XO _ _ _]
  all_goals refine⟨hq.1,by omega,?_⟩
  all_goals conv=>whnf
  all_goals refine⟨(at0 (setN I p (zU true lo u1)) q.toNat).ds,Yq (by omega),bI rfl,?_⟩
  all_goals conv=>whnf
  all_goals rw[show(rowD (setN I p (zU true lo u1))).set q.toNat (z8 (at0 (setN I p (zU true lo u1)) q.toNat).ds (0+1) [.lit (.int .i64 (zU false hi u2))])=rowD (setN (setN I p (zU true lo u1)) q (zU false hi u2))from XO _ _ _]
  all_goals rw[au]
  all_goals generalize setN (setN I p (zU true lo u1)) q (zU false hi u2)=R2 at*
  all_goals refine⟨by simp,by unfold ym;simp;omega,by simp;omega,?_⟩
  all_goals conv=>whnf
  all_goals refine⟨(j+1,T++[R2]),⟨⟨U,by show(T++[R2]).length<=20000;simp;omega,by rw[J,ad];simp⟩,by show o.length -(j+1)<o.length - j;omega⟩,ze ?_⟩
  all_goals conv=>whnf
  all_goals rw[wi,aq]
  all_goals show _=sjS l bc br cols left right p q g od mo ar i x k lo hi o (j+1) (T++[R2])
  all_goals unfold sjS
  all_goals rw[xm,aK]
  all_goals rfl
 have ak:j=o.length:=by have:=aB h1;omega
 subst ak;rw[bU]at J;have hQ:=hQ T hT (by rw[J];rfl);unfold xD sjS at hQ;(conv=>whnf);exact hQ
def sjX (p q:Int)(left right g:am Int)(br:am (am Val))(l:am Spa)(x:am Val):am (am Val):=
 bif !xK (at0 x p.toNat) (at0 x q.toNat)||(!(uG x left).isSome|| !XS (zU true (at0 x p.toNat).n 0) (zU false (at0 x q.toNat).n 1000000000000))then []else
  KK p q right g br l x (abO x left) (zU true (at0 x p.toNat).n 0) (zU false (at0 x q.toNat).n 1000000000000) (UC l ⟨zU true (at0 x p.toNat).n 0,zU false (at0 x q.toNat).n 1000000000000⟩)
theorem atL (l:am Spa)(s:Spa): ∀n∈UC l s,0<=n /\n<l.length:=by
 have gen: ∀(f lo hi:Nat) (st:am Int×Int),lo<=l.length ->hi<=l.length ->(∀n∈st.1,0<=n /\n<(l.length:Int)) -> ∀n∈(jL l (uB l) (ZY l) s f lo hi st).1,0<=n /\n<(l.length:Int):=by
  intro f;induction f with
  |zero=>intro lo hi st _ _ h;exact h
  |succ f p=>
   intro lo hi st r I h;simp only[jL];cases i:(decide (hi<=lo)||decide ((ZY l).getD ((lo+hi)/2) 0<=s.a))
   ·have J:lo<hi:=by
     simp only[aV]at i;have:=aB i.1;omega
    have o:=p lo ((lo+hi)/2) (st.1,st.2+1) r (by omega) h;cases P:decide ((va l ((uB l).getD ((lo+hi)/2) 0)).a>=s.b)
    ·simp only[aA];refine p _ _ _ (by omega) I ?_;intro n g;rcases bT.1 g with g|g
     ·exact o n g
     cases j:(XS (va l ((uB l).getD ((lo+hi)/2) 0)).a (va l ((uB l).getD ((lo+hi)/2) 0)).b&&(XS s.a s.b&&decide ((va l ((uB l).getD ((lo+hi)/2) 0)).b>s.a)))
     ·rw[j]at g;cases g
     rw[j,aG,bC]at g;subst g;refine ahv l _ ?_;rw[aY,am.getElem?_eq_getElem (by rw[kI];omega)];exact aE _
    simp only[aA,aG];exact o
   simp only[aG];exact h
 intro n g;unfold UC at g;have g:=(V2 _).mem_iff.1 g;unfold Q6 at g;exact gen l.length 0 l.length ([],0) (aJ _) (aP _) (by simp) n g
def aqi (l:am Spa)(o:am Col)(br:am (am Val))(cols:am Col)(left right:am Int)(p q:Int)(g:am Int)(j:am (am Val))(i:Nat)(out:am (am Val)):S:=
 ⟨[(4,.w (.c (.d (.sl (qW l))))),(7,cV (.ptr 7 0)),(10,cV (.ptr 10 0)),(12,.w (.c (.d (.sl (zg left))))),(13,.w (.c (.d (.sl (zg right))))),(14,.w (.c (.d (.sl (zg [p,q]))))),(15,.w (.c (.d (.sl (zg g))))),(16,cV (.ptr 16 0)),(17,cV (.ptr 17 0)),(57,.w (.c (.d (.sl (zf j))))),(58,zl j.length),(59,zl i)],
 [(7,.box [.d (.sl (zm o)),.d (.sl (zf br))]),(10,.box [.nil,.nil]),(16,.box [.d (.sl (zg (uB l))),.d (.sl (zg (ZY l)))]),(17,.box [.d (.sl (zm cols)),.own 159 1 out.length]),(159,.arr 1 (zf out) false)]⟩
noncomputable def sjRest:ACode:=xp (xp (xp (xp (xp (xp (xp yU.A.code))))))
theorem ayx {s:S}(l:am Spa)(bc:am Col)(br:am (am Val))(cols:am Col)(left right:am Int)(p q:Int)(g:am Int)(j:am (am Val))
 (af:l.length=br.length) (ay:j.length<=1000000) (az:br.length<=1000000) (a1:left.length<=100000) (an:right.length<=100000) (al:g.length<=100000)
 (hx: ∀x∈j,x.length<=100000 /\zQ x.length left /\zQ x.length [p,q]) (aa: ∀r∈j,∀v∈r,VS v)
 (hy: ∀y∈br,zQ y.length right /\zQ y.length g) (aq: ∀r∈br,∀v∈r,VS v)
 (h0:yX s [4,7,10,12,13,14,15,16,17,57,58,59] (· =aqi l bc br cols left right p q g j 0 [])):
 zY (mwpR Pg T8.f (yU.l 1)) [4,7,10,12,13,14,15,16,17,57,58,59] (j5 0 (Vp (mwpR Pg T8.f sjRest) (Qf yU.A.res [] (DQ (wK (xi cols (j.flatMap (sjX p q left right g br l)))))))) s:=by
 obtain⟨Y,hY⟩: ∃Y,Y=xi cols (j.flatMap (sjX p q left right g br l)):=⟨_,rfl⟩;rw[<- hY]
 refine yq (P:=Pg) (f:=T8.f) (body:=(yU.l 1)) (λz:Nat×am (am Val)=>aqi l bc br cols left right p q g j z.1 z.2) (λz=>j.length - z.1)
  (λz=>z.1<=j.length /\z.2.length<=20000 /\Y=xi cols (z.2++(j.drop z.1).flatMap (sjX p q left right g br l))) ⟨(0,[]),⟨aJ _,aJ _,hY⟩,h0⟩ ?_
 clear h0 hY;rintro⟨i,U⟩ ⟨hi,hU,o⟩;have hi:i<=j.length:=hi;have hU:U.length<=20000:=hU;have o:Y=xi cols (U++(j.drop i).flatMap (sjX p q left right g br l)):=o;show mwpR Pg T8.f (yU.l 1) _ (aqi l bc br cols left right p q g j i U);have ao:(zf U).take U.length=zf U:=by rw[<- zx,aC]
 unfold aqi;refine zi (λh1=>?_) (λh1=>?_)
 ·have I:i<j.length:=by have:=aD h1;omega
  have hg:=yJ I;have ah:=aE I;obtain⟨au,av,ab⟩:=hx _ ah;have wi:=zC I (by omega);have ae:=aiP j[i] p q (ab _ (by simp)) (ab _ (by simp));have hk:=amf j[i] left av (by omega) (aa _ ah);rw[zq I,bL]at o;obtain⟨R,J⟩: ∃R,R=(j.drop (i+1)).flatMap (sjX p q left right g br l):=⟨_,rfl⟩;rw[<- J]at o;have ai:=λ(Q':E ->S ->Prop) (s':S) (k:ByteArray) (lo hi:Int) (ac:am Int)=>ayw (Q:=Q') (s:=s') l bc br cols left right p q g (uB l) (ZY l) j i j[i] k lo hi ac U R Y hU af
  have hp:=ab p (by simp);have hq:=ab q (by simp);clear hx aa;unfold sjX at o;generalize j[i]=x at*;generalize at0 x p.toNat=u1 at*;generalize at0 x q.toNat=u2 at*;unfold QA at ae;generalize xK u1 u2=b at*;obtain⟨_,u1,_⟩:=u1;obtain⟨_,u2,_⟩:=u2;simp only at ae o;have aa:=J4 (zU true u1 0) (zU false u2 1000000000000);have ag:=adw l ⟨zU true u1 0,zU false u2 1000000000000⟩ (by omega);have a0:=atK l ⟨zU true u1 0,zU false u2 1000000000000⟩;have aj:=atL l ⟨zU true u1 0,zU false u2 1000000000000⟩;generalize XS (zU true u1 0) (zU false u2 1000000000000)=vb at*;generalize abO x left=k at*;generalize(uG x left).isSome=kb at*;simp only at ag;(conv=>whnf);refine⟨by omega,_,hg,rfl,?_⟩;refine aF ae ?_;refine aF hk ?_;cases b with
  |false=>
   have o:Y=xi cols (U++R):=by rw[o];rfl
   (conv=>whnf);refine⟨(i+1,U),⟨⟨I,hU,by rw[o,J]⟩,by show j.length -(i+1)<j.length - i;omega⟩,ze ?_⟩;(conv=>whnf);rw[wi];rfl
  |true=>
   (conv=>whnf);cases kb with
   |false=>
    have o:Y=xi cols (U++R):=by rw[o];rfl
    (conv=>whnf);refine⟨(i+1,U),⟨⟨I,hU,by rw[o,J]⟩,by show j.length -(i+1)<j.length - i;omega⟩,ze ?_⟩;(conv=>whnf);rw[wi];rfl
   |true=>
    refine aF aa ?_;cases vb with
    |false=>
     have o:Y=xi cols (U++R):=by rw[o];rfl
     (conv=>whnf);refine⟨(i+1,U),⟨⟨I,hU,by rw[o,J]⟩,by show j.length -(i+1)<j.length - i;omega⟩,ze ?_⟩;(conv=>whnf);rw[wi];rfl
    |true=>
     generalize zU true u1 0=lo at*;generalize zU false u2 1000000000000=ad at*;generalize UC l ⟨lo,ad⟩=ac at*;have o:Y=xi cols (U++(KK p q right g br l x k lo ad ac++R)):=by rw[o];rfl
     refine aF ag ?_;rw[zB];refine ai _ _ k lo ad ac (by omega) an al au hp hq (λn hn=>by rw[<- af];exact aj n hn) hy aq o (ze ?_) (λT aw=>?_) (λT hT ax=>?_)
     ·exact rfl
     ·subst aw;exact⟨rfl,rfl⟩
     unfold xD sjS;(conv=>whnf);refine⟨(i+1,T),⟨⟨I,hT,by rw[ax,J]⟩,by show j.length -(i+1)<j.length - i;omega⟩,ze ?_⟩;(conv=>whnf);rw[wi];rfl
 have ak:j.length<=i:=by have:=aB h1;omega
 rw[aO ak]at o;have o:Y=(0,⟨cols,U⟩):=by
  rw[o];unfold xi;rw[dm,aT,show decide (U.length<=20000)=true by simpa using hU];rfl
 subst o;(conv=>whnf);refine⟨rfl,?_⟩;refine di (b:=⟨.tup [.agg [.d (.sl (zm cols)),.d (.sl ((zf U).take U.length))],.c (int 0)],[]⟩) rfl ?_;rw[ao];rfl
theorem ahT (st:Stp)(a b:Tbl)(cols:am Col)(l:am Spa)(I:l.length=b.rows.length)(ak:st.cols.length<=100000)(aa:a.rows.length<=1000000)(o:b.rows.length<=1000000)(ab:b.cols.length<=1000000)
 (hx: ∀x∈a.rows,x.length<=100000 /\zQ x.length (zh a.cols st.cols)/\zQ x.length [zj a.cols sFrom,zj a.cols sTo])
 (hy: ∀y∈b.rows,zQ y.length (zh b.cols st.cols)/\zQ y.length (oth (st.cols++[sFrom,sTo]) 0 b.cols)) (J:(oth (st.cols++[sFrom,sTo]) 0 b.cols).length<=100000)
 (R: ∀r∈a.rows,∀v∈r,VS v) (U: ∀r∈b.rows,∀v∈r,VS v):
 Sat Pg XL [st.w,a.w,b.w,.c (.d (.sl (zm cols))),.c (.d (.sl (qW l)))]
  (λr=>r=wK (xi cols (a.rows.flatMap (sjX (zj a.cols sFrom) (zj a.cols sTo) (zh a.cols st.cols) (zh b.cols st.cols) (oth (st.cols++[sFrom,sTo]) 0 b.cols) b.rows l)))):=by
 obtain⟨i,ar⟩:=a;obtain⟨j,br⟩:=b;have af:=ua i (.sl (zf ar)) st.cols (by omega);have ag:=ua j (.sl (zf br)) st.cols (by omega);have ai:=ua i (.sl (zf ar)) [sFrom,sTo] (by simp);have P:=ach j (.sl (zf br)) (st.cols++[sFrom,sTo]) (by simpa using ab);have ad:=vW st.cols (by omega);have aj:=ack l (by simp only at I o;omega);have p1:zh i [sFrom,sTo]=[zj i sFrom,zj i sTo]:=rfl;have l1:(zh i st.cols).length=st.cols.length:=by simp[zh]
 have l2:(zh j st.cols).length=st.cols.length:=by simp[zh]
 obtain⟨op,⟨eo,nm,⟨vk,vn,vs⟩,au⟩,al,g,ao,an,n,av⟩:=st;rw[qT];simp only at af ag P ad I ak aa o ab hx hy J R U l1 l2⊢;have ah:Sat Pg Kw [.agg [.d (.sl (zm j)),.d (.sl (zf br))],.c (.d (.sl (aL ((zp g).length+(aL 2 (zp [sFrom,sTo])).length) (aL (zp g).length (zp g)++aL 2 (zp [sFrom,sTo])))))] (λr=>r=rC (.d (.sl (zg (oth (g++[sFrom,sTo]) 0 j))))):=by
  rw[show aL ((zp g).length+(aL 2 (zp [sFrom,sTo])).length) (aL (zp g).length (zp g)++aL 2 (zp [sFrom,sTo]))=zp (g++[sFrom,sTo])by
   rw[aC,show aL 2 (zp [sFrom,sTo])=zp [sFrom,sTo]from rfl,acx,show(zp g).length+(zp [sFrom,sTo]).length=(zp (g++[sFrom,sTo])).length by simp[zF],aC]]
  exact P
 have hm:=λ(s:S)=>ayx (s:=s) l j br cols (zh i g) (zh j g) (zj i sFrom) (zj i sTo) (oth (g++[sFrom,sTo]) 0 j) ar I aa o (by omega) (by omega) J hx R hy U
 rw[p1]at ai;clear hx hy R U p1 l1 l2 J;generalize zj i sFrom=p at*;generalize zj i sTo=q at*;generalize zh i g=left at*;generalize zh j g=right at*;generalize oth (g++[sFrom,sTo]) 0 j=aq at*;refine zD ?_;refine yU.s T8 ?_;refine aF af ?_;refine aF ag ?_;refine aF ai ?_
 repeat' (first
  |(refine bA ad ?_;rintro _ (⟨ae,rfl⟩|rfl)<;>conv=>whnf)
  |(refine⟨by simp,by unfold ym;simp only[zF];simp;omega,by simp only[zF];simp;omega,?_⟩;conv=>whnf)
  |(refine⟨by simp,by unfold ym;simp,by simp,?_⟩;conv=>whnf)
  |(refine bA ah ?_;rintro _ rfl;conv=>whnf)
  |(subst ae;refine bA P ?_;rintro _ rfl;conv=>whnf)
  |(refine bA aj ?_;rintro _ rfl;conv=>whnf)
  |(refine bH ?_ ?_<;>conv=>whnf))
 all_goals rw[zx]
 all_goals refine hm _ ⟨_,jm 17 1 159 1 (by omega) (by omega) rfl,?_⟩
 all_goals conv=>whnf
 all_goals rfl
end
section
open Go Go.AM
attribute [local irreducible] Sat zA zY zo
theorem Z1 (s:Stp):Sat Pg km [s.w] (λr=>r=⟨.tup [s.w,.c (bool true)],[]⟩):=by
 obtain⟨op,⟨o,p,⟨I,J,vs⟩,ks⟩,g,l,j,i,n,tb⟩:=s;rw[qT];refine KZ.s T8 ?_;rfl
theorem kW (d:am Nmd)(t:Tbl)(st:Stp)(e:Int)(o:(e !=0)=true)(cols:am Col)(l:Sat Pg zK [.c (.d (.sl (zu d))),.c (.d (.sl (zm t.cols))),st.w] (λr=>r=xF (e,cols))):Sat Pg xH [.c (.d (.sl (zu d))),t.w,.c (.d (.ifc 109 st.ds))] (λr=>r=qE ⟨[],[]⟩ e):=by
 refine zD ?_;have hs:=Z1 st;obtain⟨tc,P⟩:=t;obtain⟨op,⟨I,J,⟨R,U,vs⟩,ks⟩,g,p,j,i,n,tb⟩:=st;rw[qT]at hs l;refine qP.s T8 ?_;refine aF hs ?_;refine aF l ?_;rw[o];exact⟨rfl,rfl⟩
theorem W0 (s:Stp):Sat Pg kl [s.w] (λr=>r=⟨.tup [s.w,.c (bool true)],[]⟩):=by
 obtain⟨op,⟨o,p,⟨I,J,vs⟩,ks⟩,g,l,j,i,n,tb⟩:=s;rw[qT];refine KY.s T8 ?_;rfl
theorem kV (d:am Nmd)(t:Tbl)(st:Stp)(e:Int)(o:(e !=0)=true)(cols:am Col)(l:Sat Pg zK [.c (.d (.sl (zu d))),.c (.d (.sl (zm t.cols))),st.w] (λr=>r=xF (e,cols))):Sat Pg xH [.c (.d (.sl (zu d))),t.w,.c (.d (.ifc 110 st.ds))] (λr=>r=qE ⟨[],[]⟩ e):=by
 refine zD ?_;have hs:=W0 st;obtain⟨tc,P⟩:=t;obtain⟨op,⟨I,J,⟨R,U,vs⟩,ks⟩,g,p,j,i,n,tb⟩:=st;rw[qT]at hs l;refine qP.s T8 ?_;refine aF hs ?_;refine aF l ?_;rw[o];exact⟨rfl,rfl⟩
theorem VG (s:Stp):Sat Pg gL [s.w] (λr=>r=⟨.tup [s.w,.c (bool true)],[]⟩):=by
 obtain⟨op,⟨o,p,⟨I,J,vs⟩,ks⟩,g,l,j,i,n,tb⟩:=s;rw[qT];refine gv.s T8 ?_;rfl
theorem aai (d:am Nmd)(t:Tbl)(st:Stp)(e:Int)(o:(e !=0)=true)(cols:am Col)(l:Sat Pg zK [.c (.d (.sl (zu d))),.c (.d (.sl (zm t.cols))),st.w] (λr=>r=xF (e,cols))):Sat Pg xH [.c (.d (.sl (zu d))),t.w,.c (.d (.ifc 111 st.ds))] (λr=>r=qE ⟨[],[]⟩ e):=by
 refine zD ?_;have hs:=VG st;obtain⟨tc,P⟩:=t;obtain⟨op,⟨I,J,⟨R,U,vs⟩,ks⟩,g,p,j,i,n,tb⟩:=st;rw[qT]at hs l;refine qP.s T8 ?_;refine aF hs ?_;refine aF l ?_;rw[o];exact⟨rfl,rfl⟩
theorem aml (d:am Nmd)(t:Tbl)(st:Stp)(cols:am Col)(I:Sat Pg zK [.c (.d (.sl (zu d))),.c (.d (.sl (zm t.cols))),st.w] (λr=>r=xF (0,cols)))(g:Tbl)(i:zZ st.table d=some g)(y:Int×Tbl)(p:Sat Pg Qj [st.w,t.w,g.w,.c (.d (.sl (zm cols)))] (λr=>r=wK y)):Sat Pg xH [.c (.d (.sl (zu d))),t.w,.c (.d (.ifc 111 st.ds))] (λr=>r=wK y):=by
 have hs:=VG st;have J:=y9 d st.table;rw[i]at J;obtain⟨tc,tr⟩:=t;obtain⟨U,fr⟩:=g;obtain⟨y1,⟨y2,y3⟩⟩:=y;obtain⟨op,⟨R,nm,⟨vk,vn,vs⟩,ks⟩,j,P,o,l,n,tb⟩:=st;rw[qT]at hs I p;simp only at*;refine qP.s T8 ?_;refine aF hs ?_;refine aF I ?_;refine aF J ?_;refine aF p ?_;rfl
theorem ajV (d:am Nmd)(t:Tbl)(st:Stp)(cols:am Col)(I:Sat Pg zK [.c (.d (.sl (zu d))),.c (.d (.sl (zm t.cols))),st.w] (λr=>r=xF (0,cols)))(g:Tbl)(i:zZ st.table d=some g)(y:Int×Tbl)(p:Sat Pg XK [st.w,t.w,g.w,.c (.d (.sl (zm cols)))] (λr=>r=⟨.w y.2.w,[]⟩)):Sat Pg xH [.c (.d (.sl (zu d))),t.w,.c (.d (.ifc 110 st.ds))] (λr=>r=qE y.2 0):=by
 have hs:=W0 st;have J:=y9 d st.table;rw[i]at J;obtain⟨tc,tr⟩:=t;obtain⟨U,fr⟩:=g;obtain⟨y1,⟨y2,y3⟩⟩:=y;obtain⟨op,⟨R,nm,⟨vk,vn,vs⟩,ks⟩,j,P,o,l,n,tb⟩:=st;rw[qT]at hs I p;simp only at*;refine qP.s T8 ?_;refine aF hs ?_;refine aF I ?_;refine aF J ?_;refine aF p ?_;rfl
theorem ajW (d:am Nmd)(t:Tbl)(st:Stp)(cols:am Col)(J:Sat Pg zK [.c (.d (.sl (zu d))),.c (.d (.sl (zm t.cols))),st.w] (λr=>r=xF (0,cols)))(g:Tbl)(i:zZ st.table d=some g)(l:am Spa)(R:Sat Pg Yh [g.w] (λr=>r=rSO (some l)))(y:Int×Tbl)(I:Sat Pg XL [st.w,t.w,g.w,.c (.d (.sl (zm cols))),.c (.d (.sl (qW l)))] (λr=>r=wK y)):Sat Pg xH [.c (.d (.sl (zu d))),t.w,.c (.d (.ifc 109 st.ds))] (λr=>r=wK y):=by
 have hs:=Z1 st;have P:=y9 d st.table;rw[i]at P;obtain⟨tc,tr⟩:=t;obtain⟨fc,fr⟩:=g;obtain⟨y1,⟨y2,y3⟩⟩:=y;obtain⟨op,⟨eo,nm,⟨vk,vn,vs⟩,ks⟩,j,U,p,o,n,tb⟩:=st;rw[qT]at hs J I;simp only at*;refine qP.s T8 ?_;refine aF hs ?_;refine aF J ?_;refine aF P ?_;refine aF R ?_;refine aF I ?_;rfl
theorem agp (d:am Nmd)(t:Tbl)(st:Stp)(cols:am Col)(p:Sat Pg zK [.c (.d (.sl (zu d))),.c (.d (.sl (zm t.cols))),st.w] (λr=>r=xF (0,cols)))(g:Tbl)(i:zZ st.table d=some g)(P:Sat Pg Yh [g.w] (λr=>r=rSO none))(y:Int×Tbl)(J:Sat Pg q0 [t.w,g.w,.c (.d (.sl (zp st.cols)))] (λr=>r=wK y)):Sat Pg xH [.c (.d (.sl (zu d))),t.w,.c (.d (.ifc 109 st.ds))] (λr=>r=wK y):=by
 have hs:=Z1 st;have I:=y9 d st.table;rw[i]at I;obtain⟨tc,tr⟩:=t;obtain⟨fc,fr⟩:=g;obtain⟨y1,⟨y2,y3⟩⟩:=y;obtain⟨op,⟨U,nm,⟨vk,vn,vs⟩,ks⟩,j,R,o,l,n,tb⟩:=st;rw[qT]at hs p;simp only at*;refine qP.s T8 ?_;refine aF hs ?_;refine aF p ?_;refine aF I ?_;refine aF P ?_;refine aF J ?_;rfl
end
section
open Go Go.AM
attribute [local irreducible] Sat zA zY
def Qn (l:am (am Val)):Res:=bif decide (l.length<=20000)then⟨.tup [.c (.d (.sl (zf l))),.c (bool true)],[]⟩else⟨.tup [.c (.d (.sl [])),.c (bool false)],[]⟩
theorem arS {l:am (am Val)}(h:20000<l.length):Qn l=⟨.tup [.c (.d (.sl [])),.c (bool false)],[]⟩:=by
 unfold Qn;rw[show decide (l.length<=20000)=false by simpa using h];rfl
theorem axx {Q:E ->S ->Prop}{s:S}(I:am Col)(br:am (am Val))(left right g:am Int)(J:am (am Val))(i:Nat)(x key:am Val)(out R:am (am Val))(Y:Res)
 (r:out.length<=20000) (an:br.length<=1000000) (aq:right.length<=100000) (ao:g.length<=100000) (ak:x.length<=100000) (hr: ∀y∈br,zQ y.length right) (ho: ∀y∈br,zQ y.length g)
 (hY:Y=Qn (out++(wE x key right g br++R)))
 (h0:yX s [4,8,9,10,13,15,16,44,45,46,57,58,59] (· =Vx I br left right g J i x key 0 out))
 (ac: ∀T:am (am Val),Y=⟨.tup [.c (.d (.sl [])),.c (bool false)],[]⟩ ->Q .ret ⟨[(6,cV .nil),(7,ya false)],[(4,.box [.d (.sl (zm I)),.d (.sl (zf br))]),(41,.arr 1 (zg g) true),(80,.arr 1 (zf T) false)]⟩)
 (U: ∀T:am (am Val),T.length<=20000 ->Y=Qn (T++R) ->Q (.exit 4) (xD (Vx I br left right g J i x key br.length T) 60 (ya (decide ((br.length:Int)<br.length))))):
 zY (mwpR Pg T8.f (yH.l 1)) [4,8,9,10,13,15,16,44,45,46,57,58,59] Q s:=by
 refine yq (P:=Pg) (f:=T8.f) (body:=(yH.l 1)) (λz:Nat×am (am Val)=>Vx I br left right g J i x key z.1 z.2) (λz=>br.length - z.1)
  (λz=>z.1<=br.length /\z.2.length<=20000 /\Y=Qn (z.2++(wE x key right g (br.drop z.1)++R))) ⟨(0,out),⟨aJ _,r,hY⟩,h0⟩ ?_
 clear h0 hY r;rintro⟨j,T⟩ ⟨hj,hT,p⟩;have hj:j<=br.length:=hj;have hT:T.length<=20000:=hT;have p:Y=Qn (T++(wE x key right g (br.drop j)++R)):=p;show mwpR Pg T8.f (yH.l 1) _ (Vx I br left right g J i x key j T);have ai:(zf T).take T.length=zf T:=by rw[<- zx,aC]
 have aj:(zg g).take g.length=zg g:=by rw[<- zB,aC]
 unfold Vx;refine zi (λh1=>?_) (λh1=>?_)
 ·have o:j<br.length:=by have:=aD h1;omega
  have hg:=yJ o;have ag:=Xy br[j] right (by omega) (hr _ (aE o));have ab:=Xy br[j] g (by omega) (ho _ (aE o));have heq:=Zy key (zn br[j] right);have ae:=w7 x (zn br[j] g) ak (by simp[zn];omega);have wi:=zC o (by omega);rw[zq o]at p;have aa:wE x key right g (br[j]::br.drop (j+1))=(bif xN key (zn br[j] right)then [x++zn br[j] g]else [])++wE x key right g (br.drop (j+1)):=by
   unfold wE;rw[List.filter_cons];cases xN key (zn br[j] right)<;>rfl
  rw[aa]at p;clear U hr ho aa;rw[<- aj]at ab;generalize br[j]=y at*;generalize xN key (zn y right)=b at*;(conv=>whnf);refine⟨by omega,_,hg,rfl,?_⟩;refine aF ag ?_;refine aF heq ?_;cases b with
  |true=>
   rw[aG]at p;have ah:(rowD (x++zn y g)).take (x++zn y g).length=rowD (x++zn y g):=by rw[<- zt,aC]
   generalize x++zn y g=B at*;refine zi (b:=(T.length:Int)==20000) (λh3=>?_) (λh3=>?_)
   ·have ad:T.length=20000:=by
     have:=eq_of_beq h3;omega
    have al:Y=⟨.tup [.c (.d (.sl [])),.c (bool false)],[]⟩:=by rw[p];exact arS (by simp;omega)
    (conv=>whnf);exact ac T al
   have ad:T.length≠20000:=λe=>by rw[e]at h3;cases h3
   refine aF ab ?_;refine aF ae ?_;refine⟨by simp,by unfold ym;simp;omega,by simp;omega,?_⟩;(conv=>whnf);refine⟨(j+1,T++[B]),⟨⟨o,by show(T++[B]).length<=20000;simp;omega,by rw[p];simp⟩,by show br.length -(j+1)<br.length - j;omega⟩,ze ?_⟩;(conv=>whnf);rw[wi,ai,ah];show _=Vx I br left right g J i x key (j+1) (T++[B]);unfold Vx;rw[xm,aK];rfl
  |false=>
   rw[aA,bJ]at p;(conv=>whnf);refine⟨(j+1,T),⟨⟨o,hT,p⟩,by show br.length -(j+1)<br.length - j;omega⟩,ze ?_⟩;(conv=>whnf);rw[wi];rfl
 have af:j=br.length:=by have:=aB h1;omega
 subst af;rw[bU]at p;have U:=U T hT (by rw[p];rfl);unfold xD Vx at U;(conv=>whnf);exact U
theorem amh (J:am Col)(p:am (am Val))(g:am Col)(br:am (am Val))(j:am ByteArray)(a5:j.length<=100000)(a3:g.length<=100000)
 (an:br.length<=1000000) (a2:p.length<=1000000) (af: ∀x∈p,x.length=J.length) (a1:J.length<=100000) (ag: ∀y∈br,y.length=g.length) (aq:zQ J.length (zh J j)) (av:zQ g.length (zh g j)):
 Sat Pg Yj [.agg [.d (.sl (zm J)),.d (.sl (zf p))],.agg [.d (.sl (zm g)),.d (.sl (zf br))],.c (.d (.sl (zp j)))]
  (λr=>r=Qn (xO (zh J j) (zh g j) (oth j 0 g) p br)):=by
 have aj:=Qy J (.sl (zf p)) j (by omega);have ak:=Qy g (.sl (zf br)) j (by omega);have a4:(zh J j).length=j.length:=by simp[zh]
 have a6:(zh g j).length=j.length:=by simp[zh]
 have aa:=ac5 j g 0;have ae:(oth j 0 g).length<=g.length:=by
  have gen: ∀(l:am Col) (i:Nat),(oth j i l).length<=l.length:=by
   intro l;induction l with
   |nil=>intro i;exact aP _
   |cons c r ih=>
    intro i;have:=ih (i+1);simp only[oth,aK,aR];cases(!hasB j c.name)<;>simp<;>omega
  exact gen g 0
 generalize zh J j=left at*;generalize zh g j=right at*;refine zD ?_;refine yH.s T8 ?_;refine aF aj ?_;refine aF ak ?_;rw[zV];refine yq (P:=Pg) (f:=T8.f) (body:=(yH.l 0)) (λx:Nat×am Int=>jnA J p j g br left right x.1 x.2) (λx=>g.length - x.1) (λx=>x.1<=g.length /\x.2.length<=x.1 /\oth j 0 g=x.2++oth j x.1 (g.drop x.1)) ⟨(0,[]),⟨aJ _,aP _,rfl⟩,⟨_,zW 10 41 1 (by omega) (by omega) rfl,?_⟩⟩ ?_
 ·exact rfl
 rintro⟨i,T⟩ hx;obtain⟨hi,al,o⟩:i<=g.length /\T.length<=i /\oth j 0 g=T++oth j i (g.drop i):=hx;show mwpR Pg T8.f (yH.l 0) _ (jnA J p j g br left right i T);have aw:(zg T).take T.length=zg T:=by rw[<- zB,aC]
 unfold jnA;refine zi (λh1=>?_) (λh1=>?_)
 ·have I:i<g.length:=by have:=aD h1;omega
  rw[zq I]at o;simp only[oth]at o;have hg:=xC I;have wi:=zC I (by omega);have ah:=yi j g[i].name;generalize g[i]=c at*;obtain⟨c1,c2⟩:=c;simp only at o ah;generalize hasB j c1=b at*;(conv=>whnf);refine⟨by omega,_,hg,rfl,?_⟩;refine aF ah ?_;cases b with
  |false=>
   have o:oth j 0 g=T++([(i:Int)]++oth j (i+1) (g.drop (i+1))):=o;(conv=>whnf);refine⟨by simp,by unfold ym;simp;omega,by simp;omega,?_⟩;(conv=>whnf);refine⟨(i+1,T++[(i:Int)]),⟨⟨I,by show(T++[(i:Int)]).length<=i+1;simp;omega,by rw[o,bK]⟩,by show g.length -(i+1)<g.length - i;omega⟩,ze ?_⟩;(conv=>whnf);rw[wi,aw,aK,<- vu];rfl
  |true=>
   have o:oth j 0 g=T++oth j (i+1) (g.drop (i+1)):=o;(conv=>whnf);refine⟨(i+1,T),⟨⟨I,by show T.length<=i+1;omega,o⟩,by show g.length -(i+1)<g.length - i;omega⟩,ze ?_⟩;(conv=>whnf);rw[wi];rfl
 have ad:g.length<=i:=by have:=aB h1;omega
 rw[aO ad]at o;have o:oth j 0 g=T:=by rw[o];exact aT _
 rw[o]at aa ae⊢;clear al;obtain⟨Y,hY⟩: ∃Y,Y=Qn (xO left right T p br):=⟨_,rfl⟩;rw[<- hY];clear o aj ak;(conv=>whnf);rw[zx];refine yq (P:=Pg) (f:=T8.f) (body:=(yH.l 2)) (λz:Nat×am (am Val)=>jnB g br left right T p z.1 z.2) (λz=>p.length - z.1) (λz=>z.1<=p.length /\z.2.length<=20000 /\Y=Qn (z.2++xO left right T (p.drop z.1) br)) ⟨(0,[]),⟨aJ _,aJ _,hY⟩,⟨_,(ad4 _ 41).trans (zW 13 80 1 (by omega) (by omega) rfl),?_⟩⟩ ?_
 ·exact rfl
 clear hY;rintro⟨k,U⟩ ⟨hk,hU,o⟩;have hk:k<=p.length:=hk;have hU:U.length<=20000:=hU;have o:Y=Qn (U++xO left right T (p.drop k) br):=o;have ax:(zf U).take U.length=zf U:=by rw[<- zx,aC]
 show mwpR Pg T8.f (yH.l 2) _ (jnB g br left right T p k U);unfold jnB;refine zi (λh1=>?_) (λh1=>?_)
 ·have I:k<p.length:=by have:=aD h1;omega
  have hg:=yJ I;have ay:=af _ (aE I);have wi:=zC I (by omega);have au:=Xy p[k] left (by omega) (by rw[ay];exact aq);have ao:=Z0 (zn p[k] left) yf;rw[zq I]at o;have ai:xO left right T (p[k]::p.drop (k+1)) br=abC left right T br p[k]++xO left right T (p.drop (k+1)) br:=by
   unfold xO;rw[bL]
  rw[ai]at o;obtain⟨R,ab⟩: ∃R,R=xO left right T (p.drop (k+1)) br:=⟨_,rfl⟩;rw[<- ab]at o;clear af ai;generalize p[k]=x at*;unfold abC at o;generalize zn x left=key at*;generalize key.any (qI yf)=b at*;(conv=>whnf);refine⟨by omega,_,hg,rfl,?_⟩;refine aF au ?_;refine aF ao ?_;cases b with
  |true=>
   have o:Y=Qn (U++R):=o;(conv=>whnf);refine⟨(k+1,U),⟨⟨I,hU,by rw[o,ab]⟩,by show p.length -(k+1)<p.length - k;omega⟩,ze ?_⟩;(conv=>whnf);rw[wi];rfl
  |false=>
   have o:Y=Qn (U++(wE x key right T br++R)):=o;(conv=>whnf);refine axx g br left right T p k x key U R Y hU an (by omega) (by omega) (by omega) (λy hy=>by rw[ag y hy];exact av) (λy hy=>by rw[ag y hy];intro z hz;have:=aa z hz;omega) o (ze ?_) (λV az=>?_) (λV hV a0=>?_)
   ·(conv=>whnf);unfold Vx;rw[zx];rfl
   ·subst az;exact⟨rfl,rfl⟩
   unfold xD Vx;(conv=>whnf);refine⟨(k+1,V),⟨⟨I,hV,by rw[a0,ab]⟩,by show p.length -(k+1)<p.length - k;omega⟩,ze ?_⟩;(conv=>whnf);rw[wi];rfl
 have ad:p.length<=k:=by have:=aB h1;omega
 rw[aO ad]at o;have o:Y=⟨.tup [.c (.d (.sl (zf U))),.c (bool true)],[]⟩:=by
  rw[o];unfold Qn;rw[show xO left right T [] br=[]from rfl,aT,show decide (U.length<=20000)=true by simpa using hU];rfl
 subst o;(conv=>whnf);refine⟨rfl,?_⟩;show Res.mk (.tup [.c (.d (.sl ((zf U).take U.length))),.c (bool true)]) []=_;rw[ax]
end
section
open Go Go.AM
attribute [local irreducible] Sat zA zY zo
theorem Wh {cols:am Col}{l:am (am Val)}(h:l.length<=20000):xi cols l=(0,⟨cols,l⟩):=by
 unfold xi;rw[show decide (l.length<=20000)=true by simpa using h];rfl
theorem anh (at_:am Int)(rows:am (am Val)):(wW at_ rows).length<=1\/(wW at_ rows).length<=rows.length:=by
 unfold wW;by_cases h:at_=[]
 ·rw[bO h];exact .inl (aP _)
 rw[cA h];have g:=Q7 at_ rows rows.length;rw[aC]at g;exact .inr g
theorem aaa (e:Int)(t:Tbl):wK (e,t)=qE t e:=rfl
def rRF:Res:=⟨.tup [.c (.d (.sl [])),.c (bool false)],[]⟩
theorem ahS (d:am Nmd)(t:Tbl)(st:Stp)(g:st.op=6)(b:Tbl)(p:zZ st.table d=some b)(I:Sat Pg Yj [.agg [.d (.sl (zm t.cols)),.d (.sl (zf t.rows))],.agg [.d (.sl (zm b.cols)),.d (.sl (zf b.rows))],.c (.d (.sl (zp st.cols)))] (λr=>r=rRF)):Sat Pg vx [.c (.d (.sl (zu d))),t.w,.agg st.cs] (λr=>r=rRF):=by
 have o:=y9 d st.table;rw[p]at o;obtain⟨P,br⟩:=b;refine zD ?_;obtain⟨tc,tr⟩:=t;obtain⟨op,⟨R,U,⟨vk,vn,vs⟩,ks⟩,i,J,j,l,sn,tb⟩:=st;simp only at*;subst g;unfold Stp.cs vE;refine xM.s T8 ?_;refine aF o ?_;refine aF I ?_;exact⟨rfl,rfl⟩
theorem ahV (d:am Nmd)(t:Tbl)(st:Stp)(g:am Col)(o:(st.op==4)=false)(p:(st.op==7)=false)(I:(st.op==8)=false)(J:(st.op==9)=false)(P:Sat Pg vx [.c (.d (.sl (zu d))),t.w,.agg st.cs] (λr=>r=rRF)):
 Sat Pg qJ [.c (.d (.sl (zu d))),t.w,.agg st.cs,.c (.d (.sl (zm g)))] (λr=>r=wK (7,⟨[],[]⟩)):=by
 refine zD ?_;have R:=y9 d st.table;obtain⟨tc,tr⟩:=t;obtain⟨op,⟨eo,nm,⟨vk,vn,vs⟩,ks⟩,i,aa,j,l,sn,tb⟩:=st;simp only at*;unfold Stp.cs vE at*;generalize zZ tb d=f at*;cases f with
 |none=>
  refine qF.s T8 ?_;refine aF R ?_;rw[o];(conv=>whnf);rw[p];(conv=>whnf);rw[I];(conv=>whnf);rw[J];refine aF P ?_;exact⟨rfl,rfl⟩
 |some U=>
  obtain⟨fc,fr⟩:=U;refine qF.s T8 ?_;refine aF R ?_;rw[o];(conv=>whnf);rw[p];(conv=>whnf);rw[I];(conv=>whnf);rw[J];refine aF P ?_;exact⟨rfl,rfl⟩
theorem al8 (d:am Nmd)(t:Tbl)(st:Stp)(g:am Col)(y:Int×Tbl)(I:yI d=0)(J:zL t=0)(P:Sat Pg zK [.c (.d (.sl (zu d))),.c (.d (.sl (zm t.cols))),st.w] (λr=>r=rCs g))
 (o:Sat Pg qJ [.c (.d (.sl (zu d))),t.w,.agg st.cs,.c (.d (.sl (zm g)))] (λr=>r=wK y)):
 Sat Pg wx [.c (.d (.sl (zu d))),t.w,st.w] (λr=>r=wK y):=by
 have p:=qM d;have hk:=qb t;rw[I]at p;rw[J]at hk;obtain⟨tc,tr⟩:=t;obtain⟨e,rc,rr⟩:=y;obtain⟨op,⟨U,nm,⟨vk,vn,vs⟩,ks⟩,i,R,j,l,sn,tb⟩:=st;unfold Stp.cs vE at o;refine ZH.s T8 ?_;refine aF p ?_;refine aF hk ?_;refine aF P ?_;refine aF o ?_;rfl
noncomputable def nStepL (d:am Nmd)(t:Tbl)(st:Stp):Int×Tbl:=
 bif yI d !=0 then(yI d,⟨[],[]⟩)else bif zL t !=0 then(zL t,⟨[],[]⟩)else bif (ye d t.cols st).1 !=0 then((ye d t.cols st).1,⟨[],[]⟩)else xi (ye d t.cols st).2 (stR d t st)
theorem ajY (d:am Nmd)(t:Tbl)(st:Stp)(hk:st.Sm)(h1:yI d=0)(h2:zL t=0)(R:(ye d t.cols st).1=0)(hr:t.rows.length<=20000):
 Sat Pg qJ [.c (.d (.sl (zu d))),t.w,.agg st.cs,.c (.d (.sl (zm (ye d t.cols st).2)))] (λr=>r=wK (xi (ye d t.cols st).2 (stR d t st))):=by
 have he:=Uh R;have j:=abo he;have j:st.op=1\/st.op=2\/st.op=3\/st.op=4\/st.op=5\/st.op=6\/st.op=7\/st.op=8\/st.op=9:=by omega
 have hw:=q9 h2;have hf:=xE h2;have k1:=hk.sorts;have k2:=hk.cols;have k3:=hk.aggs;have k4:=hk.items;have ag:(zh t.cols st.cols).length=st.cols.length:=by simp[zh]
 rcases j with j|j|j|j|j|j|j|j|j
 ·have e:stR d t st=whereR t.cols t.rows st.cond:=by unfold stR;rw[j];rfl
  rw[e,Wh (bV (aaq _ _ _) (by omega)),aaa];refine qo d t st _ _ (by rw[j];rfl) (by rw[j];rfl) (by rw[j];rfl) (by rw[j];rfl) (bV (aaq _ _ _) (by omega)) ?_;obtain⟨tc,tr⟩:=t;obtain⟨op,⟨eo,nm,⟨vk,vn,vs⟩,ks⟩,p,aa,I,J,sn,tb⟩:=st;simp only at j;subst j;exact kU apA (.sl (zu d)) tc tr (by simp only at hr;omega) eo nm ⟨vk,vn,vs⟩ ks (yW p) (zp aa) (wt I) (xQ J) sn tb
 ·have e:stR d t st=selR t.cols t.rows st.items:=by unfold stR;rw[j];rfl
  rw[e,Wh (by unfold selR;rw[aW];omega),aaa];refine qo d t st _ _ (by rw[j];rfl) (by rw[j];rfl) (by rw[j];rfl) (by rw[j];rfl) (by unfold selR;rw[aW];omega) ?_;obtain⟨tc,tr⟩:=t;obtain⟨op,⟨eo,nm,⟨vk,vn,vs⟩,ks⟩,p,aa,I,J,sn,tb⟩:=st;simp only at j;subst j;exact J7 apA (.sl (zu d)) tc tr (by simp only at hr;omega) eo nm ⟨vk,vn,vs⟩ ks p (zp aa) (wt I) (xQ J) sn tb (by simp only at k4;omega)
 ·have e:stR d t st=(wW (zh t.cols st.cols) t.rows).map (qk t.cols st.aggs):=by unfold stR;rw[j];rfl
  rw[e];have ad:=ah0 (akf j R).1;have hG:=abt (zh t.cols st.cols) t.rows;have ac:=agm t.cols t.rows (zh t.cols st.cols) (by omega) (λr hr=>by rw[hw r hr];exact ad) (by omega) (λi hi _=>aoq _ _ (kL _ _) (by have:=Q7 (zh t.cols st.cols) t.rows i;omega));have af:=anh (zh t.cols st.cols) t.rows;generalize wW (zh t.cols st.cols) t.rows=G at*;rw[Wh (by rw[aW];omega),aaa];have ab:=adW t.cols t.rows st G (by omega) (by omega) (by have:=hG.few;omega) (λg hg=>by rw[hG.key g hg];omega) (λg hg=>by have:=hG.cnt g hg;omega) (λg hg r hr=>hw r (hG.mem g hg r hr)) ac;exact qo d t st _ _ (by rw[j];rfl) (by rw[j];rfl) (by rw[j];rfl) (by rw[j];rfl) (by rw[aW];omega) (kS d t st j G ab)
 ·have e:stR d t st=yS (jE (u6 t.cols st.sorts) st.sorts) t.rows:=by unfold stR;rw[j];rfl
  obtain⟨o,ae⟩:=akg j R;rw[e,ae,Wh (by rw[(u0 (Q3 _ _) _).length_eq];omega),aaa];have hS:=agl t st.sorts (by omega) (by omega) (by omega);unfold akd at hS;rw[h2,o]at hS;exact J8 d t st _ j _ _ hS
 ·have e:stR d t st=t.rows.take (zU false st.n t.rows.length).toNat:=by unfold stR;rw[j];rfl
  rw[e,Wh (by rw[bP];omega),aaa];exact qo d t st _ _ (by rw[j];rfl) (by rw[j];rfl) (by rw[j];rfl) (by rw[j];rfl) (by rw[bP];omega) (kT d t st j (avB he j))
 ·have hj:=qX (.inl j) R;have l:=R;rw[hj]at l;obtain⟨b,o,ho⟩:=wX l;have e:stR d t st=xO (zh t.cols st.cols) (zh b.cols st.cols) (oth st.cols 0 b.cols) t.rows b.rows:=by unfold stR qh;rw[j,o];rfl
  rw[e];have tb:=uk h1 o;have wb:=q9 tb;have fb:=xE tb;have i:=jP ho.jn;have hJ:=amh t.cols t.rows b.cols b.rows st.cols (by omega) (by omega) (by omega) (by omega) hw (by omega) wb i.1 i.2;unfold Qn at hJ;unfold xi;cases hd:decide ((xO (zh t.cols st.cols) (zh b.cols st.cols) (oth st.cols 0 b.cols) t.rows b.rows).length<=20000)with
  |true=>
   rw[hd,aG]at hJ;exact qo d t st _ _ (by rw[j];rfl) (by rw[j];rfl) (by rw[j];rfl) (by rw[j];rfl) (aD hd) (aaQ d t st j b o _ hJ)
  |false=>
   rw[hd,aA]at hJ;exact ahV d t st _ (by rw[j];rfl) (by rw[j];rfl) (by rw[j];rfl) (by rw[j];rfl) (ahS d t st j b o hJ)
 ·have hj:=qX (.inr (.inl j)) R;have l:=R;rw[hj]at l;obtain⟨b,o,ho⟩:=wX l;have tb:=uk h1 o;have fb:=xE tb;have e:stR d t st=xI (zj t.cols sFrom) (zj t.cols sTo) (zj b.cols sFrom) (zj b.cols sTo) (zh t.cols st.cols) (zh b.cols st.cols) (oth (st.cols++[sFrom,sTo]) 0 b.cols) t.rows b.rows:=by unfold stR qh;rw[j,o];rfl
  have P:=acd t b st.cols (by omega) (by omega) (by omega);have U:=kZ (.inl j) h2 tb he o;rw[j]at U;unfold apU at P;rw[U,R,<- e]at P;have P:Sat Pg q0 [t.w,b.w,.c (.d (.sl (zp st.cols)))] (λr=>r=wK (xi (ye d t.cols st).2 (stR d t st))):=by
   refine P.mono λr hr=>hr.trans ?_
   show vL _ _=_;unfold vL xi;cases decide ((stR d t st).length<=20000)<;>rfl
  exact Ja d t st _ j b o _ _ P
 ·have hj:=qX (.inr (.inr j)) R;have l:=R;rw[hj]at l;obtain⟨b,o,ho⟩:=wX l;have tb:=uk h1 o;have fb:=xE tb;have e:stR d t st=t.rows.map (vf (zj t.cols sFrom) (zj b.cols sFrom) (zh t.cols st.cols) (zh b.cols st.cols) (oth (st.cols++[sFrom]) 0 b.cols) b.rows):=by unfold stR qh;rw[j,o];rfl
  have P:=adT t b st.cols (by omega) (by omega) (by omega);have U:=kZ (.inr j) h2 tb he o;rw[j]at U;unfold nrQ at P;rw[U,R,<- e]at P;rw[Wh (by rw[e,aW];omega),aaa];exact U9 d t st _ j b o _ _ P
 have e:stR d t st=ZI (zh t.cols st.cols) (zj t.cols sFrom) (zj t.cols sTo) t.rows:=by unfold stR;rw[j];rfl
 have P:=ab9 t st.cols (by omega) (by omega);have U:=aoO (d:=d) j h2 he;unfold coQ at P;rw[U,R,<- e]at P;rw[Wh (by rw[e];exact bV (api _ _ _ _) (by omega)),aaa];exact VH d t st _ j _ _ P
theorem aaM (d:am Nmd)(t:Tbl)(st:Stp)(hk:st.Sm)(hr:t.rows.length<=20000):
 Sat Pg wx [.c (.d (.sl (zu d))),t.w,st.w] (λr=>r=wK (nStepL d t st)):=by
 unfold nStepL;by_cases g:yI d=0
 ·rw[g];by_cases i:zL t=0
  ·rw[i];have fa:=xE i;have J:=jU d t.cols st hk.ok (by omega) (λb P=>by have:=Ua g P;omega);by_cases l:(ye d t.cols st).1=0
   ·have j:Sat Pg zK [.c (.d (.sl (zu d))),.c (.d (.sl (zm t.cols))),st.w] (λr=>r=rCs (ye d t.cols st).2):=J.mono λr hr=>by
     rw[hr];show Res.mk (.tup [.c (.d (.sl (zm (ye d t.cols st).2))),.c (int (ye d t.cols st).1)]) []=_;rw[l];rfl
    have:=al8 d t st _ _ g i j (ajY d t st hk g i l hr);rw[l];exact this
   have I:((ye d t.cols st).1 !=0)=true:=by simpa using l
   have h0:(ye d t.cols st).2=[]:=adg l;have j:Sat Pg zK [.c (.d (.sl (zu d))),.c (.d (.sl (zm t.cols))),st.w] (λr=>r=WW (ye d t.cols st).1):=J.mono λr hr=>by
    rw[hr];show Res.mk (.tup [.c (.d (.sl (zm (ye d t.cols st).2))),.c (int (ye d t.cols st).1)]) []=_;rw[h0];rfl
   rw[I];exact zD (ac7 (ace d t st _ g i l j))
  have p:(zL t !=0)=true:=by simpa using i
  rw[p];exact zD (ac7 (aaO d t st g i))
 have o:(yI d !=0)=true:=by simpa using g
 rw[o];exact zD (ac7 (aaN d t st g))
def jl (F:Tbl ->Int×Stp ->Int×Tbl):Tbl ->am (Int×Stp) ->Int×Tbl
 |t,[]=>(0,t)
 |t,x::r=>bif (F t x).1 !=0 then((F t x).1,⟨[],[]⟩)else jl F (F t x).2 r
def ayD (F:Tbl ->Int×Stp ->Int×Tbl)(l:am (Int×Stp))(K:Nat ->Tbl ->Prop)(y:Int×Tbl):bN (Nat×Tbl) ->Prop
 |none=>True
 |some (i,t)=>i<=l.length /\K i t /\y=jl F t (l.drop i)
theorem ahN (F:Tbl ->Int×Stp ->Int×Tbl)(d:am Nmd)(P:Pln)(aa:Sat Pg um [.c (.d (.sl (zu d))),.agg P.cs] (λr=>r=rI 0))(g:am (Int×Stp))(hn:g.length<=100000)(sc:D)(I:Sat Pg jQ [.agg P.cs] (λr=>r=rC (.d (.sl (qD (sc::g.map wD))))))
 (X:Tbl) (ai:Sat Pg xH [.c (.d (.sl (zu d))),Tbl.w ⟨[],[]⟩,.c (.d sc)] (λr=>r=qE X 0)) (K:Nat ->Tbl ->Prop) (h0:K 0 X)
 (hO: ∀i (h:i<g.length) t,K i t ->Sat Pg xH [.c (.d (.sl (zu d))),t.w,.c (.d (wD g[i]))] (λr=>r=wK (F t g[i])))
 (hK: ∀i (h:i<g.length) t,K i t ->(F t g[i]).1=0 ->K (i+1) (F t g[i]).2) (y:Int×Tbl) (hy:y=jl F X g):
 Sat Pg qR [.c (.d (.sl (zu d))),.agg P.cs] (λr=>r=wK y):=by
 refine zD ?_;obtain⟨l,hl⟩: ∃l,l=g:=⟨_,rfl⟩;have ar:l.length=g.length:=by rw[hl]
 have ah: ∀i (h:i<g.length),l[i]'(by omega)=g[i]:=λi h=>by subst hl;rfl
 rw[<- hl]at hy;obtain⟨O,p⟩: ∃O,O=sc::g.map wD:=⟨_,rfl⟩;have ak:O.length=g.length+1:=by rw[p];simp
 have af:(qD O)[((0:Int)).toNat]? =some [sc]:=by rw[p];rfl
 have ag: ∀i (h:i<g.length),(qD O)[(((i+1:Nat):Int)).toNat]? =some [wD g[i]]:=λi h=>by
  rw[UW (show i+1<O.length by omega)];subst p;simp
 rw[<- p]at I;clear p hl;obtain⟨op,tb,col,lo,hi,⟨an,⟨eo,nm,⟨vk,vn,vs⟩,aj⟩,ab,al,ad,ac,n,ao⟩,ks⟩:=P;obtain⟨R,hR⟩: ∃R,R=ayD F l K y:=⟨_,rfl⟩;refine vY.s T8 ?_;refine aF aa ?_;refine aF I ?_;refine yq (P:=Pg) (f:=T8.f) (body:=(vY.l 0)) (erS d O) (λz=>match z with|none=>g.length+5|some (i,_)=>g.length - i) R ⟨none,by rw[hR];trivial,ze ?_⟩ ?_
 ·exact rfl
 clear aa I;clear op tb col lo hi an eo nm vk vn vs aj ab al ad ac n ao ks;have o:((qD O).length:Int)=(g.length:Int)+1:=by rw[gW,ak];omega
 rintro(_|⟨i,t⟩) h
 ·show mwpR Pg T8.f (vY.l 0) _ (erS d O none);unfold erS;obtain⟨xc,xr⟩:=X;(conv=>whnf);rw[o];refine zw (λJ=>?_) (λJ=>?_)
  ·(conv=>whnf);refine⟨by omega,_,af,rfl,?_⟩;refine aF ai ?_;refine⟨some (0,⟨xc,xr⟩),⟨by rw[hR];exact⟨by omega,h0,hy⟩,by show g.length - 0<g.length+5;omega⟩,ze ?_⟩;(conv=>whnf);rw[<- o];rfl
  have:=aB J;omega
 rw[hR]at h;obtain⟨hi,ae,j⟩:i<=l.length /\K i t /\y=jl F t (l.drop i):=h;show mwpR Pg T8.f (vY.l 0) _ (erS d O (some (i,t)));unfold erS;obtain⟨tc,tr⟩:=t;(conv=>whnf);rw[o];refine zw (λJ=>?_) (λJ=>?_)
 ·have U:i<g.length:=by
   have J:decide (((i+1:Nat):Int)<(g.length:Int)+1)=true:=J;have:=aD J;omega
  have hg:=ag i U;have ho:=hO i U _ ae;have hk:=hK i U _ ae;have wi:aN.wrap (((i+1:Nat):Int)+1)=((i+1+1:Nat):Int):=by rw[yk (by omega) (by omega)];omega
  rw[zq (show i<l.length by omega),ah i U]at j;simp only[jl]at j;generalize wD g[i]=zd at*;generalize F ⟨tc,tr⟩ g[i]=x at*;obtain⟨x1,⟨x2,x3⟩⟩:=x;clear hO hK ag af ai ah;(conv=>whnf);refine⟨by omega,_,hg,rfl,?_⟩;refine aF ho ?_;refine zw (b:=x1 !=0) (λh4=>?_) (λh4=>?_)
  ·simp only[h4,aG]at j;subst j;exact⟨rfl,rfl⟩
  simp only[h4,aA]at j;(conv=>whnf);refine⟨some (i+1,⟨x2,x3⟩),⟨by rw[hR];exact⟨by omega,hk (by simpa using h4),j⟩,by show g.length -(i+1)<g.length - i;omega⟩,ze ?_⟩;(conv=>whnf);rw[wi,<- o];rfl
 have aq:g.length<=i:=by
  have J:decide (((i+1:Nat):Int)<(g.length:Int)+1)=false:=J;have:=aB J;omega
 rw[aO (by omega)]at j;have j:y=(0,⟨tc,tr⟩):=j;subst j;exact⟨rfl,rfl⟩
theorem axo {k:Int}{v:Val}(h:yK k v):VS v /\v.n<9223372036854775807:=by
 unfold VS;rcases h with rfl|⟨_,b,rfl⟩|⟨_,n,g,rfl⟩|⟨_,s,hs,rfl⟩
 ·refine⟨⟨⟨by decide,by decide⟩,⟨by decide,by decide⟩,by decide⟩,by decide⟩
 ·cases b<;>refine⟨⟨⟨by decide,by decide⟩,⟨by decide,by decide⟩,by decide⟩,by decide⟩
 ·unfold inB at g;simp only[ck,dd]at g;refine⟨⟨⟨by show(-9223372036854775808:Int)<=2;decide,by show(2:Int)<=_;decide⟩,⟨by show _<=n;omega,by show n<=_;omega⟩,by show(0:Nat)<=_;decide⟩,by show n<_;omega⟩
 refine⟨⟨⟨by show(-9223372036854775808:Int)<=3;decide,by show(3:Int)<=_;decide⟩,⟨by show _<=(0:Int);decide,by show(0:Int)<=_;decide⟩,by show s.size<=_;omega⟩,by show(0:Int)<_;decide⟩
theorem U3: ∀{cols:am Col}{r:am Val},zO cols r -> ∀v∈r,VS v /\v.n<9223372036854775807
 | [],[],_,v,g=>by cases g
 | [],_::_,h,_,_=>h.elim
 |_::_,[],h,_,_=>h.elim
 |_::_,_::_,h,v,g=>by
  rcases aZ.1 g with rfl|g
  ·exact axo h.1
  exact U3 h.2 v g
theorem amM {p q:Nat}: ∀{rows:am (am Val)}{l:am Spa},q8 p q rows=some l ->l.length=rows.length
 | [],l,h=>by cases h;rfl
 |r::j,l,h=>by
  simp only[q8]at h;cases i:agE p q r with
  |none=>rw[i]at h;cases h
  |some s=>
   rw[i]at h;cases g:q8 p q j with
   |none=>rw[g]at h;cases h
   |some o=>
    rw[g]at h;cases h;simp[amM g]
def avE (t b:Tbl)(g:am ByteArray):am (am Val):=t.rows.flatMap (hjX (zh t.cols g) (oth g 0 b.cols) b.rows (λk=>Zn (zh b.cols g) k 0 b.rows))
noncomputable def mergeR (t b:Tbl)(g:am ByteArray):am (am Val):=t.rows.map λx=>x++ZU (zh t.cols g) (oth (g++[sFrom]) 0 b.cols) (zj t.cols sFrom) (zj b.cols sFrom) b.rows (λk=>Qs b.rows (zj b.cols sFrom) (Zn (zh b.cols g) k 0 b.rows)) x
noncomputable def spansR (d:am Nmd)(t:Tbl)(st:Stp):am (am Val):=
 match q8 (zj (qh d st).cols sFrom).toNat (zj (qh d st).cols sTo).toNat (qh d st).rows with
 |some l=>t.rows.flatMap (sjX (zj t.cols sFrom) (zj t.cols sTo) (zh t.cols st.cols) (zh (qh d st).cols st.cols) (oth (st.cols++[sFrom,sTo]) 0 (qh d st).cols) (qh d st).rows l)
 |none=>stR d t st
noncomputable def oStep (d:am Nmd)(t:Tbl)(x:Int×Stp):Int×Tbl:=
 bif (ye d t.cols x.2).1 !=0 then((ye d t.cols x.2).1,⟨[],[]⟩)else
 bif x.1==3 then xi (ye d t.cols x.2).2 (spansR d t x.2)else
 bif x.1==4 then(0,⟨(ye d t.cols x.2).2,mergeR t (qh d x.2) x.2.cols⟩)else
 bif x.1==5 then xi (ye d t.cols x.2).2 (avE t (qh d x.2) x.2.cols)else nStepL d t x.2
theorem aqb (d:am Nmd)(t:Tbl)(op:Int)(st:Stp)(hk:st.Sm)(h1:yI d=0)(h2:zL t=0)(h3:op=3 ->st.op=7)(h4:op=4 ->st.op=8)(h5:op=5 ->st.op=6):
 Sat Pg xH [.c (.d (.sl (zu d))),t.w,.c (.d (wD (op,st)))] (λr=>r=wK (oStep d t (op,st))):=by
 have fa:=xE h2;have wa:=q9 h2;obtain⟨af,_,aa⟩:=(u7 t).1 h2;have hT:=jU d t.cols st hk.ok (by omega) (λb p=>by have:=Ua h1 p;omega);have k2:=hk.cols;unfold oStep wD;simp only;by_cases I:(ye d t.cols st).1=0
 ·have ae:=Uh I;have g:Sat Pg zK [.c (.d (.sl (zu d))),.c (.d (.sl (zm t.cols))),st.w] (λr=>r=xF (0,(ye d t.cols st).2)):=hT.mono λr hr=>by rw[hr,<- I]
  rw[show((ye d t.cols st).1 !=0)=false by simp[I],aA];by_cases o3:op=3
  ·subst o3;have j:=h3 rfl;rw[show((3:Int)==3)=true from rfl,aG,aG];have hj:=qX (.inr (.inl j)) I;have o:=I;rw[hj]at o;obtain⟨b,p,ho⟩:=wX o;have tb:=uk h1 p;have fb:=xE tb;have wb:=q9 tb;obtain⟨ac,_,U⟩:=(u7 b).1 tb;have i:=jP ho.jn;have ab:Vr st.op=[sFrom,sTo]:=by rw[j];rfl
   have i3:=vt ho.i1;have i4:=vt ho.i2;rw[ab]at i3 i4;have P:qh d st=b:=by unfold qh;rw[p];rfl
   have R:=kJ (st.cols++[sFrom,sTo]) b.cols;have ad:=Wj (st.cols++[sFrom,sTo]) b.cols 0;have hS:=anP b.cols b.rows (by omega) (zj b.cols sFrom) (zj b.cols sTo) rfl rfl (λr hr=>by
    rw[wb r hr];exact⟨i4 _ (by simp[zh]),i4 _ (by simp[zh])⟩)
   unfold spansR;rw[P];cases hl:q8 (zj b.cols sFrom).toNat (zj b.cols sTo).toNat b.rows with
   |some l=>
    rw[hl]at hS
    have hJ:=ahT st t b (ye d t.cols st).2 l (amM hl) (by omega) (by omega) (by omega) (by omega)
     (λx hx=>by rw[wa x hx];exact⟨by omega,i.1,i3⟩) (λy hy=>by rw[wb y hy];exact⟨i.2,R⟩) (by omega) (λr hr v hv=>(U3 (aa r hr) v hv).1) (λr hr v hv=>(U3 (U r hr) v hv).1)
    exact ajW d t st _ g b p l hS _ hJ
   |none=>
    rw[hl]at hS;have hO:=acd t b st.cols (by omega) (by omega) (by omega);have hc:=kZ (.inl j) h2 tb ae p;rw[j]at hc;have e:stR d t st=xI (zj t.cols sFrom) (zj t.cols sTo) (zj b.cols sFrom) (zj b.cols sTo) (zh t.cols st.cols) (zh b.cols st.cols) (oth (st.cols++[sFrom,sTo]) 0 b.cols) t.rows b.rows:=by unfold stR qh;rw[j,p];rfl
    unfold apU at hO;rw[hc,I,<- e]at hO;have hO:Sat Pg q0 [t.w,b.w,.c (.d (.sl (zp st.cols)))] (λr=>r=wK (xi (ye d t.cols st).2 (stR d t st))):=by
     refine hO.mono λr hr=>hr.trans ?_
     show vL _ _=_;unfold vL xi;cases decide ((stR d t st).length<=20000)<;>rfl
    exact agp d t st _ g b p hS _ hO
  rw[show(op==3)=false by simpa using o3,aA,aA];by_cases o4:op=4
  ·subst o4;have j:=h4 rfl;rw[show((4:Int)==4)=true from rfl,aG,aG];have hj:=qX (.inr (.inr j)) I;have o:=I;rw[hj]at o;obtain⟨b,p,ho⟩:=wX o;have tb:=uk h1 p;have fb:=xE tb;have wb:=q9 tb;obtain⟨ac,_,U⟩:=(u7 b).1 tb;have i:=jP ho.jn;have ab:Vr st.op=[sFrom]:=by rw[j];rfl
   have i3:=vt ho.i1;have i4:=vt ho.i2;rw[ab]at i3 i4;have P:qh d st=b:=by unfold qh;rw[p];rfl
   have R:=kJ (st.cols++[sFrom]) b.cols;have ad:=Wj (st.cols++[sFrom]) b.cols 0;rw[P]
   have hJ:=ahP st t b (ye d t.cols st).2 (by omega) (by omega) (by omega) (by omega) (by omega)
    (λx hx=>by rw[wa x hx];exact⟨by omega,i.1,i3 _ (by simp[zh]),λv hv=>U3 (aa x hx) v hv⟩) (λy hy=>by rw[wb y hy];exact⟨i.2,R,i4 _ (by simp[zh]),λv hv=>(U3 (U y hy) v hv).1⟩)
   exact ajV d t st _ g b p (0,⟨(ye d t.cols st).2,mergeR t b st.cols⟩) hJ
  rw[show(op==4)=false by simpa using o4,aA,aA];by_cases o5:op=5
  ·subst o5;have j:=h5 rfl;rw[show((5:Int)==5)=true from rfl,aG,aG];have hj:=qX (.inl j) I;have o:=I;rw[hj]at o;obtain⟨b,p,ho⟩:=wX o;have tb:=uk h1 p;have fb:=xE tb;have wb:=q9 tb;obtain⟨ac,_,U⟩:=(u7 b).1 tb;have i:=jP ho.jn;have P:qh d st=b:=by unfold qh;rw[p];rfl
   have R:=kJ st.cols b.cols;have ad:=Wj st.cols b.cols 0;rw[P]
   have hJ:=ajM st t b (ye d t.cols st).2 (by omega) (by omega) (by omega) (by omega)
    (λx hx=>by rw[wa x hx];exact i.1) (λy hy=>by rw[wb y hy];exact⟨i.2,R⟩) (λx hx=>by rw[wa x hx];omega) (by omega) (λr hr v hv=>(U3 (aa r hr) v hv).1) (λr hr v hv=>(U3 (U r hr) v hv).1)
   exact aml d t st _ g b p _ hJ
  rw[show(op==5)=false by simpa using o5,aA,aA];exact aaR d t st _ g _ (aaM d t st hk (by omega))
 have J:((ye d t.cols st).1 !=0)=true:=by simpa using I
 have h0:(ye d t.cols st).2=[]:=adg I;rw[J,aG];have g:Sat Pg zK [.c (.d (.sl (zu d))),.c (.d (.sl (zm t.cols))),st.w] (λr=>r=xF ((ye d t.cols st).1,[])):=hT.mono λr hr=>by rw[hr,<- h0]
 cases op==3
 ·cases op==4
  ·cases op==5
   ·exact ady d t st _ J _ g
   exact aai d t st _ J _ g
  exact kV d t st _ J _ g
 exact kW d t st _ J _ g
theorem ahq {cols:am Col}{l:am (am Val)}(h:(xi cols l).1=0):l.length<=20000 /\xi cols l=(0,⟨cols,l⟩):=by
 unfold xi at h⊢;cases g:decide (l.length<=20000)
 ·rw[g]at h;cases h
 exact⟨aD g,rfl⟩
theorem awe (br:am (am Val))(i:Nat):br.getD i []∈br\/br.getD i []=[]:=by
 rw[aY];cases h:br[i]? with
 |none=>exact .inr rfl
 |some r=>exact .inl (aM h)
theorem auq (g:am Int):zn [] g=aH g.length yf:=by
 induction g with
 |nil=>rfl
 |cons a r i=>
  show at0 [] a.toNat::zn [] r=_;rw[i];rfl
theorem aeI {K:am Col}{g:am Int}{br:am (am Val)}(j:g.length=K.length)(l: ∀r∈br,zO K (zn r g))(i:Nat):zO K (zn (br.getD i []) g):=by
 rcases awe br i with h|h
 ·exact l _ h
 rw[h,auq,j];exact zO.nulls K
theorem atR {cols K:am Col}{left g:am Int}{br:am (am Val)}{F:ByteArray ->am Int}(j:g.length=K.length)(l: ∀r∈br,zO K (zn r g)){x:am Val}(o:zO cols x): ∀z∈hjX left g br F x,zO (cols++K) z:=by
 intro z i;unfold hjX at i;cases hk:uG x left with
 |none=>rw[hk]at i;cases i
 |some k=>
  rw[hk]at i;obtain⟨n,_,rfl⟩:=aU.1 i;exact o.app (aeI j l _)
theorem arW {cols K:am Col}{left g:am Int}{j p:Int}{br:am (am Val)}{G:ByteArray ->am Int}(o:g.length=K.length)(I: ∀r∈br,zO K (zn r g)){x:am Val}(J:zO cols x):zO (cols++K) (x++ZU left g j p br G x):=by
 refine J.app ?_;have l:zO K (aH g.length yf):=by rw[o];exact zO.nulls K
 unfold ZU;cases uG x left with
 |none=>exact l
 |some k=>
  show zO K (bif _ then _ else _);cases(at0 x j.toNat).k==2
  ·exact l
  show zO K (mjP _ _ _ _ _);unfold mjP;cases decide (0<Vm (λi=>yZ (nV br p i).n ((at0 x j.toNat).n+1)) (G k))
  ·exact l
  exact aeI o I _
theorem amL {p q:Nat}: ∀{rows:am (am Val)}{l:am Spa},q8 p q rows=some l -> ∀s∈l,inB s.a=true /\inB s.b=true
 | [],l,h,s,hs=>by cases h;cases hs
 |r::I,l,h,s,hs=>by
  simp only[q8]at h;cases g:agE p q r with
  |none=>rw[g]at h;cases h
  |some u=>
   rw[g]at h;cases j:q8 p q I with
   |none=>rw[j]at h;cases h
   |some J=>
    rw[j]at h;cases h;rcases aZ.1 hs with rfl|hs
    ·unfold agE at g;cases o:xK (at0 r p) (at0 r q)
     ·rw[o]at g;cases g;exact⟨rfl,rfl⟩
     rw[o,aG]at g;cases i:XS (at0 r p).n (at0 r q).n
     ·rw[i]at g;cases g
     rw[i]at g;cases g;unfold XS at i;simp only[ck,dd]at i;exact⟨WL (by show _<=(at0 r p).n;omega) (by show(at0 r p).n<=_;omega),WL (by show _<=(at0 r q).n;omega) (by show(at0 r q).n<=_;omega)⟩
    exact amL j s hs
theorem awL {l:am Spa}(h: ∀s∈l,inB s.a=true /\inB s.b=true)(i:Int):inB (va l i).a=true /\inB (va l i).b=true:=by
 unfold va;rw[aY];cases hi:l[i.toNat]? with
 |none=>exact⟨rfl,rfl⟩
 |some s=>exact h s (aM hi)
theorem asW {cols K:am Col}{p q:Int}{left right g:am Int}{br:am (am Val)}{l:am Spa}(hs:Spn cols p q)(hK:g.length=K.length)(hm: ∀r∈br,zO K (zn r g))(hl: ∀s∈l,inB s.a=true /\inB s.b=true){x:am Val}(o:zO cols x):
 ∀z∈sjX p q left right g br l x,zO (cols++K) z:=by
 intro z i;unfold sjX at i;cases j:(!xK (at0 x p.toNat) (at0 x q.toNat)||(!(uG x left).isSome|| !XS (zU true (at0 x p.toNat).n 0) (zU false (at0 x q.toNat).n 1000000000000)))
 ·rw[j,aA]at i;simp only[aV,cC]at j;obtain⟨J,P,_⟩:=adc j.1;unfold KK at i;obtain⟨n,_,i⟩:=cK.1 i;unfold akc at i;cases I: !zo (abO (Yp br n) right) (abO x left)
  ·rw[I,aA,bC]at i;subst i;have hR:zO (cols++K) (x++zn (Yp br n) g):=o.app (aeI hK hm _);have ac:=o.len;obtain⟨R,U⟩:=aj3 (B:=K) hs.p1 hs.p2;obtain⟨Q1,Q2⟩:=aj3 (B:=K) hs.q1 hs.q2;have i1:=o.inB hs.p1 J;have i2:=o.inB hs.q1 P;obtain⟨i3,i4⟩:=awL hl n;unfold aqh;have aa:=hs.p1;have ab:=hs.q1;obtain⟨s1,s2⟩:=hR.setN R U (by rw[acI (by omega),J];omega) (Q9 (b:=true) (Q9 (b:=true) i1 (show inB 0=true from rfl)) i3);exact(s1.setN Q1 Q2 (by rw[s2,acI (by omega),P];omega) (Q9 (b:=false) (Q9 (b:=false) i2 (show inB 1000000000000=true from rfl)) i4)).1
  rw[I,aG]at i;cases i
 rw[j,aG]at i;cases i
theorem adN (d:am Nmd)(t:Tbl)(op:Int)(st:Stp)(h1:yI d=0)(h2:zL t=0)(h3:op=3 ->st.op=7)(h4:op=4 ->st.op=8)(h5:op=5 ->st.op=6)(h:(oStep d t (op,st)).1=0):zL (oStep d t (op,st)).2=0:=by
 obtain⟨hc,ae,i⟩:=(u7 t).1 h2;unfold oStep at h⊢;simp only at h⊢;cases he:((ye d t.cols st).1 !=0)
 ·rw[he,aA]at h;rw[aA];have p:(ye d t.cols st).1=0:=by simpa using he
  have aa: ∀(g:st.op=6\/st.op=7\/st.op=8),∃b K,qh d st=b /\(ye d t.cols st).2=t.cols++K /\ColsF (t.cols++K)/\(oth (st.cols++Vr st.op) 0 b.cols).length=K.length /\(∀r∈b.rows,zO K (zn r (oth (st.cols++Vr st.op) 0 b.cols)))/\intErr t.cols (Vr st.op)=0:=by
   intro g;have hj:=qX g p;have ab:=p;rw[hj]at ab;obtain⟨b,R,ho⟩:=wX ab;obtain⟨ac,_,ad⟩:=(u7 b).1 (uk h1 R);refine⟨b,keepS (Vr st.op) st.cols b.cols,by unfold qh;rw[R];rfl,by rw[hj];exact ho.eq,VO hc ac ho,?_,λr hr=>zO.rest0 _ _ (ad r hr),ho.i1⟩;rw[aeE];exact aI cY (abN _ _ _).symm
  by_cases o3:op=3
  ·subst o3;rw[show((3:Int)==3)=true from rfl,aG]at h⊢;obtain⟨j,e⟩:=ahq h;rw[e];unfold spansR at j⊢;cases I:q8 (zj (qh d st).cols sFrom).toNat (zj (qh d st).cols sTo).toNat (qh d st).rows with
   |none=>
    rw[I]at j;exact agF d t st h1 h2 p j
   |some l=>
    rw[I]at j;have g:=h3 rfl;obtain⟨b,K,R,hR,o,P,U,hi⟩:=aa (by omega);rw[g]at P U hi;rw[R]at j I⊢;simp only at j⊢;rw[hR];refine(u7 _).2 ⟨o,j,λz J=>?_⟩;obtain⟨x,hx,J⟩:=cK.1 J;exact asW (amK hi) P U (amL I) (i x hx) z J
  rw[show(op==3)=false by simpa using o3,aA]at h⊢;by_cases o4:op=4
  ·subst o4;rw[show((4:Int)==4)=true from rfl,aG]at h⊢;have g:=h4 rfl;obtain⟨b,K,R,hR,o,P,U,hi⟩:=aa (by omega);rw[g]at P U;rw[R,hR];unfold mergeR;refine(u7 _).2 ⟨o,by simp only[aW];exact ae,λz J=>?_⟩;obtain⟨x,hx,rfl⟩:=aU.1 J;exact arW P U (i x hx)
  rw[show(op==4)=false by simpa using o4,aA]at h⊢;by_cases o5:op=5
  ·subst o5;rw[show((5:Int)==5)=true from rfl,aG]at h⊢;have g:=h5 rfl;obtain⟨b,K,R,hR,o,P,U,hi⟩:=aa (by omega);rw[g,show st.cols++Vr 6=st.cols from aT _]at P U;obtain⟨j,e⟩:=ahq h;rw[e];rw[R]at j⊢;rw[hR];unfold avE at j⊢;refine(u7 _).2 ⟨o,j,λz J=>?_⟩;obtain⟨x,hx,J⟩:=cK.1 J;exact atR P U (i x hx) z J
  rw[show(op==5)=false by simpa using o5,aA]at h⊢;unfold nStepL at h⊢;rw[h1,h2,p]at h⊢;have h:(xi (ye d t.cols st).2 (stR d t st)).1=0:=h;show zL (xi (ye d t.cols st).2 (stR d t st)).2=0;obtain⟨j,e⟩:=ahq h;rw[e];exact agF d t st h1 h2 p j
 rw[he,aG]at h;simp only at h;rw[h]at he;cases he
end
section
open Go Go.AM
attribute [local irreducible] Sat zA zY
def xaR:am (am Val):=[[xn 5],[xn 2],[kH],[xn 1]]
def xaT:Tbl:=⟨[⟨sN,2⟩],xaR⟩
def xZ:am Nmd:=[⟨sA,xaT⟩]
def qa:Ex:=Jg 12 (Xq sN) (Qd 3)
def pS (lo hi:Int):Pln:=.mk 1 sA sN lo hi Vt []
def pA:Pln:=.mk 1 sA ⟨#[]⟩ 0 0 Vt []
def pW:Pln:=.mk 2 ⟨#[]⟩ ⟨#[]⟩ 0 0 (wl qa) [pS (-1000000000000000) 2]
def pL:Pln:=.mk 2 ⟨#[]⟩ ⟨#[]⟩ 0 0 (uH 1) [pW]
theorem axZ:zL xaT=0:=by
 simp only[zL,xaT,xaR,xn,kH,sN,List.map,aL,Yd,wC,zj,yj,Xg,ue,yY,qi]
 decide+kernel
theorem k8:yI xZ=0:=by
 simp only[yI,xZ,YR,axZ,zZ,acU,bJ,aR,bX];simp only[wC,sA,qi]
 decide+kernel
theorem xaF:zZ sA xZ=some xaT:=by
 simp only[zZ,xZ,qi];rfl
theorem arD:yB sA=true:=by
 simp only[yB,kws,hasB,List.any,sA,qi]
 decide+kernel
theorem axs:yB sN=true:=by
 simp only[yB,kws,hasB,List.any,sN,qi]
 decide+kernel
theorem Jj:zj [(⟨sN,2⟩:Col)] sN=0:=by
 simp only[zj,yj,qi]
 decide+kernel
theorem ahs:qa.chk=0:=by
 have g:xl 2 sN kH 0=0:=by
  simp only[xl,vS,kH,qI,axs,sN,qi]
  decide+kernel
 have i:=axl (n:=3) (by decide);have j:xl 12 ⟨#[]⟩ kH 2=0:=by
  simp only[xl,vS,kH,qI,qi]
  decide+kernel
 have m:qa.meas 0=(3,2):=rfl;unfold Ex.chk;rw[m];simp only[qa,Jg,Xq,Qd,Ex.err,errL,aR,bX];simp[g,i,j]
theorem arU:qa.ty [⟨sN,2⟩]=(1,0):=by
 have f:(Xq sN).ty [⟨sN,2⟩]=(2,0):=by
  show vU [⟨sN,2⟩] 2 sN kH []=_;unfold vU;rw[Jj];rfl
 have k:(Qd 3).ty [⟨sN,2⟩]=(2,0):=rfl;simp only[qa,Jg,Ex.ty,tyL,f,k];rfl
theorem aoS:(wl qa).err=0:=by
 have u:(wl qa).uses=true:=by
  unfold Stp.uses V5 wl;simp[Kv,beqS_self]
 unfold Stp.err;rw[u];exact ahs
theorem agL:ye xZ [⟨sN,2⟩] (wl qa)=(0,[⟨sN,2⟩]):=by
 unfold ye;rw[aoS];show whT _ qa=_;unfold whT aqC;rw[arU];rfl
theorem agJ:ye xZ [⟨sN,2⟩] (uH 1)=(0,[⟨sN,2⟩]):=by
 unfold ye;rw[aou (by omega) (by omega)];rfl
theorem amW (l:am Stp)(h:l=[]\/l=[wl qa,uH 1]):VJ xZ ⟨sA,l⟩=(0,[⟨sN,2⟩]):=by
 have g:Qry.err ⟨sA,l⟩=0:=by
  rcases h with rfl|rfl
  ·simp only[Qry.err,Xz,arD]
   decide+kernel
  simp only[Qry.err,Xz,arD,aoS,aou (m:=1) (by omega) (by omega)]
  decide+kernel
 unfold VJ;rw[k8,g];show(match zZ sA xZ with|none=>(17,[])|some t=>aap xZ t.cols l)=_;rw[xaF];rcases h with rfl|rfl
 ·rfl
 simp only[xaT,aap,agL,agJ];rfl
theorem ahz (lo hi:Int):(pS lo hi).base=(pS lo hi,[]):=rfl
theorem V6:Uz Vt=true:=by
 simp only[Uz,Vt,Ex.zero,Kf,qI,qi]
 decide+kernel
theorem gZ:pL.steps=true /\pW.steps=true:=by
 constructor
 ·show qU 2 ⟨#[]⟩ ⟨#[]⟩ 0 0 5 1=true;simp only[qU,qi]
  decide+kernel
 show qU 2 ⟨#[]⟩ ⟨#[]⟩ 0 0 1 1=true;simp only[qU,qi]
 decide+kernel
theorem Wk:pL.base=(pS (-1000000000000000) 2,[wl qa,uH 1]):=by
 obtain⟨k,hk,h⟩:=Jz (op:=2) (tb:=⟨#[]⟩) (col:=⟨#[]⟩) (lo:=0) (hi:=0) (st:=uH 1) (ks:=[pW]) gZ.1;cases hk;obtain⟨k,hk,g⟩:=Jz (op:=2) (tb:=⟨#[]⟩) (col:=⟨#[]⟩) (lo:=0) (hi:=0) (st:=wl qa) (ks:=[pS (-1000000000000000) 2]) gZ.2;cases hk;have g:pW.base=_:=g;have h:pL.base=_:=h;rw[h,g,ahz];rfl
theorem UZ (lo hi:Int)(h:(lo= -1000000000000000 /\hi=2)\/(lo=1 /\hi=0)\/(lo=2 /\hi=5)):(pS lo hi).scans=true:=by
 show Jb 1 sN lo hi Vt 0=true;rcases h with⟨rfl,rfl⟩|⟨rfl,rfl⟩|⟨rfl,rfl⟩
 ·simp only[Jb,V6,sN,qi]
  decide+kernel
 ·simp only[Jb,V6,sN,qi]
  decide+kernel
 simp only[Jb,V6,sN,qi]
 decide+kernel
theorem alQ:pA.scans=true:=by
 show Jb 1 ⟨#[]⟩ 0 0 Vt 0=true;simp only[Jb,V6,qi]
 decide+kernel
theorem axJ:uZ xaT sN=0:=by
 unfold uZ;rw[show zj xaT.cols sN=0 from Jj];rfl
theorem J0 {p:Pln}{lo hi:Int}{l:am Stp}(g:p.base=(pS lo hi,l))(hs:(pS lo hi).scans=true)(i:l=[]\/l=[wl qa,uH 1]):yN xZ p=0:=by
 have j:p.qry=(⟨sA,l⟩,true):=by
  unfold Pln.qry;rw[g];show(bif (pS lo hi).scans then _ else _)=_;rw[hs];rfl
 unfold yN;rw[j,g,amW l i,k8];show(bif zo sN ⟨#[]⟩then 0 else uZ ((zZ sA xZ).getD ⟨[],[]⟩) sN)=0;rw[xaF];show(bif zo sN ⟨#[]⟩then 0 else uZ xaT sN)=0;rw[axJ];cases zo sN ⟨#[]⟩<;>rfl
theorem aus:yN xZ pA=0:=by
 have g:pA.base=(pA,[]):=rfl;have i:pA.qry=(⟨sA,[]⟩,true):=by
  unfold Pln.qry;rw[g];show(bif pA.scans then _ else _)=_;rw[alQ];rfl
 unfold yN;rw[i,g,amW [] (.inl rfl),k8];show(bif zo ⟨#[]⟩ ⟨#[]⟩then 0 else _)=0;rw[AM.beqS_self];rfl
end
section
open Go Go.AM
attribute [local irreducible] Sat zA zY zo
theorem aaP (op:Int)(g:ByteArray)(v:Val):Sat Pg adH [(Ex.mk op g v []).w] (λr=>r=⟨.w (Ex.mk op g v []).w,[]⟩):=by
 refine zD ?_;obtain⟨i,j,vs⟩:=v;refine Kn.s T8 ?_;exact⟨rfl,rfl⟩
theorem anL:Sat Pg adH [qa.w] (λr=>r=⟨.w qa.w,[]⟩):=by
 refine zD ?_;have g:=aaP 2 sN kH;have i:=aaP 1 ⟨#[]⟩ ⟨2,3,⟨#[]⟩⟩;unfold qa Xq Qd Jg;generalize sN=n at*;refine Kn.s T8 ?_;refine wB (P:=Pg) (f:=T8.f) (body:=(Kn.l 0)) 3 ?_
 conv=>whnf
 refine⟨by omega,_,rfl,rfl,?_⟩;refine aF g ?_;refine⟨by simp,by unfold ym;simp,by simp,?_⟩
 conv=>whnf
 refine⟨by decide,_,rfl,rfl,?_⟩;refine aF i ?_;refine⟨by simp,by unfold ym;simp,by simp,?_⟩;exact⟨rfl,rfl⟩
theorem anB:Sat Pg anm [qa.w] (λr=>r=⟨.w qa.w,[]⟩):=by
 have g:=U5 qa;rw[ahs]at g;have i:=anL;unfold qa Xq Qd Jg at*;generalize sN=n at*;refine am5.s T8 ?_;refine aF g ?_;refine aF i ?_;rfl
theorem ago:Sat Pg afP [qa.w] (λr=>r=rC (.d (.sl (exsD [qa])))):=by
 refine zD ?_;unfold qa Xq Qd Jg;generalize sN=n at*;refine afn.s T8 ?_;exact⟨rfl,rfl⟩
theorem ajJ (x:Col)(cap:am D)(s:ByteArray)(h:cap[1]? =some (.lit (.string s)))(g:cap.length=6):Sat Pg UL [x.w,.c (.fp cap)] (λr=>r=rB (zo x.name s)):=by
 obtain⟨i,j⟩:=x
 match cap,g with
 | [a,b,c,d,e,f],_=>
   cases h;refine aei.s T8 ?_;rfl
theorem ahM:Sat Pg ahl [.c (.d (.sl (zm [⟨sN,2⟩]))),qa.w] (λr=>r=⟨.tup [.agg [str sN,int (-1000000000000000),int 2],.c (bool true)],[]⟩):=by
 have hi:=λcap h g=>v7 UL cap (λx=>zo x.name sN) (λx=>ajJ x cap sN h g) [⟨sN,2⟩]
 have e:yj (λx:Col=>zo x.name sN) 0 [⟨sN,2⟩]=0:=Jj;rw[e]at hi;unfold qa Xq Qd Jg;generalize sN=n at*;refine ag6.s T8 ?_
 repeat' (first
  |(refine⟨by omega,_,rfl,rfl,?_⟩;(conv=>whnf))
  |(refine bA (hi _ rfl rfl) ?_;rintro _ rfl;(conv=>whnf))
  |(refine bH ?_ ?_<;>(conv=>whnf))
  |exact rfl)
theorem anO:Sat Pg anv [.c (str sA),.c (.d (.sl (zm [⟨sN,2⟩]))),qa.w] (λr=>r=⟨.w (pS (-1000000000000000) 2).w,[]⟩):=by
 refine zD ?_;have j:=ago;have o:=ahM;obtain⟨z,i⟩: ∃z:ByteArray,z=⟨#[]⟩:=⟨_,rfl⟩;have g:(zo z z)=true:=AM.beqS_self _;rw[wg];unfold pS Vt;rw[uW];unfold qa Xq Qd Jg kH at*;rw[<- i]at j o⊢;generalize sN=n at*;generalize sA=a at*;refine adA.s T8 ?_;refine aF j ?_;refine wB (P:=Pg) (f:=T8.f) (body:=(adA.l 0)) 2 ?_
 try rw[<- i]
 conv=>whnf
 refine⟨by omega,_,rfl,rfl,?_⟩;refine aF o ?_
 try rw[<- i]
 rw[g]
 conv=>whnf
 try rw[<- i]
 rw[g]
 conv=>whnf
 try rw[<- i]
 repeat' (first
  |exact⟨rfl,rfl⟩
  |(refine bH ?_ ?_<;>(conv=>whnf)))
theorem aqF: ∀s∈ [wl qa,uH 1],s.Sm:=by
 intro s hs;simp only[aZ,cj,dn]at hs;rcases hs with rfl|rfl
 ·exact⟨aJ _,aJ _,aJ _,aJ _⟩
 exact⟨aJ _,aJ _,aJ _,aJ _⟩
theorem aiM:Sat Pg arL [.c (.d (.sl (zu xZ))),Qry.w ⟨sA,[wl qa,uH 1]⟩] (λr=>r=⟨.tup [pL.w,.c (int 0)],[]⟩):=by
 refine zD ?_;have j:=adY xZ ⟨sA,[wl qa,uH 1]⟩ aqF;rw[amW _ (.inr rfl)]at j;have g:=y9 xZ sA;rw[xaF]at g;have o:=anB;have i:=anO;have p:=U6 1;have I:=U6 5;rw[wg]at i⊢;unfold pL pW pS Vt wl uH ex0 at*;rw[uW]at i⊢;unfold xaT at g;unfold qa Xq Qd Jg kH at*;generalize xZ=J at*;generalize sN=n at*;generalize sA=a at*;refine aii.s T8 ?_;refine aF j ?_;refine aF g ?_;refine wB (P:=Pg) (f:=T8.f) (body:=(aii.l 0)) 3 ?_
 conv=>whnf
 refine⟨by omega,_,rfl,rfl,?_⟩;refine aF o ?_;refine aF i ?_
 repeat' (first
  |exact⟨rfl,rfl⟩
  |(refine⟨by omega,_,rfl,rfl,?_⟩;(conv=>whnf))
  |(refine⟨by decide,_,rfl,rfl,?_⟩;(conv=>whnf))
  |(refine bA p ?_;rintro _ rfl;(conv=>whnf))
  |(refine bA I ?_;rintro _ rfl;(conv=>whnf))
  |(refine bH ?_ ?_<;>(conv=>whnf)))
theorem ar6:pL.Sm /\Js (pS (-1000000000000000) 2) pL 2 /\pL.nodes=[(2,wl qa),(2,uH 1)]:=by
 refine⟨⟨by rw[Wk];show 2<=100000;omega,by rw[Wk];exact aJ _,by rw[Wk];exact aqF⟩,⟨by rw[Wk],UZ _ _ (.inl ⟨rfl,rfl⟩),by rw[Wk];rfl⟩,?_⟩;have g:pL.nodes=pW.nodes++[(2,uH 1)]:=gS gZ.1;have i:pW.nodes=(pS (-1000000000000000) 2).nodes++[(2,wl qa)]:=gS gZ.2;rw[g,i];rfl
theorem avV:Vt.lens<=1000000:=by decide
theorem avH (lo hi:Int):(pS lo hi).Sm:=⟨aJ _,avV,λs hs=>by cases hs⟩
theorem ayr:pA.Sm:=⟨aJ _,avV,λs hs=>by cases hs⟩
theorem agK (lo hi:Int):Sat Pg xU [(pS lo hi).w,.c (.d (.sl (zu xZ)))] (λr=>r=⟨.w (Tbl.w ⟨[⟨sN,2⟩],xaR.filter (inR 0 lo hi)⟩),[]⟩):=by
 have g:zo sN ⟨#[]⟩=false:=by rw[qi];decide
 have h:=aco xZ (pS lo hi) g _ _ xaF (by decide) (by show 0<=zj [⟨sN,2⟩] sN;rw[Jj];omega) (λr hr=>by
  show zj [⟨sN,2⟩] sN<_;rw[Jj];simp only[xaR,aZ,cj,dn]at hr;rcases hr with rfl|rfl|rfl|rfl<;>decide)
 rw[show zj [(⟨sN,2⟩:Col)] (pS lo hi).col=0 from Jj]at h;exact h
theorem aw9:Sat Pg xU [pA.w,.c (.d (.sl (zu xZ)))] (λr=>r=⟨.w xaT.w,[]⟩):=by
 have h:=acn xZ pA (AM.beqS_self _);rw[show pA.tb=sA from rfl,xaF]at h;exact h
theorem aoU (p B:Pln)(m:Nat)(X:Tbl)(l:p.Sm)(j:yN xZ p=0)(i:Js B p m)(g:Sat Pg xU [B.w,.c (.d (.sl (zu xZ)))] (λr=>r=⟨.w X.w,[]⟩)):Sat Pg adI [.c (.d (.sl (zu xZ))),p.w] (λr=>r=rII (X.rows.length,0)):=by
 have hk:=Yr xZ p l;rw[j]at hk;rw[wg]at*;exact aeT xZ p hk B m i X g
theorem aoV (p:Pln)(X:Tbl)(J:p.Sm)(I:yN xZ p=0)(o:Js p p 0)(g:p.nodes=[])(l:Sat Pg xU [p.w,.c (.d (.sl (zu xZ)))] (λr=>r=⟨.w X.w,[]⟩)):Sat Pg qR [.c (.d (.sl (zu xZ))),p.w] (λr=>r=wK (0,X)):=by
 have hk:=Yr xZ p J;rw[I]at hk;have j:=Vo p p 0 o (by omega);have hr:=U7 xZ ⟨[],[]⟩ p X l;rw[wg]at hk j⊢;exact J5 xZ p hk p.nodes (by rw[g];exact aJ _) _ j X hr (λ_ _=>True) trivial (λi h=>by rw[g]at h;exact absurd h (Nat.not_lt_zero i)) (λi h=>by rw[g]at h;exact absurd h (Nat.not_lt_zero i)) _ (by rw[g];rfl)
def jt:Tbl:=⟨[⟨sN,2⟩],[[xn 2],[xn 1]]⟩
def xa1:Tbl:=⟨[⟨sN,2⟩],[[xn 2]]⟩
theorem amV:zL jt=0:=by
 simp only[zL,jt,xn,sN,List.map,aL,Yd,wC,zj,yj,Xg,ue,yY,qi]
 decide+kernel
theorem axB {a b:Int}{s t:ByteArray}:uw 12 ⟨#[]⟩ [⟨2,a,s⟩,⟨2,b,t⟩]=yR (decide (a<b)):=by
 have e:xP ⟨2,a,s⟩ ⟨2,b,t⟩=yZ a b:=rfl;have h:uw 12 ⟨#[]⟩ [⟨2,a,s⟩,⟨2,b,t⟩]=yR ((((false&&(xP ⟨2,a,s⟩ ⟨2,b,t⟩==0))||(false&&(xP ⟨2,a,s⟩ ⟨2,b,t⟩ !=0)))||(true&&decide (xP ⟨2,a,s⟩ ⟨2,b,t⟩<0)))||(false&&decide (xP ⟨2,a,s⟩ ⟨2,b,t⟩<=0))):=rfl;rw[h,e];simp only[bZ,cn,cG,Bool.or_false];congr 1
 unfold yZ;by_cases h:a<b
 ·rw[bB h];rfl
 rw[bQ h,aA];cases decide (a>b)<;>rfl
theorem aoT (n:Int)(hr: [xn n]∈jt.rows)(j:n<3):condB [⟨sN,2⟩] [xn n] qa=true:=by
 have i:=atJ amV _ hr;have i:Qg [⟨sN,2⟩] [xn n]=true:=i;have l:qa.val [⟨sN,2⟩] [xn n]=yR true:=by
  have f:(Xq sN).val [⟨sN,2⟩] [xn n]=xn n:=by
   show at0 [xn n] (zj [⟨sN,2⟩] sN).toNat=xn n;rw[Jj];rfl
  have g:qa.val [⟨sN,2⟩] [xn n]=bif wF [(Xq sN).val [⟨sN,2⟩] [xn n],(Qd 3).val [⟨sN,2⟩] [xn n]]then yf else uw 12 ⟨#[]⟩ [(Xq sN).val [⟨sN,2⟩] [xn n],(Qd 3).val [⟨sN,2⟩] [xn n]]:=rfl
  rw[g,f];show uw 12 ⟨#[]⟩ [⟨2,n,⟨#[]⟩⟩,⟨2,3,⟨#[]⟩⟩]=yR true;rw[axB,bB j]
 unfold condB exprV Ex.tyE;rw[ahs,arU,i];show qI (qa.val [⟨sN,2⟩] [xn n]) (yR true)=true;rw[l];simp[qI,beqS_self]
theorem avT:nStepT xZ jt (wl qa)=(0,jt):=by
 rw[alG k8 amV (by rw[show jt.cols=[⟨sN,2⟩]from rfl,agL])];rw[show jt.cols=[⟨sN,2⟩]from rfl,agL];have e:stR xZ jt (wl qa)=whereR [⟨sN,2⟩] [[xn 2],[xn 1]] qa:=rfl;have g:whereR [⟨sN,2⟩] [[xn 2],[xn 1]] qa=[[xn 2],[xn 1]]:=by
  unfold whereR;rw[List.filter_eq_self];intro r hr;simp only[aZ,cj,dn]at hr;rcases hr with rfl|rfl
  ·exact aoT 2 (by simp[jt]) (by omega)
  exact aoT 1 (by simp[jt]) (by omega)
 rw[e,g];rfl
theorem avU:nStepT xZ jt (uH 1)=(0,xa1):=by
 rw[alG k8 amV (by rw[show jt.cols=[⟨sN,2⟩]from rfl,agJ])];rw[show jt.cols=[⟨sN,2⟩]from rfl,agJ];rfl
theorem amX (st:Stp)(t:Tbl)(hk:st.Sm)(g:t.cols=[⟨sN,2⟩])(hr:t.rows.length<20000)(o:st.op≠6 /\st.op≠7)(p:ye xZ [⟨sN,2⟩] st=(0,[⟨sN,2⟩])):Sat Pg xH [.c (.d (.sl (zu xZ))),t.w,.c (.d (wD (2,st)))] (λr=>r=wK (nStepT xZ t st)):=by
 have i:=jU xZ t.cols st hk.ok (by rw[g];decide) (λb l=>by have:=Ua k8 l;omega);rw[g,p]at i;have j:=al7 xZ t st hk hr (λh=>absurd h (by omega));refine aaR xZ t st [⟨sN,2⟩] ?_ _ j;rw[g];exact i
theorem ax0:Sat Pg qR [.c (.d (.sl (zu xZ))),pL.w] (λr=>r=wK (0,xa1)):=by
 obtain⟨p,l,o⟩:=ar6;have hk:=Yr xZ pL p;rw[J0 Wk (UZ _ _ (.inl ⟨rfl,rfl⟩)) (.inr rfl)]at hk;have j:=Vo pL _ 2 l (by omega);have hr:=U7 xZ ⟨[],[]⟩ (pS (-1000000000000000) 2) jt (agK _ _);rw[o]at j;rw[wg]at hk j⊢;refine J5 xZ pL hk [(2,wl qa),(2,uH 1)] (by decide) _ j jt hr (λi t=>t=bif decide (i<2)then jt else xa1) rfl ?_ ?_ _ ?_
 ·intro i hi t g
  match i,hi with
  |0,_=>
   have g:t=jt:=g;subst g;exact amX (wl qa) jt (aqF _ (by simp)) rfl (by decide) ⟨by decide,by decide⟩ agL
  |1,_=>
   have g:t=jt:=g;subst g;exact amX (uH 1) jt (aqF _ (by simp)) rfl (by decide) ⟨by decide,by decide⟩ agJ
 ·intro i hi t g _
  match i,hi with
  |0,_=>
   have g:t=jt:=g;subst g;show(nStepT xZ jt (wl qa)).2=jt;rw[avT]
  |1,_=>
   have g:t=jt:=g;subst g;show(nStepT xZ jt (uH 1)).2=xa1;rw[avU]
 show(0,xa1)=runT xZ jt [wl qa,uH 1];simp only[runT,avT,avU];rfl
theorem avu:Sat Pg alq [.c (.d (.sl (zu xZ))),Qry.w ⟨sA,[wl qa,uH 1]⟩] (λr=>r=wK (0,xa1)):=by
 have g:=aiM;have i:=ax0;generalize xa1=X at*;obtain⟨o,p⟩:=X;rw[wg]at g i;generalize wl qa=l at*;unfold pL pW pS Vt uH ex0 at*;rw[uW]at g i;generalize xZ=j at*;generalize sN=n at*;generalize sA=a at*;refine akS.s T8 ?_;refine aF g ?_;refine aF i ?_;rfl
def aza:am (am Val):=xaR.filter (inR 0 1 0)
theorem aw8:aza=[]:=by decide+kernel
theorem ap4 (t:Tbl):agh t t=true:=agi t
theorem Y4:Sat Pg aju [] (λr=>r=rB true):=by
 have c1:=aeY sN;have c2:=acm 3;have c3:=ajP 12 (Xq sN) (Qd 3);have q1:=avu;have g:=aiM;obtain⟨U,R,_⟩:=ar6;have i:=aoU pL _ 2 jt U (J0 Wk (UZ _ _ (.inl ⟨rfl,rfl⟩)) (.inr rfl)) R (agK _ _);have p:=UZ 1 0 (.inr (.inl ⟨rfl,rfl⟩));have I:=UZ 2 5 (.inr (.inr ⟨rfl,rfl⟩));have j:=aoV (pS 1 0) ⟨[⟨sN,2⟩],[]⟩ (avH _ _) (J0 (ahz _ _) p (.inl rfl)) ⟨rfl,p,rfl⟩ rfl (by have:=agK 1 0;rw[show xaR.filter (inR 0 1 0)=[]from aw8]at this;exact this);have l:=aoV (pS 2 5) ⟨[⟨sN,2⟩],[[xn 5],[xn 2]]⟩ (avH _ _) (J0 (ahz _ _) I (.inl rfl)) ⟨rfl,I,rfl⟩ rfl (agK 2 5);have o:=aoU pA pA 0 xaT ayr aus ⟨rfl,alQ,rfl⟩ aw9;have J:=Wn xa1 xa1;have P:=Wn ⟨[⟨sN,2⟩],[[xn 5],[xn 2]]⟩ ⟨[⟨sN,2⟩],[[xn 5],[xn 2]]⟩;rw[ap4]at J P;clear U R p I;rw[wg]at g i j l o;unfold xZ xaT xaR jt xa1 pL pW pS pA Vt wl uH ex0 at*;rw[uW]at g i j l o;unfold qa Xq Qd Jg kH xn at*;refine ajf.s T8 ?_;refine aF (jT 5) ?_;refine aF (jT 2) ?_;refine aF (jT 1) ?_;refine aF c1 ?_;refine aF c2 ?_;refine aF c3 ?_;refine aF q1 ?_;refine aF g ?_;refine aF i ?_;refine aF j ?_;refine aF l ?_;refine aF o ?_;refine⟨by omega,by show(1:Int)<=2;omega,by show(2:Int)<=4;omega,?_⟩;refine aF J ?_;refine⟨by show(0:Int)<=2;omega,by show(2:Int)<=4;omega,?_⟩;refine aF P ?_;rfl
def smR:Int ->am (am Val) ->Int
 |n,[]=>n
 |n,r::g=>bif decide (n<=800)then smR (aN.wrap (aN.wrap (n+1)+r.length)) g else n
def smD:Int ->am Nmd ->Int
 |n,[]=>n
 |n,x::xs=>bif decide (n<=800)then smD (smR (aN.wrap (n+x.t.cols.length)) x.t.rows) xs else n
def smI (d:am Nmd)(n:Int)(i:Nat):S:=⟨[(0,.w (.c (.d (.sl (zu d))))),(3,zl n),(4,zl i)],[]⟩
def smJ (d:am Nmd)(i:Nat)(n:Int)(j:Nat):S:=⟨[(0,.w (.c (.d (.sl (zu d))))),(3,zl n),(4,zl i),(5,zl j)],[]⟩
theorem au9 {n:Int}(h:decide (n<=800)=false)(g:am (am Val)):smR n g=n:=by
 cases g with
 |nil=>rfl
 |cons r g=>simp only[smR,h,aA]
theorem au8 {n:Int}(h:decide (n<=800)=false)(d:am Nmd):smD n d=n:=by
 cases d with
 |nil=>rfl
 |cons r g=>simp only[smD,h,aA]
theorem akP: ∀{l:am (am D)},bnds l -> ∀e∈l,bndc e
 | [],_,e,g=>by cases g
 |x::r,h,e,g=>by
  simp only[bnds]at h;rcases aZ.1 g with rfl|g
  ·exact h.1
  exact akP h.2 e g
theorem awq {d:am Nmd}(h:bnd (.sl (zu d))):d.length<=9223372036854775807 /\ ∀x∈d,x.t.rows.length<=9223372036854775807:=by
 simp only[bnd]at h;rw[ZX]at h;refine⟨h.1,λx g=>?_⟩;have:=akP h.2 x.ds (aU.2 ⟨x,g,rfl⟩);simp only[Nmd.ds,bndc,bnd]at this;have:=this.2.2.1.1;rw[zx]at this;exact this
theorem asv (d:am Nmd):Sat Pg vR [.c (.d (.sl (zu d)))] (λr=>r=rB (decide (smD d.length d<=800))):=by
 suffices h: ∀y,smD d.length d=y ->Sat Pg vR [.c (.d (.sl (zu d)))] (λr=>r=rB (decide (y<=800)))from h _ rfl
 intro y hy;refine Ud (by kernel_rfl) λhb=>?_
 have hb:=hb _ (c9 ..);simp only[ag1,Kl]at hb;obtain⟨aa,I⟩:=awq hb;clear hb;refine j6.s T8 ?_;rw[ZX];refine yq (P:=Pg) (f:=T8.f) (body:=(j6.l 1)) (λz:Nat×Int=>smI d z.2 z.1) (λz=>d.length - z.1) (λz=>z.1<=d.length /\smD z.2 (d.drop z.1)=y) ⟨(0,d.length),⟨aJ _,hy⟩,ze ?_⟩ ?_
 ·exact rfl
 rintro⟨i,n⟩ ⟨hi,g⟩;have hi:i<=d.length:=hi;have g:smD n (d.drop i)=y:=g;clear hy;show mwpR Pg T8.f (j6.l 1) _ (smI d n i);unfold smI;(conv=>whnf);rw[ZX];refine zw (b:=decide ((i:Int)<d.length)&&decide (n<=800)) (λR=>?_) (λR=>?_)
 ·simp only[ck]at R;obtain⟨R,h2⟩:=R;have p:i<d.length:=by have:=aD R;omega
  have hg:=aeA p;have wi:=zC p aa;rw[zq p]at g;simp only[smD,h2,aG]at g;have I:=I _ (aE p);generalize d[i]=x at*;obtain⟨xn,⟨xc,o⟩⟩:=x;simp only at g I;(conv=>whnf);refine⟨by omega,_,hg,rfl,?_⟩;(conv=>whnf);rw[zV];generalize aN.wrap (n+xc.length)=n1 at*;refine yq (P:=Pg) (f:=T8.f) (body:=(j6.l 0)) (λz:Nat×Int=>smJ d i z.2 z.1) (λz=>o.length - z.1) (λz=>z.1<=o.length /\smD (smR z.2 (o.drop z.1)) (d.drop (i+1))=y) ⟨(0,n1),⟨aJ _,g⟩,ze ?_⟩ ?_
  ·exact rfl
  rintro⟨j,n2⟩ ⟨hj,g⟩;have hj:j<=o.length:=hj;have g:smD (smR n2 (o.drop j)) (d.drop (i+1))=y:=g;show mwpR Pg T8.f (j6.l 0) _ (smJ d i n2 j);unfold smJ;(conv=>whnf);refine⟨by omega,_,hg,rfl,?_⟩;(conv=>whnf);rw[zx];refine zw (b:=decide ((j:Int)<o.length)&&decide (n2<=800)) (λU=>?_) (λU=>?_)
  ·simp only[ck]at U;obtain⟨U,h4⟩:=U;have J:j<o.length:=by have:=aD U;omega
   have ab:=yJ J;have wj:=zC J I;rw[zq J]at g;simp only[smR,h4,aG]at g;generalize o[j]=r at*;(conv=>whnf);refine⟨by omega,_,hg,rfl,?_⟩;(conv=>whnf);refine⟨by omega,_,ab,rfl,?_⟩;(conv=>whnf);rw[zt];refine⟨(j+1,_),⟨⟨by show j+1<=o.length;omega,g⟩,by show o.length -(j+1)<o.length - j;omega⟩,ze ?_⟩;(conv=>whnf);rw[wj];rfl
  have g:smD n2 (d.drop (i+1))=y:=by
   rcases cX.1 U with h|h
   ·have:=aB h;rw[aO (by omega)]at g;exact g
   rw[au9 h]at g;exact g
  (conv=>whnf);refine⟨(i+1,n2),⟨⟨by show i+1<=d.length;omega,g⟩,by show d.length -(i+1)<d.length - i;omega⟩,ze ?_⟩;(conv=>whnf);rw[wi];rfl
 have g:n=y:=by
  rcases cX.1 R with h|h
  ·have:=aB h;rw[aO (by omega)]at g;exact g
  rw[au8 h]at g;exact g
 subst g;exact rfl
def avS (d:am Nmd)(name:ByteArray):Tbl:=(zZ name d).getD ⟨[],[]⟩
theorem kK {d:am Nmd}{p:Pln}(h:yN d p=0):yI d=0 /\p.base.1.scans=true /\(VJ d ⟨p.base.1.tb,p.base.2⟩).1=0 /\(zo p.base.1.col ⟨#[]⟩=false ->uZ (avS d p.base.1.tb) p.base.1.col=0):=by
 unfold yN at h;cases g:(yI d !=0)
 ·rw[g,aA]at h;cases l:p.qry.2
  ·rw[l]at h;cases h
  obtain⟨o,r⟩:=an7 l;rw[l,r]at h;simp only[Bool.not_true,aA]at h;cases i:((VJ d ⟨p.base.1.tb,p.base.2⟩).1 !=0)
  ·rw[i,aA]at h;refine⟨by simpa using g,o.2.1,by simpa using i,λj=>?_⟩;rw[j]at h;exact h
  rw[i,aG]at h;rw[h]at i;cases i
 rw[g,aG]at h;rw[h]at g;cases g
theorem aoC {d:am Nmd}{p:Pln}(h:yN d p=0): ∃t,zZ p.base.1.tb d=some t /\zL t=0:=by
 obtain⟨i,_,j,_⟩:=kK h;obtain⟨_,_,t,g,_⟩:=avN j;exact⟨t,g,uk i g⟩
theorem aut {d:am Nmd}{p:Pln}(h:yN d p=0):Sat Pg xU [p.base.1.w,.c (.d (.sl (zu d)))] (λr=>r=⟨.w (Ue d p.base.1).w,[]⟩):=by
 obtain⟨R,U,h3,g⟩:=kK h;obtain⟨t,l,o⟩:=aoC h;unfold Ue;cases i:zo p.base.1.col ⟨#[]⟩with
 |true=>exact acn d _ i
 |false=>
  have g:=g i;unfold avS at g;rw[l]at g⊢;have g:uZ t p.base.1.col=0:=g;unfold uZ at g;cases j:decide (zj t.cols p.base.1.col<0)
  ·obtain⟨I,J⟩:=qY t.cols p.base.1.col (aB j);obtain⟨tc,P⟩:=t;exact aco d _ i tc P l (xE o).2 I (λr hr=>by rw[q9 o r hr];exact J)
  rw[j]at g;cases g
theorem ahC {d:am Nmd}{p:Pln}(h:yN d p=0):zL (Ue d p.base.1)=0:=by
 obtain⟨t,j,g⟩:=aoC h;unfold Ue;rw[j];cases zo p.base.1.col ⟨#[]⟩
 ·obtain⟨i,o,hr⟩:=(u7 t).1 g;exact(u7 _).2 ⟨i,bV (cg _ _) o,λr l=>hr r (cS.1 l).1⟩
 exact g
theorem aws {o op:Int}(l:op=3\/op=4\/op=5)(h:(ac4 o==op)=true):(op=3 ->o=7)/\(op=4 ->o=8)/\(op=5 ->o=6):=by
 have h:=eq_of_beq h;unfold ac4 at h;by_cases i:o=7
 ·subst i;have h:(3:Int)=op:=h;subst h;exact⟨λ_=>rfl,λe=>(by cases e),λe=>(by cases e)⟩
 rw[show(o==7)=false by simpa using i,aA]at h;by_cases j:o=8
 ·subst j;have h:(4:Int)=op:=h;subst h;exact⟨λe=>(by cases e),λ_=>rfl,λe=>(by cases e)⟩
 rw[show(o==8)=false by simpa using j,aA]at h;by_cases g:o=6
 ·subst g;have h:(5:Int)=op:=h;subst h;exact⟨λe=>(by cases e),λe=>(by cases e),λ_=>rfl⟩
 rw[show(o==6)=false by simpa using g,aA]at h;subst h;exact⟨λe=>(by cases e),λe=>(by cases e),λe=>(by cases e)⟩
def aj2 (x:Int×Stp):Prop:=(x.1=3 ->x.2.op=7)/\(x.1=4 ->x.2.op=8)/\(x.1=5 ->x.2.op=6)
theorem awO {op:Int}{tb col:ByteArray}{lo hi g o:Int}{st:Stp}(hs:st.op=g)(h:qU op tb col lo hi g o=true):aj2 (op,st):=by
 unfold qU at h;cases j:(!zo tb ⟨#[]⟩||(!zo col ⟨#[]⟩||(lo !=0||(hi !=0||o !=1))))
 ·rw[j,aA]at h;by_cases l:op=2
  ·subst l;exact⟨λe=>(by cases e),λe=>(by cases e),λe=>(by cases e)⟩
  rw[show(op==2)=false by simpa using l,aA]at h;cases i:(op==3||(op==4||op==5))
  ·rw[i]at h;cases h
  rw[i,aG]at h;simp only[Bool.or_eq_true,beq_iff_eq]at i;obtain⟨a,b,c⟩:=aws i h;unfold aj2;rw[hs];exact⟨a,b,c⟩
 rw[j,aG]at h;cases h
theorem UT: ∀p:Pln,∀x∈p.nodes,aj2 x
 | .mk op tb col lo hi st [k],x,g=>by
   simp only[Pln.nodes]at g;cases h:qU op tb col lo hi st.op 1
   ·rw[h]at g;cases g
   rw[h,aG]at g;rcases bT.1 g with g|g
   ·exact UT k x g
   rw[bC]at g;subst g;exact awO rfl h
 | .mk _ _ _ _ _ _ [],x,g=>by cases g
 | .mk _ _ _ _ _ _ (_::_::_),x,g=>by cases g
noncomputable def exR (d:am Nmd)(p:Pln):Int×Tbl:=bif yN d p !=0 then(yN d p,⟨[],[]⟩)else jl (oStep d) (Ue d p.base.1) p.nodes
theorem aci (d:am Nmd)(p:Pln)(j:p.Sm):Sat Pg qR [.c (.d (.sl (zu d))),p.w] (λr=>r=wK (exR d p)):=by
 have hk:=Yr d p j;unfold exR;by_cases g:yN d p=0
 ·obtain⟨I,P,h3,h4⟩:=kK g;rw[g]at hk⊢;have R:p.nodes.length=p.base.2.length:=by rw[<- JW,aW]
  have l: ∀x∈p.nodes,x.2.Sm:=λx U=>j.st x.2 (by rw[<- JW];exact c7 U)
  have J:=Vo p p.base.1 p.base.2.length ⟨rfl,P,rfl⟩ j.len;have hr:=U7 d ⟨[],[]⟩ p.base.1 _ (aut g);rw[wg]at hk J⊢;refine ahN (oStep d) d p hk p.nodes (by rw[R];exact j.len) _ J _ hr (λ_ t=>zL t=0) (ahC g) (λi h t o=>?_) (λi h t o h0=>?_) _ rfl
  ·obtain⟨a,b,c⟩:=UT p _ (aE h);exact aqb d t _ _ (l _ (aE h)) I o a b c
  obtain⟨a,b,c⟩:=UT p _ (aE h);exact adN d t _ _ I o a b c h0
 have g:(yN d p !=0)=true:=by simpa using g
 rw[g,aG];rw[wg]at hk⊢;exact aeU d p _ g hk
theorem aae (d:am Nmd)(j:yI d=0): ∀(l:am (Int×Stp)) (t:Tbl),zL t=0 ->(∀x∈l,aj2 x) ->(jl (oStep d) t l).1=0 ->zL (jl (oStep d) t l).2=0
 | [],t,i,_,_=>i
 |x::r,t,i,o,h=>by
  obtain⟨a,b,c⟩:=o x (by simp);simp only[jl]at h⊢;cases g:((oStep d t x).1 !=0)
  ·rw[g,aA]at h;rw[aA];exact aae d j r _ (adN d t _ _ j i a b c (by simpa using g)) (λy p=>o y (by simp[p])) h
  rw[g,aG]at h;simp only at h;rw[h]at g;cases g
theorem aiK (F:Tbl ->Int×Stp ->Int×Tbl)(x:Int×Stp): ∀(l:am (Int×Stp)) (t:Tbl),(jl F t l).1=0 ->jl F t (l++[x])=bif (F (jl F t l).2 x).1 !=0 then((F (jl F t l).2 x).1,⟨[],[]⟩)else F (jl F t l).2 x
 | [],t,_=>by
   show jl F t [x]=_;simp only[jl];cases h:((F t x).1 !=0)
   ·rw[aA,aA];have:(F t x).1=0:=by simpa using h
    rw[<- this]
   rfl
 |y::r,t,h=>by
  simp only[jl,dl]at h⊢;cases g:((F t y).1 !=0)
  ·rw[g,aA]at h;rw[aA,aA];exact aiK F x r _ h
  rw[g,aG]at h;simp only at h;rw[h]at g;cases g
def xw (p:Pln)(s:Stp):Pln:=.mk 2 ⟨#[]⟩ ⟨#[]⟩ 0 0 s [p]
theorem aiB (s:Stp):qU 2 ⟨#[]⟩ ⟨#[]⟩ 0 0 s.op 1=true:=by
 unfold qU;rw[AM.beqS_self];rfl
theorem ar4 (p:Pln)(s:Stp):(xw p s).base=(p.base.1,p.base.2++[s]):=by
 unfold xw;simp only[Pln.base];rw[aiB];rfl
theorem apW (p:Pln)(s:Stp):(xw p s).nodes=p.nodes++[(2,s)]:=by
 unfold xw;simp only[Pln.nodes];rw[aiB];rfl
theorem asX {d:am Nmd}{p:Pln}{s:Stp}(i:(exR d p).1=0)(P:yN d (xw p s)=0):exR d (xw p s)=nStepL d (exR d p).2 s:=by
 unfold exR at i⊢;cases j:(yN d p !=0)
 ·rw[j,aA]at i;rw[aA,show(yN d (xw p s) !=0)=false by simp[P],aA,apW,ar4];have l:yN d p=0:=by simpa using j
  have o:=(kK l).1;have I:=aae d o p.nodes _ (ahC l) (UT p) i;rw[aiK _ _ _ _ i];generalize(jl (oStep d) (Ue d p.base.1) p.nodes).2=t at*;have e:oStep d t (2,s)=nStepL d t s:=by
   unfold oStep nStepL;rw[o,I];simp only;cases r:((ye d t.cols s).1 !=0)
   ·rfl
   rfl
  rw[e];cases g:((nStepL d t s).1 !=0)
  ·rfl
  rw[aG];unfold nStepL at g⊢;rw[o,I]at g⊢;cases r:((ye d t.cols s).1 !=0)
  ·have g:((xi (ye d t.cols s).2 (stR d t s)).1 !=0)=true:=by rw[r]at g;exact g
   show((xi _ _).1,_)=xi _ _;unfold xi at g⊢;cases J:decide ((stR d t s).length<=20000)
   ·rfl
   rw[J]at g;cases g
  rfl
 rw[j,aG]at i;simp only at i;rw[i]at j;cases j
theorem awb {d:am Nmd}{p:Pln}(h:(exR d p).1≠0):(exR d p).2=⟨[],[]⟩:=by
 have gen: ∀(l:am (Int×Stp)) (t:Tbl),(jl (oStep d) t l).1≠0 ->(jl (oStep d) t l).2=⟨[],[]⟩:=by
  intro l;induction l with
  |nil=>intro t h;exact absurd rfl h
  |cons x r i=>
   intro t h;simp only[jl]at h⊢;cases g:((oStep d t x).1 !=0)
   ·rw[g,aA]at h;exact i _ h
   rfl
 unfold exR at h⊢;cases g:(yN d p !=0)
 ·rw[g,aA]at h;exact gen _ _ h
 rfl
mutual
def Ex.cntX:Ex ->Int ->Int
 | .mk _ _ _ ks,m=>cntXL ks m 1
def cntXL:am Ex ->Int ->Int ->Int
 | [],_,n=>n
 |k::r,m,n=>bif decide (n<=m)then cntXL r m (n+k.cntX (m - n))else n
end
mutual
theorem aen: ∀(e:Ex) (m:Int),1<=e.cntX m /\e.cntX m<=max 1 (m+1)
 | .mk _ _ _ ks,m=>by
   simp only[Ex.cntX];have:=cntXL_bnd ks m 1;omega
theorem cntXL_bnd: ∀(ks:am Ex) (m n:Int),n<=cntXL ks m n /\cntXL ks m n<=max n (m+1)
 | [],m,n=>by simp only[cntXL];omega
 |k::r,m,n=>by
  simp only[cntXL];cases h:decide (n<=m)
  ·rw[aA];omega
  rw[aG];have h:=aD h;have g:=aen k (m - n);have i:=cntXL_bnd r m (n+k.cntX (m - n));omega
end
theorem apg {ks:am Ex}{i:Nat}(h:i<ks.length)(m n:Int):cntXL (ks.drop i) m n=bif decide (n<=m)then cntXL (ks.drop (i+1)) m (n+ks[i].cntX (m - n))else n:=by
 rw[zq h];simp only[cntXL]
theorem acb: ∀(e:Ex) (m:Int), -2000<=m ->m<=1000 ->Sat Pg aaE [e.w,.c (int m)] (λr=>r=rI (e.cntX m))
 | .mk op nm v ks,m,ab,ac=>by
   have ih: ∀k∈ks,∀m, -2000<=m ->m<=1000 ->Sat Pg aaE [k.w,.c (int m)] (λr=>r=rI (k.cntX m)):=λk hk m I o=>acb k m I o
   obtain⟨y,R⟩: ∃y,cntXL ks m 1=y:=⟨_,rfl⟩;simp only[Ex.cntX];rw[R];obtain⟨vk,vn,vs⟩:=v;refine aaw.s T8 ?_;refine yq (P:=Pg) (f:=T8.f) (body:=(aaw.l 0)) (λz:Nat×Int=>⟨[(1,zl m),(2,cV (.ptr 2 0)),(5,zl z.2),(6,zl z.1)],[(2,.box [int op,str nm,int vk,int vn,str vs,.d (.sl (exsD ks))])]⟩) (λz=>ks.length - z.1) (λz=>z.1<=ks.length /\(z.1:Int)+1<=z.2 /\z.2<=1001 /\y=cntXL (ks.drop z.1) m z.2) ⟨(0,1),⟨aJ _,cF _,by show(1:Int)<=1001;omega,R.symm⟩,ze ?_⟩ ?_
   ·exact rfl
   rintro⟨i,n⟩ hz;obtain⟨hi,ad,hn,g⟩:i<=ks.length /\(i:Int)+1<=n /\n<=1001 /\y=cntXL (ks.drop i) m n:=hz;clear R;(conv=>whnf);rw[wV];cases I:decide ((i:Int)<(ks.length:Int))with
   |false=>
    have J:ks.length<=i:=by have:=aB I;omega
    rw[aO J]at g;simp only[cntXL]at g;subst g;exact rfl
   |true=>
    have j:i<ks.length:=by have:=aD I;omega
    rw[apg j]at g;cases o:decide (n<=m)with
    |false=>
     rw[o]at g;have g:y=n:=g;subst g;exact rfl
    |true=>
     have aa:=aD o;rw[o]at g;have g:y=cntXL (ks.drop (i+1)) m (n+ks[i].cntX (m - n)):=g;have hg:(exsD ks)[((i:Int)).toNat]? =some (ks[i]).ds:=UA j;have p:ks[i]∈ks:=aE j;have wm:aN.wrap (m - n)=m - n:=by rw[bW];omega
     have w1:aN.wrap ((i:Int)+1)=((i+1:Nat):Int):=by rw[bW];omega
     generalize ks[i]=k at*;obtain⟨c1,c2⟩:=aen k (m - n);have U:=ih k p (m - n) (by omega) (by omega);generalize k.cntX (m - n)=z at*;have wn:aN.wrap (n+z)=n+z:=by rw[bW];omega
     obtain⟨ag,af,v1,ae⟩:=k;(conv=>whnf);refine⟨by omega,_,hg,rfl,?_⟩;(conv=>whnf);rw[wm];refine aF U ?_;refine⟨(i+1,n+z),⟨⟨j,by show((i+1:Nat):Int)+1<=n+z;omega,by show n+z<=1001;omega,g⟩,by show ks.length -(i+1)<ks.length - i;omega⟩,ze ?_⟩;(conv=>whnf);rw[wn,w1];rfl
termination_by e=>e
decreasing_by all_goals (simp_wf;have:=List.sizeOf_lt_of_mem hk;omega)
def alD (x:Itm):Bool:=!decide (x.e.cntX 100>100)
def abR (s:Stp):Bool:=decide (s.cond.cntX 100>100)||decide ((s.items.length:Int)>20)||decide ((s.cols.length:Int)>40)||decide ((s.aggs.length:Int)>40)||decide ((s.sorts.length:Int)>40)
def vB (s:Stp):Int×Bool:=bif abR s then(0,false)else bif agU alD s.items then(bif s.op==6||s.op==7 then 1 else 0,true)else(0,false)
theorem auJ (s:Stp):Sat Pg abG [s.w] (λr=>r=⟨.tup [.c (int (vB s).1),.c (bool (vB s).2)],[]⟩):=by
 have hc:=acb s.cond 100 (by omega) (by omega);obtain⟨y,p⟩: ∃y,vB s=y:=⟨_,rfl⟩;rw[p];unfold vB abR at p;obtain⟨op,⟨eo,nm,⟨vk,vn,vs⟩,R⟩,g,cs,ad,ab,n,tb⟩:=s;rw[qT];simp only at*;rw[<- wJ g,<- zF cs,<- jd ad,<- Z4 ab]at p;generalize(Ex.mk eo nm ⟨vk,vn,vs⟩ R).cntX 100=cc at*;generalize zp cs=J at*;generalize wt ad=I at*;generalize xQ ab=aa at*;obtain⟨bad,o⟩: ∃bad,(decide (cc>100)||decide (((yW g).length:Int)>20)||decide ((J.length:Int)>40)||decide ((I.length:Int)>40)||decide ((aa.length:Int)>40))=bad:=⟨_,rfl⟩;rw[o]at p;have af:bad=false ->g.length<=20:=λh=>by
  rw[h]at o;simp only[aV,bM,wJ]at o;omega
 have U: ∀(j:Int) (Q:E ->S ->Prop) (s:S),bad=false ->(bif agU alD g then(j,true)else(0,false))=y ->
  yX s [1,4,5] (· =⟨[(1,cV (.ptr 1 0)),(4,zl j),(5,zl 0)],[(1,.box [int op,int eo,str nm,int vk,int vn,str vs,.d (.sl (exsD R)),.d (.sl (yW g)),.d (.sl J),.d (.sl I),.d (.sl aa),int n,str tb])]⟩) ->
  (y=(0,false) ->Q .ret ⟨[(2,zl 0),(3,ya false)],[(1,.box [int op,int eo,str nm,int vk,int vn,str vs,.d (.sl (exsD R)),.d (.sl (yW g)),.d (.sl J),.d (.sl I),.d (.sl aa),int n,str tb])]⟩) ->
  (y=(j,true) ->Q (.exit 0) ⟨[(1,cV (.ptr 1 0)),(4,zl j),(5,zl g.length),(46,ya (decide ((g.length:Int)<((yW g).length:Nat))))],[(1,.box [int op,int eo,str nm,int vk,int vn,str vs,.d (.sl (exsD R)),.d (.sl (yW g)),.d (.sl J),.d (.sl I),.d (.sl aa),int n,str tb])]⟩) ->
  zY (mwpR Pg T8.f (X7.l 0)) [1,4,5] Q s:=by
  intro j Q s hb p h0 hr hq;have af:=af hb;refine yx (P:=Pg) (f:=T8.f) (body:=(X7.l 0)) g.length (λi=>⟨[(1,cV (.ptr 1 0)),(4,zl j),(5,zl i)],[(1,.box [int op,int eo,str nm,int vk,int vn,str vs,.d (.sl (exsD R)),.d (.sl (yW g)),.d (.sl J),.d (.sl I),.d (.sl aa),int n,str tb])]⟩) (λi=>(bif agU alD (g.drop i)then(j,true)else(0,false))=y) ⟨p,h0⟩ ?_;clear h0 p;intro i hi hR;cases h1:decide ((i:Int)<((yW g).length:Int))with
  |false=>
   have ag:i=g.length:=by have:=aB h1;rw[wJ]at this;omega
   subst ag;rw[bU]at hR;have hq:=hq hR.symm;(conv=>whnf);rw[h1];rw[h1]at hq;(conv=>whnf);exact hq
  |true=>
   have ac:i<g.length:=by have:=aD h1;rw[wJ]at this;omega
   rw[zq ac]at hR;simp only[agU]at hR;have hg:=WM ac;have wi:=zC ac (by omega);have ae:=acb (g[i]).e 100 (by omega) (by omega);unfold alD at hR;generalize g[i]=x at*;obtain⟨xe,xn⟩:=x;simp only at ae hR;generalize xe.cntX 100=c at*;obtain⟨o1,n1,⟨a1,a2,a3⟩,k1⟩:=xe;(conv=>whnf);rw[h1];(conv=>whnf);refine⟨by omega,_,hg,rfl,?_⟩;refine aF ae ?_;refine zw (b:=decide (c>100)) (λh2=>?_) (λh2=>?_)
   ·rw[h2]at hR;have hr:=hr hR.symm;(conv=>whnf);exact hr
   rw[h2]at hR;(conv=>whnf);refine⟨ac,hR,ze ?_⟩;(conv=>whnf);rw[wi];rfl
 cases hj:(op==6||op==7)with
 |false=>
  rw[hj]at p;refine X7.s T8 ?_;rw[hj];refine aF hc ?_;rw[o];cases bad with
  |true=>
   subst p;exact rfl
  |false=>
   (conv=>whnf);refine U 0 _ _ rfl p (ze ?_) (λe=>?_) (λe=>?_)
   ·exact rfl
   ·subst e;exact rfl
   subst e;exact rfl
 |true=>
  rw[hj]at p;refine X7.s T8 ?_;rw[hj];refine aF hc ?_;rw[o];cases bad with
  |true=>
   subst p;exact rfl
  |false=>
   (conv=>whnf);refine U 1 _ _ rfl p (ze ?_) (λe=>?_) (λe=>?_)
   ·exact rfl
   ·subst e;exact rfl
   subst e;exact rfl
def Pln.kids:Pln ->am Pln| .mk _ _ _ _ _ _ ks=>ks
def ayE (n:Int)(p:Pln):Bool:=!(vB p.st).2||decide (n+(vB p.st).1>1)||decide ((p.kids.length:Int)>1)
def UB:Nat ->Int ->Pln ->Bool
 |0,_,_=>false
 |f+1,n,.mk op tb col lo hi st ks=>bif ayE n (.mk op tb col lo hi st ks)then false else match ks with
  | []=>true
  |k::_=>UB f (n+(vB st).1) k
def ayF (f:Nat)(n:Int):am Pln ->Bool
 | []=>true
 |k::_=>UB f n k
theorem abp (f:Nat)(n:Int)(op:Int)(tb col:ByteArray)(lo hi:Int)(st:Stp)(ks:am Pln):
 UB (f+1) n (.mk op tb col lo hi st ks)=bif !(vB st).2||decide (n+(vB st).1>1)||decide ((ks.length:Int)>1)then false else ayF f (n+(vB st).1) ks:=by
 cases ks<;>rfl
theorem axC (s:Stp):0<=(vB s).1 /\(vB s).1<=1:=by
 unfold vB;cases abR s
 ·rw[aA];cases agU alD s.items
  ·exact⟨by show(0:Int)<=0;omega,by show(0:Int)<=1;omega⟩
  rw[aG];cases(s.op==6||s.op==7)
  ·exact⟨by show(0:Int)<=0;omega,by show(0:Int)<=1;omega⟩
  exact⟨by show(0:Int)<=1;omega,by show(1:Int)<=1;omega⟩
 exact⟨by show(0:Int)<=0;omega,by show(0:Int)<=1;omega⟩
def fwS (z:Nat×Int×Pln):S:=⟨[(1,cV (.ptr 1 0)),(3,zl z.2.1),(4,zl z.1)],[(1,.box z.2.2.cs)]⟩
theorem awE (P:Pln):Sat Pg YX [P.w] (λr=>r=rB (UB 20 0 P)):=by
 obtain⟨y,hy⟩: ∃y,UB 20 0 P=y:=⟨_,rfl⟩;rw[hy,wg];obtain⟨R,hR⟩: ∃R:Nat×Int×Pln ->Prop,∀i n p,R (i,n,p)↔i<=20 /\(0<=n /\n<=1)/\UB (20 - i) n p=y:=⟨λz=>z.1<=20 /\(0<=z.2.1 /\z.2.1<=1)/\UB (20 - z.1) z.2.1 z.2.2=y,λ_ _ _=>Iff.rfl⟩;have h0:R (0,0,P):=(hR _ _ _).2 ⟨by omega,⟨by omega,by omega⟩,hy⟩;obtain⟨op,tb,col,lo,hi,⟨ad,⟨eo,nm,⟨vk,vn,vs⟩,ab⟩,I,ac,U,J,n,ae⟩,ks⟩:=P;clear hy;refine Kr.s T8 ?_;refine yq (P:=Pg) (f:=T8.f) (body:=(Kr.l 0)) fwS (λz=>20 - z.1) R ⟨_,h0,ze ?_⟩ ?_
 ·exact rfl
 clear h0;clear op tb col lo hi ad eo nm vk vn vs ab I ac U J n ae ks;rintro⟨i,m,p⟩ h;obtain⟨hi,hm,g⟩:=(hR _ _ _).1 h;clear h;show mwpR Pg T8.f (Kr.l 0) _ (fwS (i,m,p));unfold fwS;cases h1:decide ((i:Int)<20)with
 |false=>
  have af:i=20:=by have:=aB h1;omega
  subst af;have g:false=y:=g;subst g;obtain⟨op,tb,col,lo,ak,⟨ad,⟨eo,nm,⟨vk,vn,vs⟩,ab⟩,I,ac,U,J,n,ae⟩,ks⟩:=p;exact rfl
 |true=>
  have aw:i<20:=by have:=aD h1;omega
  have wi:aN.wrap ((i:Int)+1)=((i+1:Nat):Int):=by rw[bW];omega
  have o:=auJ p.st;have aa:=axC p.st;rw[show 20 - i=(20 -(i+1))+1 by omega]at g;obtain⟨op,tb,col,lo,ak,st,ks⟩:=p;rw[abp]at g;have o:Sat Pg abG [st.w] (λr=>r=⟨.tup [.c (int (vB st).1),.c (bool (vB st).2)],[]⟩):=o;have aa:0<=(vB st).1 /\(vB st).1<=1:=aa;obtain⟨j,ok,hM⟩: ∃j ok,vB st=(j,ok):=⟨_,_,rfl⟩;rw[hM]at g aa o;clear hM;simp only at g aa o;have wm:aN.wrap (m+j)=m+j:=by rw[bW];omega
  obtain⟨ad,⟨eo,nm,⟨vk,vn,vs⟩,ab⟩,I,ac,U,J,n,ae⟩:=st;rw[qT]at o;rw[uW];rw[<- J1 ks]at g;(conv=>whnf);rw[h1];refine aF o ?_;rw[wm];clear o;cases hb:(!ok||decide (m+j>1)||decide (((plnsD ks).length:Int)>1))with
  |true=>
   rw[hb,aG]at g;subst g;exact rfl
  |false=>
   rw[hb,aA]at g;simp only[aV,bM,J1]at hb
   match ks,g,hb with
   | [],g,hb=>
     have g:true=y:=g;subst g;exact rfl
   | [k],g,hb=>
     have aj:R (i+1,m+j,k):=(hR _ _ _).2 ⟨by omega,⟨by omega,by omega⟩,g⟩;have hg:(plnsD [k])[((0:Int)).toNat]? =some k.ds:=rfl;clear hR g;obtain⟨a0,a1,al,ay,av,⟨aq,⟨au,az,⟨a2,a3,a4⟩,an⟩,ag,ao,ai,ah,n1,ar⟩,ax⟩:=k;(conv=>whnf);refine⟨by omega,_,hg,rfl,?_⟩;(conv=>whnf);refine⟨(i+1,m+j,_),⟨aj,by show 20 -(i+1)<20 - i;omega⟩,ze ?_⟩;(conv=>whnf);rw[wi];rfl
   |_::_::_,_,hb=>exact absurd hb.2 (by simp only[aR];omega)
theorem aij: ∀(ks:am Ex) (m n:Int),min (n+ks.length) (m+1)<=cntXL ks m n
 | [],m,n=>by simp only[cntXL,bX];omega
 |k::r,m,n=>by
  simp only[cntXL,aR];cases h:decide (n<=m)
  ·have:=aB h;rw[aA];omega
  rw[aG];have g:=aen k (m - n);have i:=aij r m (n+k.cntX (m - n));omega
theorem alE {s:Stp}(h:(vB s).2=true):s.Sm /\s.lens<=1000:=by
 unfold vB at h;cases g:abR s
 ·unfold abR at g;simp only[aV,bM]at g;obtain⟨⟨⟨⟨o,r⟩,I⟩,J⟩,P⟩:=g;have hk:s.cond.ks.length<=100:=by
   obtain⟨op,⟨p,R,v,ks⟩,i,cs,l,j,n,tb⟩:=s;simp only[Ex.cntX]at o;have:=aij ks 100 1;show ks.length<=100;omega
  refine⟨⟨by omega,by omega,by omega,by omega⟩,?_⟩;unfold Stp.lens;omega
 rw[g]at h;cases h
theorem arA: ∀(f:Nat) (n:Int) (p:Pln),UB f n p=true ->p.base.2.length<=f /\(vB p.base.1.st).2=true /\ ∀s∈p.base.2,(vB s).2=true
 |0,_,_,h=>by cases h
 |f+1,n,.mk op tb col lo hi st ks,h=>by
  rw[abp]at h;cases g:(!(vB st).2||decide (n+(vB st).1>1)||decide ((ks.length:Int)>1))
  ·rw[g,aA]at h;simp only[aV,bM,cC]at g;obtain⟨⟨j,_⟩,i⟩:=g
   match ks,h,i with
   | [],_,_=>exact⟨aJ _,j,λs hs=>by cases hs⟩
   | [k],h,_=>
     obtain⟨a,b,c⟩:=arA f _ k h;simp only[Pln.base];cases qU op tb col lo hi st.op 1
     ·exact⟨aJ _,j,λs hs=>by cases hs⟩
     refine⟨by simp only[aG,aK,aR,bX];omega,b,λs hs=>?_⟩;rcases bT.1 hs with hs|hs
     ·exact c s hs
     rw[bC]at hs;subst hs;exact j
   |_::_::_,_,i=>simp only[aR]at i;omega
  rw[g]at h;cases h
theorem ary {f:Nat}{n:Int}{p:Pln}(g:f<=100000)(h:UB f n p=true):p.Sm:=by
 obtain⟨a,b,c⟩:=arA f n p h;exact⟨by omega,by have:=(alE b).2;omega,λs hs=>(alE (c s hs)).1⟩
theorem arz {p:Pln}{s:Stp}(h:UB 20 0 (xw p s)=true):(xw p s).Sm /\p.Sm /\s.Sm:=by
 refine⟨ary (by omega) h,?_⟩;unfold xw at h;rw[show(20:Nat)=19+1 from rfl,abp]at h;cases g:(!(vB s).2||decide (0+(vB s).1>1)||decide ((([p]:am Pln).length:Int)>1))
 ·rw[g,aA]at h;simp only[aV,cC]at g;exact⟨ary (f:=19) (by omega) h,(alE g.1.1).1⟩
 rw[g]at h;cases h
theorem anF (d:am Nmd)(p:Pln)(s:Stp)(hs:Sat Pg vR [.c (.d (.sl (zu d)))] (λr=>r=rB false)):Sat Pg wH [.c (.d (.sl (zu d))),.agg p.cs,s.w] (λr=>r=rB true):=by
 obtain⟨op,tb,col,lo,hi,⟨ae,⟨eo,nm,⟨vk,vn,vs⟩,U⟩,l,ad,I,o,n,af⟩,ks⟩:=p;obtain⟨ac,⟨aa,ab,⟨ag,ah,ai⟩,J⟩,g,P,j,i,n2,R⟩:=s;rw[qT];refine vV.s T8 ?_;refine aF hs ?_;refine aF Y4 ?_;rfl
theorem anG (d:am Nmd)(p:Pln)(s:Stp)(hs:Sat Pg vR [.c (.d (.sl (zu d)))] (λr=>r=rB true))(l:Sat Pg YX [.agg (xw p s).cs] (λr=>r=rB false)):Sat Pg wH [.c (.d (.sl (zu d))),.agg p.cs,s.w] (λr=>r=rB true):=by
 obtain⟨op,tb,col,lo,hi,⟨af,⟨eo,nm,⟨vk,vn,vs⟩,aa⟩,o,ae,J,I,n,ag⟩,ks⟩:=p;obtain⟨ad,⟨ab,ac,⟨ah,ai,aj⟩,P⟩,g,R,j,i,n2,U⟩:=s;unfold xw at l;rw[qT];rw[uW]at l;refine vV.s T8 ?_;refine aF hs ?_;refine aF l ?_;refine aF Y4 ?_;rfl
theorem anH (d:am Nmd)(p:Pln)(s:Stp)(hs:Sat Pg vR [.c (.d (.sl (zu d)))] (λr=>r=rB true))(l:Sat Pg YX [.agg (xw p s).cs] (λr=>r=rB true))(e:Int)(he:(e !=0)=true)(hr:Sat Pg qR [.c (.d (.sl (zu d))),.agg p.cs] (λr=>r=wK (e,⟨[],[]⟩))):Sat Pg wH [.c (.d (.sl (zu d))),.agg p.cs,s.w] (λr=>r=rB true):=by
 obtain⟨op,tb,col,lo,hi,⟨af,⟨eo,nm,⟨vk,vn,vs⟩,aa⟩,o,ae,J,I,n,ag⟩,ks⟩:=p;obtain⟨ad,⟨ab,ac,⟨ah,ai,aj⟩,P⟩,g,R,j,i,n2,U⟩:=s;unfold xw at l;rw[qT];rw[uW]at l;refine vV.s T8 ?_;refine aF hs ?_;refine aF l ?_;refine aF hr ?_;rw[he];refine aF Y4 ?_;rfl
theorem anI (d:am Nmd)(p:Pln)(s:Stp)(hs:Sat Pg vR [.c (.d (.sl (zu d)))] (λr=>r=rB true))(I:Sat Pg YX [.agg (xw p s).cs] (λr=>r=rB true))(X:Tbl)(hr:Sat Pg qR [.c (.d (.sl (zu d))),.agg p.cs] (λr=>r=wK (0,X)))(e:Int)(he:(e !=0)=true)
 (g:Sat Pg qR [.c (.d (.sl (zu d))),.agg (xw p s).cs] (λr=>r=wK (e,⟨[],[]⟩))) (cols:am Col) (hk:Sat Pg vy [.c (.d (.sl (zu d))),.agg (xw p s).cs] (λr=>r=xF (e,cols))):Sat Pg wH [.c (.d (.sl (zu d))),.agg p.cs,s.w] (λr=>r=rB true):=by
 obtain⟨op,tb,col,lo,hi,⟨ah,⟨eo,nm,⟨vk,vn,vs⟩,ac⟩,J,ag,R,P,n,ai⟩,ks⟩:=p;obtain⟨af,⟨ad,ae,⟨aj,ak,al⟩,U⟩,i,aa,l,j,n2,ab⟩:=s;unfold xw at I g hk;obtain⟨xc,xr⟩:=X;have o:(e==e)=true:=by simp
 rw[qT];rw[uW]at I g hk;refine vV.s T8 ?_;refine aF hs ?_;refine aF I ?_;refine aF hr ?_;refine aF g ?_;refine aF hk ?_;rw[he]
 conv=>whnf
 rw[o];refine aF Y4 ?_;rfl
theorem anJ (d:am Nmd)(p:Pln)(s:Stp)(hs:Sat Pg vR [.c (.d (.sl (zu d)))] (λr=>r=rB true))(I:Sat Pg YX [.agg (xw p s).cs] (λr=>r=rB true))(X:Tbl)(hr:Sat Pg qR [.c (.d (.sl (zu d))),.agg p.cs] (λr=>r=wK (0,X)))(y:Int×Tbl)
 (g:Sat Pg qR [.c (.d (.sl (zu d))),.agg (xw p s).cs] (λr=>r=wK y)) (cols:am Col) (hk:Sat Pg vy [.c (.d (.sl (zu d))),.agg (xw p s).cs] (λr=>r=xF (0,cols))) (hN:Sat Pg wx [.c (.d (.sl (zu d))),X.w,s.w] (λr=>r=wK y)):Sat Pg wH [.c (.d (.sl (zu d))),.agg p.cs,s.w] (λr=>r=rB true):=by
 have hS:=Wn y.2 y.2;rw[agi]at hS;obtain⟨op,tb,col,lo,hi,⟨ah,⟨eo,nm,⟨vk,vn,vs⟩,ac⟩,J,ag,R,P,n,ai⟩,ks⟩:=p;obtain⟨af,⟨ad,ae,⟨aj,ak,al⟩,U⟩,i,aa,l,j,n2,ab⟩:=s;unfold xw at I g hk;obtain⟨xc,xr⟩:=X;obtain⟨e,yc,yr⟩:=y;have o:(e==e)=true:=by simp
 rw[qT]at hN⊢;rw[uW]at I g hk;refine vV.s T8 ?_;refine aF hs ?_;refine aF I ?_;refine aF hr ?_;refine aF g ?_;refine aF hk ?_;refine aF hN ?_;refine aF hS ?_;rw[o];refine aF Y4 ?_;rfl
theorem aru {d:am Nmd}{p:Pln}(h:(exR d p).1=0):zL (exR d p).2=0:=by
 unfold exR at h⊢;cases g:(yN d p !=0)
 ·rw[g,aA]at h;rw[aA];have i:yN d p=0:=by simpa using g
  exact aae d (kK i).1 p.nodes _ (ahC i) (UT p) h
 rw[g,aG]at h;simp only at h;rw[h]at g;cases g
theorem ajQ (d:am Nmd)(p:Pln)(s:Stp):Sat Pg wH [.c (.d (.sl (zu d))),p.w,s.w] (λr=>r=rB true):=by
 have hs:=asv d;rw[wg];cases P:decide (smD d.length d<=800)with
 |false=>
  rw[P]at hs;exact anF d p s hs
 |true=>
  rw[P]at hs;have i:=awE (xw p s);rw[wg]at i;cases j:UB 20 0 (xw p s)with
  |false=>
   rw[j]at i;exact anG d p s hs i
  |true=>
   rw[j]at i;obtain⟨R,q2,q3⟩:=arz j;have hr:=aci d p q2;have g:=aci d (xw p s) R;have hk:=kR d (xw p s) R;rw[wg]at hr g hk;by_cases l:(exR d p).1=0
   ·have hv:=aru l;have hr:Sat Pg qR [.c (.d (.sl (zu d))),.agg p.cs] (λr=>r=wK (0,(exR d p).2)):=by rw[<- l];exact hr
    have I:=alR d (xw p s);by_cases J:yN d (xw p s)=0
    ·rw[J]at I;rw[asX l J]at g;rw[show Y2 d (xw p s)=(0,(Y2 d (xw p s)).2)by rw[<- I]]at hk;exact anJ d p s hs i _ hr _ g _ hk (aaM d _ s q3 (xE hv).2)
    have o:(yN d (xw p s) !=0)=true:=by simpa using J
    have U:exR d (xw p s)=(yN d (xw p s),⟨[],[]⟩):=by unfold exR;rw[o];rfl
    rw[U]at g;rw[show Y2 d (xw p s)=(yN d (xw p s),(Y2 d (xw p s)).2)by rw[<- I]]at hk;exact anI d p s hs i _ hr _ o g _ hk
   have h0:=awb l;rw[show exR d p=((exR d p).1,⟨[],[]⟩)by rw[<- h0]]at hr;exact anH d p s hs i _ (by simpa using l) hr
end
section
open Go Go.AM Go.Lib
theorem XF {W w':aS}(h: ∀b,WB W b ->w'.heap[b]? =W.heap[b]?){a:Addr}{v:Value}(g:W.cell? a=some v):w'.cell? a=some v:=by
 have i:WB W a.block:=aS.block_lt_of_cell? W a g;rw[<- g];simp only[cE,h _ i]
theorem Xj {W w':aS}(h: ∀b,WB W b ->w'.heap[b]? =W.heap[b]?){g:Nat}{k:aQ}{t:am Nat}(r:TabSlice g k t W):TabSlice g k t w':=by
 obtain⟨R,o,c,i,l⟩:=r;exact⟨R,o,c,XF h i,λj p=>XF h (l j p)⟩
theorem asb {P:Program}{w:aS}{g t e:Nat}{n:Nat}(U:P.globalNamed "internal/strconv.uint64pow10" =some g)(J:(P.globals[g]?).map (·.type)=some t)
 (ht:P.underlying t=some (.array n e)) (he:P.underlying e=some (.int .u64)) (l:P.cellsOf e=1) (o:P.cellsOf t=n)
 (h:VarReads P w "internal/strconv.uint64pow10" (tabData .u64 pow10Tab)): ∃j f,w.heap[g]? =some (.cells (pow10Tab.map λz=>cJ .u64 z).toArray j f):=by
 obtain⟨g',t',cs,R,p,r,I,i,hd⟩:=h;obtain rfl:=aX (U.symm.trans r);obtain rfl:=aX (J.symm.trans I);have e1:=cells_of_tab ht he l o hd;simp only[aS.var?,U,Option.bind_some]at i;split at i
 ·rename_i c j f hc;cases i;refine⟨j,f,?_⟩;rw[hc,<- e1]
 cases i
theorem auw {W w':aS}(h: ∀b,WB W b ->w'.heap[b]? =W.heap[b]?)(I:Psi W):Psi w':=by
 obtain⟨o,⟨j,a2,a3,a4,a5⟩,⟨l,g⟩,t,f,c⟩:=I;refine⟨λk hk=>?_,⟨Xj h j,Xj h a2,Xj h a3,Xj h a4,a5⟩,⟨λc p=>XF h (l c p),λi hi=>⟨XF h (g i hi).1,XF h (g i hi).2⟩⟩,t,f,?_⟩
 ·obtain⟨m,r⟩:=o k hk;exact⟨m,XF h r⟩
 rw[h _ ?_];exact c;exact(bS.getElem?_eq_some_iff.1 c).1
theorem ax9:cq=sliceData .u16 goPrintTabs.p16:=by kernel_rfl
theorem ax7:b9=sliceData .u16 goPrintTabs.n16:=by kernel_rfl
theorem aya:cr=sliceData .u32 goPrintTabs.p32:=by kernel_rfl
theorem ax8:cd=sliceData .u16 goPrintTabs.n32:=by kernel_rfl
theorem awa:cw=firstData:=by kernel_rfl
theorem ax6:(bG:DataW Unit)=acceptData:=by kernel_rfl
theorem ayb:(bD:DataW Unit)=tabData .u64 pow10Tab:=by kernel_rfl
theorem aze {P:Program}{w:aS}{l:am (String×DataW Unit)}{n:String}{d:DataW Unit}(h:laidMet P l w)(g:(n,d)∈l):VarReads P w n d:=Go.Lib.laidMet.reads h g
theorem azb:Lays.n339 Tryz.prog cm:={Tryz.lays177 with}
theorem axD:Lays.n260 Tryz.prog cm:={Tryz.lays177 with}
theorem azc:PrintExtra Tryz.prog cm:=⟨by kernel_rfl,by kernel_rfl,by kernel_rfl,by kernel_rfl,by kernel_rfl,by kernel_rfl,by kernel_rfl,by kernel_rfl,by kernel_rfl,by kernel_rfl⟩
theorem azd:U8Extra Tryz.prog cm:=⟨by kernel_rfl,by kernel_rfl,by kernel_rfl,by kernel_rfl,by kernel_rfl,by kernel_rfl,by kernel_rfl⟩
theorem atX {l:am (String×DataW Unit)}{W:aS}(j:W.ShapedOpen Tryz.prog)(g:laidMet Tryz.prog l W)
 (m1:("strconv.isPrint16",cq)∈l) (o:("strconv.isNotPrint16",b9)∈l) (p:("strconv.isPrint32",cr)∈l) (r:("strconv.isNotPrint32",cd)∈l)
 (I:("unicode/utf8.first",cw)∈l) (J:("unicode/utf8.acceptRanges",bG)∈l) (P:("internal/strconv.uint64pow10",bD)∈l):Psi W:=by
 refine⟨λk hk=>?_,printTabs_of_reads azb azc (ax9▸aze g m1) (ax7▸aze g o) (aya▸aze g p) (ax8▸aze g r),
  utf8Tabs_of_reads axD azd (awa▸aze g I) (ax6▸aze g J),?_⟩
 ·have i:k=0:=by
   have:=bI (hk:Nat.ble (k+1) 1=true);omega
  subst i;exact Tryz.laysM144.s1_3 W j
 exact asb (t:=327) (e:=290) (n:=20) (by kernel_rfl) (by kernel_rfl) (by kernel_rfl) (by kernel_rfl) (by kernel_rfl) (by kernel_rfl) (ayb▸aze g P)
theorem atM {l:am (String×DataW Unit)}{W:aS}(g:W.ShapedOpen Tryz.prog)(i:laidMet Tryz.prog l W)
 (m1:("strconv.isPrint16",cq)∈l) (j:("strconv.isNotPrint16",b9)∈l) (o:("strconv.isPrint32",cr)∈l) (p:("strconv.isNotPrint32",cd)∈l)
 (r:("unicode/utf8.first",cw)∈l) (I:("unicode/utf8.acceptRanges",bG)∈l) (J:("internal/strconv.uint64pow10",bD)∈l):Glb (WB W) W:=
 λ_ h=>auw h (atX g i m1 j o p r I J)
end
end Go.Proofs.YtkdijaiaplkliaaGreatDoor
