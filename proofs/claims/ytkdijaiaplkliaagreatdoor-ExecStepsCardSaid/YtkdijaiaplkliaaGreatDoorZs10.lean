import Derived.Shelf.RegionOpenPlain
import Derived.Lib.JoinLaws
import Derived.Lib.AppendZerosOnto
import Derived.Lib.Overlaps
import Derived.Laws.Externs
import Derived.Laws.IdiomCopy
import Derived.Laws.NewBlocks
import Derived.ProofKit
import Derived.ChangeArms
import Derived.DataReads
import Derived.Carry
import Derived.Below
import Derived.ChangeSame
import Derived.WalkKit
import Derived.OpenShut
import Derived.JoinedOf
import Derived.Shelf.Strings.Builder1
import Derived.Shelf.Strconv.Itoa3
import Derived.Shelf.Strconv.Quote
import Derived.Shelf.LaysM
import Derived.Ground.NamesProg
import Derived.Test.YtkdijaiaplkliaaGreatDoorProg
import Derived.Lib.QuoteLoop
import Derived.Lib.ItoaLen
import Derived.Deep.RegionHeld3
import Derived.Test.YtkdijaiaplkliaaGreatDoorZs9
set_option linter.unusedSimpArgs false
set_option linter.unusedVariables false
set_option maxRecDepth 100000
set_option maxHeartbeats 4000000
open _root_ renaming List->am,cond_false->aB,cond_true->aD,congrArg->aF,of_decide_eq_false->aG,of_decide_eq_true->aN,Option->aP,Array->aY,decide_eq_false_iff_not->bL,if_pos->cn,if_neg->dd,bne_eq_false_iff_eq->dr,decide_eq_true_eq->dy,bne_self_eq_false->dz
open List renaming length_append->aA,take->aH,getElem_mem->aI,replicate->aJ,take_length->aL,length_take->aO,length_cons->aR,take_of_length_le->aT,mem_cons_self->aU,append_nil->bA,drop_eq_nil_of_le->bB,mem_cons->bC,map_cons->bE,map_append->bI,cons_append->bM,length_drop->bN,mem_append->bP,append_assoc->bV,mem_flatMap->bZ,length_nil->b9,mem_singleton->cg,mem_map->ck,not_mem_nil->cr,mem_of_mem_drop->cA,take_append_of_le_length->cB,mem_cons_of_mem->cD,foldl_cons->cE,length_set->cF,length_map->cG,nil_append->cH,length_reverse->cJ,map_nil->cL,mem_or_eq_of_mem_set->cT,length->cU,filter_cons->cX,map_set->c6,mem_append_right->dg,nodup_nil->di,take_left->dj,mem_append_left->dm,getElem_set_ne->dt
open Go.AM.Sat renaming w->aC,mono->bG
open Go renaming World->aE,Builtin->aW,IntKind->aZ,DataW->bH,Calls->cq,grownCap->cw,heap_setCell_other->cK,MemPlace->cP,Addr->dn,run_callFunc_extern->dq,grownCap_le_maxLen->du
open Nat renaming le_trans->aK,le_refl->aM,zero_le->bD,le_of_ble_eq_true->bT,eq_of_beq_eq_true->bU,mul_le_mul_right->bW,min->cM,min_def->dl
open Go.Lib renaming byteCells->aQ,cell_of_heap->bF,IsBuilder->bR,BuilderAt->bS,strCells->c9,goPrintTabs->de
open Bool renaming and_eq_true->aS,or_eq_false_iff->bJ,true_and->bQ,and_assoc->bX,not_false->cj,false_and->cR,false_or->dv
open Go.IntKind renaming i64->aV
open Go.Builtin renaming zeroCells->aX,copy_->bK,firstCells->dx
open Go.Value renaming okWide->bO
open And renaming intro->bY
open Option.some renaming inj->cd
open Array renaming size_append->cm
open Go.DataW renaming TrodAll->cz
open Go.World renaming cell?->cC
open Go.Addr renaming add_lit->cN
open Go.Result renaming andThen->cS
open Int renaming eq_ofNat_of_zero_le->cY
open Option renaming bind_some->cZ,map_eq_some_iff->c8
open Go.Proofs.YtkdijaiaplkliaaGreatDoor.Stp renaming ds->c7
open Go.Oper renaming upon_value->df
open Eq renaming trans->dh
open Go.Region renaming wanted->dw
namespace Go.Proofs.YtkdijaiaplkliaaGreatDoor
open Go Go.AM
section
attribute [local irreducible] Sat zA zY
def setN (r:am Val)(k:Int)(n:Int):am Val:=r.set k.toNat ⟨(at0 r k.toNat).k,n,(at0 r k.toNat).s⟩
theorem Yq {R:am Val}{k:Int}(h:k.toNat<R.length):(rowD R)[k.toNat]? =some (at0 R k.toNat).ds:=by
 grind[at0,rowD]
theorem XO (R:am Val)(k n:Int):(rowD R).set k.toNat [.lit (.int .i64 (at0 R k.toNat).k),.lit (.int .i64 n),.lit (.string (at0 R k.toNat).s)]=rowD (setN R k n):=by
 unfold setN rowD;rw[c6];rfl
theorem Wo (R:am Val)(k n:Int):(setN R k n).length=R.length:=by simp[setN]
def gX (p q:Int)(g:am Int)(x y:am Val)(lo hi:Int):am Val:=setN (setN (x++zn y g) p lo) q hi
def VY (g i:Int)(left right:am Int)(j l:Int)(x y:am Val):Bool:=
 xK (at0 y g.toNat) (at0 y i.toNat)&&(!decide (zU true j (at0 y g.toNat).n>=zU false l (at0 y i.toNat).n)&&ZB (zn x left) (zn y right))
def wZ (p q i j:Int)(left right g:am Int)(x:am Val)(l o:Int)(ys:am (am Val)):am (am Val):=
 ys.flatMap λy=>bif VY i j left right l o x y then [gX p q g x y (zU true l (at0 y i.toNat).n) (zU false o (at0 y j.toNat).n)]else []
theorem aeF (p q i j:Int)(left right g:am Int)(x:am Val)(l o:Int): ∀ys,(wZ p q i j left right g x l o ys).length<=ys.length
 | []=>aM _
 |y::r=>by
  have:=aeF p q i j left right g x l o r;have e:wZ p q i j left right g x l o (y::r)=(bif VY i j left right l o x y then [gX p q g x y (zU true l (at0 y i.toNat).n) (zU false o (at0 y j.toNat).n)]else [])++wZ p q i j left right g x l o r:=by simp[wZ]
  rw[e,aA,aR];cases VY i j left right l o x y
  ·show 0+_<=_;omega
  show 1+_<=_;omega
def UX (cols o:am Col)(br:am (am Val))(left right:am Int)(p q r I:Int)(g:am Int)(l:am (am Val))(i:Nat)(x:am Val)(J P:Int)(j:Nat)(out:am (am Val)):S:=
 ⟨[(4,cV (.ptr 4 0)),(6,cV (.ptr 6 0)),(10,.w (.c (.d (.sl (zg left))))),(11,.w (.c (.d (.sl (zg right))))),(12,.w (.c (.d (.sl (zg [p,q]))))),(13,.w (.c (.d (.sl (zg [r,I]))))),(14,.w (.c (.d (.sl (zg g))))),(15,cV (.ptr 15 0)),(17,.w (yt x)),(18,cV (.ptr 18 0)),(60,.w (.c (.d (.sl (zf l))))),(61,zl l.length),(62,zl i),(75,.w (.c (.d (.sl (zf br))))),(76,zl br.length),(77,zl j)],
 [(4,.box [.d (.sl (zm o)),.d (.sl (zf br))]),(6,.box [.nil,.nil]),(15,.box [.d (.sl (zm cols)),.own 143 1 out.length]),(18,.box [int J,int P]),(143,.arr 1 (zf out) false)]⟩
theorem ayp {Q:E ->S ->Prop}{s:S}(cols bc:am Col)(br:am (am Val))(left right:am Int)(p q J U:Int)(g:am Int)(ar:am (am Val))(i:Nat)(x:am Val)(r I:Int)(out:am (am Val))
 (aw:out.length+br.length<=20000) (a0:left.length<=100000) (a2:right.length<=100000) (a1:g.length<=100000) (a3:x.length<=100000) (hx:zQ x.length left) (hp:0<=p /\p<x.length) (hq:0<=q /\q<x.length)
 (hy: ∀y∈br,zQ y.length right /\zQ y.length g /\zQ y.length [J,U])
 (h0:yX s [4,6,10,11,12,13,14,15,17,18,60,61,62,75,76,77] (· =UX cols bc br left right p q J U g ar i x r I 0 out))
 (hQ:Q (.exit 2) (xD (UX cols bc br left right p q J U g ar i x r I br.length (out++wZ p q J U left right g x r I br)) 78 (ya (decide ((br.length:Int)<br.length))))):
 zY (mwpR Pg T8.f (yg.l 0)) [4,6,10,11,12,13,14,15,17,18,60,61,62,75,76,77] Q s:=by
 refine yx (P:=Pg) (f:=T8.f) (body:=(yg.l 0)) br.length (λj=>UX cols bc br left right p q J U g ar i x r I j (out++wZ p q J U left right g x r I (br.take j))) (λ_=>True) ⟨trivial,?_⟩ ?_
 ·grind[wZ]
 clear h0;intro j hj _;have ae:j<br.length ->(out++wZ p q J U left right g x r I (br.take j)).length<20000:=λh=>by
  grind[aeF]
 have o: ∀h:j<br.length,out++wZ p q J U left right g x r I (br.take (j+1))=(out++wZ p q J U left right g x r I (br.take j))++(bif VY J U left right r I x br[j]then [gX p q g x br[j] (zU true r (at0 br[j] J.toNat).n) (zU false I (at0 br[j] U.toNat).n)]else []):=λh=>by
  grind[wZ,zR]
 have ab:j=br.length ->out++wZ p q J U left right g x r I br=out++wZ p q J U left right g x r I (br.take j):=λh=>by grind
 show mwpR Pg T8.f (yg.l 0) _ (UX cols bc br left right p q J U g ar i x r I j (out++wZ p q J U left right g x r I (br.take j)));generalize out++wZ p q J U left right g x r I (br.take j)=T at*;have ao:(zf T).take T.length=zf T:=by grind[zx]
 unfold UX;refine rgE (λaa=>?_) (λaf=>?_)
 ·have hg:=yJ aa;have o:=o aa;obtain⟨au,av,ai⟩:=hy _ (aI aa);have wi:=zC aa (by omega);have ac:=U8 br[j] J U (ai _ (by simp)) (ai _ (by simp));have ak:=ub x left (by omega) hx;have an:=ub br[j] right (by omega) au;have al:=ub br[j] g (by omega) av;have aj:=acf (zn x left) (zn br[j] right);have ae:=ae aa;have ad:((T.length:Int)==20000)=false:=by simp;omega
  clear hQ ab hy;unfold VY at o;generalize br[j]=y at*;generalize at0 y J.toNat=u1 at*;generalize at0 y U.toNat=u2 at*;generalize ZB (zn x left) (zn y right)=ag at*;unfold QA at ac;generalize xK u1 u2=b at*;obtain⟨_,u1,_⟩:=u1;obtain⟨_,u2,_⟩:=u2;simp only at ac o;refine yu hg ?_;refine aC ac ?_;cases b with
  |false=>
   have o:out++wZ p q J U left right g x r I (br.take (j+1))=T:=by simp_all
   refine y6 aa trivial ?_;rw[wi,o];rfl
  |true=>
   rw[bQ]at o;refine zi (b:=false||decide (zU true r u1>=zU false I u2)) (λh2=>?_) (λh2=>?_)
   ·rw[dv]at h2;have o:out++wZ p q J U left right g x r I (br.take (j+1))=T:=by simp_all
    refine y6 aa trivial ?_;rw[wi,o];rfl
   rw[dv]at h2;rw[h2,cj,bQ]at o;refine aC ak ?_;refine aC an ?_;refine aC aj ?_;cases ag with
   |false=>
    have o:out++wZ p q J U left right g x r I (br.take (j+1))=T:=by simp_all
    refine y6 aa trivial ?_;rw[wi,o];rfl
   |true=>
    rw[aD]at o;refine zi (λh3=>?_) (λh3=>?_)
    ·have h3:((T.length:Int)==20000)=true:=h3;rw[ad]at h3;cases h3
    (conv=>whnf);refine bG (uq x (by omega)) ?_;rintro _ (⟨ah,rfl⟩|rfl)
    ·subst ah;simp at hp;omega
    refine aC al ?_;refine⟨XP _,by grind[ym,zt,zn],by grind[zt,zn],?_⟩;(conv=>whnf);rw[show aH (rowD x).length (rowD x)++rowD (zn y g)=rowD (x++zn y g)by grind[rowD],show(rowD x).length+(rowD (zn y g)).length=(x++zn y g).length by simp[zt]];have az:x.length<=(x++zn y g).length:=by simp
    unfold gX at o;generalize x++zn y g=R at*;refine vw ?_;refine vw ?_;refine⟨hp.1,by omega,?_⟩;(conv=>whnf);refine⟨(at0 R p.toNat).ds,Yq (by omega),bT rfl,?_⟩;(conv=>whnf);rw[show(rowD R).set p.toNat (z8 (at0 R p.toNat).ds 1 [.lit (.int .i64 (zU true r u1))])=rowD (setN R p (zU true r u1))from XO _ _ _];generalize zU true r u1=lo at*;have ax:=Wo R p lo;generalize setN R p lo=R1 at*;refine⟨hq.1,by omega,?_⟩;(conv=>whnf);refine⟨(at0 R1 q.toNat).ds,Yq (by omega),bT rfl,?_⟩;(conv=>whnf);rw[show(rowD R1).set q.toNat (z8 (at0 R1 q.toNat).ds (0+1) [.lit (.int .i64 (zU false I u2))])=rowD (setN R1 q (zU false I u2))from XO _ _ _];generalize zU false I u2=hi at*;have ay:=Wo R1 q hi;generalize setN R1 q hi=R2 at*;have aq:aH R.length (rowD R2)=rowD R2:=by grind[zt]
    rw[aq];refine wu ?_;refine y6 aa trivial ?_;rw[wi,ao,o,xm,aA];rfl
 rw[ab af]at hQ;subst af;(conv=>whnf);exact hQ
def WV (p q i j:Int)(left right g:am Int)(br:am (am Val))(x:am Val):am (am Val):=
 bif xK (at0 x p.toNat) (at0 x q.toNat)then wZ p q i j left right g x (at0 x p.toNat).n (at0 x q.toNat).n br else []
def xI (p q j l:Int)(left right g:am Int)(i br:am (am Val)):am (am Val):=i.flatMap (WV p q j l left right g br)
theorem apV (p q i j:Int)(left right g:am Int)(br:am (am Val))(x:am Val):(WV p q i j left right g br x).length<=br.length:=by
 unfold WV;cases xK (at0 x p.toNat) (at0 x q.toNat)
 ·simp_all
 grind[aeF]
theorem aiA (p q i j:Int)(left right g:am Int)(br:am (am Val)): ∀xs,(xI p q i j left right g xs br).length<=xs.length*br.length
 | []=>by simp[xI]
 |x::r=>by
  have o:=apV p q i j left right g br x;have l:=aiA p q i j left right g br r;simp only[xI,List.flatMap_cons,aA,aR]at l⊢;rw[Nat.add_mul];omega
def aeG (cols l:am Col)(br:am (am Val))(left right:am Int)(p q o r:Int)(g:am Int)(j:am (am Val))(i:Nat)(out:am (am Val)):S:=
 ⟨[(4,cV (.ptr 4 0)),(6,cV (.ptr 6 0)),(10,.w (.c (.d (.sl (zg left))))),(11,.w (.c (.d (.sl (zg right))))),(12,.w (.c (.d (.sl (zg [p,q]))))),(13,.w (.c (.d (.sl (zg [o,r]))))),(14,.w (.c (.d (.sl (zg g))))),(15,cV (.ptr 15 0)),(60,.w (.c (.d (.sl (zf j))))),(61,zl j.length),(62,zl i)],
 [(4,.box [.d (.sl (zm l)),.d (.sl (zf br))]),(6,.box [.nil,.nil]),(15,.box [.d (.sl (zm cols)),.own 143 1 out.length]),(143,.arr 1 (zf out) false)]⟩
noncomputable def ovRest:ACode:=xp (xp (xp (xp (xp (xp (xp (xp yg.A.code)))))))
theorem ayq {s:S}(cols bc:am Col)(br:am (am Val))(left right:am Int)(p q o r:Int)(g:am Int)(j:am (am Val))
 (ai:j.length*br.length<=20000) (aj:j.length<=1000000) (ak:left.length<=100000) (an:right.length<=100000) (al:g.length<=100000)
 (hx: ∀x∈j,x.length<=100000 /\zQ x.length left /\zQ x.length [p,q])
 (hy: ∀y∈br,zQ y.length right /\zQ y.length g /\zQ y.length [o,r])
 (h0:yX s [4,6,10,11,12,13,14,15,60,61,62] (· =aeG cols bc br left right p q o r g j 0 [])):
 zY (mwpR Pg T8.f (yg.l 1)) [4,6,10,11,12,13,14,15,60,61,62] (j5 0 (Vp (mwpR Pg T8.f ovRest) (Qf yg.A.res [] (DQ (qE ⟨cols,xI p q o r left right g j br⟩ 0))))) s:=by
 refine yx (P:=Pg) (f:=T8.f) (body:=(yg.l 1)) j.length (λi=>aeG cols bc br left right p q o r g j i (xI p q o r left right g (j.take i) br)) (λ_=>True) ⟨trivial,h0⟩ ?_
 clear h0;intro i hi _;have J: ∀h:i<j.length,xI p q o r left right g (j.take (i+1)) br=xI p q o r left right g (j.take i) br++WV p q o r left right g br j[i]:=λh=>by
  grind[xI,zR]
 have ac:j.length<=i ->xI p q o r left right g j br=xI p q o r left right g (j.take i) br:=λh=>by grind
 have ab:i<j.length ->(xI p q o r left right g (j.take i) br).length+br.length<=20000:=λh=>by
  have h1:=aiA p q o r left right g br (j.take i);rw[aO,Nat.min_eq_left (by omega)]at h1;have h2:(i+1)*br.length<=j.length*br.length:=bW _ h
  grind
 have aa:=λ(Q':E ->S ->Prop) (s':S) (x:am Val) (s1 s2:Int)=>ayp (Q:=Q') (s:=s') cols bc br left right p q o r g j i x s1 s2 (xI p q o r left right g (j.take i) br)
 show mwpR Pg T8.f (yg.l 1) _ (aeG cols bc br left right p q o r g j i (xI p q o r left right g (j.take i) br));generalize xI p q o r left right g (j.take i) br=U at*;have af:(zf U).take U.length=zf U:=by grind[zx]
 refine jH (λI=>?_) (λae=>?_)
 ·have hg:=yJ I;have J:=J I;have ab:=ab I;obtain⟨ag,ah,R⟩:=hx _ (aI I);have wi:=zC I (by omega);have ad:=U8 j[i] p q (R _ (by simp)) (R _ (by simp));have aa:=λQ' s' s1 s2=>aa Q' s' j[i] s1 s2 ab (by omega) (by omega) (by omega) ag ah (R _ (by simp)) (R _ (by simp)) hy
  unfold WV at J;generalize j[i]=x at*;generalize at0 x p.toNat=u1 at*;generalize at0 x q.toNat=u2 at*;unfold QA at ad;generalize xK u1 u2=b at*;obtain⟨_,u1,_⟩:=u1;obtain⟨_,u2,_⟩:=u2;refine yu hg ?_;refine aC ad ?_;cases b with
  |false=>
   have J:xI p q o r left right g (j.take (i+1)) br=U:=by rw[J,aB,bA]
   refine y6 I trivial ?_;rw[wi,J];rfl
  |true=>
   refine aa _ _ u1 u2 (ze ?_) ?_
   ·(conv=>whnf);rw[zx];rfl
   refine y6 I trivial ?_;rw[wi,J];rfl
 rw[ac ae];refine⟨rfl,?_⟩;refine dh (b:=⟨.tup [.agg [.d (.sl (zm cols)),.d (.sl ((zf U).take U.length))],.c (int 0)],[]⟩) rfl ?_;rw[af];rfl
theorem xE {t:Tbl}(h:zL t=0):t.cols.length<=32 /\t.rows.length<=20000:=by
 obtain⟨g,_⟩:=yl (by omega) h
 grind
theorem qe {b:Bool}{e:Int}{y:Int×am Col}(g:b=true ->e≠0)(h:(bif b then(e,([]:am Col))else y).1=0):b=false /\(bif b then(e,([]:am Col))else y)=y:=by
 grind
theorem jP {cols tc:am Col}: ∀{cs:am ByteArray},jnErr cols tc cs=0 ->zQ cols.length (zh cols cs)/\zQ tc.length (zh tc cs)
 | [],_=>bY (λk hk=>(by cases hk)) (λk hk=>(by cases hk))
 |s::r,h=>by
  obtain⟨g,h⟩:=yl (by omega) h;obtain⟨_,h⟩:=yl (by omega) h;obtain⟨i,i2⟩:=jP h;simp only[bJ,bL]at g;refine⟨λk hk=>?_,λk hk=>?_⟩
  ·rcases bC.1 hk with rfl|hk
   ·grind[qY]
   exact i k hk
  rcases bC.1 hk with rfl|hk
  ·grind[qY]
  exact i2 k hk
theorem abm {cols:am Col}{s:ByteArray}(h:colInt cols s=0):0<=zj cols s /\zj cols s<cols.length:=by
 obtain⟨g,_⟩:=yl (by omega) h<;>simp_all[qY]
theorem vt {cols:am Col}: ∀{i:am ByteArray},intErr cols i=0 ->zQ cols.length (zh cols i)
 | [],_=>λk hk=>(by cases hk)
 |s::r,h=>by
  simp only[intErr]at h;cases g:(colInt cols s !=0)
  ·rw[g,aB]at h;intro k hk;rcases bC.1 hk with rfl|hk
   ·exact abm (by simpa using g)
   exact vt h k hk
  rw[g,aD]at h;rw[h]at g;cases g
structure JnOK (sp:am ByteArray)(cols tc:am Col)(cs:am ByteArray)(R:am Col):Prop where
 jn:jnErr cols tc cs=0
 i1:intErr cols sp=0
 i2:intErr tc sp=0
 dup:dupL [] (cols++keepS sp cs tc)=false
 few:(cols++keepS sp cs tc).length<=32
 two:sp.any (hasB cs)=false
 eq:R=cols++keepS sp cs tc
theorem wX {g:am ByteArray}{d:am Nmd}{cols:am Col}{cs:am ByteArray}{tb:ByteArray}(h:(Wb g d cols cs tb).1=0): ∃t,zZ tb d=some t /\JnOK g cols t.cols cs (Wb g d cols cs tb).2:=by
 unfold Wb at h⊢;cases hf:zZ tb d with
 |none=>grind
 |some t=>
  rw[hf]at h;simp only at h⊢;obtain⟨I,i⟩:=qe (by grind) h;rw[i]at h⊢;unfold apH at h⊢;obtain⟨J,j⟩:=qe (by simp) h;rw[j]at h⊢;obtain⟨P,l⟩:=qe (by simp) h;rw[l]at h⊢;obtain⟨R,o⟩:=qe (by simp) h;rw[o]at h⊢;obtain⟨U,p⟩:=qe (by grind) h;rw[p]at h⊢;obtain⟨h6,r⟩:=qe (by intro _;omega) h;rw[r];exact⟨t,rfl,by simpa using J,by simpa using P,by simpa using R,U,by simp only[bL]at h6;omega,I,rfl⟩
theorem Uh {d:am Nmd}{cols:am Col}{st:Stp}(h:(ye d cols st).1=0):st.err=0:=by
 have:=(qe (by simp) h).1<;>simp_all
theorem qX {d:am Nmd}{cols:am Col}{st:Stp}(g:st.op=6\/st.op=7\/st.op=8)(h:(ye d cols st).1=0):ye d cols st=Wb (Vr st.op) d cols st.cols st.table:=by
 grind[ye]
theorem ah1 {op:Int}{g:am ByteArray}{a b:Tbl}(i:op=6\/op=7\/op=8)(h:(jV op g a b).1=0):zL a=0 /\zL b=0 /\JnOK (Vr op) a.cols b.cols g (jV op g a b).2:=by
 unfold jV at h⊢;obtain⟨J,l⟩:=qe (by simp) h;rw[l]at h⊢;obtain⟨P,o⟩:=qe (by simp) h;rw[o]at h⊢;have p:=qX (st:=jW op g WY) i h;rw[p]at h⊢;obtain⟨t,j,I⟩:=wX h;have r:zZ (jW op g WY).table [⟨WY,b⟩]=some b:=by
  show(bif zo WY WY then some b else none)=some b
  grind[AM.beqS_self]
 rw[r]at j;cases j;exact⟨by grind,by grind,I⟩
theorem acx (a b:am ByteArray):zp a++zp b=zp (a++b):=by simp[zp]
def ovQ (a b:Tbl)(g:am ByteArray):Res:=bif (jV 7 g a b).1 !=0 then qE ⟨[],[]⟩ (jV 7 g a b).1 else
 qE ⟨(jV 7 g a b).2,xI (zj a.cols sFrom) (zj a.cols sTo) (zj b.cols sFrom) (zj b.cols sTo) (zh a.cols g) (zh b.cols g) (oth (g++[sFrom,sTo]) 0 b.cols) a.rows b.rows⟩ 0
theorem Wj (g:am ByteArray): ∀(l:am Col) (i:Nat),(oth g i l).length<=l.length
 | [],_=>aM _
 |c::r,i=>by
  have:=Wj g r (i+1);simp only[oth,aA,aR];cases(!hasB g c.name)<;>simp<;>omega
theorem kJ (g:am ByteArray)(l:am Col):zQ l.length (oth g 0 l):=λk hk=>by have:=ac5 g l 0 k hk;omega
theorem anC (a b:Tbl)(g:am ByteArray)(ak:g.length<=100000)(af:a.cols.length<=1000000)(J:b.cols.length<=1000000)(P:a.rows.length*b.rows.length<=20000):Sat Pg q0 [a.w,b.w,.c (.d (.sl (zp g)))] (λr=>r=ovQ a b g):=by
 have hc:=aaj 7 g a b (by omega) af J;have l:=@ah1 7 g a b (by omega);have ah:=qp a.cols (.sl (zf a.rows)) g (by omega);have ai:=qp b.cols (.sl (zf b.rows)) g (by omega);have ab:=qp a.cols (.sl (zf a.rows)) [sFrom,sTo] (by simp);have ad:=qp b.cols (.sl (zf b.rows)) [sFrom,sTo] (by simp);have U:=aeZ b.cols (.sl (zf b.rows)) (g++[sFrom,sTo]) J;have ag:=vW g (by omega);have aa:Sat Pg Zu [b.w,.c (.d (.sl (aH ((zp g).length+(aH 2 (zp [sFrom,sTo])).length) (aH (zp g).length (zp g)++aH 2 (zp [sFrom,sTo])))))] (λr=>r=rC (.d (.sl (zg (oth (g++[sFrom,sTo]) 0 b.cols))))):=by
  rw[show aH ((zp g).length+(aH 2 (zp [sFrom,sTo])).length) (aH (zp g).length (zp g)++aH 2 (zp [sFrom,sTo]))=zp (g++[sFrom,sTo])by
   grind[zp]]
  exact U
 unfold ovQ;generalize jV 7 g a b=c at*;obtain⟨c1,c2⟩:=c;simp only at l⊢;refine zD ?_;obtain⟨j,ar⟩:=a;obtain⟨i,br⟩:=b;simp only at*;refine yg.s T8 ?_;refine aC hc ?_;refine zw (λo=>?_) (λo=>?_)
 ·rw[show(c1 !=0)=true from o];exact⟨rfl,rfl⟩
 have o:(c1 !=0)=false:=o;rw[o];have ae:c1=0:=by grind
 subst ae;obtain⟨ka,kb,hj⟩:=l rfl;obtain⟨i1,i2⟩:=jP hj.jn;have i3:=vt hj.i1;have i4:=vt hj.i2;have wa:=q9 ka;have wb:=q9 kb;have fa:=xE ka;have fb:=xE kb;have ol:=Wj (g++[sFrom,sTo]) i 0;have oi:=kJ (g++[sFrom,sTo]) i;have p1:zh j [sFrom,sTo]=[zj j sFrom,zj j sTo]:=rfl;have p2:zh i [sFrom,sTo]=[zj i sFrom,zj i sTo]:=rfl;have l1:(zh j g).length=g.length:=by simp[zh]
 have l2:(zh i g).length=g.length:=by simp[zh]
 have hm:=λ(s:S)=>ayq (s:=s) c2 i br (zh j g) (zh i g) (zj j sFrom) (zj j sTo) (zj i sFrom) (zj i sTo) (oth (g++[sFrom,sTo]) 0 i) ar P (by grind) (by omega) (by omega) (by grind)
  (λx hx=>by have I:=wa x hx;have:=fa.1;simp only at this I;exact⟨by omega,by grind,by rw[I];exact i3⟩)
  (λy hy=>by have I:=wb y hy;simp only at I;exact⟨by grind,by grind,by rw[I];exact i4⟩)
 rw[p1]at ab;rw[p2]at ad;clear i1 i2 i3 i4 wa wb fa fb ol oi p1 p2 l1 l2 hj ka kb l o;generalize zj j sFrom=p at*;generalize zj j sTo=q at*;generalize zj i sFrom=p2 at*;generalize zj i sTo=q2 at*;generalize zh j g=left at*;generalize zh i g=right at*;generalize oth (g++[sFrom,sTo]) 0 i=aj at*;refine aC ah ?_;refine aC ai ?_
 repeat' (first
  |(refine bG ab ?_;rintro _ rfl;conv=>whnf)
  |(refine bG ad ?_;rintro _ rfl;conv=>whnf)
  |(refine bG ag ?_;rintro _ (⟨R,rfl⟩|rfl)<;>conv=>whnf)
  |(refine⟨by simp,by unfold ym;simp only[zF];simp;omega,by simp only[zF];simp;omega,?_⟩;conv=>whnf)
  |(refine⟨by simp,by unfold ym;simp,by simp,?_⟩;conv=>whnf)
  |(refine bG aa ?_;rintro _ rfl;conv=>whnf)
  |(subst R;refine bG U ?_;rintro _ rfl;conv=>whnf)
  |(refine bY ?_ ?_<;>conv=>whnf))
 all_goals rw[zx]
 all_goals refine hm _ ⟨_,jm 15 1 143 1 (by omega) (by omega) rfl,?_⟩
 all_goals conv=>whnf
 all_goals rfl
def ac0 (u v:Val)(ag:Bool):Bool:=!((u.k==0||v.k==0)||decide (v.n>u.n))&&ag
def aht (g:Int)(y:am Val):aP (am Val) ->aP (am Val)
 |none=>some y
 |some z=>bif decide ((at0 y g.toNat).n>=(at0 z g.toNat).n)then some y else some z
def kG (p g:Int)(left right:am Int)(x:am Val)(ys:am (am Val)):aP (am Val):=
 ys.foldl (λb y=>bif ac0 (at0 x p.toNat) (at0 y g.toNat) (ZB (zn x left) (zn y right))then aht g y b else b) none
def nrS (cols o:am Col)(br:am (am Val))(left right:am Int)(p r:Int)(g:am Int)(l:am (am Val))(i:Nat)(out:am (am Val))(x:am Val)(b:Int)(j:Nat):S:=
 ⟨[(4,cV (.ptr 4 0)),(6,cV (.ptr 6 0)),(10,.w (.c (.d (.sl (zg left))))),(11,.w (.c (.d (.sl (zg right))))),(12,zl p),(13,zl r),(14,.w (.c (.d (.sl (zg g))))),(15,cV (.ptr 15 0)),(17,.w (yt x)),(18,zl b),(55,.w (.c (.d (.sl (zf l))))),(56,zl l.length),(57,zl i),(62,.w (.c (.d (.sl (zf br))))),(63,zl br.length),(64,zl j)],
 [(4,.box [.d (.sl (zm o)),.d (.sl (zf br))]),(6,.box [.nil,.nil]),(15,.box [.d (.sl (zm cols)),.own 139 1 out.length]),(139,.arr 1 (zf out) false)]⟩
def nrR (br:am (am Val))(B:aP (am Val))(b:Int):Prop:=(b= -1 /\B=none)\/(0<=b /\ ∃h:b.toNat<br.length,B=some br[b.toNat])
theorem ayn {Q:E ->S ->Prop}{s:S}(cols bc:am Col)(br:am (am Val))(left right:am Int)(p o:Int)(I:am Int)(ar:am (am Val))(i:Nat)(out:am (am Val))(x:am Val)
 (aq:br.length<=1000000) (au:left.length<=100000) (av:right.length<=100000) (hx:zQ x.length left) (hp:0<=p /\p<x.length)
 (hy: ∀y∈br,zQ y.length right /\(0<=o /\o<y.length))
 (h0:yX s [4,6,10,11,12,13,14,15,17,18,55,56,57,62,63,64] (· =nrS cols bc br left right p o I ar i out x (-1) 0))
 (hQ: ∀b,nrR br (kG p o left right x br) b ->Q (.exit 2) (xD (nrS cols bc br left right p o I ar i out x b br.length) 65 (ya (decide ((br.length:Int)<br.length))))):
 zY (mwpR Pg T8.f (xA.l 0)) [4,6,10,11,12,13,14,15,17,18,55,56,57,62,63,64] Q s:=by
 refine yq (P:=Pg) (f:=T8.f) (body:=(xA.l 0)) (λz:Nat×Int=>nrS cols bc br left right p o I ar i out x z.2 z.1) (λz=>br.length - z.1) (λz=>z.1<=br.length /\nrR br (kG p o left right x (br.take z.1)) z.2) ⟨(0, -1),⟨bD _,.inl ⟨rfl,rfl⟩⟩,h0⟩ ?_
 clear h0;rintro⟨j,b⟩ hz;obtain⟨hj,J⟩:j<=br.length /\nrR br (kG p o left right x (br.take j)) b:=hz;have g: ∀h:j<br.length,kG p o left right x (br.take (j+1))=bif ac0 (at0 x p.toNat) (at0 br[j] o.toNat) (ZB (zn x left) (zn br[j] right))then aht o br[j] (kG p o left right x (br.take j))else kG p o left right x (br.take j):=λh=>by
  grind[kG,zR]
 have U:j=br.length ->kG p o left right x br=kG p o left right x (br.take j):=λh=>by grind
 show mwpR Pg T8.f (xA.l 0) _ (nrS cols bc br left right p o I ar i out x b j);generalize kG p o left right x (br.take j)=B at*;unfold nrS;refine rgE (λr=>?_) (λab=>?_)
 ·have hg:=yJ r;have g:=g r;obtain⟨an,ao⟩:=hy _ (aI r);have wi:=zC r (by omega);have ak:=ub x left (by omega) hx;have al:=ub br[j] right (by omega) an;have ad:=acf (zn x left) (zn br[j] right);have af:=Yq (R:=x) (k:=p) (by omega);have ah:=Yq (R:=br[j]) (k:=o) (by omega);have ac:nrR br (some br[j]) j:=.inr ⟨by omega,by grind,by simp⟩;clear U;clear hQ;generalize br[j]=y at*;unfold ac0 at g;generalize ZB (zn x left) (zn y right)=ag at*;generalize hu:at0 x p.toNat=u at*;generalize hv:at0 y o.toNat=v at*;obtain⟨u1,u2,u3⟩:=u;obtain⟨v1,v2,v3⟩:=v;simp only at g;refine yu hg ?_
  repeat' (first
   |(refine⟨hp.1,_,af,rfl,?_⟩;conv=>whnf)
   |(refine⟨ao.1,_,ah,rfl,?_⟩;conv=>whnf)
   |(refine bY ?_ ?_<;>conv=>whnf))
  all_goals (
   refine zw (b:=(u1==0||v1==0)||decide (v2>u2)) (λh=>?_) (λh=>?_)
   ·rw[h,Bool.not_true,cR,aB]at g;(conv=>whnf);refine⟨(j+1,b),⟨⟨r,by rw[g];exact J⟩,by show br.length -(j+1)<br.length - j;omega⟩,ze ?_⟩;(conv=>whnf);rw[wi];rfl
   rw[h,cj,bQ]at g;refine aC ak ?_;refine aC al ?_;refine aC ad ?_;cases ag with
   |false=>
    rw[aB]at g;(conv=>whnf);refine⟨(j+1,b),⟨⟨r,by rw[g];exact J⟩,by show br.length -(j+1)<br.length - j;omega⟩,ze ?_⟩;(conv=>whnf);rw[wi];rfl
   |true=>
    rw[aD]at g;refine zi (λh2=>?_) (λh2=>?_)
    ·have h2:b<0:=aN h2;obtain⟨rfl,rfl⟩:b= -1 /\B=none:=by
      rcases J with J|⟨J,_⟩
      ·exact J
      omega
     (conv=>whnf);refine⟨(j+1,(j:Int)),⟨⟨r,by rw[g];exact ac⟩,by show br.length -(j+1)<br.length - j;omega⟩,ze ?_⟩;(conv=>whnf);rw[wi];rfl
    have h2: ¬b<0:=aG h2;obtain⟨ae,aa,rfl⟩:0<=b /\ ∃h:b.toNat<br.length,B=some br[b.toNat]:=by
     rcases J with⟨rfl,_⟩|J
     ·omega
     exact J
    have aj:(zf br)[b.toNat]? =some [.sl (rowD br[b.toNat])]:=by simp[zf,am.getElem?_eq_getElem aa]
    have hz:=(hy _ (aI aa)).2;simp only[aht,hv]at g;generalize br[b.toNat]=z at*;have ai:=Yq (R:=z) (k:=o) (by omega);generalize at0 z o.toNat=w at*;obtain⟨w1,w2,w3⟩:=w;simp only at g;(conv=>whnf);refine⟨ae,_,aj,rfl,?_⟩;(conv=>whnf);refine⟨hz.1,_,ai,rfl,?_⟩;refine zi (b:=decide (v2>=w2)) (λh3=>?_) (λh3=>?_)
    ·rw[h3,aD]at g;(conv=>whnf);refine⟨(j+1,(j:Int)),⟨⟨r,by rw[g];exact ac⟩,by show br.length -(j+1)<br.length - j;omega⟩,ze ?_⟩;(conv=>whnf);rw[wi];rfl
    rw[h3,aB]at g;(conv=>whnf);refine⟨(j+1,b),⟨⟨r,by rw[g];exact J⟩,by show br.length -(j+1)<br.length - j;omega⟩,ze ?_⟩;(conv=>whnf);rw[wi];rfl)
 rw[<- U ab]at J;subst ab;(conv=>whnf);exact hQ b J
def awr (g:am Int):aP (am Val) ->am Val
 |none=>aJ g.length yf
 |some z=>zn z g
def vf (p i:Int)(left right g:am Int)(br:am (am Val))(x:am Val):am Val:=x++awr g (kG p i left right x br)
def apQ (cols l:am Col)(br:am (am Val))(left right:am Int)(p o:Int)(g:am Int)(j:am (am Val))(i:Nat)(out:am (am Val)):S:=
 ⟨[(4,cV (.ptr 4 0)),(6,cV (.ptr 6 0)),(10,.w (.c (.d (.sl (zg left))))),(11,.w (.c (.d (.sl (zg right))))),(12,zl p),(13,zl o),(14,.w (.c (.d (.sl (zg g))))),(15,cV (.ptr 15 0)),(55,.w (.c (.d (.sl (zf j))))),(56,zl j.length),(57,zl i)],
 [(4,.box [.d (.sl (zm l)),.d (.sl (zf br))]),(6,.box [.nil,.nil]),(15,.box [.d (.sl (zm cols)),.own 139 1 out.length]),(139,.arr 1 (zf out) false)]⟩
noncomputable def nrRest:ACode:=xp (xp (xp (xp (xp (xp (xp (xp xA.A.code)))))))
theorem ayo {s:S}(cols bc:am Col)(br:am (am Val))(left right:am Int)(p o:Int)(g:am Int)(j:am (am Val))
 (ay:j.length<=100000) (ak:br.length<=1000000) (ao:left.length<=100000) (au:right.length<=100000) (az:g.length<=100000)
 (hx: ∀x∈j,x.length<=100000 /\zQ x.length left /\(0<=p /\p<x.length))
 (hy: ∀y∈br,zQ y.length right /\zQ y.length g /\(0<=o /\o<y.length))
 (h0:yX s [4,6,10,11,12,13,14,15,55,56,57] (· =apQ cols bc br left right p o g j 0 [])):
 zY (mwpR Pg T8.f (xA.l 1)) [4,6,10,11,12,13,14,15,55,56,57] (j5 0 (Vp (mwpR Pg T8.f nrRest) (Qf xA.A.res [] (DQ (qE ⟨cols,j.map (vf p o left right g br)⟩ 0))))) s:=by
 refine yx (P:=Pg) (f:=T8.f) (body:=(xA.l 1)) j.length (λi=>apQ cols bc br left right p o g j i ((j.take i).map (vf p o left right g br))) (λ_=>True) ⟨trivial,h0⟩ ?_
 clear h0;intro i hi _;have r: ∀h:i<j.length,(j.take (i+1)).map (vf p o left right g br)=(j.take i).map (vf p o left right g br)++[vf p o left right g br j[i]]:=λh=>by
  grind[zR]
 have ac:j.length<=i ->j.map (vf p o left right g br)=(j.take i).map (vf p o left right g br):=λh=>by grind
 have ax:((j.take i).map (vf p o left right g br)).length=i:=by simp;omega
 have aa:=λ(Q':E ->S ->Prop) (s':S) (x:am Val)=>ayn (Q:=Q') (s:=s') cols bc br left right p o g j i ((j.take i).map (vf p o left right g br)) x ak ao au
 show mwpR Pg T8.f (xA.l 1) _ (apQ cols bc br left right p o g j i ((j.take i).map (vf p o left right g br)));generalize(j.take i).map (vf p o left right g br)=U at*;have ae:(zf U).take U.length=zf U:=by grind[zx]
 unfold apQ;refine jH (λI=>?_) (λal=>?_)
 ·have hg:=yJ I;have r:=r I;obtain⟨a1,av,af⟩:=hx _ (aI I);have wi:=zC I (by omega);have aa:=λQ' s'=>aa Q' s' j[i] av af (λy h=>⟨(hy y h).1,(hy y h).2.2⟩)
  have ai:=uq j[i] (by omega);clear ac hx;unfold vf at r;generalize j[i]=x at*;generalize kG p o left right x br=B at*;refine yu hg ?_;refine aa _ _ (ze ?_) ?_
  ·(conv=>whnf);unfold nrS;rw[zx];rfl
  intro b hR;unfold xD nrS;rcases hR with⟨rfl,rfl⟩|⟨aj,ah,rfl⟩
  ·have r:(j.take (i+1)).map (vf p o left right g br)=U++[x++aJ g.length yf]:=r;have aw:aJ (((zg g).length:Int)).toNat WA=rowD (aJ g.length yf):=by
    rw[zB];simp[rowD];exact .inr rfl
   have ad:(((zg g).length:Int)).toNat=g.length:=by grind[zB]
   (conv=>whnf);refine⟨by omega,by omega,by grind[ym],by grind,?_⟩;have ag: ∀y∈aH (((zg g).length:Int)).toNat (aJ (((zg g).length:Int)).toNat WA),y.length=3:=by
    grind[XP]
   have R:(rowD x).length+(aH (((zg g).length:Int)).toNat (aJ (((zg g).length:Int)).toNat WA)).length<=1000000:=by
    grind[zt]
   have ab:aH ((rowD x).length+(aH (((zg g).length:Int)).toNat (aJ (((zg g).length:Int)).toNat WA)).length) (aH (rowD x).length (rowD x)++aH (((zg g).length:Int)).toNat (aJ (((zg g).length:Int)).toNat WA))=rowD (x++aJ g.length yf):=by
    rw[aw,ad,show aH g.length (rowD (aJ g.length yf))=rowD (aJ g.length yf)by rw[show g.length=(rowD (aJ g.length yf)).length by grind];simp[rowD],aL,vT,show(rowD x).length+(rowD (aJ g.length yf)).length=(rowD (x++aJ g.length yf)).length by simp[zt],aL]
   unfold WA at ab;(conv=>whnf)
   repeat' (first
    |(refine bG ai ?_;rintro _ (⟨J,rfl⟩|rfl);(subst J;simp at af;omega);(conv=>whnf))
    |(refine⟨ag,by unfold ym;have:=R;exact aK (bW _ this) (by omega),aK R (by omega),?_⟩;conv=>whnf)
    |(refine⟨by simp,by unfold ym;simp;omega,by simp;omega,?_⟩;conv=>whnf)
    |(refine⟨I,trivial,ze ?_⟩;(conv=>whnf);rw[wi,ae,r,ab,xm,aA];rfl)
    |(refine bY ?_ ?_<;>conv=>whnf))
  have r:(j.take (i+1)).map (vf p o left right g br)=U++[x++zn br[b.toNat] g]:=r;have an:(zf br)[b.toNat]? =some [.sl (rowD br[b.toNat])]:=by simp[zf,am.getElem?_eq_getElem ah]
  have aq:=ub br[b.toNat] g (by omega) (hy _ (aI ah)).2.1;have a0:(zn br[b.toNat] g).length=g.length:=by simp[zn]
  generalize br[b.toNat]=z at*;generalize zn z g=F at*;have ad:(((zg g).length:Int)).toNat=g.length:=by grind[zB]
  have ag: ∀y∈rowD F,y.length=3:=XP _;have R:(rowD x).length+(rowD F).length<=1000000:=by simp only[zt];omega
  have ab:aH ((rowD x).length+(rowD F).length) (aH (rowD x).length (rowD x)++rowD F)=rowD (x++F):=by
   rw[aL,vT,show(rowD x).length+(rowD F).length=(rowD (x++F)).length by simp[zt],aL]
  (conv=>whnf);refine⟨by omega,by omega,by unfold ym;rw[ad];omega,by rw[zB];omega,?_⟩;refine zi (λh2=>?_) (λh2=>?_)
  ·refine yu an ?_ (hA:=aj);refine aC aq ?_
   repeat' (first
    |(refine bG ai ?_;rintro _ (⟨J,rfl⟩|rfl);(subst J;simp at af;omega);(conv=>whnf))
    |(refine⟨ag,by unfold ym;have:=R;exact aK (bW _ this) (by omega),aK R (by omega),?_⟩;conv=>whnf)
    |(refine⟨by simp,by unfold ym;simp;omega,by simp;omega,?_⟩;conv=>whnf)
    |(refine⟨I,trivial,ze ?_⟩;(conv=>whnf);rw[wi,ae,r,ab,xm,aA];rfl)
    |(refine bY ?_ ?_<;>conv=>whnf))
  have h2: ¬b>=0:=aG h2;omega
 rw[ac al];clear aa;(conv=>whnf);refine⟨rfl,?_⟩;refine dh (b:=⟨.tup [.agg [.d (.sl (zm cols)),.d (.sl ((zf U).take U.length))],.c (int 0)],[]⟩) rfl ?_;rw[ae];rfl
def nrQ (a b:Tbl)(g:am ByteArray):Res:=bif (jV 8 g a b).1 !=0 then qE ⟨[],[]⟩ (jV 8 g a b).1 else
 qE ⟨(jV 8 g a b).2,a.rows.map (vf (zj a.cols sFrom) (zj b.cols sFrom) (zh a.cols g) (zh b.cols g) (oth (g++[sFrom]) 0 b.cols) b.rows)⟩ 0
theorem adT (a b:Tbl)(g:am ByteArray)(ai:g.length<=100000)(ad:a.cols.length<=1000000)(I:b.cols.length<=1000000):Sat Pg WO [a.w,b.w,.c (.d (.sl (zp g)))] (λr=>r=nrQ a b g):=by
 have hc:=aaj 8 g a b (by omega) ad I;have l:=@ah1 8 g a b (by omega);have af:=qp a.cols (.sl (zf a.rows)) g (by omega);have ag:=qp b.cols (.sl (zf b.rows)) g (by omega);have U:=xz a.cols (.d (.sl (zf a.rows))) sFrom ⟨_,rfl⟩;have aa:=xz b.cols (.d (.sl (zf b.rows))) sFrom ⟨_,rfl⟩;have P:=aeZ b.cols (.sl (zf b.rows)) (g++[sFrom]) I;have ae:=vW g (by omega);have R:Sat Pg Zu [b.w,.c (.d (.sl (aH ((zp g).length+(aH 1 (zp [sFrom])).length) (aH (zp g).length (zp g)++aH 1 (zp [sFrom])))))] (λr=>r=rC (.d (.sl (zg (oth (g++[sFrom]) 0 b.cols))))):=by
  rw[show aH ((zp g).length+(aH 1 (zp [sFrom])).length) (aH (zp g).length (zp g)++aH 1 (zp [sFrom]))=zp (g++[sFrom])by
   grind[zp]]
  exact P
 unfold nrQ;generalize jV 8 g a b=c at*;obtain⟨c1,c2⟩:=c;simp only at l⊢;refine zD ?_;obtain⟨j,ar⟩:=a;obtain⟨i,br⟩:=b;simp only at*;refine xA.s T8 ?_;refine aC hc ?_;refine zw (λo=>?_) (λo=>?_)
 ·rw[show(c1 !=0)=true from o];exact⟨rfl,rfl⟩
 have o:(c1 !=0)=false:=o;rw[o];have ab:c1=0:=by grind
 subst ab;obtain⟨ka,kb,hj⟩:=l rfl;obtain⟨i1,i2⟩:=jP hj.jn;have i3:=vt hj.i1;have i4:=vt hj.i2;have wa:=q9 ka;have wb:=q9 kb;have fa:=xE ka;have fb:=xE kb;have ol:=Wj (g++[sFrom]) i 0;have oi:=kJ (g++[sFrom]) i;have l1:(zh j g).length=g.length:=by simp[zh]
 have l2:(zh i g).length=g.length:=by simp[zh]
 have q1:0<=zj j sFrom /\zj j sFrom<j.length:=i3 _ (aU ..);have q2:0<=zj i sFrom /\zj i sFrom<i.length:=i4 _ (aU ..)
 have hm:=λ(s:S)=>ayo (s:=s) c2 i br (zh j g) (zh i g) (zj j sFrom) (zj i sFrom) (oth (g++[sFrom]) 0 i) ar (by grind) (by grind) (by omega) (by omega) (by grind)
  (λx hx=>by grind)
  (λy hy=>by grind)
 clear i1 i2 i3 i4 wa wb fa fb ol oi l1 l2 hj ka kb l o q1 q2;generalize zj j sFrom=p at*;generalize zj i sFrom=p2 at*;generalize zh j g=left at*;generalize zh i g=right at*;generalize oth (g++[sFrom]) 0 i=ah at*;refine aC af ?_;refine aC ag ?_;refine aC U ?_;refine aC aa ?_
 repeat' (first
  |(refine bG U ?_;rintro _ rfl;conv=>whnf)
  |(refine bG aa ?_;rintro _ rfl;conv=>whnf)
  |(refine bG ae ?_;rintro _ (⟨J,rfl⟩|rfl)<;>conv=>whnf)
  |(refine⟨by simp,by unfold ym;simp only[zF];simp;omega,by simp only[zF];simp;omega,?_⟩;conv=>whnf)
  |(refine⟨by simp,by unfold ym;simp,by simp,?_⟩;conv=>whnf)
  |(refine bG R ?_;rintro _ rfl;conv=>whnf)
  |(subst J;refine bG P ?_;rintro _ rfl;conv=>whnf)
  |(refine bY ?_ ?_<;>conv=>whnf))
 all_goals rw[zx]
 all_goals refine hm _ ⟨_,jm 15 1 139 1 (by omega) (by omega) rfl,?_⟩
 all_goals conv=>whnf
 all_goals rfl
namespace So.P
structure En (α:Type) where
 d0:α ->D
 d1:α ->D
 d2:α ->D
abbrev en {α:Type}(E:En α)(x:α):am D:=[E.d0 x,E.d1 x,E.d2 x]
abbrev sz:Nat:=3
abbrev cal {α:Type}(E:En α)(x y:α):am W:=[.agg [.d (E.d0 x),.d (E.d1 x),.d (E.d2 x)],.agg [.d (E.d0 y),.d (E.d1 y),.d (E.d2 y)]]
abbrev clo {α:Type}(E:En α)(g:FuncId):W:=.c (.d (.fn g []))
noncomputable abbrev cI_L0:=(qr.l 0)
noncomputable abbrev cI_L1:=(qr.l 1)
abbrev cI_ok:=qr.ok
noncomputable abbrev cM_L0:=(yV.l 0)
noncomputable abbrev cM_L1:=(yV.l 1)
noncomputable abbrev cM_L2:=(yV.l 2)
noncomputable abbrev cM_L3:=(yV.l 3)
noncomputable abbrev cM_L4:=(yV.l 4)
abbrev cM_ok:=yV.ok
noncomputable abbrev cO_L0:=(jC.l 0)
abbrev cO_ok:=jC.ok
noncomputable abbrev cS_L0:=(qt.l 0)
noncomputable abbrev cS_L1:=(qt.l 1)
noncomputable abbrev cS_L2:=(qt.l 2)
abbrev cS_ok:=qt.ok
abbrev cT_ok:=QG.ok
noncomputable abbrev cW_L0:=(uA.l 0)
abbrev cW_ok:=uA.ok
theorem kf {α:Type}(E:En α):KV Yk sz (en E) (cal E) (clo E):=acD
abbrev insSort' {α:Type}(E:En α):=(kf E).p
theorem W4 {α:Type}(E:En α):WC XW sz (en E) (clo E):=KT
abbrev swapRange' {α:Type}(E:En α):=(W4 E).p
theorem ab3 {α:Type}(E:En α):aa6 Wd sz (en E) (clo E):=ae4
abbrev rotate' {α:Type}(E:En α):=(ab3 E).p
theorem symMerge {α:Type}(E:En α):ad6 Ql sz (en E) (cal E) (clo E):=aat
theorem stable {α:Type}(E:En α):akn We sz (en E) (cal E) (clo E):=ae5
theorem SortStable {α:Type}(E:En α):SortStable jq sz (en E) (cal E) (clo E):=Jk
end So.P
abbrev atA {α:Type}(g i j:α ->D)(l:am α):am (am D):=l.map λx=> [g x,i x,j x]
abbrev aeP {α:Type}(g i j:α ->D):=So.P.SortStable ⟨g,i,j⟩
theorem awD (x y:Int):Sat Pg alp [.c (.d (.sl [[.lit (.int .i64 x)],[.lit (.int .i64 y)]]))] (λr=>r=rI (bif x !=0 then x else y)):=by
 refine abe.s T8 ?_;refine wB (P:=Pg) (f:=T8.f) (body:=(abe.l 0)) 3 ?_;refine vw ?_;refine zi (λg=>?_) (λg=>?_)
 ·rw[show(x !=0)=true from g];rfl
 rw[show(x !=0)=false from g];(conv=>whnf);refine⟨by decide,_,rfl,rfl,?_⟩;refine zi (λi=>?_) (λi=>?_)
 ·rfl
 have i:(y !=0)=false:=i;have:y=0:=by grind
 subst this;rfl
structure Pc where
 key:am Val
 a:Int
 b:Int
def Pc.dk (x:Pc):D:=.sl (rowD x.key)
def Pc.da (x:Pc):D:=.lit (.int .i64 x.a)
def Pc.db (x:Pc):D:=.lit (.int .i64 x.b)
def uC (l:am Pc):am (am D):=l.map λx=> [.sl (rowD x.key),.lit (.int .i64 x.a),.lit (.int .i64 x.b)]
theorem ahB (l:am Pc):(uC l).length=l.length:=by simp[uC]
theorem aoA {r:am Pc}{i:Nat}(h:i<r.length):(uC r)[((i:Int)).toNat]? =some [.sl (rowD r[i].key),.lit (.int .i64 r[i].a),.lit (.int .i64 r[i].b)]:=by grind[uC]
theorem ahA (a b:am Pc):uC (a++b)=uC a++uC b:=by simp[uC]
def Vc (x y:Pc):Int:=bif un x.key y.key !=0 then un x.key y.key else yZ x.a y.a
theorem acM:CmpOK Vc:=CmpOK.both (CmpOK.onF (f:=Pc.key) (show CmpOK un from aoz)) (CmpOK.onF V9 (f:=Pc.a))
theorem anK (x y:Pc):Sat Pg ZS [.agg [.d x.dk,.d x.da,.d x.db],.agg [.d y.dk,.d y.da,.d y.db]] (λr=>r=rI (Vc x y)):=by
 have h:=J2 xL xP uY x.key y.key;unfold Vc un;generalize jF xP x.key y.key=c at*;have g:=J3 x.a y.a;have i:=awD c (yZ x.a y.a);generalize yZ x.a y.a=d at*;obtain⟨j,l,o⟩:=x;obtain⟨p,I,J⟩:=y;refine abk.s T1 ?_;refine aC h ?_;refine aC g ?_;refine aC i ?_;rfl
theorem asx (l:am Pc)(n:Nat)(I:l.length=n)(g:n<=1000000):
 zA Pg jq [.c (.own 0 3 n),.c (.d (.fn ZS []))] [.arr 3 (uC l) false] (λr=>r=⟨.tup [],[.arr 3 (uC (yS Vc l)) false]⟩):=by
 have j: ∀L:am (Pc×Nat),atA (λx:Pc×Nat=>x.1.dk) (λx=>x.1.da) (λx=>x.1.db) L=uC (L.map Prod.fst):=λL=>by simp[atA,uC,Function.comp_def];exact λa b _=>⟨rfl,rfl,rfl⟩
 have e:uC l=atA (λx:Pc×Nat=>x.1.dk) (λx=>x.1.da) (λx=>x.1.db) (qy l):=by grind[QB]
 rw[e];refine zA.mono (aeP (λx:Pc×Nat=>x.1.dk) (λx=>x.1.da) (λx=>x.1.db) ZS (uJ Vc) (kY acM) (λx y=>x.2<y.2) (λx y i=>?_) (qy l) n (by grind[V4]) g ?_) ?_
 ·refine(anK y.1 x.1).mono ?_;rintro _ rfl;exact⟨_,rfl,ahZ acM i⟩
 ·grind[KN]
 rintro _ ⟨l',o,p,rfl⟩<;>grind[So.eL,acv,acM]
def Zw (x:Pc):am Val:=x.key++[⟨2,x.a,⟨#[]⟩⟩,⟨2,x.b,⟨#[]⟩⟩]
def apl (cols:am Col)(l:am Pc)(i:Nat)(out:am (am Val)):S:=
 ⟨[(4,cV (.ptr 4 0)),(19,cV (.ptr 19 0)),(124,.w (.c (.d (.sl (uC l))))),(125,zl l.length),(126,zl i)],
 [(4,.box [.nil,.nil]),(19,.box [.d (.sl (zm cols)),.own 146 1 out.length]),(146,.arr 1 (zf out) false)]⟩
noncomputable def coRest2:ACode:=xp (xp (xp (xp (xp (xp (xp (xp (xp (xp (yh.A.code))))))))))
theorem ax5 {s:S}(cols:am Col)(l:am Pc)(hl:l.length<=100000)(hk: ∀x∈l,x.key.length<=100000)
 (h0:yX s [4,19,124,125,126] (· =apl cols l 0 [])):
 zY (mwpR Pg T8.f (yh.l 2)) [4,19,124,125,126] (j5 4 (Vp (mwpR Pg T8.f coRest2) (Qf yh.A.res [] (DQ (qE ⟨cols,l.map Zw⟩ 0))))) s:=by
 refine yx (P:=Pg) (f:=T8.f) (body:=(yh.l 2)) l.length (λi=>apl cols l i ((l.take i).map Zw)) (λ_=>True) ⟨trivial,h0⟩ ?_
 clear h0;intro i hi _;have j: ∀h:i<l.length,(l.take (i+1)).map Zw=(l.take i).map Zw++[Zw l[i]]:=λh=>by
  grind[zR]
 have p:l.length<=i ->l.map Zw=(l.take i).map Zw:=λh=>by grind
 have ah:((l.take i).map Zw).length=i:=by simp;omega
 show mwpR Pg T8.f (yh.l 2) _ (apl cols l i ((l.take i).map Zw));generalize(l.take i).map Zw=U at*;have r:(zf U).take U.length=zf U:=by grind[zx]
 unfold apl;refine jH (λg=>?_) (λae=>?_)
 ·have hg:=aoA g;have j:=j g;have af:=hk _ (aI g);have wi:=zC g (by omega);clear p hk;generalize l[i]=x at*;obtain⟨o,xa,xb⟩:=x;simp only at af hg;have ad:=uq o (by omega);have j:(l.take (i+1)).map Zw=U++[o++[⟨2,xa,⟨#[]⟩⟩,⟨2,xb,⟨#[]⟩⟩]]:=j;refine yu hg ?_;generalize hE:([⟨2,xa,⟨#[]⟩⟩,⟨2,xb,⟨#[]⟩⟩]:am Val)=E at*;have ac:rowD E=[[.lit (.int .i64 2),.lit (.int .i64 xa),.lit (.string ⟨#[]⟩)],[.lit (.int .i64 2),.lit (.int .i64 xb),.lit (.string ⟨#[]⟩)]]:=by rw[<- hE];rfl
  have ag:E.length=2:=by grind
  have R: ∀y∈aH (rowD E).length (rowD E),y.length=3:=λy hy=>XP _ y (List.mem_of_mem_take hy)
  have I:(rowD o).length+(aH (rowD E).length (rowD E)).length<=1000000:=by grind[zt]
  have aa:aH ((rowD o).length+(aH (rowD E).length (rowD E)).length) (aH (rowD o).length (rowD o)++aH (rowD E).length (rowD E))=rowD (o++E):=by
   grind[vT]
  have ab:o=[] ->aH (aH (rowD E).length (rowD E)).length (aH (rowD E).length (rowD E))=rowD (o++E):=λh=>by grind
  rw[ac]at R I aa ab
  repeat' (first
   |(refine bG ad ?_;rintro _ (⟨J,rfl⟩|rfl)<;>(conv=>whnf))
   |(refine⟨R,by unfold ym;have:=I;exact aK (bW _ this) (by omega),aK I (by omega),?_⟩;conv=>whnf)
   |(refine⟨by simp,by unfold ym;simp;omega,by simp;omega,?_⟩;conv=>whnf)
   |(refine⟨by simp,by unfold ym;simp,by simp,?_⟩;conv=>whnf)
   |(refine⟨g,trivial,ze ?_⟩;(conv=>whnf);rw[wi,r,j,aa,xm,aA];rfl)
   |(refine⟨g,trivial,ze ?_⟩;(conv=>whnf);rw[wi,r,j,ab J,xm,aA];rfl)
   |(refine bY ?_ ?_<;>conv=>whnf))
 rw[p ae];(conv=>whnf);refine⟨rfl,?_⟩;refine dh (b:=⟨.tup [.agg [.d (.sl (zm cols)),.d (.sl ((zf U).take U.length))],.c (int 0)],[]⟩) rfl ?_;rw[r];rfl
def UR (g:am Pc)(x:Pc):am Pc:=match g.getLast? with
 |none=>g++[x]
 |some z=>bif xN z.key x.key&&decide (x.a<=z.b)then g.set (g.length - 1) ⟨z.key,z.a,zU true z.b x.b⟩else g++[x]
def Zk (l:am Pc):am Pc:=l.foldl UR []
theorem aub (g:am Pc)(x:Pc):(UR g x).length<=g.length+1:=by
 grind[UR]
theorem aez (l:am Pc): ∀i,i<=l.length ->(Zk (l.take i)).length<=i
 |0,_=>by simp[Zk]
 |i+1,h=>by
  have g:=aez l i (by omega);have j:=aub (Zk (l.take i)) l[i];unfold Zk at*;rw[zR (by omega:i<l.length),List.foldl_append];simp only[cE,List.foldl_nil];omega
theorem aua {n:Nat}{g:am Pc}{x:Pc}(h: ∀z∈g,z.key.length<=n)(i:x.key.length<=n): ∀z∈UR g x,z.key.length<=n:=by
 grind[UR]
theorem at8 {n:Nat}{l:am Pc}(h: ∀z∈l,z.key.length<=n): ∀z∈Zk l,z.key.length<=n:=by
 have gen: ∀(l g:am Pc),(∀z∈l,z.key.length<=n) ->(∀z∈g,z.key.length<=n) -> ∀z∈l.foldl UR g,z.key.length<=n:=by
  intro l;induction l<;>grind[aua,aU]
 exact gen l [] h (λz i=>by cases i)
def apk (cols:am Col)(l:am Pc)(i:Nat)(T:am Pc):S:=
 ⟨[(4,cV (.ptr 4 0)),(6,.w (.c (.d (.sl (zm cols))))),(11,cV (.own 120 3 T.length)),(69,.w (.c (.d (.sl (uC l))))),(70,zl l.length),(71,zl i)],
 [(4,.box [.nil,.nil]),(120,.arr 3 (uC T) false)]⟩
noncomputable def coRest1:ACode:=xp (xp (xp (xp (xp (xp (xp (xp yh.A.code)))))))
theorem ax4 {s:S}(cols:am Col)(l:am Pc)(hl:l.length<=100000)(hk: ∀x∈l,x.key.length<=100000)
 (h0:yX s [4,6,11,69,70,71] (· =apk cols l 0 [])):
 zY (mwpR Pg T8.f (yh.l 1)) [4,6,11,69,70,71] (j5 2 (Vp (mwpR Pg T8.f coRest1) (Qf yh.A.res [] (DQ (qE ⟨cols,(Zk l).map Zw⟩ 0))))) s:=by
 refine yx (P:=Pg) (f:=T8.f) (body:=(yh.l 1)) l.length (λi=>apk cols l i (Zk (l.take i))) (λ_=>True) ⟨trivial,h0⟩ ?_
 clear h0;intro i hi _;have g: ∀h:i<l.length,Zk (l.take (i+1))=UR (Zk (l.take i)) l[i]:=λh=>by
  grind[Zk,zR]
 have p:l.length<=i ->Zk l=Zk (l.take i):=λh=>by grind
 have ah:=aez l i hi;have r:=at8 (n:=100000) (l:=l) hk;show mwpR Pg T8.f (yh.l 1) _ (apk cols l i (Zk (l.take i)));generalize Zk (l.take i)=T at*;have I:(uC T).take T.length=uC T:=by grind[ahB]
 unfold apk;refine jH (λj=>?_) (λab=>?_)
 ·have hg:=aoA j;have g:=g j;have wi:=zC j (by omega);clear p hk r;generalize l[i]=x at*;obtain⟨xk,xa,J⟩:=x;simp only at hg;refine yu hg ?_;rw[yk (n:=(T.length:Int) - 1) (by omega) (by omega)];refine zw (λR=>?_) (λR=>?_)
  ·have R:(T.length:Int) - 1>=0:=aN R;have af:T.length - 1<T.length:=by omega
   have ac:((T.length:Int) - 1).toNat=T.length - 1:=by omega
   have o:(uC T)[((T.length:Int) - 1).toNat]? =some [.sl (rowD T[T.length - 1].key),.lit (.int .i64 T[T.length - 1].a),.lit (.int .i64 T[T.length - 1].b)]:=by
    simp_all[uC]
   have ad:T.getLast?=some T[T.length - 1]:=by rw[List.getLast?_eq_getElem?,am.getElem?_eq_getElem af]
   unfold UR at g;rw[ad]at g;have heq:=Zy T[T.length - 1].key xk;generalize hz:T[T.length - 1]=z at*;obtain⟨zk,za,zb⟩:=z;simp only at o g heq;generalize xN zk xk=b at*;(conv=>whnf);refine⟨by omega,by omega,?_⟩;(conv=>whnf);refine⟨_,o,?_⟩;refine aC heq ?_;have ag:Zk (l.take (i+1))=T++[⟨xk,xa,J⟩] ->True:=λ_=>trivial
   cases b with
   |false=>
    rw[cR,aB]at g;refine wu ?_;refine y6 j trivial ?_;rw[wi,I,g,ahA,aA];rfl
   |true=>
    rw[bQ]at g;(conv=>whnf);refine⟨by omega,by omega,?_⟩;(conv=>whnf);refine⟨_,o,?_⟩;refine zi (b:=decide (xa<=zb)) (λh3=>?_) (λh3=>?_)
    ·rw[h3,aD]at g;have U:(uC T).set ((T.length:Int) - 1).toNat [.sl (rowD zk),.lit (.int .i64 za),.lit (.int .i64 (zU true zb J))]=uC (T.set (T.length - 1) ⟨zk,za,zU true zb J⟩):=by
      rw[ac];simp[uC,c6]
     have ae:(T.set (T.length - 1) ⟨zk,za,zU true zb J⟩).length=T.length:=by simp
     (conv=>whnf);refine⟨by omega,by omega,?_⟩;(conv=>whnf);refine⟨_,o,?_⟩;(conv=>whnf);refine⟨by omega,by omega,?_⟩;(conv=>whnf);refine⟨_,o,bT rfl,?_⟩;refine y6 j trivial ?_;generalize zU true zb J=m at*;rw[wi,g,<- U,ae];rfl
    rw[h3,aB]at g;refine wu ?_;refine y6 j trivial ?_;rw[wi,I,g,ahA,aA];rfl
  have R: ¬(T.length:Int) - 1>=0:=aG R;have hT:T=[]:=List.length_eq_zero_iff.1 (by omega);subst hT;have g:Zk (l.take (i+1))=[⟨xk,xa,J⟩]:=g;refine wu ?_ (hA:=by simp) (hB:=by grind[ym]) (hC:=by simp);refine y6 j trivial ?_;rw[wi,g];rfl
 rw[p ab]at r⊢;have aa:=λ(s:S)=>ax5 (s:=s) cols T (by omega) r
 (conv=>whnf);refine aa _ ⟨_,(jm 19 1 146 1 (by omega) (by omega) rfl).trans (XA 124 (.own 120 3 T.length) (.sl ((uC T).take T.length)) _ rfl rfl),?_⟩;(conv=>whnf);rw[I];rfl
def aeH (at_:am Int)(p q:Int)(x:am Val):am Pc:=bif xK (at0 x p.toNat) (at0 x q.toNat)&&decide ((at0 x p.toNat).n>=0)then [⟨zn x at_,(at0 x p.toNat).n,(at0 x q.toNat).n⟩]else []
def ux (at_:am Int)(p q:Int)(rows:am (am Val)):am Pc:=rows.flatMap (aeH at_ p q)
theorem aup (at_:am Int)(p q:Int)(x:am Val):(aeH at_ p q x).length<=1:=by
 grind[aeH]
theorem abX (at_:am Int)(p q:Int): ∀rows,(ux at_ p q rows).length<=rows.length
 | []=>aM _
 |x::r=>by
  have g:=aup at_ p q x;have i:=abX at_ p q r;unfold ux at*;rw[List.flatMap_cons,aA,aR];omega
theorem ar8 (at_:am Int)(p q:Int){rows:am (am Val)}: ∀z∈ux at_ p q rows,z.key.length=at_.length:=by
 intro z g;unfold ux at g;obtain⟨x,_,i⟩:=bZ.1 g;unfold aeH at i;cases h:(xK (at0 x p.toNat) (at0 x q.toNat)&&decide ((at0 x p.toNat).n>=0))
 ·grind
 simp_all[zn]
def ZI (at_:am Int)(p q:Int)(rows:am (am Val)):am (am Val):=(Zk (yS Vc (ux at_ p q rows))).map Zw
def apj (cols:am Col)(at_:am Int)(p q:Int)(rows:am (am Val))(i:Nat)(T:am Pc):S:=
 ⟨[(4,cV (.ptr 4 0)),(6,.w (.c (.d (.sl (zm cols))))),(8,.w (.c (.d (.sl (zg at_))))),(9,.w (.c (.d (.sl (zg [p,q]))))),(10,cV (.own 65 3 T.length)),(11,cV .nil),(40,.w (.c (.d (.sl (zf rows))))),(41,zl rows.length),(42,zl i)],
 [(4,.box [.nil,.nil]),(65,.arr 3 (uC T) false)]⟩
noncomputable def coRest0:ACode:=xp (xp (xp (xp (xp (xp yh.A.code)))))
theorem ax3 {s:S}(cols:am Col)(at_:am Int)(p q:Int)(rows:am (am Val))(hr:rows.length<=100000)(ak:at_.length<=100000)
 (hx: ∀x∈rows,zQ x.length at_ /\zQ x.length [p,q])
 (h0:yX s [4,6,8,9,10,11,40,41,42] (· =apj cols at_ p q rows 0 [])):
 zY (mwpR Pg T8.f (yh.l 0)) [4,6,8,9,10,11,40,41,42] (j5 0 (Vp (mwpR Pg T8.f coRest0) (Qf yh.A.res [] (DQ (qE ⟨cols,ZI at_ p q rows⟩ 0))))) s:=by
 unfold ZI;refine yx (P:=Pg) (f:=T8.f) (body:=(yh.l 0)) rows.length (λi=>apj cols at_ p q rows i (ux at_ p q (rows.take i))) (λ_=>True) ⟨trivial,h0⟩ ?_
 clear h0;intro i hi _;have g: ∀h:i<rows.length,ux at_ p q (rows.take (i+1))=ux at_ p q (rows.take i)++aeH at_ p q rows[i]:=λh=>by
  grind[ux,zR]
 have o:rows.length<=i ->ux at_ p q rows=ux at_ p q (rows.take i):=λh=>by grind
 have aj:(ux at_ p q (rows.take i)).length<=rows.length:=aK (abX _ _ _ _) (by simp;omega);have aa:=ar8 at_ p q (rows:=rows.take i);show mwpR Pg T8.f (yh.l 0) _ (apj cols at_ p q rows i (ux at_ p q (rows.take i)));generalize ux at_ p q (rows.take i)=T at*;have ag:(uC T).take T.length=uC T:=by grind[ahB]
 unfold apj;refine jH (λj=>?_) (λU=>?_)
 ·have hg:=yJ j;have g:=g j;obtain⟨ai,I⟩:=hx _ (aI j);have wi:=zC j (by omega);have r:=U8 rows[i] p q (I _ (by simp)) (I _ (by simp));have ab:=ub rows[i] at_ (by omega) ai;clear o hx aa;unfold aeH at g;generalize rows[i]=x at*;generalize at0 x p.toNat=u at*;generalize at0 x q.toNat=v at*;unfold QA at r;generalize xK u v=b at*;obtain⟨_,u,_⟩:=u;obtain⟨_,v,_⟩:=v;simp only at r g;refine yu hg ?_;refine aC r ?_;cases b with
  |false=>
   rw[cR,aB,bA]at g;refine y6 j trivial ?_;rw[wi,g];rfl
  |true=>
   rw[bQ]at g;refine zi (b:=decide (u>=0)) (λJ=>?_) (λJ=>?_)
   ·rw[J,aD]at g;refine aC ab ?_;refine wu ?_;refine y6 j trivial ?_;rw[wi,ag,g,ahA,aA];rfl
   rw[J,aB,bA]at g;refine y6 j trivial ?_;rw[wi,g];rfl
 rw[o U];have af:=asx T T.length rfl (by omega);have ac:=u0 acM T;have ae:(yS Vc T).length=T.length:=ac.length_eq;have ad: ∀z∈yS Vc T,z.key.length<=100000:=λz hz=>by grind
 generalize yS Vc T=Z at*;have R:=λ(s:S)=>ax4 (s:=s) cols Z (by omega) ad
 have ah:(uC Z).take T.length=uC Z:=by grind[ahB]
 (conv=>whnf);refine zA.mono (af) ?_;rintro _ rfl;(conv=>whnf);refine R _ ⟨_,(zW 11 120 3 (by omega) (by omega) rfl).trans (XA 69 (.own 65 3 T.length) (.sl ((uC Z).take T.length)) _ rfl rfl),?_⟩;(conv=>whnf);rw[ah,<- ae];rfl
theorem amS {d:am Nmd}{cols:am Col}{st:Stp}(g:st.op=9)(h:(ye d cols st).1=0):ye d cols st=coT cols st.cols:=by
 grind[ye]
structure CoOK (cols:am Col)(on:am ByteArray)(R:am Col):Prop where
 tk:takeErr cols on=false
 i1:colInt cols sFrom=0
 i2:colInt cols sTo=0
 two:(hasB on sFrom||hasB on sTo)=false
 eq:R=takeC cols on++[⟨sFrom,2⟩,⟨sTo,2⟩]
theorem akY {cols:am Col}{g:am ByteArray}(h:(coT cols g).1=0):CoOK cols g (coT cols g).2:=by
 unfold coT at h⊢;obtain⟨p,i⟩:=qe (by grind) h;rw[i]at h⊢;obtain⟨r,j⟩:=qe (by grind) h;rw[j]at h⊢;obtain⟨I,l⟩:=qe (by simp) h;rw[l]at h⊢;obtain⟨J,o⟩:=qe (by simp) h;rw[o];exact⟨r,by grind,by grind,p,rfl⟩
theorem awU {g:am ByteArray}{a:Tbl}(h:(Jf 9 g a).1=0):zL a=0 /\CoOK a.cols g (Jf 9 g a).2:=by
 unfold Jf at h⊢;obtain⟨j,i⟩:=qe (by simp) h
 grind[amS,jW,akY]
def coQ (a:Tbl)(g:am ByteArray):Res:=bif (Jf 9 g a).1 !=0 then qE ⟨[],[]⟩ (Jf 9 g a).1 else
 qE ⟨(Jf 9 g a).2,ZI (zh a.cols g) (zj a.cols sFrom) (zj a.cols sTo) a.rows⟩ 0
theorem ab9 (a:Tbl)(g:am ByteArray)(aa:g.length<=100000)(R:a.cols.length<=1000000):Sat Pg QO [a.w,.c (.d (.sl (zp g)))] (λr=>r=coQ a g):=by
 have hc:=aqc 9 g a (by omega) R;have j:=@awU g a;have U:=qp a.cols (.sl (zf a.rows)) g (by omega);have o:=qp a.cols (.sl (zf a.rows)) [sFrom,sTo] (by simp);unfold coQ;generalize Jf 9 g a=c at*;obtain⟨J,c2⟩:=c;simp only at j⊢;refine zD ?_;obtain⟨i,ar⟩:=a;simp only at*;refine yh.s T8 ?_;refine aC hc ?_;refine zw (λl=>?_) (λl=>?_)
 ·rw[show(J !=0)=true from l];exact⟨rfl,rfl⟩
 have l:(J !=0)=false:=l;rw[l];have P:J=0:=by grind
 subst P;obtain⟨ka,I⟩:=j rfl;have i1:=ah0 I.tk;have i2:=abm I.i1;have i3:=abm I.i2;have wa:=q9 ka;have fa:=xE ka;have p1:zh i [sFrom,sTo]=[zj i sFrom,zj i sTo]:=rfl;have l1:(zh i g).length=g.length:=by simp[zh]
 have hm:=λ(s:S)=>ax3 (s:=s) c2 (zh i g) (zj i sFrom) (zj i sTo) ar (by grind) (by omega)
  (λx hx=>by
   have h2:=wa x hx;simp only at h2;refine⟨by grind,λk hk=>?_⟩;rw[h2];simp only[bC,cr,or_false]at hk
   grind)
 rw[p1]at o;clear i1 i2 i3 wa fa p1 l1 I ka j l;generalize zj i sFrom=p at*;generalize zj i sTo=q at*;generalize zh i g=left at*;(conv=>whnf)
 repeat' (first
  |(refine bG U ?_;rintro _ rfl;conv=>whnf)
  |(refine bG o ?_;rintro _ rfl;conv=>whnf)
  |(refine bY ?_ ?_<;>conv=>whnf))
 all_goals rw[zx]
 all_goals refine hm _ ⟨_,zW 10 65 3 (by omega) (by omega) rfl,?_⟩
 all_goals conv=>whnf
 all_goals rfl
noncomputable def itR (cols:am Col)(row:am Val)(l:am Itm):am Val:=l.map λx=>exprV cols row x.e
noncomputable def selR (cols:am Col)(rows:am (am Val))(l:am Itm):am (am Val):=rows.map λr=>itR cols r l
def seI (cols:am Col)(rows:am (am Val))(st:am C)(i:Nat)(out:am (am Val))(x:am Val)(l:am Itm)(j:Nat)(g:am Val):S:=
 ⟨[(4,cV (.ptr 4 0)),(5,cV (.ptr 5 0)),(8,cV (.own 69 1 out.length)),(12,.w (yt x)),(13,cV (.own 64 3 g.length)),(43,.w (.c (.d (.sl (zf rows))))),(44,zl rows.length),(45,zl i),(50,.w (.c (.d (.sl (yW l))))),(51,zl l.length),(52,zl j)],
 [(4,.box [.d (.sl (zm cols)),.d (.sl (zf rows))]),(5,.box st),(64,.arr 3 (rowD g) false),(69,.arr 1 (zf out) false)]⟩
theorem ayu (hC:Kh){Q:E ->S ->Prop}{s:S}(cols:am Col)(rows:am (am Val))(eo:Int)(nm:ByteArray)(v:Val)(ks:am Ex)(g:am Itm)(cs o I:am (am D))(m:Int)(tb:ByteArray)(i:Nat)(out:am (am Val))(x:am Val)
 (ai:g.length<=100000)
 (h0:yX s [4,5,8,12,13,43,44,45,50,51,52] (· =seI cols rows (vE 2 eo nm v ks (yW g) cs o I m tb) i out x g 0 []))
 (hQ:Q (.exit 5) (xD (seI cols rows (vE 2 eo nm v ks (yW g) cs o I m tb) i out x g g.length (itR cols x g)) 53 (ya (decide ((g.length:Int)<g.length))))):
 zY (mwpR Pg T8.f (xM.l 1)) [4,5,8,12,13,43,44,45,50,51,52] Q s:=by
 obtain⟨vk,vn,vs⟩:=v;refine yx (P:=Pg) (f:=T8.f) (body:=(xM.l 1)) g.length (λj=>seI cols rows (vE 2 eo nm ⟨vk,vn,vs⟩ ks (yW g) cs o I m tb) i out x g j (itR cols x (g.take j))) (λ_=>True) ⟨trivial,h0⟩ ?_
 clear h0;intro j hj _;have ah:(itR cols x (g.take j)).length=j:=by grind[itR]
 have r: ∀h:j<g.length,itR cols x (g.take (j+1))=itR cols x (g.take j)++[exprV cols x g[j].e]:=λh=>by
  grind[itR,zR]
 have J:j=g.length ->itR cols x g=itR cols x (g.take j):=λh=>by grind
 show mwpR Pg T8.f (xM.l 1) _ (seI cols rows (vE 2 eo nm ⟨vk,vn,vs⟩ ks (yW g) cs o I m tb) i out x g j (itR cols x (g.take j)));generalize itR cols x (g.take j)=T at*;have ab:(rowD T).take T.length=rowD T:=by grind[zt]
 unfold seI vE;refine rgE (λp=>?_) (λU=>?_)
 ·have hg:=WM p;have r:=r p;have wi:=zC p (by omega);have R:=aiO hC cols x g[j].e;clear hQ J;generalize g[j]=z at*;obtain⟨⟨aa,ad,⟨ae,af,ag⟩,ac⟩,s2⟩:=z;simp only at R r;generalize exprV cols x (.mk aa ad ⟨ae,af,ag⟩ ac)=u at*;obtain⟨u1,u2,u3⟩:=u;refine yu hg ?_;refine aC R ?_;refine wu ?_;refine y6 p trivial ?_;rw[wi,ab,r,<- vT,aA];rfl
 rw[J U]at hQ;subst U;(conv=>whnf);exact hQ
def seO (cols:am Col)(rows:am (am Val))(st:am C)(i:Nat)(out:am (am Val)):S:=
 ⟨[(4,cV (.ptr 4 0)),(5,cV (.ptr 5 0)),(8,cV (.own 69 1 out.length)),(43,.w (.c (.d (.sl (zf rows))))),(44,zl rows.length),(45,zl i)],
 [(4,.box [.d (.sl (zm cols)),.d (.sl (zf rows))]),(5,.box st),(69,.arr 1 (zf out) false)]⟩
theorem J7 (hC:Kh)(d:D)(cols:am Col)(rows:am (am Val))(hr:rows.length<=20000)(eo:Int)(nm:ByteArray)(v:Val)(ks:am Ex)(g:am Itm)(cs o I:am (am D))(m:Int)(tb:ByteArray)(ad:g.length<=100000):
 Sat Pg vx [.c (.d d),.agg [.d (.sl (zm cols)),.d (.sl (zf rows))],.agg (vE 2 eo nm v ks (yW g) cs o I m tb)] (λr=>r=rRT (selR cols rows g)):=by
 refine zD ?_;have j:=λ(Q:E ->S ->Prop) (s:S) (i:Nat) (out:am (am Val)) (x:am Val)=>ayu hC (Q:=Q) (s:=s) cols rows eo nm v ks g cs o I m tb i out x ad
 obtain⟨vk,vn,vs⟩:=v;unfold vE;refine xM.s T8 ?_;rw[zx];refine yx (P:=Pg) (f:=T8.f) (body:=(xM.l 2)) rows.length (λi=>seO cols rows (vE 2 eo nm ⟨vk,vn,vs⟩ ks (yW g) cs o I m tb) i (selR cols (rows.take i) g)) (λ_=>True) ⟨trivial,⟨_,zW 8 69 1 (by omega) (by omega) rfl,?_⟩⟩ ?_
 ·exact rfl
 intro i hi _;have aa: ∀h:i<rows.length,selR cols (rows.take (i+1)) g=selR cols (rows.take i) g++[itR cols rows[i] g]:=λh=>by
  grind[selR,zR]
 have J:rows.length<=i ->selR cols rows g=selR cols (rows.take i) g:=λh=>by grind
 have ag:(selR cols (rows.take i) g).length=i:=by grind[selR]
 show mwpR Pg T8.f (xM.l 2) _ (seO cols rows (vE 2 eo nm ⟨vk,vn,vs⟩ ks (yW g) cs o I m tb) i (selR cols (rows.take i) g));generalize selR cols (rows.take i) g=U at*;have ab:(zf U).take U.length=zf U:=by grind[zx]
 have j:=λQ s x=>j Q s i U x
 unfold seO vE;refine jH (λp=>?_) (λac=>?_)
 ·have hg:=yJ p;have aa:=aa p;have wi:=zC p (by omega);clear J;generalize rows[i]=x at*;have j:=λQ s=>j Q s x
  have af:(rowD (itR cols x g)).take g.length=rowD (itR cols x g):=by grind[itR,zt]
  have ae:(itR cols x g).length=g.length:=by simp[itR]
  generalize itR cols x g=R at*;refine yu hg ?_;refine j _ _ ⟨_,zW 13 64 3 (by omega) (by omega) rfl,?_⟩ ?_
  ·(conv=>whnf);unfold seI vE;rw[wJ];rfl
  unfold xD seI vE;(conv=>whnf);rw[show aH R.length (rowD R)=rowD R by grind];refine wu ?_;refine y6 p trivial ?_;rw[wi,ab,aa,xm,aA];rfl
 rw[J ac];clear j;(conv=>whnf);refine⟨rfl,?_⟩;show Res.mk (.tup [.c (.d (.sl ((zf U).take U.length))),.c (bool true)]) []=_;rw[ab];rfl
theorem qo (d:am Nmd)(t:Tbl)(st:Stp)(g:am Col)(R:am (am Val))(p:(st.op==4)=false)(I:(st.op==7)=false)(J:(st.op==8)=false)(P:(st.op==9)=false)(hl:R.length<=20000)(U:Sat Pg vx [.c (.d (.sl (zu d))),t.w,.agg st.cs] (λr=>r=rRT R)):
 Sat Pg qJ [.c (.d (.sl (zu d))),t.w,.agg st.cs,.c (.d (.sl (zm g)))] (λr=>r=qE ⟨g,R⟩ 0):=by
 have hf:=y9 d st.table;obtain⟨tc,tr⟩:=t;obtain⟨op,⟨eo,nm,⟨vk,vn,vs⟩,ks⟩,j,aa,l,o,sn,tb⟩:=st;simp only at*;unfold Stp.cs vE at*;have i:decide (((zf R).length:Int)>20000)=false:=decide_eq_false (by grind[zx]);generalize zZ tb d=f at*;cases f with
 |none=>
  refine qF.s T8 ?_;refine aC hf ?_;rw[p];(conv=>whnf);rw[I];(conv=>whnf);rw[J];(conv=>whnf);rw[P];refine aC U ?_;rw[i];exact rfl
 |some ft=>
  obtain⟨fc,fr⟩:=ft;refine qF.s T8 ?_;refine aC hf ?_;rw[p];(conv=>whnf);rw[I];(conv=>whnf);rw[J];(conv=>whnf);rw[P];refine aC U ?_;rw[i];exact rfl
theorem J8 (d:am Nmd)(t:Tbl)(st:Stp)(g:am Col)(i:st.op=4)(R:Tbl)(e:Int)(p:Sat Pg kD [t.w,.c (.d (.sl (xQ st.sorts)))] (λr=>r=qE R e)):
 Sat Pg qJ [.c (.d (.sl (zu d))),t.w,.agg st.cs,.c (.d (.sl (zm g)))] (λr=>r=qE R e):=by
 have I:=y9 d st.table;obtain⟨tc,tr⟩:=t;obtain⟨rc,rr⟩:=R;obtain⟨op,⟨U,nm,⟨vk,vn,vs⟩,ks⟩,j,P,l,o,sn,tb⟩:=st;simp only at*;subst i;unfold Stp.cs vE at*;generalize zZ tb d=f at*;cases f with
 |none=>
  refine qF.s T8 ?_;refine aC I ?_;refine aC p ?_;rfl
 |some J=>
  obtain⟨fc,fr⟩:=J;refine qF.s T8 ?_;refine aC I ?_;refine aC p ?_;rfl
theorem VH (d:am Nmd)(t:Tbl)(st:Stp)(g:am Col)(i:st.op=9)(R:Tbl)(e:Int)(p:Sat Pg QO [t.w,.c (.d (.sl (zp st.cols)))] (λr=>r=qE R e)):
 Sat Pg qJ [.c (.d (.sl (zu d))),t.w,.agg st.cs,.c (.d (.sl (zm g)))] (λr=>r=qE R e):=by
 have I:=y9 d st.table;obtain⟨tc,tr⟩:=t;obtain⟨rc,rr⟩:=R;obtain⟨op,⟨U,nm,⟨vk,vn,vs⟩,ks⟩,j,P,l,o,sn,tb⟩:=st;simp only at*;subst i;unfold Stp.cs vE at*;generalize zZ tb d=f at*;cases f with
 |none=>
  refine qF.s T8 ?_;refine aC I ?_;refine aC p ?_;rfl
 |some J=>
  obtain⟨fc,fr⟩:=J;refine qF.s T8 ?_;refine aC I ?_;refine aC p ?_;rfl
theorem Ja (d:am Nmd)(t:Tbl)(st:Stp)(g:am Col)(i:st.op=7)(b:Tbl)(J:zZ st.table d=some b)(R:Tbl)(e:Int)(I:Sat Pg q0 [t.w,b.w,.c (.d (.sl (zp st.cols)))] (λr=>r=qE R e)):
 Sat Pg qJ [.c (.d (.sl (zu d))),t.w,.agg st.cs,.c (.d (.sl (zm g)))] (λr=>r=qE R e):=by
 have p:=y9 d st.table;rw[J]at p;obtain⟨tc,tr⟩:=t;obtain⟨U,br⟩:=b;obtain⟨rc,rr⟩:=R;obtain⟨op,⟨eo,nm,⟨vk,vn,vs⟩,ks⟩,j,P,l,o,sn,tb⟩:=st;simp only at*;subst i;unfold Stp.cs vE at*;refine qF.s T8 ?_;refine aC p ?_;refine aC I ?_;rfl
theorem U9 (d:am Nmd)(t:Tbl)(st:Stp)(g:am Col)(i:st.op=8)(b:Tbl)(J:zZ st.table d=some b)(R:Tbl)(e:Int)(I:Sat Pg WO [t.w,b.w,.c (.d (.sl (zp st.cols)))] (λr=>r=qE R e)):
 Sat Pg qJ [.c (.d (.sl (zu d))),t.w,.agg st.cs,.c (.d (.sl (zm g)))] (λr=>r=qE R e):=by
 have p:=y9 d st.table;rw[J]at p;obtain⟨tc,tr⟩:=t;obtain⟨U,br⟩:=b;obtain⟨rc,rr⟩:=R;obtain⟨op,⟨eo,nm,⟨vk,vn,vs⟩,ks⟩,j,P,l,o,sn,tb⟩:=st;simp only at*;subst i;unfold Stp.cs vE at*;refine qF.s T8 ?_;refine aC p ?_;refine aC I ?_;rfl
end
section
attribute [local irreducible] Sat zA zY zo
def qh (d:am Nmd)(st:Stp):Tbl:=(zZ st.table d).getD ⟨[],[]⟩
noncomputable def stR (d:am Nmd)(t:Tbl)(st:Stp):am (am Val):=
 bif st.op==1 then whereR t.cols t.rows st.cond else bif st.op==2 then selR t.cols t.rows st.items else
 bif st.op==3 then(wW (zh t.cols st.cols) t.rows).map (qk t.cols st.aggs)else
 bif st.op==4 then yS (jE (u6 t.cols st.sorts) st.sorts) t.rows else bif st.op==5 then t.rows.take (zU false st.n t.rows.length).toNat else
 bif st.op==6 then xO (zh t.cols st.cols) (zh (qh d st).cols st.cols) (oth st.cols 0 (qh d st).cols) t.rows (qh d st).rows else
 bif st.op==7 then xI (zj t.cols sFrom) (zj t.cols sTo) (zj (qh d st).cols sFrom) (zj (qh d st).cols sTo) (zh t.cols st.cols) (zh (qh d st).cols st.cols) (oth (st.cols++[sFrom,sTo]) 0 (qh d st).cols) t.rows (qh d st).rows else
 bif st.op==8 then t.rows.map (vf (zj t.cols sFrom) (zj (qh d st).cols sFrom) (zh t.cols st.cols) (zh (qh d st).cols st.cols) (oth (st.cols++[sFrom]) 0 (qh d st).cols) (qh d st).rows)else
 ZI (zh t.cols st.cols) (zj t.cols sFrom) (zj t.cols sTo) t.rows
noncomputable def nStepT (d:am Nmd)(t:Tbl)(st:Stp):Int×Tbl:=
 bif yI d !=0 then(yI d,⟨[],[]⟩)else bif zL t !=0 then(zL t,⟨[],[]⟩)else bif (ye d t.cols st).1 !=0 then((ye d t.cols st).1,⟨[],[]⟩)else(0,⟨(ye d t.cols st).2,stR d t st⟩)
def wK (x:Int×Tbl):Res:=qE x.2 x.1
theorem ac7 {e:Int}: ∀{P:Program}{k:Nat}{args:am W},Sat P k args (λr=>r=rNT e) ->Sat P k args (DQ (qE ⟨[],[]⟩ e)):=λh=>h.mono λr hr=>by subst hr;exact⟨rfl,rfl⟩
theorem an6 {i:ByteArray}{b:Tbl}: ∀{d pre:am Nmd},YR pre d=0 ->zZ i d=some b ->zL b=0
 | [],_,_,g=>by cases g
 |x::r,pre,h,g=>by
  simp only[YR]at h;cases j:(wC x.nm !=0)
  ·rw[j,aB]at h;obtain⟨_,h⟩:=yl (by omega) h;cases l:(zL x.t !=0)
   ·rw[l,aB]at h;simp only[zZ]at g;cases o:zo x.nm i
    ·rw[o,aB]at g;exact an6 h g
    simp_all
   simp_all
  simp_all
theorem uk {d:am Nmd}{i:ByteArray}{b:Tbl}(h:yI d=0)(g:zZ i d=some b):zL b=0:=by
 unfold yI at h;exact an6 (yl (by omega) h).2 g
theorem ak5 {st:Stp}(h:st.err=0)(g:st.op=7\/st.op=8\/st.op=9):wU st.cols 0=0:=by
 unfold Stp.err at h;have h:=(yl (by omega) h).2;rcases g with g|g|g
 ·rw[g]at h;exact(yl (by omega) (show(bif !yB st.table then 3 else wU st.cols 0)=0 from h)).2
 ·rw[g]at h;exact(yl (by omega) (show(bif !yB st.table then 3 else wU st.cols 0)=0 from h)).2
 grind
theorem agH {op:Int}{i:am ByteArray}{tb:ByteArray}(g:op=7\/op=8\/(op=9 /\tb=⟨#[]⟩)):(jW op i tb).uses=true:=by
 show V5 op (Ex.mk 0 ⟨#[]⟩ ⟨0,0,⟨#[]⟩⟩ []).zero 0 i.length 0 0 0 tb=true;have j:(Ex.mk 0 ⟨#[]⟩ ⟨0,0,⟨#[]⟩⟩ []).zero=true:=by
  grind[Ex.zero,Kf,qI,AM.beqS_self]
 unfold V5;rw[j];rcases g with rfl|rfl|⟨rfl,rfl⟩
 ·rfl
 ·rfl
 rw[AM.beqS_self];rfl
theorem as1 {op:Int}{g:am ByteArray}(i:op=7\/op=8)(h:wU g 0=0):(jW op g WY).err=0:=by
 unfold Stp.err;rw[agH (by grind)];have j:yB WY=true:=by decide+kernel
 rcases i with rfl|rfl
 ·show(bif !yB WY then 3 else wU g 0)=0
  grind
 show(bif !yB WY then 3 else wU g 0)=0
 grind
theorem aqv {g:am ByteArray}(h:wU g 0=0):(jW 9 g ⟨#[]⟩).err=0:=by
 unfold Stp.err;rw[agH (.inr (.inr ⟨rfl,rfl⟩))];exact h
theorem axv {g:am ByteArray}{d:am Nmd}{cols:am Col}{cs:am ByteArray}{tb:ByteArray}{b:Tbl}(i:zZ tb d=some b):Wb g [⟨WY,b⟩] cols cs WY=Wb g d cols cs tb:=by
 grind[zZ,AM.beqS_self,Wb]
theorem kZ {d:am Nmd}{t b:Tbl}{st:Stp}(g:st.op=7\/st.op=8)(o:zL t=0)(i:zL b=0)(j:st.err=0)(l:zZ st.table d=some b):jV st.op st.cols t b=ye d t.cols st:=by
 grind[ak5,as1,jV,ye,jW,axv]
theorem aoO {d:am Nmd}{t:Tbl}{st:Stp}(g:st.op=9)(j:zL t=0)(i:st.err=0):Jf 9 st.cols t=ye d t.cols st:=by
 grind[ak5,aqv,Jf,ye,jW]
theorem Wu {x y:Int}:(bif x !=0 then x else y)=0↔x=0 /\y=0:=by
 grind
theorem Xa {b:Bool}{x y:Int}(g:x≠0):(bif b then x else y)=0↔b=false /\y=0:=by
 grind
def zO:am Col ->am Val ->Prop
 | [],[]=>True
 |c::cs,v::vs=>yK c.t v /\zO cs vs
 |_,_=>False
theorem zO.len: ∀{cs:am Col}{vs:am Val},zO cs vs ->vs.length=cs.length
 | [],[],_=>rfl
 |c::cs,v::vs,h=>by simp only[aR];rw[zO.len h.2]
theorem zO.app: ∀{cs g:am Col}{vs i:am Val},zO cs vs ->zO g i ->zO (cs++g) (vs++i)
 | [],_,[],_,_,h=>h
 |c::cs,_,v::vs,_,h,j=>⟨h.1,zO.app h.2 j⟩
theorem zO.get: ∀{cs:am Col}{vs:am Val},zO cs vs -> ∀{i:Nat}(h:i<cs.length),yK cs[i].t (at0 vs i)
 |c::cs,v::vs,h,0,_=>h.1
 |c::cs,v::vs,h,i+1,hi=>zO.get h.2 (i:=i) (by grind)
theorem zO.map {α:Type}(f:α ->Col)(g:α ->Val): ∀{l:am α},(∀x∈l,yK (f x).t (g x)) ->zO (l.map f) (l.map g)
 | [],_=>trivial
 |x::r,h=>⟨h x (by simp),zO.map f g λy i=>h y (by simp[i])⟩
theorem zO.of: ∀{cs:am Col}{vs:am Val},vs.length=cs.length ->(∀i (h:i<cs.length),yK cs[i].t (at0 vs i)) ->zO cs vs
 | [],[],_,_=>trivial
 |c::cs,v::vs,g,h=>⟨h 0 (by simp),zO.of (by grind) λi hi=>h (i+1) (by grind)⟩
theorem zO.set {cs:am Col}{vs:am Val}(h:zO cs vs){i:Nat}(hi:i<cs.length){v:Val}(o:yK cs[i].t v):zO cs (vs.set i v):=by
 refine zO.of (by rw[cF];exact h.len) λj g=>?_
 have l:=h.len;by_cases e:i=j
 ·grind[at0]
 have:at0 (vs.set i v) j=at0 vs j:=by grind[at0]
 rw[this];exact h.get g
theorem acC: ∀{cs:am Col}{vs:am Val},vs.length=cs.length ->(ue cs vs=0↔zO cs vs)
 | [],[],_=>⟨λ_=>trivial,λ_=>rfl⟩
 |c::cs,v::vs,h=>by
  simp only[ue];rw[Wu,acC (by simpa using h)];exact⟨λh=>⟨acO h.1,h.2⟩,λh=>⟨ai7 h.1,h.2⟩⟩
theorem aoG {cols:am Col}: ∀{rows:am (am Val)},Xg cols rows=0↔ ∀r∈rows,zO cols r
 | []=>⟨λ_ r hr=>by(cases hr),λ_=>rfl⟩
 |a::j=>by
  simp only[Xg];rw[Xa (by omega),Wu,aoG];constructor
  ·grind[acC]
  intro h;have g:=h a (by simp);have i:=g.len<;>grind[acC]
theorem akZ (l:am Col)(s:ByteArray):decide (zj l s>=0)=true↔s∈l.map Col.name:=by
 unfold zj;have:=Xp (λx:Col=>zo x.name s) l 0
 grind[AM.beqS_iff]
theorem ak0 (l:am Col)(s:ByteArray):decide (zj l s>=0)=false↔s∉l.map Col.name:=by
 rw[<- akZ,Bool.not_eq_true]
def ColF (c:Col):Prop:=wC c.name=0 /\(c.t=1\/c.t=2\/c.t=3)
theorem aoa: ∀{l:am Col}{all:am Col}{i:Nat},all.drop i=l ->i<=all.length ->(Yd all i l=0↔(∀c∈l,ColF c)/\(∀c∈l,c.name∉(all.take i).map Col.name)/\(l.map Col.name).Nodup)
 | [],_,_,_,_=>⟨λ_=>⟨λ_ h=>(by cases h),λ_ h=>(by cases h),di⟩,λ_=>rfl⟩
 |c::r,all,i,h,hi=>by
  have o:i<all.length:=by
   grind
  have U:=zq o;rw[h]at U;obtain⟨e1,e2⟩:=List.cons.inj U;have p:all.take (i+1)=all.take i++[c]:=by grind
  simp only[Yd];rw[Wu,Xa (by omega),Xa (by omega),aoa e2.symm (by omega),ak0,p];have ht:(c.t !=1&&c.t !=2&&c.t !=3)=false↔(c.t=1\/c.t=2\/c.t=3):=by
   grind
  rw[ht];simp only[bI,bP,bE,cL,cg,List.nodup_cons];constructor
  ·rintro⟨j,I,J,P,h5,h6⟩;refine⟨λx g=>?_,λx g=>?_,?_,h6⟩
   ·rcases bC.1 g with rfl|g
    ·exact⟨j,J⟩
    grind
   ·grind
   grind
  rintro⟨j,I,J,P⟩;have R:=j c (by simp);refine⟨R.1,I c (by simp),R.2,λx g=>j x (by simp[g]),λx g=>?_,P⟩
  grind
structure ColsF (cols:am Col):Prop where
 few:cols.length<=32
 ok: ∀c∈cols,ColF c
 nd:(cols.map Col.name).Nodup
theorem u7 (t:Tbl):zL t=0↔ColsF t.cols /\t.rows.length<=20000 /\ ∀r∈t.rows,zO t.cols r:=by
 unfold zL;rw[Xa (by omega),Wu,aoa (by rfl) (bD _),aoG];simp only[bJ,bL,List.take_zero,cL,cr,not_false_eq_true,implies_true,true_and];constructor
 ·rintro⟨⟨l,o⟩,⟨g,i⟩,j⟩;exact⟨⟨by omega,g,i⟩,by omega,j⟩
 rintro⟨⟨l,g,i⟩,o,j⟩<;>grind
theorem aoi: ∀{cols:am Col}{row:am Val},zO cols row ->Qh cols row=true
 | [],[],_=>rfl
 |c::cs,v::r,h=>by
  simp only[Qh];rw[show(yY c.t v !=0)=false by simpa using ai7 h.1];exact aoi h.2
theorem aog {cols:am Col}{row:am Val}(h:zO cols row):Qg cols row=true:=by
 unfold Qg;rw[h.len]
 grind[aoi]
theorem arn: ∀{l pre:am Col},dupL pre l=false↔(∀c∈l,c.name∉pre.map Col.name)/\(l.map Col.name).Nodup
 | [],_=>⟨λ_=>⟨λ_ h=>(by cases h),di⟩,λ_=>rfl⟩
 |c::r,pre=>by
  simp only[dupL];have g:=arn (l:=r) (pre:=pre++[c]);cases i:decide (zj pre c.name>=0)
  ·rw[aB,g]
   grind[ak0]
  rw[aD]
  grind[akZ]
theorem am3: ∀c:Fin 256,aj7 ((c.val:Int))=false ->acW (c.val:Int)=true:=by decide+kernel
theorem aoo: ∀{l:am UInt8},idL l=true ->abU l=0
 | [],_=>rfl
 |c::r,h=>by
  simp only[idL]at h;simp only[abU];cases g:aj7 c.toNat
  ·rw[g,aB]at h;have:=am3 ⟨c.toNat,c.toNat_lt⟩ g;simp only at this;rw[this];exact aoo h
  grind
theorem VU {s:ByteArray}(h:yB s=true):wC s=0:=by
 unfold yB at h;unfold wC;cases g:(zo s ⟨#[]⟩||decide ((s.size:Int)>40)||decide (acL s<97)||decide (acL s>122))
 ·rw[g,aB]at h
  grind[aoo]
 grind
theorem atQ {l:am ByteArray}{s:ByteArray}:hasB l s=true↔s∈l:=by
 grind[hasB,AM.beqS_iff]
theorem alf {l:am ByteArray}{s:ByteArray}:hasB l s=false↔s∉l:=by rw[<- atQ,Bool.not_eq_true]
theorem ath {g:am ByteArray}{s:ByteArray}(h:yp g s=0):yB s=true /\s∉g:=by
 unfold yp at h;rw[Xa (by omega),Xa (by omega)]at h;exact⟨by grind,alf.1 h.2.1⟩
theorem JV {α:Type}(f:α ->ByteArray){E:am ByteArray ->am α ->Int}(i: ∀g x r,E g (x::r)=0 ->yp g (f x)=0 /\E (g++[f x]) r=0): ∀(l:am α) (g:am ByteArray),E g l=0 ->(∀x∈l,yB (f x)=true)/\(∀x∈l,f x∉g)/\(l.map f).Nodup
 | [],_,_=>⟨λ_ h=>(by cases h),λ_ h=>(by cases h),di⟩
 |x::r,g,h=>by
  obtain⟨j,o⟩:=i g x r h;obtain⟨p,I⟩:=ath j;obtain⟨J,i2,i3⟩:=JV f i r _ o
  grind
theorem aid {l g:am ByteArray}(h:vo g l=0):(∀x∈l,yB x=true)/\(∀x∈l,x∉g)/\l.Nodup:=by
 have:=JV (λs:ByteArray=>s) (E:=vo) (λg x r h=>by grind[vo]) l g h
 grind
theorem ank {l:am Itm}{g:am ByteArray}(h:x8 g l=0):(∀x∈l,yB x.nm=true)/\(∀x∈l,x.nm∉g)/\(l.map Itm.nm).Nodup:=
 JV Itm.nm (E:=x8) (λg x r h=>by grind[x8]) l g h
theorem ao5 {l:am Agg}{g:am ByteArray}(h:vG g l=0):(∀x∈l,yB x.nm=true)/\(∀x∈l,x.nm∉g)/\(l.map Agg.nm).Nodup:=
 JV Agg.nm (E:=vG) (λg x r h=>by grind[vG]) l g h
def kH:Val:=⟨0,0,⟨#[]⟩⟩
def Xq (c:ByteArray):Ex:=⟨2,c,kH,[]⟩
def Qd (n:Int):Ex:=⟨1,⟨#[]⟩,⟨2,n,⟨#[]⟩⟩,[]⟩
def Jg (op:Int)(a b:Ex):Ex:=⟨op,⟨#[]⟩,kH,[a,b]⟩
theorem axl {n:Int}(h:inB n=true):xl 1 ⟨#[]⟩ ⟨2,n,⟨#[]⟩⟩ 0=0:=by
 unfold xl vS YT yY;rw[h];simp[beqS_self];rfl
def inR (g:Nat)(lo hi:Int)(row:am Val):Bool:=(at0 row g).k==2&&(decide (lo<=(at0 row g).n)&&decide ((at0 row g).n<=hi))
theorem ain {α:Type}(p:α ->Bool): ∀(l:am α) (i:Nat),yj p (i:Int) l<0\/ ∃k,∃h:k<l.length,yj p (i:Int) l=((i+k:Nat):Int)/\p l[k]=true
 | [],i=>.inl (by simp[yj])
 |x::r,i=>by
  simp only[yj];cases g:p x
  ·have:=ain p r (i+1);simp only[aB];rcases this with h|⟨k,hk,e,j⟩
   ·grind
   right
   refine⟨k+1,by grind,?_,j⟩;have:yj p ((i:Int)+1) r=((i+1+k:Nat):Int):=e;omega
  right
  exact⟨0,by simp,by simp,g⟩
theorem ZJ {cols:am Col}{s:ByteArray}(h: ¬zj cols s<0): ∃h:(zj cols s).toNat<cols.length,qH cols (zj cols s)=cols[(zj cols s).toNat]/\(qH cols (zj cols s)).name=s:=by
 have:=ain (λx:Col=>zo x.name s) cols 0
 grind[zj,qH,AM.beqS_iff]
theorem acz {cols:am Col}{g:am ByteArray}(h:takeErr cols g=false): ∀s∈g,¬zj cols s<0:=λs hs=>by
 grind[takeErr]
theorem ad2 {cols:am Col}{g:am ByteArray}(h:takeErr cols g=false):(takeC cols g).map Col.name=g:=by
 unfold takeC;rw[List.map_map];conv=>rhs;rw[<- List.map_id' g]
 exact List.map_congr_left λs hs=>(ZJ (acz h s hs)).2.2
theorem asZ {cols:am Col}{g:am ByteArray}(h:takeErr cols g=false): ∀c∈takeC cols g,c∈cols:=λc i=>by
 unfold takeC at i;obtain⟨s,hs,rfl⟩:=ck.1 i;obtain⟨j,l,_⟩:=ZJ (acz h s hs)
 grind
theorem zO.pick {cols:am Col}{r:am Val}(hr:zO cols r){g:am ByteArray}(h:takeErr cols g=false):zO (takeC cols g) (zn r (zh cols g)):=by
 unfold zn zh takeC;rw[List.map_map];refine zO.map _ _ λs hs=>?_
 obtain⟨i,j,_⟩:=ZJ (acz h s hs);rw[j];exact hr.get i
theorem ar9 (r:am Val)(a b:am Int):zn r (a++b)=zn r a++zn r b:=by simp[zn]
theorem arl {vs:am Val}{i:Nat}{v:Val}{r:am Val}(h:vs.drop i=v::r):at0 vs i=v /\vs.drop (i+1)=r:=by
 grind[aR,zq,at0]
theorem zO.rest (g:am ByteArray){y:am Val}: ∀{tc:am Col}{i:Nat},zO tc (y.drop i) ->zO (tc.filter λc=>!hasB g c.name) (zn y (oth g i tc))
 | [],i,_=>trivial
 |c::r,i,h=>by
  cases j:y.drop i with
  |nil=>rw[j]at h;exact False.elim h
  |cons v vs=>
   rw[j]at h;obtain⟨l,o⟩:=arl j;have I:=zO.rest g (y:=y) (tc:=r) (i:=i+1) (by rw[o];exact h.2);simp only[Go.Proofs.YtkdijaiaplkliaaGreatDoor.oth];cases p:(!hasB g c.name)
   ·grind
   rw[cX,p,cn rfl,ar9];refine zO.app (cs:=[c]) ?_ I;show zO [c] [at0 y ((i:Int)).toNat];rw[show((i:Int)).toNat=i by omega,l];exact⟨h.1,trivial⟩
theorem aeE (g:am ByteArray): ∀(l:am Col) (i:Nat),(oth g i l).length=(l.filter λc=>!hasB g c.name).length
 | [],_=>rfl
 |c::r,i=>by
  simp only[oth,aA];rw[aeE g r (i+1)];cases j:(!hasB g c.name)
  ·rw[cX,j];simp
  rw[cX,j];simp;omega
theorem atP (a b:am ByteArray)(s:ByteArray):hasB (a++b) s=(hasB a s||hasB b s):=by simp[hasB]
theorem abN (g cs:am ByteArray)(tc:am Col):keepS g cs tc=tc.filter λc=>!hasB (cs++g) c.name:=by
 unfold keepS;congr 1
 funext c
 grind[atP]
theorem zO.nulls: ∀(l:am Col),zO l (aJ l.length yf)
 | []=>trivial
 |c::r=>⟨arB _,zO.nulls r⟩
theorem axi {l:am Int}{w:Int}(h:qA l w=true): ∀x∈l,x=w\/x=0:=λx i=>by
 cases g:vq x w
 ·grind[qA]
 simp_all[vq]
theorem arC {l:am Int}{i:Nat}{P:Int ->Prop}(h: ∀x∈l,P x)(h0:P 0):P (l.getD i 0):=by
 grind
theorem avq {cols:am Col}(hc: ∀c∈cols,ColF c){e:Ex}(he:e.err=0)(I:(e.ty cols).2=0):0<=(e.ty cols).1 /\(e.ty cols).1<=3:=by
 obtain⟨op,j,v,ks⟩:=e;have p:xl op j v ks.length=0:=by
  grind[Ex.err]
 obtain⟨ac,g⟩:=ah5 I;have hT:(Ex.ty cols (.mk op j v ks))=vU cols op j v (tyL cols ks).2:=by
  grind[Ex.ty]
 rw[hT];obtain⟨_,aa,ab⟩:=Qv p;generalize(tyL cols ks).2=l at*;have ho:op=1\/op=2\/op=3\/op=4\/op=5\/op=6\/op=7\/op=8\/op=9\/op=10\/op=11\/op=12\/op=13\/op=14\/op=15\/op=16:=by omega
 rcases ho with rfl|rfl|rfl|rfl|rfl|rfl|rfl|rfl|rfl|rfl|rfl|rfl|rfl|rfl|rfl|rfl
 ·show 0<=v.k /\v.k<=3;have o:=KF (by rfl) p;unfold YT at o;have:=acO (Wu.1 o).1;rcases this with rfl|⟨h,_⟩|⟨h,_⟩|⟨h,_⟩
  ·exact⟨Int.le_refl _,by show(0:Int)<=3;omega⟩
  all_goals omega
 ·have g:(bif decide (zj cols j<0)then((0:Int),(16:Int))else(vX cols (zj cols j),0)).2=0:=g;have r: ¬zj cols j<0:=λh=>by
   grind
  show 0<=(bif decide (zj cols j<0)then((0:Int),(16:Int))else(vX cols (zj cols j),0)).1 /\(bif decide (zj cols j<0)then((0:Int),(16:Int))else(vX cols (zj cols j),0)).1<=3;rw[decide_eq_false r];obtain⟨R,_,_⟩:=ZJ r;have h7:vX cols (zj cols j)=cols[(zj cols j).toNat].t:=by grind[vX]
  simp only[aB];rw[h7];have:=(hc _ (aI R)).2;omega
 ·grind[vU,yF]
 ·grind[vU,yF]
 ·grind[vU,yF]
 ·grind[vU,yF]
 ·grind[vU,yF]
 ·grind[vU,yF]
 ·grind[vU,yF]
 ·grind[vU,yF]
 ·grind[vU,yF]
 ·grind[vU,yF]
 ·grind[vU,yF]
 ·grind[vU,yF]
 ·grind[vU,yF]
 have g:(Yb j l).2=0:=g;show 0<=(Yb j l).1 /\(Yb j l).1<=3;unfold Yb at g⊢;generalize(zo j ⟨#[109,105,110]⟩||zo j ⟨#[109,97,120]⟩)=q1 at*;generalize zo j ⟨#[97,98,115]⟩=q2 at*;generalize zo j ⟨#[108,101,110]⟩=q3 at*;cases q1 with
 |true=>
  simp only[aD]at g⊢;obtain⟨U,h2⟩:=yF g;rw[h2,acY];have J: ∀x∈l,0<=x /\x<=3:=λx hx=>by
   simp only[Bool.or_eq_true]at U
   grind[axi]
  have r:=arC (i:=0) (P:=λx=>0<=x /\x<=3) J (by omega);have R:=arC (i:=1) (P:=λx=>0<=x /\x<=3) J (by omega);omega
 |false=>
  simp only[aB]at g⊢;cases q2 with
  |true=>simp_all[yF]
  |false=>
   simp only[aB]at g⊢;cases q3<;>simp_all[yF]
theorem amu {cols:am Col}(p: ∀c∈cols,ColF c): ∀{l:am Itm},(∀x∈l,x.e.chk=0 /\yB x.nm=true) ->(uc cols l).1=0 ->(uc cols l).2=l.map (λx=>(⟨x.nm,(x.e.ty cols).1⟩:Col))/\ ∀x∈l,(x.e.ty cols).2=0 /\ColF ⟨x.nm,(x.e.ty cols).1⟩
 | [],_,_=>⟨rfl,λ_ h=>by(cases h)⟩
 |x::r,I,h=>by
  simp only[uc]at h⊢;cases i:((x.e.ty cols).2 !=0)
  ·rw[i]at h;cases o:((x.e.ty cols).1==0)
   ·rw[o]at h;cases J:((uc cols r).1 !=0)
    ·rw[J]at h;obtain⟨P,i2⟩:=amu p (λy j=>I y (by simp[j])) (l:=r) (by grind);simp only[aB,bE];have i:(x.e.ty cols).2=0:=by grind
     have o:(x.e.ty cols).1≠0:=by grind
     have g:=I x (by simp);have hr:=avq p (V8 g.1) i;refine⟨by rw[P],λy j=>?_⟩;rcases bC.1 j with rfl|j
     ·exact⟨i,VU g.2,by grind⟩
     grind
    simp_all
   grind
  simp_all
theorem au5 {cols:am Col}(g: ∀c∈cols,ColF c){l:am Itm}(i: ∀x∈l,x.e.chk=0 /\yB x.nm=true)(h:(uc cols l).1=0){row:am Val}(hr:zO cols row):zO (uc cols l).2 (itR cols row l):=by
 grind[amu,itR,zO.map,Ex.tyE,arv,aog]
theorem atH (l:am Val):yK 2 (KM l):=by
 grind[KM,yK,aqr,JF]
theorem alF: ∀{l:am Val}{m:Val}{P:Val ->Prop},P m ->(∀v∈l,P v) ->P (jk m l)
 | [],_,_,h,_=>h
 |v::r,m,P,h,g=>by
  simp only[jk];refine alF ?_ λx i=>g x (by simp[i])
  grind
theorem alB: ∀{l:am Val}{m:Val}{P:Val ->Prop},P m ->(∀v∈l,P v) ->P (Qr m l)
 | [],_,_,h,_=>h
 |v::r,m,P,h,g=>by
  simp only[Qr];refine alB ?_ λx i=>g x (by simp[i])
  grind
theorem ao8 {l:am Val}{i:Nat}{P:Val ->Prop}(h: ∀v∈l,P v)(h0:P yf):P (at0 l i):=by
 grind[at0]
theorem akC {fn:ByteArray}{l:am Val}{t:Int}(J:l.length<=20000)(g:zo fn jJ=false -> ∀v∈l,yK t v)(hs:zo fn ab7=true ->zo fn jJ=false ->t=2)(j:zo fn jJ=true ->t=2):yK t (Uj fn l):=by
 unfold Uj;cases p:zo fn jJ
 ·have g:=g p;have i: ∀v∈yw l,yK t v:=λv o=>g v (List.mem_filter.1 o).1
  cases I:zo fn ab7
  ·simp only[aB];cases(zo fn al3&&decide ((l.length:Int)>0))
   ·simp only[aB];have r: ∀v∈(yw l).drop 1,yK t v:=λv o=>i v (cA o)
    cases(zo fn auG&&decide (((yw l).length:Int)>0))
    ·simp only[aB];cases(zo fn auF&&decide (((yw l).length:Int)>0))
     ·exact .inl rfl
     exact alB (ao8 i (.inl rfl)) r
    exact alF (ao8 i (.inl rfl)) r
   exact ao8 g (.inl rfl)
  grind[atH]
 rw[j p];simp only[aD];exact jh (WL (by omega) (by omega))
theorem ad8 {cols:am Col}: ∀{l:am Agg},(xu cols l).1=0 ->(xu cols l).2=l.map (λa=>(ZA cols a).2)/\ ∀a∈l,(ZA cols a).1=0
 | [],_=>⟨rfl,λ_ h=>by(cases h)⟩
 |a::r,h=>by
  simp only[xu]at h⊢;cases i:((ZA cols a).1 !=0)
  ·rw[i]at h;simp only[aB]at h⊢;obtain⟨j,i2⟩:=ad8 h;refine⟨by rw[j,bE],λy g=>?_⟩;rcases bC.1 g with rfl|g
   ·simpa using i
   exact i2 y g
  simp_all
theorem aib (cols:am Col)(a:Agg):(ZA cols a).2.name=a.nm:=by
 unfold ZA;cases(!zo a.fn jJ)
 ·rfl
 simp only[aD];cases decide (zj cols a.col<0)
 ·simp only[aB]
  grind
 rfl
theorem avX {cols:am Col}(R: ∀c∈cols,ColF c){a:Agg}(hid:yB a.nm=true)(h:(ZA cols a).1=0){rows:am (am Val)}(U:rows.length<=20000)(hr: ∀r∈rows,zO cols r):ColF (ZA cols a).2 /\yK (ZA cols a).2.t (Uj a.fn (Q5 cols rows a)):=by
 have g:wC (ZA cols a).2.name=0:=by grind[aib,VU]
 have j:(Q5 cols rows a).length<=20000:=by grind[ak1]
 unfold ColF;refine⟨⟨g,?_⟩,?_⟩;all_goals clear g
 all_goals unfold ZA at h⊢
 all_goals cases o:zo a.fn jJ
 ·rw[o]at h;simp only[cj,aD]at h⊢;cases i:decide (zj cols a.col<0)
  ·rw[i]at h;simp only[aB]at h⊢;cases P:(zo a.fn ab7&&(qH cols (zj cols a.col)).t !=2)
   ·obtain⟨p,I,_⟩:=ZJ (aG i);simp only[aB];rw[I];exact(R _ (aI p)).2
   grind
  grind
 ·grind
 ·rw[o]at h;simp only[cj,aD]at h⊢;cases i:decide (zj cols a.col<0)
  ·rw[i]at h;simp only[aB]at h⊢;cases P:(zo a.fn ab7&&(qH cols (zj cols a.col)).t !=2)
   ·obtain⟨p,I,_⟩:=ZJ (aG i);simp only[aB];refine akC j (λ_ v l=>?_) (λhs _=>?_) (λh=>by grind)
    ·unfold Q5 at l;rw[o,show decide (zj cols a.col>=0)=true by grind]at l;simp only[cj,Bool.and_true,aD]at l;obtain⟨r,J,rfl⟩:=ck.1 l;rw[I];exact(hr r J).get p
    grind
   grind
  grind
 grind[akC]
theorem apy {at_:am Int}{P:Gr ->Prop}{gs:am Gr}{row:am Val}(h: ∀g∈gs,P g)(o: ∀g j:Gr,g.key=j.key ->P g ->P j)(hk: ∀p,P ⟨zn row at_,p⟩): ∀g∈WK at_ gs row,P g:=by
 have hi: ∀g∈ZM gs (zn row at_),P g:=by
  unfold ZM;cases YH gs (zn row at_)
  ·intro g i;simp only[aB,bP,cg]at i
   grind
  exact h
 unfold WK Z9;intro g i;cases l:(ZM gs (zn row at_))[qu gs (zn row at_)]? with
 |none=>grind
 |some x=>
  rw[l]at i;rcases cT i with i|rfl
  ·grind
  exact o x _ rfl (hi x (List.mem_of_getElem? l))
theorem ald (at_:am Int){P:Gr ->Prop}(o: ∀g l:Gr,g.key=l.key ->P g ->P l): ∀(rows:am (am Val)) (i:am Gr),(∀g∈i,P g) ->(∀r∈rows,∀j,P ⟨zn r at_,j⟩) -> ∀g∈rows.foldl (WK at_) i,P g
 | [],i,h,_=>h
 |r::j,i,h,hk=>by
  rw[cE];exact ald at_ o j _ (apy h o (hk r (by simp))) λx p=>hk x (by simp[p])
theorem ang (at_:am Int)(rows:am (am Val)): ∀g∈wW at_ rows,(at_=[]/\g.key=[])\/ ∃r∈rows,g.key=zn r at_:=by
 unfold wW;split
 ·grind
 intro g i;exact .inr (ald at_ (P:=λg=> ∃r∈rows,g.key=zn r at_) (λg j e h=>by grind) rows [] (λ_ h=>by cases h) (λr hr _=>⟨r,hr,rfl⟩) g i)
theorem zO.rest0 (g cs:am ByteArray){tc:am Col}{y:am Val}(h:zO tc y):zO (keepS g cs tc) (zn y (oth (cs++g) 0 tc)):=by
 grind[abN,zO.rest]
theorem arI {left right g:am Int}{xs ys:am (am Val)}{z:am Val}(h:z∈xO left right g xs ys): ∃x∈xs,∃y∈ys,z=x++zn y g:=by
 unfold xO at h;obtain⟨x,j,h⟩:=bZ.1 h;unfold abC at h;cases i:(zn x left).any (qI yf)
 ·rw[i,aB]at h
  grind[wE]
 grind
theorem zO.setN {cols:am Col}{R:am Val}(h:zO cols R){k n:Int}(hk:k.toNat<cols.length)(o:cols[k.toNat].t=2)(l:(at0 R k.toNat).k≠0)(hi:inB n=true):zO cols (setN R k n)/\ ∀j,(at0 (setN R k n) j).k=(at0 R j).k:=by
 have g:=h.get hk;rw[o]at g;obtain⟨m,_,e⟩:=g.num l rfl;have p:=h.len;have i:Go.Proofs.YtkdijaiaplkliaaGreatDoor.setN R k n=R.set k.toNat (alL n):=by
  unfold Go.Proofs.YtkdijaiaplkliaaGreatDoor.setN;rw[e];rfl
 rw[i];refine⟨h.set hk (by grind[jh]),λj=>?_⟩
 grind[at0,alL]
theorem acI {x m:am Val}{i:Nat}(h:i<x.length):at0 (x++m) i=at0 x i:=by grind[at0]
theorem adc {a b:Val}(h:xK a b=true):a.k=2 /\b.k=2 /\a.n<b.n:=by
 simp_all[xK]
theorem zO.inB {cols:am Col}{R:am Val}(h:zO cols R){k:Nat}(hk:k<cols.length)(i:(at0 R k).k=2):inB (at0 R k).n=true:=by
 obtain⟨e,_⟩:=(h.get hk).kind (by grind);obtain⟨m,j,g⟩:=(h.get hk).num (by grind) (by rw[<- e,i];rfl);rw[g];exact j
theorem Q9 {b:Bool}{x y:Int}(g:Go.Proofs.YtkdijaiaplkliaaGreatDoor.inB x=true)(i:Go.Proofs.YtkdijaiaplkliaaGreatDoor.inB y=true):Go.Proofs.YtkdijaiaplkliaaGreatDoor.inB (zU b x y)=true:=by
 grind[zU]
structure Spn (cols:am Col)(p q:Int):Prop where
 p1:p.toNat<cols.length
 p2:cols[p.toNat].t=2
 q1:q.toNat<cols.length
 q2:cols[q.toNat].t=2
theorem JD {cols:am Col}{s:ByteArray}(h:colInt cols s=0): ∃h:(zj cols s).toNat<cols.length,cols[(zj cols s).toNat].t=2:=by
 unfold colInt at h;rw[Xa (by omega),Xa (by omega)]at h
 grind[ZJ]
theorem amK {cols:am Col}(h:intErr cols [sFrom,sTo]=0):Spn cols (zj cols sFrom) (zj cols sTo):=by
 simp only[intErr]at h;rw[Wu,Wu]at h;obtain⟨g,a2⟩:=JD h.1;obtain⟨i,j⟩:=JD h.2.1;exact⟨g,a2,i,j⟩
theorem aj3 {A B:am Col}{i:Nat}(h:i<A.length)(g:A[i].t=2): ∃h:i<(A++B).length,(A++B)[i].t=2:=
 ⟨by grind,by grind⟩
theorem ar3 {cols tc K:am Col}{p q J P:Int}{left right g:am Int}{R br:am (am Val)}(hs:Spn cols p q)(o:Spn tc J P)(ha: ∀r∈R,zO cols r)(hb: ∀r∈br,zO tc r)(hm: ∀r∈br,zO K (zn r g)): ∀z∈xI p q J P left right g R br,zO (cols++K) z:=by
 intro z i;unfold xI at i;obtain⟨x,hx,i⟩:=bZ.1 i;unfold WV at i;cases U:xK (at0 x p.toNat) (at0 x q.toNat)
 ·grind
 rw[U,aD]at i;unfold wZ at i;obtain⟨y,hy,i⟩:=bZ.1 i;cases l:VY J P left right (at0 x p.toNat).n (at0 x q.toNat).n x y
 ·grind
 rw[l,aD,cg]at i;subst i;unfold VY at l;simp only[aS]at l;obtain⟨l,_⟩:=l;have j:=ha x hx;have I:=hb y hy;obtain⟨k1,k2,_⟩:=adc U;obtain⟨k3,k4,_⟩:=adc l;have hR:zO (cols++K) (x++zn y g):=j.app (hm y hy);have hl:=j.len;obtain⟨P1,P2⟩:=aj3 (B:=K) hs.p1 hs.p2;obtain⟨Q1,Q2⟩:=aj3 (B:=K) hs.q1 hs.q2;have i1:=j.inB hs.p1 k1;have i2:=j.inB hs.q1 k2;have i3:=I.inB o.p1 k3;have i4:=I.inB o.q1 k4;unfold gX;have aa:=hs.p1;have ab:=hs.q1;obtain⟨s1,s2⟩:=hR.setN P1 P2 (by grind[acI]) (Q9 (b:=true) i1 i3);exact(s1.setN Q1 Q2 (by grind[acI]) (Q9 (b:=false) i2 i4)).1
theorem aow {p i:Int}{left right:am Int}{x:am Val}: ∀{ys:am (am Val)}{b:aP (am Val)}{P:am Val ->Prop},(∀z,b=some z ->P z) ->(∀y∈ys,P y) -> ∀z,ys.foldl (λb y=>bif ac0 (at0 x p.toNat) (at0 y i.toNat) (ZB (zn x left) (zn y right))then aht i y b else b) b=some z ->P z
 | [],b,P,h,_,z,j=>h z j
 |y::r,b,P,h,I,z,j=>by
  rw[cE]at j;refine aow (P:=P) (ys:=r) ?_ (λw g=>I w (by simp[g])) z j;intro w g;cases l:ac0 (at0 x p.toNat) (at0 y i.toNat) (ZB (zn x left) (zn y right))
  ·grind
  rw[l,aD]at g;cases b with
  |none=>cases g;grind
  |some u=>
   simp only[aht]at g;cases o:decide ((at0 y i.toNat).n>=(at0 u i.toNat).n)
   ·simp_all
   rw[o,aD]at g;grind
theorem arY {cols K:am Col}{p i:Int}{left right g:am Int}{br:am (am Val)}(I:g.length=K.length)(j: ∀r∈br,zO K (zn r g)){x:am Val}(l:zO cols x):zO (cols++K) (vf p i left right g br x):=by
 unfold vf;refine l.app ?_;unfold kG;cases h:br.foldl (λb y=>bif ac0 (at0 x p.toNat) (at0 y i.toNat) (ZB (zn x left) (zn y right))then aht i y b else b) none with
 |none=>
  show zO K (aJ g.length yf)
  grind[zO.nulls]
 |some z=>exact aow (P:=λr=>zO K (zn r g)) (λz o=>by cases o) j z h
def PcF (K:am Col)(x:Pc):Prop:=zO K x.key /\inB x.a=true /\inB x.b=true
theorem ar7 {cols K:am Col}{at_:am Int}{p q:Int}{rows:am (am Val)}(hs:Spn cols p q)(hr: ∀r∈rows,zO cols r /\zO K (zn r at_)): ∀z∈ux at_ p q rows,PcF K z:=by
 intro z g;unfold ux at g;obtain⟨x,l,g⟩:=bZ.1 g;unfold aeH at g;cases i:(xK (at0 x p.toNat) (at0 x q.toNat)&&decide ((at0 x p.toNat).n>=0))
 ·grind
 rw[i,aD,cg]at g;subst g;simp only[aS]at i;obtain⟨o,I,_⟩:=adc i.1;obtain⟨j,hk⟩:=hr x l;exact⟨hk,j.inB hs.p1 o,j.inB hs.q1 I⟩
theorem at9 {K:am Col}{g:am Pc}{x:Pc}(h: ∀z∈g,PcF K z)(l:PcF K x): ∀z∈UR g x,PcF K z:=by
 have j: ∀z∈g++[x],PcF K z:=λz i=>by
  grind
 unfold UR;split
 ·exact j
 rename_i y o;cases(xN y.key x.key&&_)
 ·exact j
 intro z i;rcases cT i with i|rfl
 ·exact h z i
 have:=h y (am.mem_of_getLast? o);exact⟨this.1,this.2.1,by show inB (zU true y.b x.b)=true;exact Q9 this.2.2 l.2.2⟩
theorem at7 {K:am Col}{l:am Pc}(h: ∀z∈l,PcF K z): ∀z∈Zk l,PcF K z:=by
 have gen: ∀(l g:am Pc),(∀z∈l,PcF K z) ->(∀z∈g,PcF K z) -> ∀z∈l.foldl UR g,PcF K z:=by
  intro l;induction l<;>grind[at9,aU]
 exact gen l [] h (λz i=>by cases i)
theorem alh {α:Type}(c:α ->α ->Int)(l:am α): ∀z∈yS c l,z∈l:=by
 have gen: ∀(l g:am α),∀z∈l.foldl (λg x=>YI c x g) g,z∈g\/z∈l:=by
  intro l;induction l<;>grind[XI]
 intro z i;rcases gen l [] z i with h|h<;>grind
theorem asD {α:Type}(c:α ->α ->Int)(l:am α):(yS c l).length=l.length:=by
 have gen: ∀(l g:am α),(l.foldl (λg x=>YI c x g) g).length=g.length+l.length:=by
  intro l;induction l with
  |nil=>grind
  |cons x r i=>
   intro g;rw[cE,i,(XI c x g).length_eq]
   grind
 have:=gen l [];rw[b9,Nat.zero_add]at this;exact this
theorem aph {cols K:am Col}{at_:am Int}{p q:Int}{rows:am (am Val)}(hs:Spn cols p q)(hr: ∀r∈rows,zO cols r /\zO K (zn r at_)): ∀z∈ZI at_ p q rows,zO (K++[⟨sFrom,2⟩,⟨sTo,2⟩]) z:=by
 intro z g;unfold ZI at g;obtain⟨x,i,rfl⟩:=ck.1 g;have:=at7 (λz g=>ar7 hs hr z (alh Vc _ z g)) x i;unfold Zw;exact this.1.app ⟨jh this.2.1,jh this.2.2,trivial⟩
theorem api (at_:am Int)(p q:Int)(rows:am (am Val)):(ZI at_ p q rows).length<=rows.length:=by
 unfold ZI;rw[cG];have g:=aez (yS Vc (ux at_ p q rows)) (yS Vc (ux at_ p q rows)).length (aM _)
 grind[asD,abX]
end
end Go.Proofs.YtkdijaiaplkliaaGreatDoor
set_option linter.unusedVariables false
namespace Go.Proofs.YtkdijaiaplkliaaGreatDoor
open Go Go.Proofs Go.RowKit Go.Lib
section
variable {P:Program}
theorem Wr (w:aE){ops:aY Oper}{rest:am Oper}{o:Oper}{a:Act}{Q:Exit ->Act ->aE ->Prop}(g:o.guard=none)(d s:Operand)(t t':TypeId)
 (l:o.op= .call {callee:=.builtin .copy,args:= #[d,s],argTypes:= #[t,t']}) (v u:Value) (j:a.eval d=v) (hs:a.eval s=u) {v':Value}{w':aE}
 (hr:(bK #[t,t'] o.type #[v,u]).run P w= .ok v' w') (h:wpList P ops Q rest (a.put o.dst v') w'):wpList P ops Q (o::rest) a w:=
 wpList_plain g λK i=>by
  unfold Oper.wp execOp;simp only[l,resolve,invoke,builtin,Sem.run_bind,Sem.run_pure,Result.andThen_ok,List.map_toArray,bE,cL,j,hs,hr];exact i _ _ h
theorem acw {ops:aY Oper}{o:Oper}{a:Act}{w:aE}{K:Act ->aE ->Prop}{Q:Exit ->Act ->aE ->Prop}{E:Prop}
 (p:o.guard=none) (d x:Operand) (i sT:TypeId) (g:o.op=Op.call {callee:=Callee.builtin Builtin.copy,args:= #[d,x],argTypes:= #[i,sT]})
 (v u:Value) (l:a.eval d=v) (I:a.eval x=u) {v':Value}{w':aE}(hr:(bK #[i,sT] o.type #[v,u]).run P w= .ok v' w') (j:K (a.put o.dst v') w'):
 if dw o (yielded ops a.tmps)=true then Oper.wp P o a w K Q else E:=by
 have r:dw o (yielded ops a.tmps)=true:=by simp[dw,p]
 rw[cn r];unfold Oper.wp;simp[execOp,g,resolve,invoke,builtin,l,I,hr,cS];exact j
end
theorem Z2 (g:Nat)(t:TypeId): ∀(vs:am Value) (o:Nat) (w:aE) (i:aY Value),w.heap[g]? =some (.cells i t (0,0)) ->o+vs.length<=i.size ->
 (∃j,(w.setCells g o vs).heap[g]? =some (.cells j t (0,0))/\j.size=i.size /\j.toList=i.toList.take o++vs++i.toList.drop (o+vs.length))/\w.grownBy (w.setCells g o vs) (some g)/\(w.setCells g o vs).drawn=w.drawn
 | [],o,w,i,h,_=>⟨⟨i,h,rfl,by simp⟩,⟨rfl,rfl,rfl,aM _,λ_ _ _=>rfl⟩,rfl⟩
 |v::r,o,w,i,h,hl=>by
  simp only[aR]at hl;have P:=heap_setCell_same w g o i t v h;obtain⟨⟨j,R,U,h4⟩,l,h6⟩:=Z2 g t r (o+1) (w.setCell ⟨g,o,none⟩ v) (i.setIfInBounds o v) P (by simp;omega);refine⟨⟨j,R,by rw[U];simp,?_⟩,?_,h6⟩
  ·rw[h4,Array.toList_setIfInBounds];have J:o<i.toList.length:=by simp;omega
   rw[List.set_eq_take_append_cons_drop,cn J];have p:(i.toList.take o).length=o:=by rw[aO];omega
   rw[List.take_append,p,show o+1 - o=1 by omega,aT (by omega)];rw[List.drop_append,p,bB (by omega:(i.toList.take o).length<=o+1+r.length)];rw[show o+1+r.length - o=r.length+1 by omega];simp only[List.take_succ_cons,List.take_zero,List.drop_succ_cons,cH,List.drop_drop,bV,bM,aR];rw[show o+1+r.length=o+(r.length+1)by omega]
  exact⟨l.os,l.tape,l.output,aK (by simp) l.size,λk hk I=>(l.block k (by simpa using hk) I).trans (cK w ⟨g,o,none⟩ k v (λe=>I (by rw[e])))⟩
theorem aiC {w:aE}{base g n cap:Nat}{xs:am Value}(l:w.ownsRow base tG 2 (.slice (some ⟨g,0,none⟩) n cap) n xs): ∃i,w.heap[g]? =some (.cells i tG (0,0))/\n<=cap /\cap<=maxLen /\i.size=cap*2 /\i.toList.take (n*2)=xs /\base<=g:=by
 rcases l.2 with⟨o,_⟩|⟨U,J,i,o,P,R,I,p,r,j⟩
 ·simp at o
 simp only[Value.slice.injEq,Option.some.injEq,Addr.mk.injEq,and_true,true_and]at o;obtain⟨⟨rfl,_⟩,rfl⟩:=o;exact⟨i,R,I,p,r,j,P⟩
theorem Qx {P:Program}(w:aE)(U sT ty elem:TypeId)(b o g p:Nat)(a:dn)(l I:Nat)(cs:am Value)
 (hu:P.underlying U=some (.slice elem)) (hs:(P.info? elem).map (·.size)=some 2) (hn:cs.length=cM l g*2)
 (r: ∀j v,cs[j]? =some v ->w.cell? (a.add j)=some v) (hc: ∀j,j<cs.length ->(w.cell? ⟨b,o+j,none⟩).isSome=true) (hf: ∀j,j<cs.length ->w.frozen? ⟨b,o+j,none⟩=false) (h1: ∀v∈cs,v.oneCell'=true):
 (bK #[U,sT] ty #[.slice (some ⟨b,o,none⟩) g p,.slice (some a) l I]).run P w= .ok (goInt (cM l g)) (w.setCells b o cs):=by
 have hl:=run_loadCells_list (P:=P) w a cs r;have R:=run_storeCells_cells (P:=P) b o cs 0 w (by simpa using hc) (by simpa using hf) h1;cases J:P.info? elem with
 |none=>simp[J]at hs
 |some i=>
  have hi:i.size=2:=by simpa[J]using hs
  simp[bK,run_underlying hu,Builtin.lenOf,dx,sizeOf,typeInfo,J,hi,<- hn,hl,R]
theorem UI (b:Nat)(vs:am Value)(o:Nat)(w:aE)(h: ∀j,j<vs.length ->(w.cell? ⟨b,o+j,none⟩).isSome=true)(k:Nat)(hk:(w.cell? ⟨b,k,none⟩).isSome=true):((w.setCells b o vs).cell? ⟨b,k,none⟩).isSome=true:=by
 by_cases g:o<=k /\k<o+vs.length
 ·have:=aE.cell?_setCells_in b vs o w h (k - o) (by omega);rw[show o+(k - o)=k by omega]at this;rw[this];rfl
 rw[aE.cell?_setCells_out b vs o w ⟨b,k,none⟩ (λ_ _=>by show k<o\/o+vs.length<=k;omega)];exact hk
theorem atT (L:am Value)(xs:am Value)(n i:Nat)(k r:Value)(p:L.take (n*2)=xs)(R:(n+1)*2<=L.length)(hi:i<n):
 let g:=L.take ((i+1)*2)++xs.drop (i*2)++L.drop ((i+1)*2+(xs.drop (i*2)).length)
 (g.take (i*2)++[k,r]++g.drop (i*2+2)).take ((n+1)*2)=xs.take (2*i)++[k,r]++xs.drop (2*i):=by
 intro g;have l:xs.length=n*2:=by rw[<- p,aO];omega
 have P:(xs.drop (i*2)).length=n*2 - i*2:=by rw[bN,l]
 have I:g.take (i*2)=xs.take (i*2):=by
  show(L.take ((i+1)*2)++xs.drop (i*2)++L.drop ((i+1)*2+(xs.drop (i*2)).length)).take (i*2)=_;rw[bV,cB (by rw[aO];omega),List.take_take,<- p,List.take_take];congr 1;omega
 have J:g.drop (i*2+2)=xs.drop (i*2)++L.drop ((i+1)*2+(xs.drop (i*2)).length):=by
  show(L.take ((i+1)*2)++xs.drop (i*2)++L.drop ((i+1)*2+(xs.drop (i*2)).length)).drop (i*2+2)=_;have o:(L.take ((i+1)*2)).length=i*2+2:=by rw[aO];omega
  rw[bV,<- o,List.drop_left]
 rw[I,J,show 2*i=i*2 by omega];have j:(xs.take (i*2)++[k,r]++xs.drop (i*2)).length=(n+1)*2:=by
  simp only[aA,aR,b9,P,aO,l];omega
 rw[<- bV,<- j,dj]
set_option maxRecDepth 100000 in
set_option maxHeartbeats 4000000 in
theorem alk (w:aE)(base g n cap i:Nat)(xs:am Value)(o:w.ownsRow base tG 2 (.slice (some ⟨g,0,none⟩) n cap) n xs)(hn:n<=1000000)(hi:i<n)(an:n+1<=cap)
 (I:Nat) (k r:Value) (hv:w.heap[I]? =some (.cells #[k,r] tG (0,0))) (ag:I≠g) (h2:k.oneCell'=true) (h3:r.oneCell'=true) (ah: ∀v∈xs,v.oneCell'=true):
 cq Tryz.prog 199 #[.slice (some ⟨g,0,none⟩) n cap,.int .i64 i,.slice (some ⟨I,0,none⟩) 1 1] w λe w'=>e= .returned (.slice (some ⟨g,0,none⟩) (n+1) cap)/\w'=(w.drew.setCells g ((i+1)*2) (xs.drop (i*2))).setCells g (i*2) [k,r]:=by
 obtain⟨ar,hg,a2,az,aj,ao,ay⟩:=aiC o;have a5: ¬((i:Int)=(n:Int)):=by omega
 have aq:xs.length=n*2:=o.1;have af:(Tryz.prog.info? tG).map (·.size)=some 2:=by
  obtain⟨i0,ak,h0,h1,h2⟩:=info_parts apD;rw[ak];simp[h1]
 have al:(callFunc 226 #[.slice (some ⟨I,0,none⟩) 1 1,.slice (some ⟨g,(i+1)*2,none⟩) (n - i) (cap -(i+1))]).run Tryz.prog w= .ok (.value (.bool false)) w:=by
  rw[dq Tryz.func226 (by kernel_rfl) (by kernel_rfl) (by kernel_rfl) (e:=Extern.SlicesOverlaps.overlaps #[248,248] #[4]) (by kernel_rfl),
   Lib.run_overlaps_apart w 248 4 tG Tryz.underlying248 2 Tryz.sizeOf252 ⟨I,0,none⟩ ⟨g,(i+1)*2,none⟩ 1 1 (n - i) (cap -(i+1)) ag tG tG 2 (cap*2) (by simp[aE.shape?,hv]) (by simp[aE.shape?,hg,aj]) (by omega) (by simp[aE.frozen?,hv]) (by simp[aE.frozen?,hv])]
  rfl
 have U: ∀j,j<cap*2 ->(w.cell? ⟨g,j,none⟩).isSome=true:=λj l=>by
  simp only[cC,hg];rw[aY.getElem?_eq_getElem (by omega)];rfl
 have ad: ∀j,w.frozen? ⟨g,j,none⟩=false:=λj=>o.frozenAt j
 have ac: ∀j v,xs[j]? =some v ->w.cell? ⟨g,j,none⟩=some v:=λj v h=>by
  have a1:=(am.getElem?_eq_some_iff.1 h).1;rw[o.cellAt j (by omega)];exact h
 have R:(xs.drop (i*2)).length=(n - i)*2:=by rw[bN,aq,Nat.sub_mul]
 have J: ∀ty P sc,(bK #[248,248] ty #[.slice (some ⟨g,(i+1)*2,none⟩) (n - i) P,.slice (some ⟨g,i*2,none⟩) (n+1 - i) sc]).run Tryz.prog w.drew= .ok (goInt (cM (n+1 - i) (n - i))) (w.drew.setCells g ((i+1)*2) (xs.drop (i*2))):=λty P sc=>
  Qx w.drew _ _ ty tG g ((i+1)*2) (n - i) P ⟨g,i*2,none⟩ (n+1 - i) sc (xs.drop (i*2)) Tryz.underlying248 af (by rw[R];show _=cM _ _*2;simp only[dl];split<;>omega)
   (λj v l=>by rw[cN];exact ac (i*2+j) v (by rwa[am.getElem?_drop]at l))
   (λj l=>U _ (by rw[R]at l;have:n - i+i=n:=(by omega);omega)) (λj l=>ad _) (λv hv=>ah v (cA hv))
 obtain⟨W1,p⟩: ∃W1,W1=w.drew.setCells g ((i+1)*2) (xs.drop (i*2)):=⟨_,rfl⟩;have ae: ∀k,k<cap*2 ->(W1.cell? ⟨g,k,none⟩).isSome=true:=λk hk=>by
  rw[p];exact UI g _ ((i+1)*2) w.drew (λj l=>U _ (by rw[R]at l;have:n - i+i=n:=(by omega);omega)) _ (U k hk)
 have ab: ∀(W:aE),(∀x,W.cell? x=W1.cell? x) ->(∀x,W.frozen? x=W1.frozen? x) -> ∀ty P,(bK #[248,248] ty #[.slice (some ⟨g,i*2,none⟩) (n+1 - i) P,.slice (some ⟨I,0,none⟩) 1 1]).run Tryz.prog W= .ok (goInt (cM 1 (n+1 - i))) (W.setCells g (i*2) [k,r]):=λW aa ai ty P=>
  Qx W _ _ ty tG g (i*2) (n+1 - i) P ⟨I,0,none⟩ 1 1 [k,r] Tryz.underlying248 af (by show 2=cM _ _*2;simp only[dl];split<;>omega)
   (λj v l=>by
    rw[cN,aa,p,aE.cell?_setCells_out g _ _ _ _ (λh _=>absurd h ag)]
    match j,l with
    |0,l=>exact(aF some (cd l))▸(show w.cell? ⟨I,0,none⟩=some k by simp[cC,hv])
    |1,l=>exact(aF some (cd l))▸(show w.cell? ⟨I,1,none⟩=some r by simp[cC,hv])
    |(j+2),l=>cases l)
   (λj l=>by rw[aa];exact ae _ (by have:j<2:=l;omega)) (λj l=>by rw[ai,p,aE.frozen?_setCells];exact ad _) (ac3 h2 h3)
 rw[<- p]at J;have a4:aV.wrap ((i:Int)+1)=(i:Int)+1:=by rw[IntKind.wrap_i64];omega
 have au:(0:Int)<=(i:Int)+1:=by omega
 have a0:i<=n:=by omega
 have a3:((i:Int)+1).toNat=i+1:=by omega
 have av: ¬(cap=i+1):=by omega
 have aw:(i:Int)<=(n:Int)+1:=by omega
 have ax: ¬(cap=i):=by omega
 have mixed:Tryz.prog.follows .mixedOrders=true:=by kernel_rfl
 go_enter Tryz.func199,Tryz.ntmps199
 go_wp2_with (simp only[al])
 go_region_law_o (refine acw rfl _ _ 248 248 rfl _ _ (by simp[Act.eval,Act.put]) (by simp[Act.eval,Act.put]) (J _ _ _) ?_)
 go_wp2_with (at_builtin;refine Wr _ rfl _ _ 248 248 rfl _ _ rfl rfl (ab _ (λ_=>rfl) (λ_=>rfl) _ _) ?_)
 go_ret
 first|exact⟨rfl,rfl⟩|exact⟨rfl,by rw[p]⟩
def zG:Value:=.agg #[.slice none 0 0,.slice none 0 0]
def Qw (xs:am Value)(n i G:Nat):aY Value:=(xs.take (i*2)).toArray++aX zG.cells (n+1 - i)++aX zG.cells (G -(n+1))
theorem Yv (k:Nat):(aX zG.cells k).size=2*k:=by
 simp[aX,Value.cells,zG];omega
set_option maxRecDepth 100000 in
set_option maxHeartbeats 4000000 in
theorem anj (w:aE)(base g n cap i:Nat)(xs:am Value)(P:w.ownsRow base tG 2 (.slice (some ⟨g,0,none⟩) n cap) n xs)(hn:n<=1000000)(hi:i<n)(ag:cap<n+1)
 (U:Nat) (k r:Value) (hv:w.heap[U]? =some (.cells #[k,r] tG (0,0))) (h2:k.oneCell'=true) (h3:r.oneCell'=true) (aq: ∀v∈xs,v.oneCell'=true):
 cq Tryz.prog 199 #[.slice (some ⟨g,0,none⟩) n cap,.int .i64 i,.slice (some ⟨U,0,none⟩) 1 1] w λe w'=>e= .returned (.slice (some ⟨w.heap.size,0,none⟩) (n+1) (cw w (n+1) cap tG))/\
  w'=(((w.alloc (.cells (Qw xs n i (cw w (n+1) cap tG)) tG)).drew.setCells w.heap.size (i*2) [k,r]).drew).setCells w.heap.size ((i+1)*2) (xs.drop (i*2)):=by
 obtain⟨a9,hg,bk,bg,bh,a3,be⟩:=aiC P;obtain⟨i0,al,a6,au,ar⟩:=info_parts apD;have bn: ¬((i:Int)=(n:Int)):=by omega
 have bo:(cap:Int)<(n:Int)+1:=by omega
 have a5:xs.length=n*2:=P.1;have ao:(Tryz.prog.info? tG).map (·.size)=some 2:=by rw[al];simp[au]
 have a2:g<w.heap.size:=(aY.getElem?_eq_some_iff.1 hg).1;have a4:U<w.heap.size:=(aY.getElem?_eq_some_iff.1 hv).1;have an:(n:Int)+1 -(i:Int)=((n+1 - i:Nat):Int):=by omega
 have af:i+(n+1 - i)=n+1:=by omega
 have ac: ∀j v,xs[j]? =some v ->w.cell? ⟨g,j,none⟩=some v:=λj v h=>by
  have bj:=(am.getElem?_eq_some_iff.1 h).1;rw[P.cellAt j (by omega)];exact h
 have ad:(dx i0.size i (.slice (some ⟨g,0,none⟩) i cap)).run Tryz.prog w.drew= .ok (xs.take (i*2)).toArray w.drew:=by
  rw[au];exact run_firstCells_some w.drew 2 i ⟨g,0,none⟩ i cap (xs.take (i*2)) (by rw[aO];omega) (λj v o=>by
   rw[cN,Nat.zero_add];rw[am.getElem?_take]at o;split at o
   ·exact ac j v o
   cases o)
 have aa: ∀ty,(Builtin.append_ #[248,3] ty #[.slice (some ⟨g,0,none⟩) i cap,.int .i64 ((n:Int)+1 -(i:Int))]).run Tryz.prog w=
  .ok (.slice (some ⟨w.heap.size,0,none⟩) (n+1) (cw w (n+1) cap tG)) (w.drew.alloc (.cells (Qw xs n i (cw w (n+1) cap tG)) tG)):=λty=>by
  have h:=Lib.run_append_grow_zeros w 248 3 ty tG i0 _ .i64 .i64 Tryz.underlying248 Tryz.underlying3 al a6 (some ⟨g,0,none⟩) i cap (xs.take (i*2)) ad (n+1 - i) (by omega) (by omega) (by omega) (by omega) (by rw[ar];omega) (by rw[ar,af];exact growslice_fits ag (by omega));rw[af]at h;rw[an];exact h
 obtain⟨G,hG⟩: ∃G,G=cw w (n+1) cap tG:=⟨_,rfl⟩;obtain⟨l,I⟩: ∃l:aY Value,l=Qw xs n i G:=⟨_,rfl⟩;rw[<- hG]at aa⊢;rw[<- I]at aa⊢;have bb:n+1<=G:=by rw[hG];exact grownCap_ge w _ _ _
 have a0:(n+1)*2<=l.size:=by
  rw[I];unfold Qw;rw[cm,cm,Yv,Yv,List.size_toArray,aO];omega
 obtain⟨R,p⟩: ∃R,R=w.drew.alloc (.cells l tG):=⟨_,rfl⟩;rw[<- p]at aa;have hN: ∀j,j<(n+1)*2 ->(R.cell? ⟨w.heap.size,j,none⟩).isSome=true:=λj o=>by
  rw[p,aE.cell?_alloc_at (w:=w.drew) l _ w.heap.size j rfl,aY.getElem?_eq_getElem (by omega)];rfl
 have ah: ∀j,R.frozen? ⟨w.heap.size,j,none⟩=false:=λj=>by rw[p];exact aE.frozen?_alloc_at (w:=w.drew) l _ w.heap.size j rfl
 have az: ∀j v,w.cell? ⟨g,j,none⟩=some v ->R.cell? ⟨g,j,none⟩=some v:=λj v h=>by rw[p,aE.cell?_alloc_past (w:=w.drew) _ g j a2];exact h
 have ai: ∀j v,w.cell? ⟨U,j,none⟩=some v ->R.cell? ⟨U,j,none⟩=some v:=λj v h=>by rw[p,aE.cell?_alloc_past (w:=w.drew) _ U j a4];exact h
 have aj: ∀(W:aE),(∀x,W.cell? x=R.cell? x) ->(∀x,W.frozen? x=R.frozen? x) -> ∀ty dc,(bK #[248,248] ty #[.slice (some ⟨w.heap.size,i*2,none⟩) (n+1 - i) dc,.slice (some ⟨U,0,none⟩) 1 1]).run Tryz.prog W= .ok (goInt (cM 1 (n+1 - i))) (W.setCells w.heap.size (i*2) [k,r]):=λW J ae ty dc=>
  Qx W _ _ ty tG w.heap.size (i*2) (n+1 - i) dc ⟨U,0,none⟩ 1 1 [k,r] Tryz.underlying248 ao (by show 2=cM _ _*2;simp only[dl];split<;>omega)
   (λj v o=>by
    rw[cN,J]
    match j,o with
    |0,o=>exact ai _ _ ((aF some (cd o))▸(show w.cell? ⟨U,0,none⟩=some k by simp[cC,hv]))
    |1,o=>exact ai _ _ ((aF some (cd o))▸(show w.cell? ⟨U,1,none⟩=some r by simp[cC,hv]))
    |(j+2),o=>cases o)
   (λj o=>by rw[J];exact hN _ (by have:j<2:=o;omega)) (λj o=>by rw[ae];exact ah _) (ac3 h2 h3)
 have a7:G<=9223372036854775807:=by
  have:=du w (n+1) cap tG (by unfold maxLen;omega);rw[<- hG]at this;unfold maxLen at this;omega
 have ba: ¬(G=i):=by omega
 have a8: ¬(G=i+1):=by omega
 have bf: ¬(cap=i):=by omega
 have a1:g≠w.heap.size:=by omega
 have ak:(xs.drop (i*2)).length=(n - i)*2:=by rw[bN,a5,Nat.sub_mul]
 have ab: ∀(W:aE),(∀x,W.cell? x=(R.setCells w.heap.size (i*2) [k,r]).cell? x) ->(∀x,W.frozen? x=(R.setCells w.heap.size (i*2) [k,r]).frozen? x) -> ∀ty dc sc,(bK #[248,248] ty #[.slice (some ⟨w.heap.size,(i+1)*2,none⟩) (n - i) dc,.slice (some ⟨g,i*2,none⟩) (n - i) sc]).run Tryz.prog W= .ok (goInt (cM (n - i) (n - i))) (W.setCells w.heap.size ((i+1)*2) (xs.drop (i*2))):=λW J ae ty dc sc=>
  Qx W _ _ ty tG w.heap.size ((i+1)*2) (n - i) dc ⟨g,i*2,none⟩ (n - i) sc (xs.drop (i*2)) Tryz.underlying248 ao (by rw[ak];show _=cM _ _*2;simp only[dl];split<;>omega)
   (λj v o=>by
    rw[cN,J,aE.cell?_setCells_out _ _ _ _ _ (λh _=>absurd h a1)];exact az _ v (ac (i*2+j) v (by rwa[am.getElem?_drop]at o)))
   (λj o=>by rw[J];exact UI _ _ _ _ (λt ht=>hN _ (by have:t<2:=ht;omega)) _ (hN _ (by rw[ak]at o;have:n - i+i=n:=(by omega);omega)))
   (λj o=>by rw[ae,aE.frozen?_setCells];exact ah _) (λv hv=>aq v (cA hv))
 subst p;have av: ∀x,((w.alloc (.cells l tG)).drew).cell? x=(w.drew.alloc (.cells l tG)).cell? x:=λx=>rfl
 have aw: ∀x,((w.alloc (.cells l tG)).drew).frozen? x=(w.drew.alloc (.cells l tG)).frozen? x:=λx=>rfl
 have ax: ∀x,(((w.alloc (.cells l tG)).drew.setCells w.heap.size (i*2) [k,r]).drew).cell? x=((w.drew.alloc (.cells l tG)).setCells w.heap.size (i*2) [k,r]).cell? x:=λx=>rfl
 have ay: ∀x,(((w.alloc (.cells l tG)).drew.setCells w.heap.size (i*2) [k,r]).drew).frozen? x=((w.drew.alloc (.cells l tG)).setCells w.heap.size (i*2) [k,r]).frozen? x:=λx=>rfl
 have bm:aV.wrap ((i:Int)+1)=(i:Int)+1:=by rw[IntKind.wrap_i64];omega
 have bc:(0:Int)<=(i:Int)+1:=by omega
 have bi:i<=n:=by omega
 have bl:((i:Int)+1).toNat=i+1:=by omega
 have bd:(i:Int)<=(n:Int):=by omega
 clear an af ad I hG a0;have mixed:Tryz.prog.follows .mixedOrders=true:=by kernel_rfl
 go_enter Tryz.func199,Tryz.ntmps199
 go_wp2_with (first
  |(at_builtin;refine Lib.wpList_append_run _ rfl _ _ _ _ rfl _ _ rfl rfl _ _ (aa _) ?_)
  |(at_builtin;refine Wr _ rfl _ _ 248 248 rfl _ _ rfl rfl (aj _ av aw _ _) ?_)
  |(at_builtin;refine Wr _ rfl _ _ 248 248 rfl _ _ rfl rfl (ab _ (λ_=>rfl) (λ_=>rfl) _ _ _) ?_))
 go_region_law_o (refine acw rfl _ _ 248 248 rfl (.slice (some ⟨w.heap.size,(i+1)*2,none⟩) (n - i) (G -(i+1))) (.slice (some ⟨g,i*2,none⟩) (n - i) (cap - i)) (by simp[Act.eval,Act.put]) (by simp[Act.eval,Act.put]) (ab _ ax ay 3 (G -(i+1)) (cap - i)) ?_)
 go_wp2
 go_ret
 exact⟨rfl,rfl⟩
theorem arG (L:am Value)(xs:am Value)(n i G:Nat)(k r:Value)(p:L=(xs.take (i*2))++(aX zG.cells (n+1 - i)).toList++(aX zG.cells (G -(n+1))).toList)(j:xs.length=n*2)(hi:i<n)(J:n+1<=G):
 let g:=L.take (i*2)++[k,r]++L.drop (i*2+2)
 (g.take ((i+1)*2)++xs.drop (i*2)++g.drop ((i+1)*2+(xs.drop (i*2)).length)).take ((n+1)*2)=xs.take (2*i)++[k,r]++xs.drop (2*i):=by
 intro g;have I:(xs.drop (i*2)).length=n*2 - i*2:=by rw[bN,j]
 have l:(xs.take (i*2)).length=i*2:=by rw[aO];omega
 have h0:L.take (i*2)=xs.take (i*2):=by
  rw[p,bV,cB (by omega),aT (by omega)]
 have o:g.take ((i+1)*2)=xs.take (i*2)++[k,r]:=by
  show(L.take (i*2)++[k,r]++L.drop (i*2+2)).take ((i+1)*2)=_;rw[h0];have:(xs.take (i*2)++[k,r]).length=(i+1)*2:=by rw[aA,l];simp;omega
  rw[<- this,dj]
 rw[o,show 2*i=i*2 by omega];have:(xs.take (i*2)++[k,r]++xs.drop (i*2)).length=(n+1)*2:=by rw[aA,aA,l,I];simp;omega
 rw[<- this,dj]
theorem JK {w p r:aE}{g:aP Nat}(i:w.grownBy p g){b:Nat}(j:p.grownBy r (some b))(o:w.heap.size<=b\/some b=g):w.grownBy r g:=
 ⟨j.os.trans i.os,j.tape.trans i.tape,j.output.trans i.output,aK i.size j.size,λk hk l=>(j.block k (Nat.lt_of_lt_of_le hk i.size) (λe=>by
  rcases o with o|o
  ·have:=cd e;omega
  exact l (e.trans o))).trans (i.block k hk l)⟩
theorem aoq: ∀n p,p<=n ->n<=100000 ->ajZ n p:=by
 intro n p hp hn;by_cases an:p=n
 ·subst an;exact awi (by omega)
 intro w base v xs j hb h1 vb k r hv ao hk hr;have hi:p<n:=by omega
 have J:xs.length=n*2:=j.1;have al:=j;rcases j.2 with⟨_,h0⟩|⟨g,cap,P,rfl,ag,hg,ar,ah,ai,I⟩
 ·omega
 have hd:(xs.drop (p*2)).length=n*2 - p*2:=by rw[bN,J]
 have aa:(xs.take (2*p)++[k,r]++xs.drop (2*p)).length=(n+1)*2:=by
  simp only[aA,aO,bN,aR,b9,J];omega
 have ak:vb≠g:=λe=>ao (by rw[e];rfl)
 have aq:g<w.heap.size:=(aY.getElem?_eq_some_iff.1 hg).1;by_cases i:n+1<=cap
 ·refine(alk w base g n cap p xs j (by omega) hi i vb k r hv ak hk hr h1).mono ?_;rintro e w' ⟨rfl,rfl⟩;obtain⟨⟨c1,a1,a2,a3⟩,a4,a5⟩:=Z2 g tG (xs.drop (p*2)) ((p+1)*2) w.drew P hg (by omega);obtain⟨⟨c2,b1,b2,b3⟩,b4,b5⟩:=Z2 g tG [k,r] (p*2) _ c1 a1 (by simp;omega);have h0:w.grownBy w.drew (some g):=⟨rfl,rfl,rfl,aM _,λ_ _ _=>rfl⟩;refine⟨_,rfl,⟨aa,.inr ⟨g,cap,c2,rfl,ag,b1,i,ah,by rw[b2,a2,ai],?_⟩⟩,JK (JK h0 a4 (.inr rfl)) b4 (.inr rfl),?_,λb o=>.inl o⟩
  ·rw[b3,a3];exact atT P.toList xs n p k r I (by simp;omega) hi
  rw[b5,a5];exact Nat.le_succ _
 have i:cap<n+1:=by omega
 have U:n+1<=cw w (n+1) cap tG:=grownCap_ge w _ _ _;have ad:cw w (n+1) cap tG<=maxLen:=du w (n+1) cap tG (by unfold maxLen;omega);refine(anj w base g n cap p xs j (by omega) hi i vb k r hv hk hr h1).mono ?_;rintro e w' ⟨rfl,rfl⟩;generalize cw w (n+1) cap tG=G at*;have af:(Qw xs n p G).size=G*2:=by
  unfold Qw;rw[cm,cm,Yv,Yv,List.size_toArray,aO];omega
 have ae:(Qw xs n p G).toList=xs.take (p*2)++(aX zG.cells (n+1 - p)).toList++(aX zG.cells (G -(n+1))).toList:=by simp[Qw]
 generalize Qw xs n p G=R at*;have aj:(w.alloc (.cells R tG)).drew.heap[w.heap.size]? =some (.cells R tG (0,0)):=heap_alloc_new w _;obtain⟨⟨c1,a1,a2,a3⟩,a4,a5⟩:=Z2 w.heap.size tG [k,r] (p*2) _ R aj (by simp;omega);have ab:((w.alloc (.cells R tG)).drew.setCells w.heap.size (p*2) [k,r]).drew.heap[w.heap.size]? =some (.cells c1 tG (0,0)):=a1;obtain⟨⟨c2,b1,b2,b3⟩,b4,b5⟩:=Z2 w.heap.size tG (xs.drop (p*2)) ((p+1)*2) _ c1 ab (by omega);have h0:w.grownBy (w.alloc (.cells R tG)).drew (some g):=by
  have h:=World.grownBy_alloc w (.cells R tG) (some g);exact⟨h.os,h.tape,h.output,h.size,h.block⟩
 have l:=JK h0 a4 (.inl (aM _));have ac:w.grownBy ((w.alloc (.cells R tG)).drew.setCells w.heap.size (p*2) [k,r]).drew (some g):=⟨l.os,l.tape,l.output,l.size,l.block⟩;refine⟨_,rfl,⟨aa,.inr ⟨w.heap.size,G,c2,rfl,hb,b1,U,ad,by rw[b2,a2,af],?_⟩⟩,JK ac b4 (.inl (aM _)),?_,λb o=>.inr ?_⟩
 ·rw[b3,a3];exact arG R.toList xs n p G k r ae J hi U
 ·rw[b5];show w.drawn<=((w.alloc (.cells R tG)).drew.setCells w.heap.size (p*2) [k,r]).drawn+1;rw[a5];show w.drawn<=w.drawn+1+1;omega
 cases o;exact aM _
end Go.Proofs.YtkdijaiaplkliaaGreatDoor
namespace Go.Proofs.YtkdijaiaplkliaaGreatDoor
open Go Go.AM
section
attribute [local irreducible] Sat zA zY zo
theorem aaN (d:am Nmd)(t:Tbl)(st:Stp)(l:yI d≠0):Sat Pg wx [.c (.d (.sl (zu d))),t.w,st.w] (λr=>r=rNT (yI d)):=by
 have o:=qM d;have l:(yI d !=0)=true:=by grind
 obtain⟨op,⟨I,J,⟨R,U,vs⟩,ks⟩,g,p,i,j,P,tb⟩:=st;refine ZH.s T8 ?_;refine aC o ?_;rw[l];exact rfl
structure Stp.Sm (st:Stp):Prop where
 sorts:st.sorts.length<=1000
 cols:st.cols.length<=1000
 aggs:st.aggs.length<=1000
 items:st.items.length<=1000
theorem Stp.Sm.ok {st:Stp}(h:st.Sm):st.OK:=⟨aK h.sorts (by omega),aK h.cols (by omega),aK h.aggs (by omega),aK h.items (by omega)⟩
def agP (x:Int×am Col):Prop:=x.1≠0 ->x.2=[]
theorem vC (e:Int):agP (e,[]):=λ_=>rfl
theorem US (l:am Col):agP (0,l):=λh=>absurd rfl h
theorem qx {b:Bool}{x y:Int×am Col}(g:agP x)(i:agP y):agP (bif b then x else y):=by grind
theorem adg {d:am Nmd}{cols:am Col}{st:Stp}:agP (ye d cols st):=by
 refine qx (vC _) (qx ?_ (qx ?_ (qx ?_ (qx ?_ (qx (US _) (qx ?_ ?_))))))
 ·exact qx (vC _) (US _)
 ·rw[amt];simp_all[qx,vC,US]
 ·exact qx (vC _) (qx (vC _) (US _))
 ·exact qx (vC _) (US _)
 ·exact qx (vC _) (qx (vC _) (qx (vC _) (qx (vC _) (US _))))
 unfold Wb;cases zZ st.table d with
 |none=>exact vC _
 |some t=>exact qx (vC _) (qx (vC _) (qx (vC _) (qx (vC _) (qx (vC _) (qx (vC _) (US _))))))
theorem akf {d:am Nmd}{cols:am Col}{st:Stp}(i:st.op=3)(h:(ye d cols st).1=0):takeErr cols st.cols=false /\(xu cols st.aggs).1=0 /\ye d cols st=(0,takeC cols st.cols++(xu cols st.aggs).2):=by
 have e:ye d cols st=grT cols st.cols st.aggs:=by
  grind[ye]
 rw[e]at h⊢;unfold grT at h⊢;obtain⟨l,g⟩:=qe (by grind) h;rw[g]at h⊢;obtain⟨o,j⟩:=qe (by simp) h<;>simp_all
theorem akg {d:am Nmd}{cols:am Col}{st:Stp}(j:st.op=4)(h:(ye d cols st).1=0):wS cols st.sorts=false /\ye d cols st=(0,cols):=by
 have e:ye d cols st=soT cols st.sorts:=by
  grind[ye]
 rw[e]at h⊢;obtain⟨i,g⟩:=qe (by grind) h;exact⟨i,g⟩
theorem avB {st:Stp}(h:st.err=0)(g:st.op=5):0<=st.n:=by
 have h:=(yl (by omega) h).2;rw[g]at h;have h:(bif decide (st.n<0)||decide (st.n>20000)then 2 else 0)=(0:Int):=h;have:=(yl (by omega) h).1<;>simp_all
theorem amo (d:am Nmd)(t:Tbl)(st:Stp)(hk:st.Sm)(h1:yI d=0)(h2:zL t=0)(J:(ye d t.cols st).1=0)(hr:t.rows.length<20000)(R:st.op=6\/st.op=7 ->t.rows.length*(qh d st).rows.length<=20000):
 Sat Pg qJ [.c (.d (.sl (zu d))),t.w,.agg st.cs,.c (.d (.sl (zm (ye d t.cols st).2)))] (λr=>r=qE ⟨(ye d t.cols st).2,stR d t st⟩ 0):=by
 have he:=Uh J;have j:=abo he;have j:st.op=1\/st.op=2\/st.op=3\/st.op=4\/st.op=5\/st.op=6\/st.op=7\/st.op=8\/st.op=9:=by omega
 have hw:=q9 h2;have hf:=xE h2;have k1:=hk.sorts;have k2:=hk.cols;have k3:=hk.aggs;have k4:=hk.items;have ae:(zh t.cols st.cols).length=st.cols.length:=by simp[zh]
 rcases j with j|j|j|j|j|j|j|j|j
 ·have e:stR d t st=whereR t.cols t.rows st.cond:=by grind[stR]
  rw[e];refine qo d t st _ _ (by grind) (by grind) (by grind) (by grind) (aK (aaq _ _ _) (by omega)) ?_;obtain⟨tc,tr⟩:=t;obtain⟨op,⟨eo,nm,⟨vk,vn,vs⟩,ks⟩,o,U,p,I,sn,tb⟩:=st;subst j;exact kU apA (.sl (zu d)) tc tr (by grind) eo nm ⟨vk,vn,vs⟩ ks (yW o) (zp U) (wt p) (xQ I) sn tb
 ·have e:stR d t st=selR t.cols t.rows st.items:=by grind[stR]
  rw[e];refine qo d t st _ _ (by grind) (by grind) (by grind) (by grind) (by grind[selR]) ?_;obtain⟨tc,tr⟩:=t;obtain⟨op,⟨eo,nm,⟨vk,vn,vs⟩,ks⟩,o,U,p,I,sn,tb⟩:=st;subst j;exact J7 apA (.sl (zu d)) tc tr (by grind) eo nm ⟨vk,vn,vs⟩ ks o (zp U) (wt p) (xQ I) sn tb (by grind)
 ·have e:stR d t st=(wW (zh t.cols st.cols) t.rows).map (qk t.cols st.aggs):=by grind[stR]
  rw[e];have ad:=ah0 (akf j J).1;have hG:=abt (zh t.cols st.cols) t.rows;have ab:=agm t.cols t.rows (zh t.cols st.cols) (by omega) (λr hr=>by grind) (by omega) (λi hi _=>aoq _ _ (kL _ _) (by grind[Q7]));generalize wW (zh t.cols st.cols) t.rows=G at*;have aa:=adW t.cols t.rows st G (by omega) (by omega) (by have:=hG.few;omega) (λg hg=>by rw[hG.key g hg];omega) (λg hg=>by have:=hG.cnt g hg;omega) (λg hg r hr=>hw r (hG.mem g hg r hr)) ab;exact qo d t st _ _ (by grind) (by grind) (by grind) (by grind) (by rw[cG];have:=hG.few;omega) (kS d t st j G aa)
 ·have e:stR d t st=yS (jE (u6 t.cols st.sorts) st.sorts) t.rows:=by grind[stR]
  obtain⟨P,ac⟩:=akg j J;rw[e,ac];have hS:=agl t st.sorts (by omega) (by omega) (by omega);simp_all[akd,J8]
 ·have e:stR d t st=t.rows.take (zU false st.n t.rows.length).toNat:=by grind[stR]
  rw[e];exact qo d t st _ _ (by grind) (by grind) (by grind) (by grind) (by grind) (kT d t st j (avB he j))
 ·have hj:=qX (.inl j) J;have l:=J;rw[hj]at l;obtain⟨b,P,ho⟩:=wX l;have e:stR d t st=xO (zh t.cols st.cols) (zh b.cols st.cols) (oth st.cols 0 b.cols) t.rows b.rows:=by grind[stR,qh]
  have hm:=R (.inl j);rw[show qh d st=b by grind[qh]]at hm;rw[e];have tb:=uk h1 P;have wb:=q9 tb;have fb:=xE tb;have i:=jP ho.jn;have hJ:=anN t.cols t.rows b.cols b.rows st.cols (by omega) (by omega) hm (by omega) hw (by omega) wb i.1 i.2;exact qo d t st _ _ (by grind) (by grind) (by grind) (by grind) (aK (abD _ _ _ _ _) hm) (aaQ d t st j b P _ hJ)
 ·have hj:=qX (.inr (.inl j)) J;have l:=J;rw[hj]at l;obtain⟨b,P,ho⟩:=wX l;have tb:=uk h1 P;have fb:=xE tb;have hm:=R (.inr j);have e:stR d t st=xI (zj t.cols sFrom) (zj t.cols sTo) (zj b.cols sFrom) (zj b.cols sTo) (zh t.cols st.cols) (zh b.cols st.cols) (oth (st.cols++[sFrom,sTo]) 0 b.cols) t.rows b.rows:=by grind[stR,qh]
  rw[show qh d st=b by grind[qh]]at hm;have hO:=anC t b st.cols (by omega) (by omega) (by omega) hm;have hc:=kZ (.inl j) h2 tb he P;simp_all[ovQ,Ja]
 ·have hj:=qX (.inr (.inr j)) J;have l:=J;rw[hj]at l;obtain⟨b,P,ho⟩:=wX l;have tb:=uk h1 P;have fb:=xE tb;have e:stR d t st=t.rows.map (vf (zj t.cols sFrom) (zj b.cols sFrom) (zh t.cols st.cols) (zh b.cols st.cols) (oth (st.cols++[sFrom]) 0 b.cols) b.rows):=by grind[stR,qh]
  have hO:=adT t b st.cols (by omega) (by omega) (by omega);have hc:=kZ (.inr j) h2 tb he P;simp_all[nrQ,U9]
 have e:stR d t st=ZI (zh t.cols st.cols) (zj t.cols sFrom) (zj t.cols sTo) t.rows:=by grind[stR]
 have hO:=ab9 t st.cols (by omega) (by omega);have hc:=aoO (d:=d) j h2 he<;>simp_all[coQ,VH]
theorem Ua {d:am Nmd}{i:ByteArray}{b:Tbl}(h:yI d=0)(g:zZ i d=some b):b.cols.length<=32:=(xE (uk h g)).1
theorem al7 (d:am Nmd)(t:Tbl)(st:Stp)(hk:st.Sm)(hr:t.rows.length<20000)(o:st.op=6\/st.op=7 ->st.err=0 ->t.rows.length*(qh d st).rows.length<=20000):
 Sat Pg wx [.c (.d (.sl (zu d))),t.w,st.w] (λr=>r=wK (nStepT d t st)):=by
 unfold nStepT;by_cases i:yI d=0
 ·rw[i];by_cases j:zL t=0
  ·rw[j];have fa:=xE j;have R:=jU d t.cols st hk.ok (by omega) (λb U=>by grind[Ua]);by_cases l:(ye d t.cols st).1=0
   ·have g:Sat Pg zK [.c (.d (.sl (zu d))),.c (.d (.sl (zm t.cols))),st.w] (λr=>r=rCs (ye d t.cols st).2):=R.mono λr hr=>by
     rw[hr];show Res.mk (.tup [.c (.d (.sl (zm (ye d t.cols st).2))),.c (int (ye d t.cols st).1)]) []=_;rw[l];rfl
    have:=anE d t st _ _ i j g (amo d t st hk i j l hr λP=>o P (Uh l));rw[l];exact this
   have J:((ye d t.cols st).1 !=0)=true:=by grind
   have h0:(ye d t.cols st).2=[]:=adg l;have g:Sat Pg zK [.c (.d (.sl (zu d))),.c (.d (.sl (zm t.cols))),st.w] (λr=>r=WW (ye d t.cols st).1):=R.mono λr hr=>by
    rw[hr];show Res.mk (.tup [.c (.d (.sl (zm (ye d t.cols st).2))),.c (int (ye d t.cols st).1)]) []=_;rw[h0];rfl
   rw[J];exact zD (ac7 (ace d t st _ i j l g))
  have I:(zL t !=0)=true:=by grind
  rw[I];exact zD (ac7 (aaO d t st i j))
 have p:(yI d !=0)=true:=by grind
 rw[p];exact zD (ac7 (aaN d t st i))
theorem afv {cols:am Col}(i:ColsF cols){g:am ByteArray}(h:takeErr cols g=false): ∀c∈takeC cols g,ColF c:=λc j=>i.ok c (asZ h c j)
theorem aiS {n uT:Int}(h:uz n uT=0):n<=16:=by
 simp_all[uz,Xa]
theorem arh {l:am ByteArray}{m:Int}(h:wU l m=0):(l.length:Int)<=16 /\vo [] l=0:=by
 unfold wU at h;rw[Wu]at h;exact⟨aiS h.1,h.2⟩
theorem arq {st:Stp}(h:st.err=0)(g:st.op=2):(st.items.length:Int)<=16 /\x8 [] st.items=0:=by
 unfold Stp.err at h;have h:=(yl (by omega) h).2;rw[g]at h;have h:(bif uz st.items.length 1 !=0 then uz st.items.length 1 else x8 [] st.items)=0:=h;rw[Wu]at h;exact⟨aiS h.1,h.2⟩
theorem ars {st:Stp}(h:st.err=0)(g:st.op=3):(st.cols.length:Int)<=16 /\(st.aggs.length:Int)<=16 /\vo [] st.cols=0 /\vG st.cols st.aggs=0:=by
 unfold Stp.err at h;have h:=(yl (by omega) h).2;simp_all[UE,Xa,Wu]
theorem art {st:Stp}(h:st.err=0)(g:st.op=9):(st.cols.length:Int)<=16 /\vo [] st.cols=0:=by
 unfold Stp.err at h;have h:=(yl (by omega) h).2;rw[g]at h;have h:wU st.cols 0=0:=h;exact arh h
theorem avR {d:am Nmd}{cols:am Col}{st:Stp}(g:st.op=1)(h:(ye d cols st).1=0):ye d cols st=(0,cols):=by
 have e:ye d cols st=whT cols st.cond:=by
  grind[ye]
 simp_all[whT,qe]
theorem avO {d:am Nmd}{cols:am Col}{st:Stp}(g:st.op=2)(h:(ye d cols st).1=0):ye d cols st=uc cols st.items:=by
 grind[ye]
theorem avP {d:am Nmd}{cols:am Col}{st:Stp}(g:st.op=5)(h:(ye d cols st).1=0):ye d cols st=(0,cols):=by
 grind[ye]
theorem arM {g cs:am ByteArray}{tc:am Col}: ∀c∈keepS g cs tc,c∈tc:=λc h=>by
 grind[keepS]
theorem VO {i:am ByteArray}{cols tc:am Col}{cs:am ByteArray}{R:am Col}(j:ColsF cols)(l:ColsF tc)(h:JnOK i cols tc cs R):ColsF (cols++keepS i cs tc):=by
 refine⟨h.few,λc g=>?_,(arn.1 h.dup).2⟩;rcases bP.1 g with g|g
 ·exact j.ok c g
 exact l.ok c (arM c g)
theorem agF (d:am Nmd)(t:Tbl)(st:Stp)(h1:yI d=0)(h2:zL t=0)(l:(ye d t.cols st).1=0)(hr:(stR d t st).length<=20000):zL ⟨(ye d t.cols st).2,stR d t st⟩=0:=by
 obtain⟨P,ad,j⟩:=(u7 t).1 h2;refine(u7 _).2 ?_;suffices hs:ColsF (ye d t.cols st).2 /\ ∀r∈stR d t st,zO (ye d t.cols st).2 r from⟨hs.1,hr,hs.2⟩
 clear hr;have he:=Uh l;have i:=abo he;have i:st.op=1\/st.op=2\/st.op=3\/st.op=4\/st.op=5\/st.op=6\/st.op=7\/st.op=8\/st.op=9:=by omega
 rcases i with i|i|i|i|i|i|i|i|i
 ·grind[stR,whereR,avR]
 ·have e:stR d t st=selR t.cols t.rows st.items:=by grind[stR]
  obtain⟨hl,hi⟩:=arq he i;obtain⟨n1,n2,n3⟩:=ank hi;have R: ∀x∈st.items,x.e.chk=0 /\yB x.nm=true:=λx J=>⟨abB _ _ hi x J,n1 x J⟩
  have e2:=avO i l;rw[e2]at l⊢;obtain⟨s1,s2⟩:=amu P.ok R l;rw[e];refine⟨?_,λr hr=>?_⟩
  ·rw[s1];refine⟨by grind,λc J=>?_,?_⟩
   ·grind
   grind
  unfold selR at hr;obtain⟨r0,ac,rfl⟩:=ck.1 hr;exact au5 P.ok R l (j r0 ac)
 ·have e:stR d t st=(wW (zh t.cols st.cols) t.rows).map (qk t.cols st.aggs):=by grind[stR]
  obtain⟨g1,g2,g3⟩:=akf i l;obtain⟨m1,m2,m3,m4⟩:=ars he i;obtain⟨a1,a2,a3⟩:=aid m3;obtain⟨b1,b2,b3⟩:=ao5 m4;obtain⟨c1,c2⟩:=ad8 g2;have hG:=abt (zh t.cols st.cols) t.rows;have ab: ∀(rows:am (am Val)),rows.length<=20000 ->(∀r∈rows,zO t.cols r) -> ∀a∈st.aggs,ColF (ZA t.cols a).2 /\yK (ZA t.cols a).2.t (Uj a.fn (Q5 t.cols rows a)):=λrows hn hr a ha=>avX P.ok (b1 a ha) (c2 a ha) hn hr
  rw[e,g3];have tl:(takeC t.cols st.cols).length=st.cols.length:=by simp[takeC]
  refine⟨⟨?_,λc J=>?_,?_⟩,λr hr=>?_⟩
  ·grind
  ·grind[afv]
  ·show((takeC t.cols st.cols++(xu t.cols st.aggs).2).map Col.name).Nodup;rw[bI,ad2 g1,c1,List.map_map,List.nodup_append];have e2:(Col.name∘ λa=>(ZA t.cols a).2)=Agg.nm:=by funext a;grind[aib]
   grind
  obtain⟨g,hg,rfl⟩:=ck.1 hr;unfold qk Y9;show zO (takeC t.cols st.cols++(xu t.cols st.aggs).2) _;refine zO.app ?_ ?_
  ·rcases ang _ _ g hg with⟨k1,k2⟩|⟨r,k1,k2⟩
   ·rw[k2];have:st.cols=[]:=by grind[zh]
    rw[this];exact trivial
   rw[k2];exact(j r k1).pick g1
  rw[c1];exact zO.map _ _ λa ha=>(ab g.rows (aK (hG.cnt g hg) ad) (λr hr=>j r (hG.mem g hg r hr)) a ha).2
 ·have e:stR d t st=yS (jE (u6 t.cols st.sorts) st.sorts) t.rows:=by grind[stR]
  rw[e,(akg i l).2]
  grind[alh]
 ·grind[stR,avP]
 ·have hj:=qX (.inl i) l;rw[hj]at l⊢;obtain⟨b,U,o⟩:=wX l;have e:stR d t st=xO (zh t.cols st.cols) (zh b.cols st.cols) (oth st.cols 0 b.cols) t.rows b.rows:=by grind[stR,qh]
  obtain⟨I,aa,p⟩:=(u7 b).1 (uk h1 U);rw[e,o.eq];refine⟨VO P I o,λz hz=>?_⟩;obtain⟨x,R,y,hy,rfl⟩:=arI hz;refine(j x R).app ?_;have:=zO.rest0 (Vr st.op) st.cols (p y hy)
  grind[Vr]
 ·have hj:=qX (.inr (.inl i)) l;rw[hj]at l⊢;obtain⟨b,U,o⟩:=wX l;have e:stR d t st=xI (zj t.cols sFrom) (zj t.cols sTo) (zj b.cols sFrom) (zj b.cols sTo) (zh t.cols st.cols) (zh b.cols st.cols) (oth (st.cols++[sFrom,sTo]) 0 b.cols) t.rows b.rows:=by grind[stR,qh]
  obtain⟨I,aa,p⟩:=(u7 b).1 (uk h1 U);rw[e,o.eq];refine⟨VO P I o,?_⟩;have i1:=o.i1;have i2:=o.i2;rw[i]at i1 i2⊢;exact ar3 (amK i1) (amK i2) j p λr hr=>zO.rest0 [sFrom,sTo] st.cols (p r hr)
 ·have hj:=qX (.inr (.inr i)) l;rw[hj]at l⊢;obtain⟨b,U,o⟩:=wX l;have e:stR d t st=t.rows.map (vf (zj t.cols sFrom) (zj b.cols sFrom) (zh t.cols st.cols) (zh b.cols st.cols) (oth (st.cols++[sFrom]) 0 b.cols) b.rows):=by grind[stR,qh]
  obtain⟨I,aa,p⟩:=(u7 b).1 (uk h1 U);rw[e,o.eq];refine⟨VO P I o,λz hz=>?_⟩;obtain⟨x,R,rfl⟩:=ck.1 hz;rw[i];refine arY ?_ (λr hr=>zO.rest0 [sFrom] st.cols (p r hr)) (j x R)
  grind[aeE,abN]
 have e:stR d t st=ZI (zh t.cols st.cols) (zj t.cols sFrom) (zj t.cols sTo) t.rows:=by grind[stR]
 have e2:=amS i l;rw[e2]at l⊢;have o:=akY l;obtain⟨m1,m2⟩:=art he i;obtain⟨a1,a2,a3⟩:=aid m2;have tw:=o.two;simp only[bJ]at tw;have f1:=alf.1 tw.1;have f2:=alf.1 tw.2;have tl:(takeC t.cols st.cols).length=st.cols.length:=by simp[takeC]
 obtain⟨p1,p2⟩:=JD o.i1;obtain⟨q1,q2⟩:=JD o.i2;rw[e,o.eq];have ae:sFrom≠sTo:=by decide+kernel
 refine⟨⟨?_,λc J=>?_,?_⟩,aph ⟨p1,p2,q1,q2⟩ λr hr=>⟨j r hr,(j r hr).pick o.tk⟩⟩
 ·grind
 ·rcases bP.1 J with J|J
  ·exact afv P o.tk c J
  simp only[bC,cr,or_false]at J;have g1:wC sFrom=0:=VU (by decide+kernel);have g2:wC sTo=0:=VU (by decide+kernel);rcases J with rfl|rfl
  ·exact⟨g1,.inr (.inl rfl)⟩
  exact⟨g2,.inr (.inl rfl)⟩
 rw[bI,ad2 o.tk,List.nodup_append];refine⟨a3,by grind,λs hs u hu=>?_⟩;simp only[bE,cL,bC,cr,or_false]at hu
 grind
noncomputable def runT (d:am Nmd)(t:Tbl):am Stp ->Int×Tbl
 | []=>(0,t)
 |s::r=>bif (nStepT d t s).1 !=0 then((nStepT d t s).1,⟨[],[]⟩)else runT d (nStepT d t s).2 r
theorem alG {d:am Nmd}{t:Tbl}{st:Stp}(g:yI d=0)(i:zL t=0)(j:(ye d t.cols st).1=0):nStepT d t st=(0,⟨(ye d t.cols st).2,stR d t st⟩):=by
 grind[nStepT]
theorem avN {d:am Nmd}{q:Qry}(h:(VJ d q).1=0):yI d=0 /\q.err=0 /\ ∃t,zZ q.src d=some t /\VJ d q=aap d t.cols q.steps:=by
 unfold VJ at h⊢;obtain⟨j,g⟩:=qe (by simp) h;rw[g]at h⊢;obtain⟨l,i⟩:=qe (by simp) h
 grind
end
section
attribute [local irreducible] Sat zA zY
theorem awW {d:am Nmd}{cols:am Col}{st:Stp}(I:cols.length<=1000):(ye d cols st).2.length<=1000:=by
 by_cases h:(ye d cols st).1=0
 ·have i:=Uh h;have g:=abo i;have g:st.op=1\/st.op=2\/st.op=3\/st.op=4\/st.op=5\/(st.op=6\/st.op=7\/st.op=8)\/st.op=9:=by omega
  rcases g with g|g|g|g|g|g|g
  ·grind[avR]
  ·obtain⟨J,hi⟩:=arq i g;rw[avO g h];have: ∀l:am Itm,(uc cols l).2.length<=l.length:=by
    intro l;induction l with
    |nil=>exact aM _
    |cons x r P=>
     simp only[uc];cases((x.e.ty cols).2 !=0)
     ·cases((x.e.ty cols).1==0)
      ·cases((uc cols r).1 !=0)<;>simp_all
      simp_all
     simp_all
   grind
  ·obtain⟨g1,g2,g3⟩:=akf g h;obtain⟨m1,R,_,_⟩:=ars i g<;>grind[takeC,ad8]
  ·simp_all[akg]
  ·grind[avP]
  ·have p:=qX g h;rw[p]at h⊢;obtain⟨b,_,j⟩:=wX h;rw[j.eq];have:=j.few;omega
  have o:=amS g h;rw[o]at h⊢;have j:=akY h;obtain⟨m1,_⟩:=art i g;rw[j.eq,aA]
  grind[takeC]
 rw[adg h];simp_all
theorem awy {q:Qry}(h:q.err=0):q.steps.length<=16:=by
 unfold Qry.err at h;rw[Xa (by omega),Xa (by omega)]at h
 grind
theorem ahW (d:am Nmd)(j:ByteArray)(l:am Stp)(hs: ∀s∈l,s.Sm)(R:yI d=0)(U:Qry.err ⟨j,l⟩=0)(tc:am Col)(tr:am (am Val))(hf:zZ j d=some ⟨tc,tr⟩)(y:Int×am Col)(hy:aap d tc l=y):Sat Pg Yl [.c (.d (.sl (zu d))),Qry.w ⟨j,l⟩] (λr=>r=xF y):=by
 have hc:=qM d;have hq:=aiN ⟨j,l⟩ (λs h=>aK (hs s h).sorts (by omega));have J:=y9 d j;have hT:=λcols (hl:cols.length<=1000) i (hi:i<l.length)=>jU d cols l[i] (hs _ (aI hi)).ok (by omega) (λb hb=>by grind[Ua])
 have ae:l.length<=16:=awy U;have hX:tc.length<=32:=Ua R hf;have o:=w6 tc (by omega);rw[R]at hc;rw[U]at hq;rw[hf]at J;clear hf R U;refine zD ?_;refine jD.s T8 ?_;refine aC hc ?_;refine aC hq ?_;refine aC J ?_;refine aC o ?_;refine yq (P:=Pg) (f:=T8.f) (body:=(jD.l 0)) (λz:Nat×am Col=>⟨[(0,.w (.c (.d (.sl (zu d))))),(10,.w (.c (.d (.sl (zm z.2))))),(38,.w (.c (.d (.sl (wQ l))))),(39,zl (wQ l).length),(40,zl z.1)],[]⟩) (λz=>l.length - z.1) (λz=>z.1<=l.length /\z.2.length<=1000 /\y=aap d z.2 (l.drop z.1)) ⟨(0,tc),⟨bD _,by grind,hy.symm⟩,ze ?_⟩ ?_
 ·exact rfl
 rintro⟨i,cols⟩ hz;obtain⟨hi,o,p⟩:i<=l.length /\cols.length<=1000 /\y=aap d cols (l.drop i):=hz;clear hy;refine zi (λh3=>?_) (λh3=>?_)
 ·have g:i<l.length:=by simp_all[Z5]
  have hT:=hT cols o i g;have hg:=Jd g;have wi:aV.wrap ((i:Int)+1)=((i+1:Nat):Int):=zC g (by omega);rw[zq g]at p;simp only[aap]at p;have I:=awW (d:=d) (st:=l[i]) o;generalize l[i]=s at*;generalize ye d cols s=x at*;obtain⟨x1,x2⟩:=x;obtain⟨op,⟨eo,nm,⟨vk,vn,vs⟩,ks⟩,ab,af,ac,ad,sn,tb⟩:=s;refine yu hg ?_;refine aC hT ?_;refine zw (b:=x1 !=0) (λh4=>?_) (λh4=>?_)
  ·simp only[h4,aD]at p;subst p;exact⟨rfl,rfl⟩
  simp only[h4,aB]at p;(conv=>whnf);refine⟨(i+1,x2),⟨⟨g,I,p⟩,by grind⟩,ze ?_⟩;(conv=>whnf);rw[wi];rfl
 have aa:l.length<=i:=by grind[Z5]
 rw[bB aa]at p;subst p;exact⟨rfl,rfl⟩
end
section
attribute [local irreducible] Sat zA zY zo
theorem atJ {t:Tbl}(h:zL t=0): ∀r∈t.rows,Qg t.cols r=true:=by
 exact λr hr=>aog (((u7 t).1 h).2.2 r hr)
inductive Pln where
 |mk (op:Int) (tb col:ByteArray) (lo hi:Int) (st:Stp) (ks:am Pln)
mutual
def Pln.ds:Pln ->am D
 | .mk op tb col lo hi st ks=> [.lit (.int .i64 op),.lit (.string tb),.lit (.string col),.lit (.int .i64 lo),.lit (.int .i64 hi)]++(st.ds++[.sl (plnsD ks)])
def plnsD:am Pln ->am (am D)
 | []=> []
 |p::r=>p.ds::plnsD r
end
def Pln.w (p:Pln):W:=.agg (p.ds.map .d)
theorem abZ: ∀l:am Pln,plnsD l=l.map Pln.ds
 | []=>rfl
 |p::r=>by simp only[plnsD,bE,abZ r]
theorem J1 (l:am Pln):(plnsD l).length=l.length:=by simp[abZ]
def ac4 (op:Int):Int:=bif op==7 then 3 else bif op==8 then 4 else bif op==6 then 5 else 2
def qU (op:Int)(tb col:ByteArray)(lo hi:Int)(g:Int)(i:Int):Bool:=
 bif (!zo tb ⟨#[]⟩||(!zo col ⟨#[]⟩||(lo !=0||(hi !=0||i !=1))))then false else
 bif op==2 then true else bif op==3||(op==4||op==5)then ac4 g==op else false
def Uz (s:Stp):Bool:=s.op==0&&(s.cond.zero&&(decide ((s.items.length+s.cols.length+s.aggs.length+s.sorts.length:Nat)=0)&&(s.n==0&&zo s.table ⟨#[]⟩)))
def Jb (op:Int)(col:ByteArray)(lo hi:Int)(s:Stp)(g:Int):Bool:=
 bif (op !=1||(!Uz s||decide (g>0)))then false else
 bif zo col ⟨#[]⟩then lo==0&&hi==0 else(inB lo&&(inB hi&&decide (lo<=hi)))||(lo==1&&hi==0)
def Pln.steps:Pln ->Bool
 | .mk op tb col lo hi st ks=>qU op tb col lo hi st.op ks.length
def Pln.scans:Pln ->Bool
 | .mk op _ col lo hi st ks=>Jb op col lo hi st ks.length
def Pln.base:Pln ->Pln×am Stp
 | .mk op tb col lo hi st [k]=>bif qU op tb col lo hi st.op 1 then(k.base.1,k.base.2++[st])else(.mk op tb col lo hi st [k],[])
 |p=>(p,[])
def Pln.tb:Pln ->ByteArray| .mk _ tb _ _ _ _ _=>tb
def Pln.qry (p:Pln):Qry×Bool:=bif p.base.1.scans then(⟨p.base.1.tb,p.base.2⟩,true)else(⟨⟨#[]⟩,[]⟩,false)
end
end Go.Proofs.YtkdijaiaplkliaaGreatDoor
namespace Go.AM
def laid (P:Program):Nat ->am Field ->aP Nat
 |o,[]=>some o
 |o,f::r=>bif Nat.beq f.offset o then laid P (o+P.cellsOf f.type) r else none
def aa1 {α β:Type}(R:α ->β ->Prop):am α ->am β ->Prop
 | [],[]=>True
 |x::xs,y::ys=>R x y /\aa1 R xs ys
 |_,_=>False
section
variable {H:Type}{enc:TypeId×Value ->H}{P:Program}{w:aE}{base:Nat}{spare:Nat ->Bool}{held:Bool}{ι:Nat ->Gh}
def WB (w:aE)(b:Nat):Prop:=b<w.heap.size
theorem aqZ (a:dn)(j:Nat)(h:a.spot=none):a.add j=⟨a.block,a.off+j,none⟩:=by
 cases a<;>grind[wT]
theorem arc {a:dn}{v:Value}(h:w.cell? a=some v):a.spot=none /\a.block<w.heap.size:=by
 unfold cC at h;split at h
 ·rename_i g;cases hs:a.spot<;>grind
 cases h
theorem ae8 {b:Nat}: ∀{g:am D}{vs:am Value}{o:Nat},CRs ι w (WB w) (g.map .d) vs ->(∀j v,vs[j]? =some v ->w.cell? ⟨b,o+j,none⟩=some v) ->RDc w (WB w) b o g
 | [],_,_,_,_=>by grind[RDc]
 |d::g,[],_,h,_=>h.elim
 |d::g,v::vs,o,h,i=>by
  simp only[RDc];refine⟨⟨v,i 0 v rfl,h.1⟩,ae8 h.2 λj u l=>?_⟩;rw[show o+1+j=o+(j+1)by omega];exact i (j+1) u (by simpa using l)
theorem aqL {b sz:Nat}: ∀(g:am (am D)) (o:Nat),(∀(i:Nat) (e:am D),g[i]? =some e ->e.length=sz /\RDc w (WB w) b (o+i*sz) e) ->RDs w (WB w) b sz o g
 | [],_,_=>by grind[RDs]
 |e::r,o,h=>by
  simp only[RDs];refine⟨(h 0 e rfl).1,by simpa using (h 0 e rfl).2,aqL r (o+sz) λi x j=>?_⟩;have:=h (i+1) x (by grind);refine⟨this.1,?_⟩;rw[show o+sz+i*sz=o+(i+1)*sz by rw[Nat.add_mul,Nat.one_mul];omega]
  grind
end
section
variable {H:Type}{enc:TypeId×Value ->H}{P:Program}{w:aE}{base:Nat}{spare:Nat ->Bool}{held:Bool}{ι:Nat ->Gh}
theorem avW {ok:Nat ->Prop}: ∀{g:am D}{vs:am Value},CRs ι w ok (g.map .d) vs ->g.length=vs.length:=λh=>by
 have:=h.length<;>grind
theorem aro {R:am D ->Prop}{ok:Nat ->Prop}{g:Nat ->aP (am Value)}: ∀(len:Nat),(∀i,i<len -> ∃cs p,g i=some cs /\R p /\CRs ι w ok (p.map .d) cs) ->
 ∃j:am (am D),j.length=len /\(∀y∈j,R y)/\ ∀i e,j[i]? =some e -> ∃cs,g i=some cs /\CRs ι w ok (e.map .d) cs
 |0,_=>⟨[],rfl,λ_ h=>(by cases h),λi e h=>(by simp at h)⟩
 |n+1,h=>by
  obtain⟨j,r,I,J⟩:=aro (R:=R) (ok:=ok) (g:=g) n (λi hi=>h i (by omega));obtain⟨cs,p,P,U,h6⟩:=h n (by omega);refine⟨j++[p],by simp[r],λy o=>?_,λi e l=>?_⟩
  ·rcases bP.1 o with o|o
   ·exact I y o
   simp at o;subst o;exact U
  by_cases hi:i<j.length
  ·rw[am.getElem?_append_left hi]at l;exact J i e l
  rw[am.getElem?_append_right (by omega)]at l;have:i - j.length=0:=by
   rcases Nat.eq_zero_or_pos (i - j.length)with h|h
   ·exact h
   rw[am.getElem?_eq_none (by simp;omega)]at l;cases l
  rw[this]at l;simp at l;subst l;rw[show i=n by omega];exact⟨cs,P,h6⟩
end
section
variable {H:Type}{enc:TypeId×Value ->H}{P:Program}{w:aE}{base:Nat}{spare:Nat ->Bool}{held:Bool}{ι:Nat ->Gh}
end
section
open Go.RowKit Go.WideShapes Go.ChangeShapes
section
variable {H:Type}{enc:TypeId×Value ->H}{P:Program}
def Wa (P:Program)(t:TypeId):Bool:=match P.underlying t with|some (.struct _)=>true|some (.array _ _)=>true|_=>false
theorem ane {W:aE}{j:Nat}{t:TypeId}{v:Value}(g:bO P W .any j t v)(i:Wa P t=false):v.cells= #[v]:=by
 unfold bO at g;unfold Wa at i;split at g
 ·rename_i h;rw[h]at i;cases i
 ·rename_i h;rw[h]at i;cases i
 cases v with
 |agg cs=>
  unfold Cell.okWide at g;unfold Cell.ok at g;(repeat' split at g)<;>first|exact g.elim|(rename_i h _;cases h)|skip
  all_goals simp_all
 |_=>rfl
theorem aq0 {W:aE}{j:Nat}{t:TypeId}{v:Value}(g:bO P W .any j t v)(i:Wa P t=true): ∃cs,v= .agg cs:=by
 unfold bO at g;unfold Wa at i;split at g
 ·exact⟨_,g.choose_spec.1⟩
 ·exact⟨_,g.choose_spec.1⟩
 rename_i l o;split at i
 ·rename_i h;exact absurd h (l _)
 ·rename_i h;exact absurd h (o _ _)
 cases i
theorem akH {W W':aE}(hl:laidOutB P=true)(U:Below W.heap.size W W')(J:Nat ->Bool): ∀(l:am TypeId) (vs:am Value) (o:am (bH H)) (p:am cP),(∀t∈l,P.readableRec t=true /\t<P.types.size) ->
 (∀x∈p,J x.block=true) ->(∀x∈p,x.block<W.heap.size) ->cz enc P W 0 (λ_=>true) true l vs o p ->cz enc P W' 0 J true l vs o p
 | [],vs,o,p,_,_,_,h=>by
   obtain⟨rfl,rfl,rfl⟩:=trodAll_nil h;exact rfl
 |t::l,vs,o,p,I,j,i,h=>by
  obtain⟨v,R,d,r,a,b,rfl,rfl,rfl,h1,h2⟩:=trodAll_cons h
  exact⟨a,b,WideElems.Trod_stays hl (I t aU).1 (I t aU).2 h1 (λx g=>U.same (i x (dm _ g))) (λx g=>j x (dm _ g)),
   akH hl U J l R r b (λt h=>I t (cD _ h)) (λx g=>j x (dg _ g)) (λx g=>i x (dg _ g)) h2,rfl⟩
theorem ajD {f:Func}{s:ChangeSpec}{i fresh l ab:Bool}{W W':aE}{args:aY Value}{v:Value}{ds gs:am (bH H)}{g pa pv:am cP}
 (hW:DataW.Whole enc P f.params.toList s.vars i W args.toList ds gs g)
 (aa: ∀(b:Nat) (sp:Nat ->Bool) (hd:Bool),cz enc P W' b sp hd f.resultTypes.toList (v.resultList f.resultTypes.size) (s.fn H (ds++gs)).results [])
 (o: ∀sp:Nat ->Bool,(∀p∈g,sp p.block=true) ->cz enc P W' 0 sp true f.params.toList args.toList (s.fn H (ds++gs)).args pa)
 (J: ∀sp:Nat ->Bool,(∀p∈g,sp p.block=true) ->DataW.TrodVars enc P W' sp s.vars (s.fn H (ds++gs)).vars pv)
 (R:g=pa++pv) (hb:Below W.heap.size W W')
 (ae: ∀(j:Nat) (t:TypeId) (r:Value),f.resultTypes[j]? =some t ->(v.resultList f.resultTypes.size)[j]? =some r ->bO P W' .any 0 t r):
 s.post enc P f i fresh l ab W args v W':=by
 have ad: ∀p∈g,p.block<W.heap.size:=λp I=>hW.lt p I
 have U: ∀p∈g,(λb=>decide (b<W.heap.size)) p.block=true:=λp I=>by simpa using ad p I
 refine⟨ds,gs,g,[],pa,pv,hW,aa _ _ _,o _ U,J _ U,World.keptBut_mono (λp I=>⟨I,?_⟩) (hb.frame (· ∈g)),λ_=>?_⟩
 ·rw[R,bP]at I;exact Or.inr I
 obtain⟨_,_,_,_,_,hz,hn⟩:=hW;refine⟨ae,_,_,([]++pa)++pv,⟨[]++pa,pv,trodAll_append (o _ (λ_ _=>rfl)) (aa _ _ _),J _ (λ_ _=>rfl),rfl,?_,?_⟩,?_⟩
 ·intro b off I;have ac:MemPlace.cell b off∈g:=by rw[R];simpa using I
  rw[hb.frozen (ad _ ac)];exact hz b off ac
 ·intro ha;have:=hn ha;rw[R]at this;simpa using this
 intro p I _;rw[R];simpa using I
def aoP:Res:=⟨.w (.c (.d (.lit (.bool true)))),[]⟩
end
inductive Fd where
 |bool
 |int (k:aZ)
 |str
 |ref (i:Nat)
inductive Sh where
 |sl (e:Fd)
 |st (fs:am Fd)
def yy (tab:am Sh):Nat ->Fd ->am D ->Prop
 |_,.bool,g=> ∃b,g=[.lit (.bool b)]
 |_,.int k,g=> ∃m,g=[.lit (.int k m)]/\(Lit.int k m).wf=true
 |_,.str,g=> ∃s:ByteArray,g=[.lit (.string s)]/\s.size<=maxLen
 |0,.ref _,_=>False
 |n+1,.ref i,g=>match tab[i]? with
  |some (.sl e)=> ∃j,g=[.sl j]/\j.length<=maxLen /\ ∀y∈j,yy tab n e y
  |some (.st o)=> ∃l:am (am D),g=l.flatten /\aa1 (λf d=>yy tab n f d) o l
  |none=>False
def Xx (P:Program)(nums:am TypeId)(t:TypeId):Fd ->Bool
 | .bool=>match P.underlying t with|some .bool=>true|_=>false
 | .int k=>match P.underlying t with|some (.int g)=>qK g k|_=>false
 | .str=>match P.underlying t with|some .string=>true|_=>false
 | .ref i=>match nums[i]? with|some u=>Nat.beq t u|none=>false
def akb (P:Program)(nums:am TypeId):am Field ->am Fd ->Bool
 | [],[]=>true
 |f::i,d::g=>Xx P nums f.type d&&akb P nums i g
 |_,_=>false
def ahx (P:Program)(nums:am TypeId)(t:TypeId):Sh ->Bool
 | .sl e=>match P.underlying t with
   |some (.slice u)=>Nat.blt 0 (P.cellsOf u)&&Xx P nums u e
   |_=>false
 | .st g=>match P.underlying t with
   |some (.struct l)=>(match laid P 0 l.toList with|some m=>Nat.beq m (P.cellsOf t)|none=>false)&&akb P nums l.toList g
   |_=>false
def af3 (P:Program)(nums:am TypeId):am TypeId ->am Sh ->Bool
 | [],[]=>true
 |t::i,s::g=>ahx P nums t s&&af3 P nums i g
 |_,_=>false
def ac2 (P:Program)(nums:am TypeId)(tab:am Sh):Bool:=af3 P nums nums tab
theorem gV {P:Program}{nums:am TypeId}: ∀{g:am TypeId}{j:am Sh}{i:Nat}{t:TypeId},af3 P nums g j=true ->g[i]? =some t -> ∃s,j[i]? =some s /\ahx P nums t s=true
 | [],_,i,t,_,h=>by simp at h
 |t::g,[],i,u,h,_=>by cases h
 |t::g,s::j,i,u,h,hi=>by
  simp only[af3,aS]at h;cases i with
  |zero=>simp at hi;subst hi;exact⟨s,rfl,h.1⟩
  |succ i=>
   simp at hi;obtain⟨x,o,l⟩:=gV h.2 hi;exact⟨x,by simpa using o,l⟩
section
variable {H:Type}{enc:TypeId×Value ->H}{P:Program}{w:aE}{base:Nat}{spare:Nat ->Bool}{held:Bool}{ι:Nat ->Gh}{nums:am TypeId}{tab:am Sh}
theorem aoe {ok:Nat ->Prop}{n:Nat}(cs:am Value): ∀(l:am Field) (gs:am Fd) (o m:Nat),laid P o l=some m ->m<=cs.length ->akb P nums l gs=true ->
 (∀f∈l,∀g,Xx P nums f.type g=true -> ∃r,yy tab n g r /\CRs ι w ok (r.map .d) ((cs.drop f.offset).take (P.cellsOf f.type))) ->
 o<=m /\ ∃i:am (am D),aa1 (λf d=>yy tab n f d) gs i /\CRs ι w ok (i.flatten.map .d) ((cs.drop o).take (m - o))
 | [],[],o,m,h,_,_,_=>by
   cases h;exact⟨aM _,[],trivial,by simp;trivial⟩
 | [],_::_,_,_,_,_,h,_=>by cases h
 |_::_,[],_,_,_,_,h,_=>by cases h
 |f::l,g::gs,o,m,h,hm,I,j=>by
  simp only[akb,aS]at I;simp only[laid]at h;cases p:Nat.beq f.offset o with
  |false=>rw[p]at h;cases h
  |true=>
   rw[p]at h;have p:=bU p;obtain⟨r,U,J⟩:=j f aU g I.1;obtain⟨h3,i,h4,h5⟩:=aoe cs l gs _ m h hm I.2 λR hf=>j R (cD _ hf)
   refine⟨by omega,r::i,⟨U,h4⟩,?_⟩;rw[p]at J;rw[List.flatten_cons,bI];have:(cs.drop o).take (m - o)=(cs.drop o).take (P.cellsOf f.type)++(cs.drop (o+P.cellsOf f.type)).take (m -(o+P.cellsOf f.type)):=by
    rw[show m - o=P.cellsOf f.type+(m -(o+P.cellsOf f.type))by omega,List.take_add,List.drop_drop]
   rw[this];exact CRs.append J h5
theorem arQ {a b:aZ}(h:qK a b=true):a=b:=by cases a<;>cases b<;>first|rfl|cases h
theorem ayt (ar:ac2 P nums tab=true): ∀(U:Nat) (t:TypeId) (g:Fd),Xx P nums t g=true -> ∀(cs:am Value) (x:bH H×am cP),DataW.trod enc P w base spare held U t cs=some x ->
 ∃ds,yy tab U g ds /\CRs ι w (WB w) (ds.map .d) cs:=by
 intro U;induction U with
 |zero=>intro t g _ cs x hx;simp[DataW.trod]at hx
 |succ n ih=>
  intro t g I cs x hx;cases g with
  |bool=>
   simp only[Xx]at I;split at I
   ·rename_i hu;obtain⟨b,rfl,_⟩:=DataW.trod_bool hu hx;exact⟨[.lit (.bool b)],by simp only[yy];exact⟨b,rfl⟩,⟨by simp only[CR,RD];exact⟨trivial,rfl⟩,trivial⟩⟩
   cases I
  |int k=>
   simp only[Xx]at I;split at I
   ·rename_i k1 hu;have:=arQ I;subst this;obtain⟨m,rfl,_,hw⟩:=DataW.trod_int hu hx;exact⟨[.lit (.int k1 m)],by simp only[yy];exact⟨m,rfl,hw⟩,⟨by simp only[CR,RD];exact⟨trivial,rfl⟩,trivial⟩⟩
   cases I
  |str=>
   simp only[Xx]at I;split at I
   ·rename_i hu;obtain⟨s,rfl,_,hw⟩:=DataW.trod_string hu hx;exact⟨[.lit (.string s)],by simp only[yy];exact⟨s,rfl,hw⟩,⟨by simp only[CR,RD];exact⟨trivial,rfl⟩,trivial⟩⟩
   cases I
  |ref i=>
   simp only[Xx]at I;split at I
   ·rename_i u aq;have:=bU I;subst this;obtain⟨s,hs,l⟩:=gV ar aq;cases s with
    |sl e=>
     simp only[ahx]at l;split at l
     ·rename_i u hu;rw[aS]at l;have aj:0<P.cellsOf u:=bT l.1;simp only[yy,hs];rcases DataW.trod_slice hu hx with⟨rfl,_⟩|⟨a,len,cap,ak,rest,m,ad,rfl,_,hb,hl,hm,ai,al,_,_⟩
      ·exact⟨_,⟨[],rfl,bD _,λ_ h=>(by cases h)⟩,⟨by simp only[CR,RD];exact⟨none,0,0,rfl,rfl,aM _,bD _,.inl trivial⟩,trivial⟩⟩
      cases ad;obtain⟨ab,h1,h2,h3⟩:=aro (w:=w) (ι:=ι) (R:=yy tab n e) (ok:=WB w) (g:=λi=>w.cells? base (a.add (i*P.cellsOf u)) (P.cellsOf u)) len (λi hi=>by
       have h:=al i hi;rw[am.getElem?_eq_getElem (by omega)]at h;obtain⟨p,g1,g2⟩:=Option.bind_eq_some_iff.1 h;obtain⟨ds,g3,g4⟩:=ih u e l.2 p _ g2;exact⟨p,ds,g1,g3,g4⟩)
      refine⟨_,⟨ab,rfl,by omega,h2⟩,⟨?_,trivial⟩⟩;simp only[CR,RD];refine⟨some a,len,cap,rfl,h1.symm,hl,hm,?_⟩;cases ac:ab with
      |nil=>exact .inl rfl
      |cons e0 r=>
       right
       have aa: ∀i y,ab[i]? =some y -> ∃p,p.length=P.cellsOf u /\(∀j,j<P.cellsOf u ->w.cell? ((a.add (i*P.cellsOf u)).add j)=p[j]?)/\CRs ι w (WB w) (y.map .d) p:=λi y hy=>by
        obtain⟨p,g1,g2⟩:=h3 i y hy;obtain⟨_,g3,g4⟩:=aE.cells?_some g1;exact⟨p,g3,g4,g2⟩
       obtain⟨aw,c1,c2,_⟩:=aa 0 e0 (by rw[ac];rfl);have ag:=c2 0 aj;rw[am.getElem?_eq_getElem (by omega)]at ag;have J:a.spot=none /\a.block<w.heap.size:=by
        have:=arc ag;refine⟨?_,?_⟩
        ·cases hs:a.spot with
         |none=>rfl
         |some s=>exfalso;have h5:=this.1;simp[Addr.add,hs]at h5
        have h5:=this.2;unfold Addr.add at h5;(repeat' split at h5)<;>exact h5
       refine⟨a.block,a.off,P.cellsOf u,?_,J.2,?_⟩
       ·obtain⟨b,o,s⟩:=a;cases J.1;rfl
       rw[<- ac];refine aqL ab a.off λi y hy=>?_
       obtain⟨p,g1,g2,g3⟩:=aa i y hy;refine⟨by rw[avW g3,g1],ae8 g3 λj v hv=>?_⟩;have hj:j<P.cellsOf u:=by rw[<- g1];exact(am.getElem?_eq_some_iff.1 hv).1
       have:=g2 j hj;rw[aqZ a _ J.1,wT]at this;rw[this,hv]
     cases l
    |st gs=>
     simp only[ahx]at l;split at l
     ·rename_i fs hu;rw[aS]at l;obtain⟨ae,au⟩:=l;split at ae
      ·rename_i m hm;have ax:=bU ae;obtain⟨xs,k,ad,_,ai,av,hf⟩:=DataW.trod_struct hu hx;cases ad;simp only[yy,hs];obtain⟨_,af,h1,h2⟩:=aoe (w:=w) (ι:=ι) (ok:=WB w) (n:=n) (tab:=tab) (nums:=nums) cs fs.toList gs 0 m hm (by omega) au (λf an g I=>by
        obtain⟨i,hi⟩:=am.getElem?_of_mem an;have ah:fs[i]? =some f:=by rw[<- aY.getElem?_toList];exact hi
        have ao:i<xs.length:=by rw[av];exact(aY.getElem?_eq_some_iff.1 ah).1
        have h:=hf i f ah;rw[am.getElem?_eq_getElem ao]at h;exact ih f.type g I _ _ h)
       refine⟨af.flatten,⟨af,rfl,h1⟩,?_⟩;rw[List.drop_zero,Nat.sub_zero,aT (by omega)]at h2;exact h2
      cases ae
     cases l
   cases I
def Fd.isAgg (tab:am Sh):Fd ->Bool
 | .ref i=>match tab[i]? with|some (.st _)=>true|_=>false
 |_=>false
def aa2 (tab:am Sh)(g:Fd)(x:W):Prop:= ∃n i,yy tab n g i /\(g.isAgg tab=true ->x= .agg (i.map .d))/\(g.isAgg tab=false -> ∃d,i=[d]/\x= .c (.d d))
theorem alo (p:ac2 P nums tab=true){t:TypeId}{g:Fd}(j:Xx P nums t g=true):g.isAgg tab=Wa P t:=by
 unfold Wa;cases g with
 |bool=>
  simp only[Xx]at j;split at j
  ·rename_i h;rw[h];rfl
  cases j
 |int k=>
  simp only[Xx]at j;split at j
  ·rename_i h;rw[h];rfl
  cases j
 |str=>
  simp only[Xx]at j;split at j
  ·rename_i h;rw[h];rfl
  cases j
 |ref i=>
  simp only[Xx]at j;split at j
  ·rename_i u o;have:=bU j;subst this;obtain⟨s,hs,l⟩:=gV p o;simp only[Fd.isAgg,hs];cases s with
   |sl e=>
    simp only[ahx]at l;split at l
    ·rename_i h;rw[h]
    cases l
   |st e=>
    simp only[ahx]at l;split at l
    ·rename_i h;rw[h]
    cases l
  cases j
theorem aux (o:ac2 P nums tab=true){W:aE}{U:Nat}{t:TypeId}{g:Fd}{v:Value}{d:bH H}{p:am cP}{ι:Nat ->Gh}(R:Xx P nums t g=true)(l:bO P W .any U t v)
 (h:DataW.Trod enc P W 0 (λ_=>true) true t v d p): ∃x,aa2 tab g x /\WR ι W (WB W) x v:=by
 obtain⟨j,hf⟩:=h;obtain⟨J,r,i⟩:=ayt (ι:=ι) o j t g R _ _ hf;cases I:Wa P t with
 |true=>
  obtain⟨cs,rfl⟩:=aq0 l I;refine⟨.agg (J.map .d),⟨j,J,r,λ_=>rfl,λh=>(by rw[alo o R,I]at h;cases h)⟩,cs.toList,by simp,?_⟩;simpa[Value.cells]using i
 |false=>
  rw[ane l I]at i
  match J,i with
  | [d],i=>exact⟨.c (.d d),⟨j,[d],r,λh=>(by rw[alo o R,I]at h;cases h),λ_=>⟨d,rfl,rfl⟩⟩,i.1⟩
  | [],i=>exact i.elim
  |_::_::_,i=>exact i.2.elim
def ac1 (P:Program)(nums:am TypeId):am TypeId ->am Fd ->Bool
 | [],[]=>true
 |t::i,g::gs=>Xx P nums t g&&ac1 P nums i gs
 |_,_=>false
theorem aiF (o:ac2 P nums tab=true){W:aE}{b0:Nat}{ι:Nat ->Gh}: ∀(l:am TypeId) (gs:am Fd) (vs:am Value) (J:am (bH H)) (p:am cP),ac1 P nums l gs=true ->
 (∀(j:Nat) t v,l[j]? =some t ->vs[j]? =some v ->bO P W .any b0 t v) ->cz enc P W 0 (λ_=>true) true l vs J p ->
 ∃xs,aa1 (aa2 tab) gs xs /\qd ι W (WB W) xs vs /\J.length=l.length
 | [],[],vs,J,p,_,_,h=>by
   obtain⟨rfl,rfl,rfl⟩:=trodAll_nil h;exact⟨[],trivial,trivial,rfl⟩
 | [],_::_,_,_,_,h,_,_=>by cases h
 |_::_,[],_,_,_,h,_,_=>by cases h
 |t::l,g::gs,vs,J,p,U,i,h=>by
  simp only[ac1,aS]at U;obtain⟨v,ac,d,R,a,b,rfl,rfl,rfl,h1,h2⟩:=trodAll_cons h;obtain⟨x,aa,ab⟩:=aux (ι:=ι) o U.1 (i 0 t v rfl rfl) h1;obtain⟨xs,r,I,hl⟩:=aiF (ι:=ι) o l gs ac R b U.2 (λj t v hj hv=>i (j+1) t v hj hv) h2;exact⟨x::xs,⟨aa,r⟩,⟨ab,I⟩,by simp[hl]⟩
def aot (P:Program)(g:am TypeId):Bool:=g.all λt=>P.readableRec t&&decide (t<P.types.size)
theorem arR {f:FuncId}{fn:Func}{s:ChangeSpec}{tb:TypeId}{gs0:am Fd}(hl:laidOutB P=true)(ai:ac2 P nums tab=true)(ab:ac1 P nums fn.params.toList gs0=true)(l:aot P fn.params.toList=true)(o:s.vars=[])(U:fn.resultTypes= #[tb])(hb:P.underlying tb=some .bool)
 (ad: ∀(H:Type) (J:am (bH H)),J.length=fn.params.toList.length ->(s.fn H J).results=[.lit (.bool true)]/\(s.fn H J).args=J /\(s.fn H J).vars=[])
 (ag: ∀xs,aa1 (aa2 tab) gs0 xs ->Sat P f xs (λr=>r=aoP)) {g fresh i aa:Bool}
 (W:aE) (af:Glb (WB W) W) (base:Nat) (args:aY Value) (J gs:am (bH H)) (I:am cP)
 (ah: ∀(j:Nat) t v,fn.params[j]? =some t ->args[j]? =some v ->bO P W .any base t v)
 (hW:DataW.Whole enc P fn.params.toList s.vars g W args.toList J gs I):
 cq P f args W λe W'=> ∃v,e= .returned v /\s.post enc P fn g fresh i aa W args v W':=by
 have ae:=hW;obtain⟨p,q,hA,hV,rfl,ak,al⟩:=hW;rw[o]at hV;obtain⟨rfl,rfl⟩:=trodVars_none hV;simp only[aot,List.all_eq_true,aS,dy]at l;obtain⟨xs,h1,h2,h3⟩:=aiF (ι:=λ_=>⟨none,0,.nilFunc,[]⟩) ai fn.params.toList gs0 args.toList J p ab (λj t v hj hv=>ah j t v (by simpa using hj) (by simpa using hv)) hA;have hc:=(ag xs h1).2 W (WB W) args.toList ⟨λb h=>h,af⟩ h2;rw[Array.toArray_toList]at hc;refine hc.mono λe W' ⟨v,r,he,hr,ac,hg⟩=>⟨v,he,?_⟩
 subst hr;obtain⟨_,ι,hv,_⟩:=ac;have hv:v= .bool true:=by
  simp only[VR,WR,CR,RD,aoP]at hv;exact hv.1
 subst hv;obtain⟨s1,s2,s3⟩:=ad H (J++[]) (by simpa using h3);have R:Below W.heap.size W W':=⟨hg.os,hg.tape,hg.output,hg.size,λk hk=>hg.block k hk λh=>h⟩;refine ajD (pa:=p) (pv:=[]) ae ?_ ?_ ?_ (by simp) R ?_
 ·intro b sp hd;rw[s1,U];exact trodAll_cons_mk (shut_bool hb _) trodAll_mk0
 ·intro sp aj;rw[s2,bA];exact akH hl R sp _ _ _ _ (λt ht=>⟨(l t ht).1,(l t ht).2⟩) (λx hx=>aj x (by simpa using hx)) (λx hx=>ae.lt x (by simpa using hx)) hA
 ·intro sp _;rw[s3,o];rfl
 exact ok_one U rfl (okWide_bool_mk hb _)
theorem ug {α β:Type}{R:α ->β ->Prop}{xs:am β}(h:aa1 R [] xs):xs=[]:=by cases xs with|nil=>rfl|cons _ _=>exact h.elim
theorem zX {α β:Type}{R:α ->β ->Prop}{a:α}{l:am α}{xs:am β}(h:aa1 R (a::l) xs): ∃x r,xs=x::r /\R a x /\aa1 R l r:=by
 cases xs with|nil=>exact h.elim|cons x r=>exact⟨x,r,rfl,h.1,h.2⟩
theorem Qo {α:Type}{f:α ->am D}{R:am D ->Prop}(h: ∀y,R y -> ∃x,y=f x): ∀{g:am (am D)},(∀y∈g,R y) -> ∃l:am α,g=l.map f
 | [],_=>⟨[],rfl⟩
 |e::r,hr=>by
  obtain⟨l,i⟩:=Qo (f:=f) h λy o=>hr y (cD _ o)
  obtain⟨x,j⟩:=h e (hr e aU);exact⟨x::l,by rw[j,i];rfl⟩
end
end
end Go.AM
namespace Go.Proofs.YtkdijaiaplkliaaGreatDoor
open Go Go.AM
def zS:am Sh:=[.st [.int .i64,.int .i64,.str],.sl (.ref 0),.sl (.ref 1),.st [.str,.int .i64],.sl (.ref 3),.st [.ref 4,.ref 2],.st [.int .i64,.int .i64,.str],.sl (.ref 0),
 .st [.int .i64,.str,.ref 0,.ref 9],.sl (.ref 8),.st [.ref 8,.str],.sl (.ref 10),.sl .str,.st [.str,.str,.str],.sl (.ref 13),.st [.str,.bool],.sl (.ref 15),
 .st [.int .i64,.ref 8,.ref 11,.ref 12,.ref 14,.ref 16,.int .i64,.str],.sl (.ref 17),.st [.str,.ref 18],.st [.str,.ref 5],.sl (.ref 20),.st [.int .i64,.str,.str,.int .i64,.int .i64,.ref 17,.ref 23],.sl (.ref 22)]
def an3:am TypeId:=[28,77,45,81,44,47,28,77,
 31,29,107,32,33,184,34,136,35,37,56,58,76,22,40,38]
theorem own:ownKnob Pg.godebug=none:=by kernel_rfl
theorem awl:laidOutB Pg=true:=by kernel_rfl
theorem axj:ac2 Pg an3 zS=true:=by kernel_rfl
theorem QC {n:Nat}{g:am D}(h:yy zS n (.int .i64) g): ∃x:Int,g=[.lit (.int .i64 x)]:=by
 cases n<;>(simp only[yy]at h;obtain⟨m,h,_⟩:=h;exact⟨m,h⟩)
theorem Za {n:Nat}{g:am D}(h:yy zS n .str g): ∃x:ByteArray,g=[.lit (.string x)]:=by
 cases n<;>(simp only[yy]at h;obtain⟨m,h,_⟩:=h;exact⟨m,h⟩)
theorem awY {n:Nat}{g:am D}(h:yy zS n .bool g): ∃x:Bool,g=[.lit (.bool x)]:=by
 cases n<;>(simp only[yy]at h;exact h)
theorem as5 {n:Nat}{g:am D}(h:yy zS n (.ref 0) g): ∃x:Val,g=x.ds:=by
 cases n with
 |zero=>simp only[yy]at h
 |succ n=>
  simp only[yy,show zS[0]? =some (.st [.int .i64,.int .i64,.str])from rfl]at h;obtain⟨i,rfl,h⟩:=h;obtain⟨I,_,rfl,h0,h⟩:=zX h;obtain⟨J,_,rfl,j,h⟩:=zX h;obtain⟨P,_,rfl,l,h⟩:=zX h;cases ug h;obtain⟨o,rfl⟩:=QC h0;obtain⟨p,rfl⟩:=QC j;obtain⟨r,rfl⟩:=Za l;exact⟨⟨o,p,r⟩,rfl⟩
theorem axU {n:Nat}{g:am D}(h:yy zS n (.ref 1) g): ∃x:am Val,g=[.sl (x.map Val.ds)]:=by
 cases n with
 |zero=>simp only[yy]at h
 |succ n=>
  simp only[yy,show zS[1]? =some (.sl (.ref 0))from rfl]at h;obtain⟨i,rfl,_,h⟩:=h;obtain⟨l,rfl⟩:=Qo (f:=Val.ds) (R:=yy zS n (.ref 0)) (λy j=>as5 j) h;exact⟨l,rfl⟩
theorem aw4 {n:Nat}{g:am D}(h:yy zS n (.ref 2) g): ∃x:am (am Val),g=[.sl (zf x)]:=by
 cases n with
 |zero=>simp only[yy]at h
 |succ n=>
  simp only[yy,show zS[2]? =some (.sl (.ref 1))from rfl]at h;obtain⟨i,rfl,_,h⟩:=h;obtain⟨l,rfl⟩:=Qo (f:=λr:am Val=> [D.sl (rowD r)]) (R:=yy zS n (.ref 1)) (λy j=>axU j) h;exact⟨l,rfl⟩
theorem axQ {n:Nat}{g:am D}(h:yy zS n (.ref 3) g): ∃x:Col,g=x.ds:=by
 cases n with
 |zero=>simp only[yy]at h
 |succ n=>
  simp only[yy,show zS[3]? =some (.st [.str,.int .i64])from rfl]at h;obtain⟨i,rfl,h⟩:=h;obtain⟨p,_,rfl,h0,h⟩:=zX h;obtain⟨r,_,rfl,j,h⟩:=zX h;cases ug h;obtain⟨l,rfl⟩:=Za h0;obtain⟨o,rfl⟩:=QC j;exact⟨⟨l,o⟩,rfl⟩
theorem awZ {n:Nat}{g:am D}(h:yy zS n (.ref 4) g): ∃x:am Col,g=[.sl (x.map Col.ds)]:=by
 cases n with
 |zero=>simp only[yy]at h
 |succ n=>
  simp only[yy,show zS[4]? =some (.sl (.ref 3))from rfl]at h;obtain⟨i,rfl,_,h⟩:=h;obtain⟨l,rfl⟩:=Qo (f:=Col.ds) (R:=yy zS n (.ref 3)) (λy j=>axQ j) h;exact⟨l,rfl⟩
theorem axW {n:Nat}{g:am D}(h:yy zS n (.ref 5) g): ∃x:Tbl,g=x.ds:=by
 cases n with
 |zero=>simp only[yy]at h
 |succ n=>
  simp only[yy,show zS[5]? =some (.st [.ref 4,.ref 2])from rfl]at h;obtain⟨i,rfl,h⟩:=h;obtain⟨p,_,rfl,h0,h⟩:=zX h;obtain⟨r,_,rfl,j,h⟩:=zX h;cases ug h;obtain⟨l,rfl⟩:=awZ h0;obtain⟨o,rfl⟩:=aw4 j;exact⟨⟨l,o⟩,rfl⟩
theorem avQ: ∀{n:Nat}{i:am D}(_:yy zS n (.ref 8) i),∃x:Ex,i=x.ds:=by
 intro n;induction n using Nat.strongRecOn with
 |ind n J=>
  intro i h;cases n with
  |zero=>simp only[yy]at h
  |succ n=>
   simp only[yy,show zS[8]? =some (.st [.int .i64,.str,.ref 0,.ref 9])from rfl]at h;obtain⟨j,rfl,h⟩:=h;obtain⟨d0,_,rfl,h0,h⟩:=zX h;obtain⟨d1,_,rfl,p,h⟩:=zX h;obtain⟨d2,_,rfl,r,h⟩:=zX h;obtain⟨d3,_,rfl,g,h⟩:=zX h;cases ug h;obtain⟨P,rfl⟩:=QC h0;obtain⟨U,rfl⟩:=Za p;obtain⟨x2,rfl⟩:=as5 r;cases n with
   |zero=>simp only[yy]at g
   |succ n=>
    simp only[yy,show zS[9]? =some (.sl (.ref 8))from rfl]at g;obtain⟨o,rfl,_,g⟩:=g;obtain⟨l,rfl⟩:=Qo (f:=Ex.ds) (R:=yy zS n (.ref 8)) (λy I=>J n (by omega) I) g;exact⟨⟨P,U,x2,l⟩,by rw[<- gD];rfl⟩
theorem axR {n:Nat}{g:am D}(h:yy zS n (.ref 10) g): ∃x:Itm,g=x.ds:=by
 cases n with
 |zero=>simp only[yy]at h
 |succ n=>
  simp only[yy,show zS[10]? =some (.st [.ref 8,.str])from rfl]at h;obtain⟨i,rfl,h⟩:=h;obtain⟨p,_,rfl,h0,h⟩:=zX h;obtain⟨r,_,rfl,j,h⟩:=zX h;cases ug h;obtain⟨l,rfl⟩:=avQ h0;obtain⟨o,rfl⟩:=Za j;exact⟨⟨l,o⟩,rfl⟩
theorem aw0 {n:Nat}{g:am D}(h:yy zS n (.ref 11) g): ∃x:am Itm,g=[.sl (x.map Itm.ds)]:=by
 cases n with
 |zero=>simp only[yy]at h
 |succ n=>
  simp only[yy,show zS[11]? =some (.sl (.ref 10))from rfl]at h;obtain⟨i,rfl,_,h⟩:=h;obtain⟨l,rfl⟩:=Qo (f:=Itm.ds) (R:=yy zS n (.ref 10)) (λy j=>axR j) h;exact⟨l,rfl⟩
theorem aw6 {n:Nat}{g:am D}(h:yy zS n (.ref 12) g): ∃x:am ByteArray,g=[.sl (x.map (λb=> [D.lit (.string b)]))]:=by
 cases n with
 |zero=>simp only[yy]at h
 |succ n=>
  simp only[yy,show zS[12]? =some (.sl .str)from rfl]at h;obtain⟨i,rfl,_,h⟩:=h;obtain⟨l,rfl⟩:=Qo (f:=(λb=> [D.lit (.string b)])) (R:=λy=> ∃s:ByteArray,y=[D.lit (.string s)]/\s.size<=maxLen) (λy ⟨s,e,_⟩=>⟨s,e⟩) h;exact⟨l,rfl⟩
theorem axP {n:Nat}{g:am D}(h:yy zS n (.ref 13) g): ∃x:Agg,g=x.ds:=by
 cases n with
 |zero=>simp only[yy]at h
 |succ n=>
  simp only[yy,show zS[13]? =some (.st [.str,.str,.str])from rfl]at h;obtain⟨i,rfl,h⟩:=h;obtain⟨I,_,rfl,h0,h⟩:=zX h;obtain⟨J,_,rfl,j,h⟩:=zX h;obtain⟨P,_,rfl,l,h⟩:=zX h;cases ug h;obtain⟨o,rfl⟩:=Za h0;obtain⟨p,rfl⟩:=Za j;obtain⟨r,rfl⟩:=Za l;exact⟨⟨o,p,r⟩,rfl⟩
theorem awX {n:Nat}{g:am D}(h:yy zS n (.ref 14) g): ∃x:am Agg,g=[.sl (x.map Agg.ds)]:=by
 cases n with
 |zero=>simp only[yy]at h
 |succ n=>
  simp only[yy,show zS[14]? =some (.sl (.ref 13))from rfl]at h;obtain⟨i,rfl,_,h⟩:=h;obtain⟨l,rfl⟩:=Qo (f:=Agg.ds) (R:=yy zS n (.ref 13)) (λy j=>axP j) h;exact⟨l,rfl⟩
theorem axV {n:Nat}{g:am D}(h:yy zS n (.ref 15) g): ∃x:Srt,g=x.ds:=by
 cases n with
 |zero=>simp only[yy]at h
 |succ n=>
  simp only[yy,show zS[15]? =some (.st [.str,.bool])from rfl]at h;obtain⟨i,rfl,h⟩:=h;obtain⟨p,_,rfl,h0,h⟩:=zX h;obtain⟨r,_,rfl,j,h⟩:=zX h;cases ug h;obtain⟨l,rfl⟩:=Za h0;obtain⟨o,rfl⟩:=awY j;exact⟨⟨l,o⟩,rfl⟩
theorem aw5 {n:Nat}{g:am D}(h:yy zS n (.ref 16) g): ∃x:am Srt,g=[.sl (x.map Srt.ds)]:=by
 cases n with
 |zero=>simp only[yy]at h
 |succ n=>
  simp only[yy,show zS[16]? =some (.sl (.ref 15))from rfl]at h;obtain⟨i,rfl,_,h⟩:=h;obtain⟨l,rfl⟩:=Qo (f:=Srt.ds) (R:=yy zS n (.ref 15)) (λy j=>axV j) h;exact⟨l,rfl⟩
theorem as4 {n:Nat}{g:am D}(h:yy zS n (.ref 17) g): ∃x:Stp,g=x.ds:=by
 cases n with
 |zero=>simp only[yy]at h
 |succ n=>
  simp only[yy,show zS[17]? =some (.st [.int .i64,.ref 8,.ref 11,.ref 12,.ref 14,.ref 16,.int .i64,.str])from rfl]at h;obtain⟨i,rfl,h⟩:=h;obtain⟨d0,_,rfl,h0,h⟩:=zX h;obtain⟨d1,_,rfl,j,h⟩:=zX h;obtain⟨d2,_,rfl,l,h⟩:=zX h;obtain⟨d3,_,rfl,o,h⟩:=zX h;obtain⟨d4,_,rfl,p,h⟩:=zX h;obtain⟨d5,_,rfl,r,h⟩:=zX h;obtain⟨d6,_,rfl,I,h⟩:=zX h;obtain⟨d7,_,rfl,J,h⟩:=zX h;cases ug h;obtain⟨P,rfl⟩:=QC h0;obtain⟨R,rfl⟩:=avQ j;obtain⟨U,rfl⟩:=aw0 l;obtain⟨x3,rfl⟩:=aw6 o;obtain⟨x4,rfl⟩:=awX p;obtain⟨x5,rfl⟩:=aw5 r;obtain⟨x6,rfl⟩:=QC I;obtain⟨x7,rfl⟩:=Za J;exact⟨⟨P,R,U,x3,x4,x5,x6,x7⟩,rfl⟩
theorem axS {n:Nat}{g:am D}(h:yy zS n (.ref 20) g): ∃x:Nmd,g=x.ds:=by
 cases n with
 |zero=>simp only[yy]at h
 |succ n=>
  simp only[yy,show zS[20]? =some (.st [.str,.ref 5])from rfl]at h;obtain⟨i,rfl,h⟩:=h;obtain⟨p,_,rfl,h0,h⟩:=zX h;obtain⟨r,_,rfl,j,h⟩:=zX h;cases ug h;obtain⟨l,rfl⟩:=Za h0;obtain⟨o,rfl⟩:=axW j;exact⟨⟨l,o⟩,rfl⟩
theorem aw3 {n:Nat}{g:am D}(h:yy zS n (.ref 21) g): ∃x:am Nmd,g=[.sl (x.map Nmd.ds)]:=by
 cases n with
 |zero=>simp only[yy]at h
 |succ n=>
  simp only[yy,show zS[21]? =some (.sl (.ref 20))from rfl]at h;obtain⟨i,rfl,_,h⟩:=h;obtain⟨l,rfl⟩:=Qo (f:=Nmd.ds) (R:=yy zS n (.ref 20)) (λy j=>axS j) h;exact⟨l,rfl⟩
theorem aq2 {g:AM.Fd}{x:W}(h:aa2 zS g x)(o:g.isAgg zS=true): ∃n i,yy zS n g i /\x= .agg (i.map .d):=by
 obtain⟨n,i,j,l,_⟩:=h;exact⟨n,i,j,l o⟩
theorem av2 {g:AM.Fd}{x:W}(h:aa2 zS g x)(l:g.isAgg zS=false): ∃n d,yy zS n g [d]/\x= .c (.d d):=by
 obtain⟨n,o,i,_,j⟩:=h;obtain⟨d,rfl,rfl⟩:=j l;exact⟨n,d,i,rfl⟩
theorem atj {x:W}(h:aa2 zS (.ref 21) x): ∃t:am Nmd,x= .c (.d (.sl (zu t))):=by
 obtain⟨n,d,g,rfl⟩:=av2 h rfl;clear h;have h:=g;clear g;obtain⟨t,h⟩:=aw3 h;cases h;exact⟨t,rfl⟩
theorem av4 {x:W}(h:aa2 zS (.ref 17) x): ∃t:Stp,x=t.w:=by
 obtain⟨n,i,g,rfl⟩:=aq2 h rfl;clear h;have h:=g;clear g;obtain⟨t,rfl⟩:=as4 h;exact⟨t,rfl⟩
theorem axT: ∀{n:Nat}{i:am D}(_:yy zS n (.ref 22) i),∃x:Pln,i=x.ds:=by
 intro n;induction n using Nat.strongRecOn with
 |ind n ih=>
  intro i h;cases n with
  |zero=>simp only[yy]at h
  |succ n=>
   simp only[yy,show zS[22]? =some (.st [.int .i64,.str,.str,.int .i64,.int .i64,.ref 17,.ref 23])from rfl]at h;obtain⟨j,rfl,h⟩:=h;obtain⟨d0,_,rfl,h0,h⟩:=zX h;obtain⟨d1,_,rfl,p,h⟩:=zX h;obtain⟨d2,_,rfl,r,h⟩:=zX h;obtain⟨d3,_,rfl,I,h⟩:=zX h;obtain⟨d4,_,rfl,J,h⟩:=zX h;obtain⟨d5,_,rfl,P,h⟩:=zX h;obtain⟨d6,_,rfl,g,h⟩:=zX h;cases ug h;obtain⟨x0,rfl⟩:=QC h0;obtain⟨x1,rfl⟩:=Za p;obtain⟨x2,rfl⟩:=Za r;obtain⟨x3,rfl⟩:=QC I;obtain⟨x4,rfl⟩:=QC J;obtain⟨x5,rfl⟩:=as4 P;cases n with
   |zero=>simp only[yy]at g
   |succ n=>
    simp only[yy,show zS[23]? =some (.sl (.ref 22))from rfl]at g;obtain⟨o,rfl,_,g⟩:=g;obtain⟨l,rfl⟩:=Qo (f:=Pln.ds) (R:=yy zS n (.ref 22)) (λy U=>ih n (by omega) U) g;refine⟨.mk x0 x1 x2 x3 x4 x5 l,?_⟩;rw[<- abZ];simp only[Pln.ds,List.flatten_cons,List.flatten_nil,bA,bM,cH]
theorem av3 {x:W}(h:aa2 zS (.ref 22) x): ∃t:Pln,x=t.w:=by
 obtain⟨n,i,g,rfl⟩:=aq2 h rfl;obtain⟨t,rfl⟩:=axT g;exact⟨t,rfl⟩
section
attribute [local irreducible] Sat zA zY zo
def Pln.col:Pln ->ByteArray| .mk _ _ col _ _ _ _=>col
def Pln.lo:Pln ->Int| .mk _ _ _ lo _ _ _=>lo
def Pln.hi:Pln ->Int| .mk _ _ _ _ hi _ _=>hi
def uZ (t:Tbl)(c:ByteArray):Int:=bif decide (zj t.cols c<0)then 16 else bif vX t.cols (zj t.cols c) !=2 then 14 else 0
def yN (d:am Nmd)(p:Pln):Int:=
 bif yI d !=0 then yI d else bif !p.qry.2 then 1 else bif (VJ d p.qry.1).1 !=0 then(VJ d p.qry.1).1 else
 bif zo p.base.1.col ⟨#[]⟩then 0 else uZ ((zZ p.base.1.tb d).getD ⟨[],[]⟩) p.base.1.col
def Ue (d:am Nmd)(p:Pln):Tbl:=
 bif zo p.col ⟨#[]⟩then(zZ p.tb d).getD ⟨[],[]⟩else⟨((zZ p.tb d).getD ⟨[],[]⟩).cols,((zZ p.tb d).getD ⟨[],[]⟩).rows.filter (inR (zj ((zZ p.tb d).getD ⟨[],[]⟩).cols p.col).toNat p.lo p.hi)⟩
end
section
attribute [local irreducible] Sat zA zY
theorem adY (d:am Nmd)(q:Qry)(hs: ∀s∈q.steps,s.Sm):Sat Pg Yl [.c (.d (.sl (zu d))),q.w] (λr=>r=xF (VJ d q)):=by
 obtain⟨g,l⟩:=q;have hs: ∀s∈l,s.Sm:=hs;have p:=qM d;have R:=aiN ⟨g,l⟩ (λs h=>aK (hs s h).sorts (by omega));have I:=y9 d g;unfold VJ;by_cases i:yI d=0
 ·by_cases J:Qry.err ⟨g,l⟩=0
  ·cases P:zZ g d with
   |some t=>
    obtain⟨tc,U⟩:=t;have:=ahW d g l hs i J tc U P _ rfl
    grind
   |none=>
    rw[i]at p;rw[J]at R;rw[P]at I;rw[i,J];simp only[P];refine zD ?_;refine jD.s T8 ?_;refine aC p ?_;refine aC R ?_;refine aC I ?_;exact⟨rfl,rfl⟩
  have o:(Qry.err ⟨g,l⟩ !=0)=true:=by grind
  rw[i]at p;rw[i,o];simp only[dz,aD,aB];generalize Qry.err ⟨g,l⟩=e2 at*;refine zD ?_;refine jD.s T8 ?_;refine aC p ?_;refine aC R ?_;rw[o];exact⟨rfl,rfl⟩
 have j:(yI d !=0)=true:=by grind
 rw[j];simp only[aD];generalize yI d=e1 at*;refine zD ?_;refine jD.s T8 ?_;refine aC p ?_;rw[j];exact⟨rfl,rfl⟩
end
section
attribute [local irreducible] Sat zA zY zo
theorem U6 (op:Int):Sat Pg anu [.c (int op)] (λr=>r=rI (ac4 op)):=by
 unfold ac4;refine xq T8 ana.ok (by kernel_rfl) ?_
 repeat' (conv=>whnf
          refine zw (λh=>?_) (λh=>?_))
 all_goals refine aF rI ?_
 all_goals first|(simp only[*,aD,aB];done)|(simp_all only[Bool.false_eq_true,aD,aB];done)|(simp_all;done)
def Pln.cs:Pln ->am C
 | .mk op tb col lo hi ⟨p,⟨I,J,⟨P,R,vs⟩,l⟩,g,o,j,i,n,r⟩ ks=> [int op,str tb,str col,int lo,int hi,int p,int I,str J,int P,int R,str vs,.d (.sl (exsD l)),.d (.sl (yW g)),.d (.sl (zp o)),.d (.sl (wt j)),.d (.sl (xQ i)),int n,str r,.d (.sl (plnsD ks))]
theorem wg (p:Pln):p.w= .agg p.cs:=by
 obtain⟨op,tb,col,lo,hi,⟨r,⟨J,P,⟨R,U,vs⟩,l⟩,g,o,j,i,n,I⟩,ks⟩:=p;simp only[Pln.w,Pln.ds,c7,Ex.ds];rfl
theorem qT (op o:Int)(p:ByteArray)(r I:Int)(vs:ByteArray)(ks:am Ex)(g:am Itm)(l:am ByteArray)(j:am Agg)(i:am Srt)(n:Int)(tb:ByteArray):
 Stp.w ⟨op,⟨o,p,⟨r,I,vs⟩,ks⟩,g,l,j,i,n,tb⟩= .agg [int op,int o,str p,int r,int I,str vs,.d (.sl (exsD ks)),.d (.sl (yW g)),.d (.sl (zp l)),.d (.sl (wt j)),.d (.sl (xQ i)),int n,str tb]:=by
 simp only[Stp.w,c7,Ex.ds];rfl
def Stp.lens (s:Stp):Nat:=s.cond.ks.length+s.items.length+s.cols.length+s.aggs.length+s.sorts.length
theorem asp (st:Stp)(hl:st.lens<=1000000):Sat Pg abH [st.w] (λr=>r=rB (Uz st)):=by
 suffices h: ∀b,Uz st=b ->Sat Pg abH [st.w] (λr=>r=rB b)from h _ rfl
 intro b J;obtain⟨op,⟨eo,nm,⟨vk,vn,vs⟩,ks⟩,g,p,j,i,n,tb⟩:=st;rw[qT];have hl:ks.length+g.length+p.length+j.length+i.length<=1000000:=hl;have J:(op==0&&(((eo==0&&zo nm ⟨#[]⟩)&&qI ⟨vk,vn,vs⟩ ⟨0,0,⟨#[]⟩⟩)&&(ks.length:Int)==0&&(decide ((g.length+p.length+j.length+i.length:Nat)=0)&&(n==0&&zo tb ⟨#[]⟩))))=b:=J;rw[<- wV,<- wJ,<- zF,<- jd,<- Z4]at J hl;generalize exsD ks=l at*;generalize yW g=o at*;generalize zp p=I at*;generalize wt j=P at*;generalize xQ i=U at*;refine akU.s T8 ?_;refine zw (b:=op==0&&eo==0&&zo nm ⟨#[]⟩) (λR=>?_) (λR=>?_)
 ·simp only[aS]at R;rw[R.1.1,R.1.2,R.2]at J;(conv=>whnf);refine dh (b:=rB (qI ⟨vk,vn,vs⟩ ⟨0,0,⟨#[]⟩⟩&&(aV.wrap (aV.wrap (aV.wrap (aV.wrap (aV.wrap (l.length+o.length)+I.length)+P.length)+U.length)+n)==0)&&(n==0)&&zo tb ⟨#[]⟩)) ?_ ?_
  ·have e: ∀a b c d:Bool,rB (a&&b&&c&&d)=⟨.w (.c (bool (a&&b&&c&&d))),[]⟩:=λ_ _ _ _=>rfl
   rw[e];show Res.mk (.w (.c (bool _))) []=_;congr 5
  congr 1
  rw[<- J];by_cases hn:n=0
  ·subst hn;rw[yk (n:=(l.length:Int)+o.length) (by omega) (by omega),yk (n:=(l.length:Int)+o.length+I.length) (by omega) (by omega),yk (n:=(l.length:Int)+o.length+I.length+P.length) (by omega) (by omega),yk (n:=(l.length:Int)+o.length+I.length+P.length+U.length) (by omega) (by omega),Int.add_zero,yk (by omega) (by omega)];have e:((l.length:Int)+o.length+I.length+P.length+U.length==0)=((l.length:Int)==0&&decide (o.length+I.length+P.length+U.length=0)):=by
    rw[Bool.eq_iff_iff];simp only[beq_iff_eq,aS,dy];omega
   rw[e];simp only[bQ,beq_self_eq_true,bX]
  have:(n==0)=false:=by simpa using hn
  rw[this];simp
 have e:b=false:=by
  rw[<- J];generalize(op==0)=a1 at*;generalize(eo==0)=a2 at*;generalize zo nm ⟨#[]⟩=a3 at*;cases a1<;>cases a2<;>cases a3<;>simp_all
 subst e;exact rfl
def Vt:Stp:=⟨0,.mk 0 ⟨#[]⟩ ⟨0,0,⟨#[]⟩⟩ [],[],[],[],[],0,⟨#[]⟩⟩
theorem ajX (p:Pln):Sat Pg aes [p.w] (λr=>r=⟨.tup [Vt.w,.c (bool false)],[]⟩):=by
 refine zD ?_;rw[wg];obtain⟨op,tb,col,lo,hi,⟨I,⟨P,R,⟨U,vn,vs⟩,l⟩,g,o,j,i,n,J⟩,ks⟩:=p;refine aef.s T8 ?_;exact⟨rfl,rfl⟩
theorem kQ (s:Stp):Sat Pg adn [s.w] (λr=>r=⟨.tup [s.w,.c (bool true)],[]⟩):=by
 obtain⟨op,⟨o,p,⟨I,J,vs⟩,ks⟩,g,l,j,i,n,tb⟩:=s;rw[qT];refine adi.s T8 ?_;rfl
theorem jT (n:Int):Sat Pg ahj [.c (int n)] (λr=>r=rV ⟨2,n,⟨#[]⟩⟩):=by
 refine ag5.s T8 ?_;rfl
theorem acm (n:Int):Sat Pg aet [.c (int n)] (λr=>r=⟨.w (Qd n).w,[]⟩):=by
 refine zD ?_;refine aeg.s T8 ?_;refine aC (jT n) ?_;exact⟨rfl,rfl⟩
theorem aeY (s:ByteArray):Sat Pg ahi [.c (str s)] (λr=>r=⟨.w (Xq s).w,[]⟩):=by
 refine zD ?_;refine ag4.s T8 ?_;exact⟨rfl,rfl⟩
theorem ajP (op:Int)(a b:Ex):Sat Pg ans [.c (int op),a.w,b.w] (λr=>r=⟨.w (Jg op a b).w,[]⟩):=by
 refine zD ?_;obtain⟨R,P,⟨i,j,l⟩,g⟩:=a;obtain⟨bo,U,⟨p,I,J⟩,o⟩:=b;refine am9.s T8 ?_;exact⟨rfl,rfl⟩
theorem asy (p:Pln):Sat Pg abJ [p.w] (λr=>r=rB p.steps):=by
 suffices h: ∀b,p.steps=b ->Sat Pg abJ [p.w] (λr=>r=rB b)from h _ rfl
 intro b i;rw[wg];obtain⟨op,tb,col,lo,hi,⟨g,⟨eo,nm,⟨vk,vn,vs⟩,aa⟩,P,ab,U,R,n,ac⟩,ks⟩:=p;have i:qU op tb col lo hi g ks.length=b:=i;unfold qU at i;refine akW.s T8 ?_;rw[J1];refine zw (b:=!zo tb ⟨#[]⟩|| !zo col ⟨#[]⟩||lo !=0||hi !=0||(ks.length:Int) !=1) (λl=>?_) (λl=>?_)
 ·simp only[Bool.or_assoc]at l;rw[l]at i;subst i;exact rfl
 simp only[Bool.or_assoc]at l;rw[l,aB]at i;refine zi (b:=op==2) (λI=>?_) (λI=>?_)
 ·rw[I]at i;subst i;exact rfl
 rw[I,aB]at i;have fin: ∀c:Bool,(op==3||(op==4||op==5))=c ->(bif c then ac4 g==op else false)=b:=λc hc=>by rw[<- hc];exact i
 refine zi (b:=op==3) (λj=>?_) (λj=>?_)
 ·have fin:=fin true (by rw[j];rfl);subst fin;(conv=>whnf);rw[j];refine aC (U6 g) ?_;rfl
 refine zi (b:=op==4) (λo=>?_) (λo=>?_)
 ·have fin:=fin true (by rw[j,o];rfl);subst fin;(conv=>whnf);rw[o];refine aC (U6 g) ?_;rfl
 refine zi (b:=op==5) (λJ=>?_) (λJ=>?_)
 ·have fin:=fin true (by rw[j,o,J];rfl);subst fin;refine aC (U6 g) ?_;rfl
 have fin:=fin false (by rw[j,o,J];rfl);subst fin;exact rfl
def Pln.st:Pln ->Stp| .mk _ _ _ _ _ st _=>st
theorem asu (p:Pln)(hl:p.st.lens<=1000000):Sat Pg abI [p.w] (λr=>r=rB p.scans):=by
 suffices h: ∀b,p.scans=b ->Sat Pg abI [p.w] (λr=>r=rB b)from h _ rfl
 intro b g;rw[wg];obtain⟨op,tb,col,lo,hi,⟨J,⟨eo,nm,⟨vk,vn,vs⟩,o⟩,i,I,l,j,n,P⟩,ks⟩:=p;have g:Jb op col lo hi ⟨J,⟨eo,nm,⟨vk,vn,vs⟩,o⟩,i,I,l,j,n,P⟩ ks.length=b:=g;have he:=asp ⟨J,⟨eo,nm,⟨vk,vn,vs⟩,o⟩,i,I,l,j,n,P⟩ hl;rw[qT]at he;unfold Jb at g;generalize Uz _=e at*;refine akV.s T8 ?_;refine zw (b:=op !=1) (λR=>?_) (λR=>?_)
 ·rw[R,Bool.true_or]at g;subst g;exact rfl
 rw[R,dv]at g;refine aC he ?_;rw[J1];refine zw (b:=!e||decide ((ks.length:Int)>0)) (λU=>?_) (λU=>?_)
 ·rw[U]at g;subst g;exact rfl
 rw[U,aB]at g;refine zi (b:=zo col ⟨#[]⟩) (λh3=>?_) (λh3=>?_)
 ·rw[h3,aD]at g;subst g;exact rfl
 rw[h3,aB]at g;subst g;(conv=>whnf);rw[<- bX];rfl
def aa5 {α:Type}(l:am α)(i:Nat)(c:am α):Prop:=c.length=l.length /\ ∀k,k<l.length ->c[k]? =if k<i\/l.length - i<=k then l[l.length - 1 - k]? else l[k]?
theorem ase {α:Type}(l:am α):aa5 l 0 l:=⟨rfl,λk h=>by rw[dd (by omega)]⟩
theorem aiG {α:Type}{l c:am α}{i:Nat}(h:aa5 l i c)(hi:2*i+1<l.length){x y:α}(I:c[i]? =some x)(J:c[l.length - 1 - i]? =some y):aa5 l (i+1) ((c.set i y).set (l.length - 1 - i) x):=by
 obtain⟨r,g⟩:=h;refine⟨by simp[r],λk hk=>?_⟩;rw[am.getElem?_set,am.getElem?_set];simp only[cF,r];by_cases j:l.length - 1 - i=k
 ·rw[cn j,cn (by omega),cn (by omega)];rw[<- I,g i (by omega),dd (by omega)];congr 1
  omega
 rw[dd j];by_cases o:i=k
 ·rw[cn o,cn (by omega),cn (by omega)];rw[<- J,g _ (by omega),dd (by omega)];congr 1
  omega
 rw[dd o,g k hk];by_cases p:k<i\/l.length - i<=k
 ·rw[cn p,cn (by omega)]
 rw[dd p,dd (by omega)]
theorem alY {α:Type}{l c:am α}{i:Nat}(h:aa5 l i c)(hi:l.length<=2*i+1):c=l.reverse:=by
 obtain⟨j,g⟩:=h;refine List.ext_getElem? λk=>?_
 by_cases hk:k<l.length
 ·rw[g k hk,am.getElem?_reverse hk];by_cases e:k<i\/l.length - i<=k
  ·rw[cn e]
  rw[dd e];congr 1
  omega
 rw[am.getElem?_eq_none (by omega),am.getElem?_eq_none (by rw[cJ];omega)]
theorem amN (l:am Stp)(i:Nat)(s:Stp):(wQ l).set i s.ds=wQ (l.set i s):=by simp[wQ,c6]
def rvS (sz n:Nat)(g:am (am D))(i:Nat):S:=⟨[(0,cV (.own 100000 sz n)),(2,zl i),(3,zl ((n:Int) - 1 - i))],[(100000,.arr sz g false)]⟩
theorem adv (l:am Stp)(n:Nat)(hn:n=l.length)(hl:n<=1000000):zA Pg Ky [.c (.own 0 13 n)] [.arr 13 (wQ l) false] (λr=>r=⟨.tup [],[.arr 13 (wQ l.reverse) false]⟩):=by
 subst hn;refine xX T8 YQ.ok (by kernel_rfl) (by simp) ?_
 conv=>whnf
 refine yq (P:=Pg) (f:=T8.f) (body:=(YQ.l 0)) (λz:Nat×am Stp=>rvS 13 l.length (wQ z.2) z.1) (λz=>l.length - z.1) (λz=>z.1<=l.length /\aa5 l z.1 z.2) ⟨(0,l),⟨bD _,ase l⟩,ze ?_⟩ ?_
 ·(conv=>whnf);rw[yk (by omega) (by omega)];rw[show((l.length:Int) - 1)=(l.length:Int) - 1 -((0:Nat):Int)by omega];rfl
 rintro⟨i,c⟩ ⟨hi,j⟩;have hi:i<=l.length:=hi;have j:aa5 l i c:=j;have ac:=j.1;unfold rvS;refine zi (λg=>?_) (λg=>?_)
 ·have ae:2*i+1<l.length:=by have g:decide ((i:Int)<(l.length:Int) - 1 - i)=true:=g;have:=aN g;omega
  have hj:(l.length:Int) - 1 - i=((l.length - 1 - i:Nat):Int):=by omega
  have g1:=Jd (show i<c.length by omega);have g2:=Jd (show l.length - 1 - i<c.length by omega);have U:=aiG j (by omega) (am.getElem?_eq_getElem (show i<c.length by omega)) (am.getElem?_eq_getElem (show l.length - 1 - i<c.length by omega));have s1:=amN c i c[l.length - 1 - i];have s2:=amN (c.set i c[l.length - 1 - i]) (l.length - 1 - i) c[i];rw[<- s1]at s2;have g3:((wQ c).set i (c[l.length - 1 - i]).ds)[((l.length - 1 - i:Nat):Int).toNat]? =some (c[l.length - 1 - i]).ds:=by
   rw[s1,Jd (show l.length - 1 - i<(c.set i c[l.length - 1 - i]).length by rw[cF];omega)];rw[dt (by omega)]
  have w1:aV.wrap ((i:Int)+1)=((i+1:Nat):Int):=zC (show i<l.length by omega) (by omega);have w2:aV.wrap (((l.length - 1 - i:Nat):Int) - 1)=(l.length:Int) - 1 -((i+1:Nat):Int):=by rw[yk (by omega) (by omega)];omega
  rw[hj];generalize c[l.length - 1 - i]=y at*;generalize c[i]=x at*;obtain⟨xo,⟨ag,ai,⟨ak,al,an⟩,ah⟩,o,af,aa,p,xn,aj⟩:=x;obtain⟨yo,⟨aq,au,⟨aw,ax,ay⟩,ar⟩,I,ao,ab,J,yn,av⟩:=y;(conv=>whnf);refine⟨by omega,by omega,?_⟩;(conv=>whnf);refine⟨_,g2,?_⟩;(conv=>whnf);refine⟨by show(0:Int)<=i;omega,by show(i:Int)<l.length;omega,?_⟩;(conv=>whnf);refine⟨_,g1,?_⟩;(conv=>whnf);refine⟨by show(0:Int)<=i;omega,by show(i:Int)<l.length;omega,?_⟩;(conv=>whnf);refine⟨_,g1,aM 13,?_⟩;(conv=>whnf);refine⟨by omega,by omega,?_⟩;(conv=>whnf);refine⟨_,g3,aM 13,?_⟩;(conv=>whnf);refine⟨(i+1,_),⟨⟨by show i+1<=l.length;omega,U⟩,by show l.length -(i+1)<l.length - i;omega⟩,ze ?_⟩;(conv=>whnf);refine dh ?_ (aF (λR=>rvS 13 l.length R (i+1)) s2)
  dsimp only
  rw[w1,w2];rfl
 have ad:l.length<=2*i+1:=by have g:decide ((i:Int)<(l.length:Int) - 1 - i)=false:=g;have:=aG g;omega
 rw[<- alY j (by omega)];exact rfl
def qD (l:am D):am (am D):=l.map λd=> [d]
theorem gW (l:am D):(qD l).length=l.length:=by simp[qD]
theorem UW {r:am D}{i:Nat}(h:i<r.length):(qD r)[((i:Int)).toNat]? =some [r[i]]:=by simp[qD,am.getElem?_eq_getElem h]
theorem alN (l:am D)(i:Nat)(s:D):(qD l).set i [s]=qD (l.set i s):=by simp[qD,c6]
theorem aah (l:am D)(n:Nat)(hn:n=l.length)(hl:n<=1000000):zA Pg VW [.c (.own 0 1 n)] [.arr 1 (qD l) false] (λr=>r=⟨.tup [],[.arr 1 (qD l.reverse) false]⟩):=by
 subst hn;refine xX T8 Zq.ok (by kernel_rfl) (by simp) ?_
 conv=>whnf
 refine yq (P:=Pg) (f:=T8.f) (body:=(Zq.l 0)) (λz:Nat×am D=>rvS 1 l.length (qD z.2) z.1) (λz=>l.length - z.1) (λz=>z.1<=l.length /\aa5 l z.1 z.2) ⟨(0,l),⟨bD _,ase l⟩,ze ?_⟩ ?_
 ·(conv=>whnf);rw[yk (by omega) (by omega)];rw[show((l.length:Int) - 1)=(l.length:Int) - 1 -((0:Nat):Int)by omega];rfl
 rintro⟨i,c⟩ ⟨hi,j⟩;have hi:i<=l.length:=hi;have j:aa5 l i c:=j;have I:=j.1;unfold rvS;refine zi (λg=>?_) (λg=>?_)
 ·have aa:2*i+1<l.length:=by have g:decide ((i:Int)<(l.length:Int) - 1 - i)=true:=g;have:=aN g;omega
  have hj:(l.length:Int) - 1 - i=((l.length - 1 - i:Nat):Int):=by omega
  have g1:=UW (show i<c.length by omega);have g2:=UW (show l.length - 1 - i<c.length by omega);have p:=aiG j (by omega) (am.getElem?_eq_getElem (show i<c.length by omega)) (am.getElem?_eq_getElem (show l.length - 1 - i<c.length by omega));have J:=alN c i c[l.length - 1 - i];have R:=alN (c.set i c[l.length - 1 - i]) (l.length - 1 - i) c[i];rw[<- J]at R;have g3:((qD c).set i [c[l.length - 1 - i]])[((l.length - 1 - i:Nat):Int).toNat]? =some [c[l.length - 1 - i]]:=by
   rw[J,UW (show l.length - 1 - i<(c.set i c[l.length - 1 - i]).length by rw[cF];omega)];rw[dt (by omega)]
  have w1:aV.wrap ((i:Int)+1)=((i+1:Nat):Int):=zC (show i<l.length by omega) (by omega);have w2:aV.wrap (((l.length - 1 - i:Nat):Int) - 1)=(l.length:Int) - 1 -((i+1:Nat):Int):=by rw[yk (by omega) (by omega)];omega
  rw[hj];generalize c[l.length - 1 - i]=y at*;generalize c[i]=x at*;(conv=>whnf);refine⟨by omega,by omega,?_⟩;(conv=>whnf);refine⟨_,g2,?_⟩;(conv=>whnf);refine⟨by show(0:Int)<=i;omega,by show(i:Int)<l.length;omega,?_⟩;(conv=>whnf);refine⟨_,g1,?_⟩;(conv=>whnf);refine⟨by show(0:Int)<=i;omega,by show(i:Int)<l.length;omega,?_⟩;(conv=>whnf);refine⟨_,g1,aM 1,?_⟩;(conv=>whnf);refine⟨by omega,by omega,?_⟩;(conv=>whnf);refine⟨_,g3,aM 1,?_⟩;(conv=>whnf);refine⟨(i+1,_),⟨⟨by show i+1<=l.length;omega,p⟩,by show l.length -(i+1)<l.length - i;omega⟩,ze ?_⟩;(conv=>whnf);refine dh ?_ (aF (λo=>rvS 1 l.length o (i+1)) R)
  dsimp only
  rw[w1,w2];rfl
 have U:l.length<=2*i+1:=by have g:decide ((i:Int)<(l.length:Int) - 1 - i)=false:=g;have:=aG g;omega
 rw[<- alY j (by omega)];exact rfl
theorem avf {op:Int}{tb col:ByteArray}{lo hi j i:Int}(h:qU op tb col lo hi j i=true):i=1:=by
 unfold qU at h;cases g:(!zo tb ⟨#[]⟩||(!zo col ⟨#[]⟩||(lo !=0||(hi !=0||i !=1))))
 ·simp only[bJ,dr]at g;exact g.2.2.2.2
 rw[g]at h;cases h
theorem Jz {op:Int}{tb col:ByteArray}{lo hi:Int}{st:Stp}{ks:am Pln}(h:(Pln.mk op tb col lo hi st ks).steps=true): ∃k,ks=[k]/\(Pln.mk op tb col lo hi st ks).base=(k.base.1,k.base.2++[st]):=by
 have h:qU op tb col lo hi st.op ks.length=true:=h;have g:=avf h
 match ks,h,g with
 | [k],h,_=>
   refine⟨k,rfl,?_⟩;simp only[Pln.base];rw[show qU op tb col lo hi st.op 1=true from h];rfl
 | [],_,g=>cases g
 |_::_::_,_,g=>simp at g;omega
theorem abb {p:Pln}(h:p.steps=false):p.base=(p,[]):=by
 obtain⟨op,tb,col,lo,hi,st,ks⟩:=p;have h:qU op tb col lo hi st.op ks.length=false:=h
 match ks,h with
 | [k],h=>
   simp only[Pln.base];rw[show qU op tb col lo hi st.op 1=false from h];rfl
 | [],_=>rfl
 |_::_::_,_=>rfl
theorem ave (a b:am Stp):wQ (a++b)=wQ a++wQ b:=by simp[wQ]
def rQB (x:Qry×Bool):Res:=⟨.tup [.agg [str x.1.src,.d (.sl (wQ x.1.steps))],.c (bool x.2)],[]⟩
theorem uW (op:Int)(tb col:ByteArray)(lo hi p I:Int)(J:ByteArray)(P R:Int)(vs:ByteArray)(l:am Ex)(g:am Itm)(o:am ByteArray)(j:am Agg)(i:am Srt)(n:Int)(r:ByteArray)(ks:am Pln):
 (Pln.mk op tb col lo hi ⟨p,⟨I,J,⟨P,R,vs⟩,l⟩,g,o,j,i,n,r⟩ ks).cs=[int op,str tb,str col,int lo,int hi,int p,int I,str J,int P,int R,str vs,.d (.sl (exsD l)),.d (.sl (yW g)),.d (.sl (zp o)),.d (.sl (wt j)),.d (.sl (xQ i)),int n,str r,.d (.sl (plnsD ks))]:=rfl
def pqS (p:Pln)(l:am Stp):S:=⟨[(1,cV (.ptr 1 0)),(2,cV (.ptr 2 0)),(4,cV (.own 11 13 l.length))],[(1,.box p.cs),(2,.box [str ⟨#[]⟩,.nil]),(11,.arr 13 (wQ l) false)]⟩
def PqR (P p:Pln)(l:am Stp)(m:Nat):Prop:=l++p.base.2.reverse=P.base.2.reverse /\p.base.1=P.base.1 /\m=p.base.2.length
theorem ays (P:Pln):PqR P P [] P.base.2.length:=⟨rfl,rfl,rfl⟩
theorem auv {P:Pln}{l:am Stp}{m:Nat}{op:Int}{tb col:ByteArray}{lo hi:Int}{st:Stp}{ks:am Pln}(h:PqR P (.mk op tb col lo hi st ks) l m)(hs:(Pln.mk op tb col lo hi st ks).steps=true): ∃k m',ks=[k]/\m'<m /\PqR P k (l++[st]) m':=by
 obtain⟨k,rfl,o⟩:=Jz hs;obtain⟨g,i,j⟩:=h;rw[o]at g i j;exact⟨k,k.base.2.length,rfl,by rw[j];simp,by rw[<- g];simp,i,rfl⟩
theorem aoE {P p:Pln}{l:am Stp}{m:Nat}(h:PqR P p l m):l.length<=P.base.2.length:=by
 have:=aF cU h.1;simp only[aA,cJ]at this;omega
theorem ahQ (P:Pln)(hn:P.base.2.length<=100000)(hz:P.base.1.st.lens<=1000000):Sat Pg ZQ [P.w] (λr=>r=rQB P.qry):=by
 refine zD ?_;rw[wg];suffices h: ∀x,P.qry=x ->Sat Pg ZQ [.agg P.cs] (DQ (rQB x))from h _ rfl
 intro x hx;have h0:=ays P;obtain⟨N,hN⟩: ∃N,N=P.base.2.length:=⟨_,rfl⟩;rw[<- hN]at h0 hn;obtain⟨R,hR⟩: ∃R:Pln×am Stp×Nat ->Prop,∀p l m,R (p,l,m)↔PqR P p l m:=⟨λz=>PqR P z.1 z.2.1 z.2.2,λ_ _ _=>Iff.rfl⟩
 replace h0:R (P,[],N):=(hR _ _ _).2 h0
 have I: ∀p l m,R (p,l,m) ->p.steps=false ->p.st.lens<=1000000 /\l.length<=100000 /\(bif p.scans then((⟨p.tb,l.reverse⟩,true):Qry×Bool)else(⟨⟨#[]⟩,[]⟩,false))=x:=λp l m h hs=>by
  have h:=(hR p l m).1 h;have hl:=aoE h;obtain⟨h1,U,_⟩:=h;rw[abb hs]at h1 U;have U:p=P.base.1:=U;have h1:l=P.base.2.reverse:=by simpa using h1
  refine⟨by rw[U];exact hz,by omega,?_⟩;rw[<- hx];unfold Pln.qry;rw[h1,List.reverse_reverse,<- U]
 have j: ∀op tb col lo hi st ks l m,R (.mk op tb col lo hi st ks,l,m) ->(Pln.mk op tb col lo hi st ks).steps=true -> ∃k m',ks=[k]/\m'<m /\l.length<=100000 /\R (k,l++[st],m'):=λop tb col lo hi st ks l m h hs=>by
  have h:=(hR _ l m).1 h;have hl:=aoE h;obtain⟨k,m',h1,U,h3⟩:=auv h hs;exact⟨k,m',h1,U,by omega,(hR _ _ _).2 h3⟩
 clear hR hx hz hn hN;obtain⟨op,tb,col,lo,hi,⟨ab,⟨eo,nm,⟨vk,vn,vs⟩,J⟩,g,aa,o,i,n,ac⟩,ks⟩:=P;refine Up.s T8 ?_;refine yq (P:=Pg) (f:=T8.f) (body:=(Up.l 0)) (λz:Pln×am Stp×Nat=>pqS z.1 z.2.1) (λz=>z.2.2) R ⟨(_,[],N),h0,⟨_,zW 4 11 13 (by omega) (by omega) rfl,?_⟩⟩ ?_
 ·exact rfl
 clear h0;clear op tb col lo hi ab eo nm vk vn vs J g aa o i n ac ks N;rintro⟨p,l,m⟩ h;have hs:=asy p;have hc:=asu p;rw[wg]at hs hc;show mwpR Pg T8.f (Up.l 0) _ (pqS p l);unfold pqS;cases hb:p.steps with
 |true=>
  rw[hb]at hs;clear hc;obtain⟨op,tb,col,lo,hi,⟨ab,⟨eo,nm,⟨vk,vn,vs⟩,J⟩,g,aa,o,i,n,ac⟩,ks⟩:=p;obtain⟨k,m',rfl,hm,aj,U⟩:=j _ _ _ _ _ _ _ _ _ h hb;have an:(wQ l).take l.length=wQ l:=by rw[<- Z5,aL]
  have al:=ave l [⟨ab,⟨eo,nm,⟨vk,vn,vs⟩,J⟩,g,aa,o,i,n,ac⟩];have hg:(plnsD [k])[((0:Int)).toNat]? =some k.ds:=rfl;clear hb h I j;rw[uW]at hs⊢;generalize plnsD [k]=K at*;obtain⟨a2,a3,ao,a0,ax,⟨au,⟨aw,a1,⟨a4,a5,a6⟩,aq⟩,ag,ar,ai,ah,n1,av⟩,az⟩:=k;refine aC hs ?_;refine⟨by simp,by unfold ym;simp;omega,by simp;omega,?_⟩;(conv=>whnf);refine⟨by omega,_,hg,rfl,?_⟩;(conv=>whnf);refine⟨(_,_,m'),⟨U,hm⟩,ze ?_⟩;(conv=>whnf)
  dsimp only
  rw[al,aA,an];rfl
 |false=>
  rw[hb]at hs;obtain⟨hz,aj,hx⟩:=I _ _ _ h hb;have hc:=hc hz;have ad:=adv l l.length rfl (by omega);clear I j h hb hz;generalize ak:p.scans=b at*;have ay:p.tb=p.tb:=rfl;clear ak;obtain⟨op,tb,col,lo,hi,⟨ab,⟨eo,nm,⟨vk,vn,vs⟩,J⟩,g,aa,o,i,n,ac⟩,ks⟩:=p;refine aC hs ?_;refine aC hc ?_;cases b with
  |false=>
   have hx:((⟨⟨#[]⟩,[]⟩,false):Qry×Bool)=x:=hx;subst hx;exact⟨rfl,rfl⟩
  |true=>
   have hx:((⟨tb,l.reverse⟩,true):Qry×Bool)=x:=hx;subst hx;have af:(wQ l.reverse).take l.length=wQ l.reverse:=by rw[<- l.length_reverse,<- Z5,aL]
   obtain⟨LR,ae⟩: ∃LR,LR=wQ l.reverse:=⟨_,rfl⟩;rw[<- ae]at ad af;(conv=>whnf);refine zA.mono (ad) ?_;rintro _ rfl;(conv=>whnf);refine⟨rfl,?_⟩;show Res.mk (.tup [.agg [str tb,.d (.sl (LR.take l.length))],.c (bool true)]) []=_;rw[af,ae];rfl
theorem au4 {op:Int}{tb col:ByteArray}{lo hi:Int}{st:Stp}{ks:am Pln}(h:(Pln.mk op tb col lo hi st ks).scans=true):op=1 /\ks=[]:=by
 have h:Jb op col lo hi st ks.length=true:=h;unfold Jb at h;cases g:(op !=1||(!Uz st||decide ((ks.length:Int)>0)))
 ·simp only[bJ,dr,bL]at g;exact⟨g.1,List.eq_nil_of_length_eq_zero (by omega)⟩
 rw[g]at h;cases h
theorem avd {op:Int}{tb col:ByteArray}{lo hi:Int}{st:Stp}{ks:am Pln}(h:(Pln.mk op tb col lo hi st ks).steps=true):op≠1:=by
 have h:qU op tb col lo hi st.op ks.length=true:=h;unfold qU at h;intro e;subst e;cases g:(!zo tb ⟨#[]⟩||(!zo col ⟨#[]⟩||(lo !=0||(hi !=0||(ks.length:Int) !=1))))
 ·rw[g]at h;simp at h
 rw[g]at h;cases h
def Js (B p:Pln)(m:Nat):Prop:=p.base.1=B /\B.scans=true /\m=p.base.2.length
theorem aem {B:Pln}{m:Nat}{op:Int}{tb col:ByteArray}{lo hi:Int}{st:Stp}{ks:am Pln}(h:Js B (.mk op tb col lo hi st ks) m):(∃k m',ks=[k]/\m'<m /\op≠1 /\Js B k m')\/(ks=[]/\op=1 /\B= .mk op tb col lo hi st ks):=by
 obtain⟨g,i,j⟩:=h;cases hs:(Pln.mk op tb col lo hi st ks).steps with
 |true=>
  obtain⟨k,rfl,l⟩:=Jz hs;rw[l]at g j;exact .inl ⟨k,_,rfl,by rw[j];simp,avd hs,g,i,rfl⟩
 |false=>
  rw[abb hs]at g;have g:Pln.mk op tb col lo hi st ks=B:=g;rw[<- g]at i;obtain⟨a,b⟩:=au4 i;exact .inr ⟨b,a,g.symm⟩
def Y2 (d:am Nmd)(p:Pln):Int×am Col:=bif yN d p !=0 then(yN d p,[])else(0,(VJ d p.qry.1).2)
def pcS (d:am Nmd)(cols:am Col)(p:Pln):S:=⟨[(0,.w (.c (.d (.sl (zu d))))),(3,cV (.ptr 3 0)),(9,.w (.c (.d (.sl (zm cols)))))],[(3,.box p.cs)]⟩
theorem ajS (d:am Nmd)(P:Pln)(h1:yI d=0)(cols:am Col)(q:Qry)(hq:Sat Pg ZQ [.agg P.cs] (λr=>r=rQB (q,true)))(ht:Sat Pg Yl [.c (.d (.sl (zu d))),q.w] (λr=>r=xF (0,cols)))(B:Pln)(m:Nat)(J:Js B P m)(tc:am Col)(tr:am (am Val))(hf:zZ B.tb d=some ⟨tc,tr⟩)(b:Bool)(hb:zo B.col ⟨#[]⟩=b)(y:Int×am Col)(g:(bif b then(0,cols)else bif uZ ⟨tc,tr⟩ B.col !=0 then(uZ ⟨tc,tr⟩ B.col,[])else(0,cols))=y):
 Sat Pg vy [.c (.d (.sl (zu d))),.agg P.cs] (λr=>r=xF y):=by
 refine zD ?_;have ad:=qM d;rw[h1]at ad;have U:=y9 d B.tb;rw[hf]at U;have j:=xz tc (.d (.sl (zf tr))) B.col ⟨_,rfl⟩;clear hf;obtain⟨R,hR⟩: ∃R:Pln×Nat ->Prop,∀p l,R (p,l)↔Js B p l:=⟨λz=>Js B z.1 z.2,λ_ _=>Iff.rfl⟩
 replace J:R (P,m):=(hR _ _).2 J
 have i: ∀op tb col lo hi st ks m,R (.mk op tb col lo hi st ks,m) ->(∃k m',ks=[k]/\m'<m /\op≠1 /\R (k,m'))\/(ks=[]/\op=1 /\B= .mk op tb col lo hi st ks):=λop tb col lo hi st ks m h=>by
  rcases aem ((hR _ _).1 h)with⟨k,m',h1,h2,h3,h4⟩|h
  ·exact .inl ⟨k,m',h1,h2,h3,(hR _ _).2 h4⟩
  exact .inr h
 clear hR;obtain⟨qs,ql⟩:=q;obtain⟨op,tb,col,lo,hi,⟨ag,⟨eo,nm,⟨vk,vn,vs⟩,ac⟩,o,af,aa,I,n,ah⟩,ks⟩:=P;refine jz.s T8 ?_;refine aC ad ?_;refine aC hq ?_;refine aC ht ?_;refine yq (P:=Pg) (f:=T8.f) (body:=(jz.l 0)) (λz:Pln×Nat=>pcS d cols z.1) (λz=>z.2) R ⟨(_,m),J,ze ?_⟩ ?_
 ·exact rfl
 clear J hq;clear op tb col lo hi ag eo nm vk vn vs ac o af aa I n ah ks m;rintro⟨p,m⟩ h;show mwpR Pg T8.f (jz.l 0) _ (pcS d cols p);unfold pcS;obtain⟨op,tb,col,lo,hi,⟨ag,⟨eo,nm,⟨vk,vn,vs⟩,ac⟩,o,af,aa,I,n,ah⟩,ks⟩:=p;rcases i _ _ _ _ _ _ _ _ h with⟨k,m',rfl,hm,_,h2⟩|⟨rfl,rfl,rfl⟩
 ·obtain⟨kd,ab⟩: ∃kd,kd=k.ds:=⟨_,rfl⟩;have hK:plnsD [k]=[kd]:=by rw[ab];rfl
  clear h i;rw[uW,hK];(conv=>whnf);obtain⟨az,a0,al,ax,av,⟨aq,⟨au,ay,⟨a1,a2,a3⟩,an⟩,ai,ao,ak,aj,n1,ar⟩,aw⟩:=k;refine⟨by omega,_,rfl,by rw[ab];rfl,?_⟩;subst ab;(conv=>whnf);refine⟨(_,m'),⟨h2,hm⟩,ze ?_⟩;exact rfl
 clear h i;have U:Sat Pg Qm [.c (.d (.sl (zu d))),.c (str tb)] (λr=>r=rF (some ⟨tc,tr⟩)):=U;have j:Sat Pg Kz [.agg [.d (.sl (zm tc)),.d (.sl (zf tr))],.c (str col)] (λr=>r=rI (zj tc col)):=j;have hb:zo col ⟨#[]⟩=b:=hb;have g:(bif b then(0,cols)else bif uZ ⟨tc,tr⟩ col !=0 then(uZ ⟨tc,tr⟩ col,[])else(0,cols))=y:=g;(conv=>whnf);rw[hb];cases b with
 |true=>
  have g:(0,cols)=y:=g;subst g;exact⟨rfl,rfl⟩
 |false=>
  rw[aB]at g;unfold uZ at g;refine aC U ?_;refine Sat.cal (j) ?_;generalize J:zj tc col=c at*;refine zi (b:=decide (c<0)) (λh3=>?_) (λh3=>?_)
  ·simp only[J,h3,aD]at g;have g:(16,[])=y:=g;subst g;exact⟨rfl,rfl⟩
  simp only[J,h3,aB]at g;obtain⟨b1,b2⟩:=qY tc col (by rw[J];exact aG h3);rw[J]at b1 b2;obtain⟨k,rfl⟩:=cY b1;have hk:k<tc.length:=by omega
  have hg:=xC hk;have ae:vX tc (k:Int)=tc[k].t:=by
   unfold vX;rw[Int.toNat_natCast,am.getElem?_eq_getElem hk];rfl
  rw[ae]at g;generalize tc[k]=u at*;obtain⟨u1,u2⟩:=u;clear h3 J ae;(conv=>whnf);refine⟨by omega,_,hg,rfl,?_⟩;refine zi (b:=u2 !=2) (λh4=>?_) (λh4=>?_)
  ·simp only[h4,aD]at g;have g:(14,[])=y:=g;subst g;exact⟨rfl,rfl⟩
  simp only[h4,aB]at g;have g:(0,cols)=y:=g;subst g;exact⟨rfl,rfl⟩
theorem ajR (d:am Nmd)(P:Pln)(e:Int)(p:(e !=0)=true)(g:Sat Pg wY [.c (.d (.sl (zu d)))] (λr=>r=rI e)):Sat Pg vy [.c (.d (.sl (zu d))),.agg P.cs] (λr=>r=xF (e,[])):=by
 refine zD ?_;obtain⟨op,tb,col,lo,hi,⟨J,⟨U,nm,⟨vk,vn,vs⟩,o⟩,i,I,l,j,n,R⟩,ks⟩:=P;refine jz.s T8 ?_;refine aC g ?_;rw[p];exact⟨rfl,rfl⟩
theorem ami (d:am Nmd)(P:Pln)(g:Sat Pg wY [.c (.d (.sl (zu d)))] (λr=>r=rI 0))(q:Qry)(p:Sat Pg ZQ [.agg P.cs] (λr=>r=rQB (q,false))):Sat Pg vy [.c (.d (.sl (zu d))),.agg P.cs] (λr=>r=xF (1,[])):=by
 refine zD ?_;obtain⟨qs,ql⟩:=q;obtain⟨op,tb,col,lo,hi,⟨J,⟨U,nm,⟨vk,vn,vs⟩,o⟩,i,I,l,j,n,R⟩,ks⟩:=P;refine jz.s T8 ?_;refine aC g ?_;refine aC p ?_;exact⟨rfl,rfl⟩
theorem ajT (d:am Nmd)(P:Pln)(g:Sat Pg wY [.c (.d (.sl (zu d)))] (λr=>r=rI 0))(q:Qry)(I:Sat Pg ZQ [.agg P.cs] (λr=>r=rQB (q,true)))(e:Int)(p:(e !=0)=true)(cols:am Col)(J:Sat Pg Yl [.c (.d (.sl (zu d))),q.w] (λr=>r=xF (e,cols))):Sat Pg vy [.c (.d (.sl (zu d))),.agg P.cs] (λr=>r=xF (e,[])):=by
 refine zD ?_;obtain⟨qs,ql⟩:=q;obtain⟨op,tb,col,lo,hi,⟨U,⟨eo,nm,⟨vk,vn,vs⟩,o⟩,i,R,l,j,n,aa⟩,ks⟩:=P;refine jz.s T8 ?_;refine aC g ?_;refine aC I ?_;refine aC J ?_;rw[p];exact⟨rfl,rfl⟩
theorem an7 {p:Pln}(h:p.qry.2=true):Js p.base.1 p p.base.2.length /\p.qry.1=⟨p.base.1.tb,p.base.2⟩:=by
 unfold Pln.qry at h⊢;cases hs:p.base.1.scans
 ·rw[hs]at h;cases h
 exact⟨⟨rfl,hs,rfl⟩,rfl⟩
structure Pln.Sm (p:Pln):Prop where
 len:p.base.2.length<=100000
 lens:p.base.1.st.lens<=1000000
 st: ∀s∈p.base.2,s.Sm
theorem kR (d:am Nmd)(p:Pln)(J:p.Sm):Sat Pg vy [.c (.d (.sl (zu d))),p.w] (λr=>r=xF (Y2 d p)):=by
 have g:=qM d;have l:=ahQ p J.len J.lens;rw[wg]at l⊢;unfold Y2 yN;by_cases j:yI d=0
 ·rw[j]at g⊢;cases I:p.qry.2 with
  |false=>
   rw[show p.qry=(p.qry.1,false)by rw[<- I]]at l;exact ami d p g _ l
  |true=>
   rw[show p.qry=(p.qry.1,true)by rw[<- I]]at l;obtain⟨U,e⟩:=an7 I;have P:=adY d p.qry.1 (by rw[e];exact J.st);by_cases i:(VJ d p.qry.1).1=0
   ·obtain⟨_,_,t,o,_⟩:=avN i;rw[show VJ d p.qry.1=(0,(VJ d p.qry.1).2)by rw[<- i]]at P;rw[i];rw[e]at o;have o:zZ p.base.1.tb d=some t:=o;obtain⟨tc,R⟩:=t;rw[o];refine ajS d p j _ _ l P _ _ U tc R o _ rfl _ ?_;show _=(bif (bif zo p.base.1.col ⟨#[]⟩then 0 else uZ ⟨tc,R⟩ p.base.1.col) !=0 then _ else _);cases zo p.base.1.col ⟨#[]⟩
    ·rfl
    rfl
   have i:((VJ d p.qry.1).1 !=0)=true:=by simpa using i
   have:=ajT d p g _ l _ i _ P;simp only[i,dz,Bool.not_true,aB,aD];exact this
 have j:(yI d !=0)=true:=by simpa using j
 have:=ajR d p _ j g;simp only[j,aD];exact this
theorem aeV (d:am Nmd)(P:Pln)(e:Int)(g:Sat Pg wY [.c (.d (.sl (zu d)))] (λr=>r=rI 0))(cols:am Col)(p:Sat Pg vy [.c (.d (.sl (zu d))),.agg P.cs] (λr=>r=xF (e,cols))):Sat Pg um [.c (.d (.sl (zu d))),.agg P.cs] (λr=>r=rI e):=by
 obtain⟨op,tb,col,lo,hi,⟨J,⟨U,nm,⟨vk,vn,vs⟩,o⟩,i,I,l,j,n,R⟩,ks⟩:=P;refine abg.s T8 ?_;refine aC g ?_;refine aC p ?_;rfl
theorem aeW (d:am Nmd)(P:Pln)(e:Int)(p:(e !=0)=true)(g:Sat Pg wY [.c (.d (.sl (zu d)))] (λr=>r=rI e)):Sat Pg um [.c (.d (.sl (zu d))),.agg P.cs] (λr=>r=rI e):=by
 obtain⟨op,tb,col,lo,hi,⟨J,⟨U,nm,⟨vk,vn,vs⟩,o⟩,i,I,l,j,n,R⟩,ks⟩:=P;refine abg.s T8 ?_;refine aC g ?_;rw[p];exact rfl
theorem alR (d:am Nmd)(p:Pln):(Y2 d p).1=yN d p:=by
 unfold Y2;by_cases h:yN d p=0
 ·rw[h];rfl
 rw[show(yN d p !=0)=true by simpa using h];rfl
theorem Yr (d:am Nmd)(p:Pln)(l:p.Sm):Sat Pg um [.c (.d (.sl (zu d))),p.w] (λr=>r=rI (yN d p)):=by
 have g:=qM d;have j:=kR d p l;rw[wg]at j⊢;by_cases i:yI d=0
 ·rw[i]at g;rw[show Y2 d p=(yN d p,(Y2 d p).2)by rw[<- alR]]at j;exact aeV d p _ g _ j
 have i:(yI d !=0)=true:=by simpa using i
 have:=aeW d p _ i g;rw[show yN d p=yI d by unfold yN;rw[i];rfl];exact this
def scS (p:am C)(cols:am Col)(rows:am (am Val))(c:Int)(i:Nat):am (am Val) ->S
 | []=>⟨[(2,cV (.ptr 2 0)),(4,cV (.ptr 4 0)),(7,zl c),(8,cV (.ptr 8 0)),(34,.w (.c (.d (.sl (zf rows))))),(35,zl rows.length),(36,zl i)],[(2,.box p),(4,.box [.nil,.nil]),(8,.box [.d (.sl (zm cols)),.nil])]⟩
 |a::r=>⟨[(2,cV (.ptr 2 0)),(4,cV (.ptr 4 0)),(7,zl c),(8,cV (.ptr 8 0)),(34,.w (.c (.d (.sl (zf rows))))),(35,zl rows.length),(36,zl i)],[(2,.box p),(4,.box [.nil,.nil]),(8,.box [.d (.sl (zm cols)),.own 67 1 (a::r).length]),(67,.arr 1 (zf (a::r)) false)]⟩
theorem acn (d:am Nmd)(p:Pln)(h:zo p.col ⟨#[]⟩=true):Sat Pg xU [p.w,.c (.d (.sl (zu d)))] (λr=>r=⟨.w ((zZ p.tb d).getD ⟨[],[]⟩).w,[]⟩):=by
 refine zD ?_;have g:=y9 d p.tb;rw[wg];obtain⟨op,tb,col,lo,hi,⟨J,⟨R,U,⟨vk,vn,vs⟩,o⟩,i,I,l,j,n,P⟩,ks⟩:=p;have h:zo col ⟨#[]⟩=true:=h;have g:Sat Pg Qm [.c (.d (.sl (zu d))),.c (str tb)] (λr=>r=rF (zZ tb d)):=g;show Sat Pg _ _ (DQ ⟨.w ((zZ tb d).getD ⟨[],[]⟩).w,[]⟩);generalize zZ tb d=f at*;cases f with
 |none=>
  refine uh.s T8 ?_;refine aC g ?_;rw[h];exact⟨rfl,rfl⟩
 |some t=>
  obtain⟨tc,tr⟩:=t;refine uh.s T8 ?_;refine aC g ?_;rw[h];exact⟨rfl,rfl⟩
theorem aco (d:am Nmd)(p:Pln)(h:zo p.col ⟨#[]⟩=false)(tc:am Col)(o:am (am Val))(hf:zZ p.tb d=some ⟨tc,o⟩)(hr:o.length<=20000)(hc:0<=zj tc p.col)(hi: ∀r∈o,zj tc p.col<r.length):
 Sat Pg xU [p.w,.c (.d (.sl (zu d)))] (λr=>r=⟨.w (Tbl.w ⟨tc,o.filter (inR (zj tc p.col).toNat p.lo p.hi)⟩),[]⟩):=by
 refine zD ?_;have hF:=y9 d p.tb;rw[hf]at hF;have R:=xz tc (.d (.sl (zf o))) p.col ⟨_,rfl⟩;rw[wg];obtain⟨op,tb,col,lo,I,⟨ak,⟨eo,nm,⟨vk,vn,vs⟩,ai⟩,ad,aj,af,ae,n,al⟩,ks⟩:=p;have h:zo col ⟨#[]⟩=false:=h;have hF:Sat Pg Qm [.c (.d (.sl (zu d))),.c (str tb)] (λr=>r=rF (some ⟨tc,o⟩)):=hF;have R:Sat Pg Kz [.agg [.d (.sl (zm tc)),.d (.sl (zf o))],.c (str col)] (λr=>r=rI (zj tc col)):=R;have hc:0<=zj tc col:=hc;have hi: ∀r∈o,zj tc col<r.length:=hi;show Sat Pg _ _ (DQ ⟨.w (Tbl.w ⟨tc,o.filter (inR (zj tc col).toNat lo I)⟩),[]⟩);clear hf;generalize zj tc col=c at*;obtain⟨k,rfl⟩:=cY hc;rw[Int.toNat_natCast];obtain⟨q,hq⟩: ∃q,q=inR k lo I:=⟨_,rfl⟩;rw[<- hq];refine uh.s T8 ?_;refine aC hF ?_;rw[h];refine aC R ?_;rw[zx];refine yx (P:=Pg) (f:=T8.f) (body:=(uh.l 0)) o.length (λi=>scS (Pln.cs (.mk op tb col lo I ⟨ak,⟨eo,nm,⟨vk,vn,vs⟩,ai⟩,ad,aj,af,ae,n,al⟩ ks)) tc o k i ((o.take i).filter q)) (λ_=>True) ⟨trivial,ze ?_⟩ ?_
 ·exact rfl
 intro i an _;have wi:i<o.length ->aV.wrap ((i:Int)+1)=((i+1:Nat):Int):=λh=>zC h (by omega)
 obtain⟨T,hT⟩: ∃T,T=(o.take i).filter q:=⟨_,rfl⟩;have ag:T.length<=i:=by
  rw[hT];refine aK (List.length_filter_le _ _) ?_;rw[aO];omega
 have ah:(zf T).take T.length=zf T:=by rw[<- zx,aL]
 have g: ∀h:i<o.length,(o.take (i+1)).filter q=T++(bif q o[i]then [o[i]]else []):=λh=>by rw[Zd q h,<- hT]
 have U:o.length<=i ->T=o.filter q:=λh=>by rw[hT,aT h]
 show mwpR Pg T8.f (uh.l 0) _ (scS _ tc o k i ((o.take i).filter q));rw[<- hT,uW];clear hT;cases T with
 |nil=>
  unfold scS;refine zi (λh1=>?_) (λh1=>?_)
  ·have j:i<o.length:=by have:=aN h1;omega
   have hg:=yJ j;have g:=g j;have hk:=hi _ (aI j);generalize o[i]=x at*;have hk:k<x.length:=by omega
   have ab:=xj hk;have ac:q x=((x[k]).k==2&&(decide (lo<=(x[k]).n)&&decide ((x[k]).n<=I))):=by
    rw[hq];unfold inR;rw[show at0 x k=x[k]by unfold at0;rw[am.getD_eq_getElem?_getD,am.getElem?_eq_getElem hk];rfl]
   rw[ac]at g;generalize x[k]=v at*;obtain⟨v1,v2,v3⟩:=v;simp only at g;(conv=>whnf);refine⟨by omega,_,hg,rfl,?_⟩;(conv=>whnf);refine⟨by omega,_,ab,rfl,?_⟩;refine zi (λJ=>?_) (λJ=>?_)
   ·have J:(v1==2&&(decide (lo<=v2)&&decide (v2<=I)))=true:=by rw[<- bX];exact J
    rw[J,aD]at g;(conv=>whnf);refine⟨by simp,by unfold ym;simp,by simp,?_⟩;(conv=>whnf);refine⟨j,trivial,ze ?_⟩;rw[g];(conv=>whnf);rw[wi j];rfl
   have J:(v1==2&&(decide (lo<=v2)&&decide (v2<=I)))=false:=by rw[<- bX];exact J
   rw[J,aB,bA]at g;(conv=>whnf);refine⟨j,trivial,ze ?_⟩;rw[g];(conv=>whnf);rw[wi j];rfl
  have aa:o.length<=i:=by have:=aG h1;omega
  rw[<- U aa];exact⟨rfl,rfl⟩
 |cons a T=>
  unfold scS;refine zi (λh1=>?_) (λh1=>?_)
  ·have j:i<o.length:=by have:=aN h1;omega
   have hg:=yJ j;have g:=g j;have hk:=hi _ (aI j);generalize o[i]=x at*;have hk:k<x.length:=by omega
   have ab:=xj hk;have ac:q x=((x[k]).k==2&&(decide (lo<=(x[k]).n)&&decide ((x[k]).n<=I))):=by
    rw[hq];unfold inR;rw[show at0 x k=x[k]by unfold at0;rw[am.getD_eq_getElem?_getD,am.getElem?_eq_getElem hk];rfl]
   rw[ac]at g;generalize x[k]=v at*;obtain⟨v1,v2,v3⟩:=v;simp only at g;(conv=>whnf);refine⟨by omega,_,hg,rfl,?_⟩;(conv=>whnf);refine⟨by omega,_,ab,rfl,?_⟩;refine zi (λJ=>?_) (λJ=>?_)
   ·have J:(v1==2&&(decide (lo<=v2)&&decide (v2<=I)))=true:=by rw[<- bX];exact J
    rw[J,aD]at g;(conv=>whnf);refine⟨by simp,by unfold ym;simp;simp at ag;omega,by simp;simp at ag;omega,?_⟩;(conv=>whnf);refine⟨j,trivial,ze ?_⟩;rw[g];(conv=>whnf);rw[wi j,ah,bM];show _=S.mk _ [_,_,(8,.box [_,.own 67 1 (a::(T++[x])).length]),(67,.arr 1 (zf (a::(T++[x]))) false)];rw[<- bM,xm,aA];rfl
   have J:(v1==2&&(decide (lo<=v2)&&decide (v2<=I)))=false:=by rw[<- bX];exact J
   rw[J,aB,bA]at g;(conv=>whnf);refine⟨j,trivial,ze ?_⟩;rw[g];(conv=>whnf);rw[wi j];rfl
  have aa:o.length<=i:=by have:=aG h1;omega
  rw[<- U aa];(conv=>whnf);refine⟨rfl,?_⟩;show Res.mk (.w (.agg [.d (.sl (zm tc)),.d (.sl ((zf (a::T)).take (a::T).length))])) []=_;rw[ah];rfl
def Pln.nodes:Pln ->am (Int×Stp)
 | .mk op tb col lo hi st [k]=>bif qU op tb col lo hi st.op 1 then k.nodes++[(op,st)]else []
 |_=> []
theorem gS {op:Int}{tb col:ByteArray}{lo hi:Int}{st:Stp}{k:Pln}(h:(Pln.mk op tb col lo hi st [k]).steps=true):(Pln.mk op tb col lo hi st [k]).nodes=k.nodes++[(op,st)]:=by
 simp only[Pln.nodes];rw[show qU op tb col lo hi st.op 1=true from h];rfl
theorem JW: ∀p:Pln,p.nodes.map Prod.snd=p.base.2
 | .mk op tb col lo hi st [k]=>by
   have g:=JW k;simp only[Pln.nodes,Pln.base];cases qU op tb col lo hi st.op 1
   ·rfl
   simp only[aD,bI,bE,cL,g]
 | .mk _ _ _ _ _ _ []=>rfl
 | .mk _ _ _ _ _ _ (_::_::_)=>rfl
def wD (x:Int×Stp):D:=bif x.1==3 then .ifc 109 x.2.ds else bif x.1==4 then .ifc 110 x.2.ds else bif x.1==5 then .ifc 111 x.2.ds else .ifc 112 x.2.ds
def aak (p:Pln):D:=.ifc 103 p.ds
theorem UV (a b:am D):qD (a++b)=qD a++qD b:=by simp[qD]
def OpR (P B p:Pln)(g:am D)(m:Nat):Prop:=Js B p m /\g++(p.nodes.map wD).reverse=(P.nodes.map wD).reverse
theorem auj {P B:Pln}{g:am D}{m:Nat}{op:Int}{tb col:ByteArray}{lo hi:Int}{st:Stp}{ks:am Pln}(h:OpR P B (.mk op tb col lo hi st ks) g m):(∃k m',ks=[k]/\m'<m /\op≠1 /\OpR P B k (g++[wD (op,st)]) m')\/(ks=[]/\op=1 /\B= .mk op tb col lo hi st ks /\g=(P.nodes.map wD).reverse):=by
 obtain⟨j,l⟩:=h;rcases aem j with⟨k,m',rfl,o,p,i⟩|⟨rfl,rfl,i⟩
 ·refine .inl ⟨k,m',rfl,o,p,i,?_⟩;rw[<- l];cases hs:(Pln.mk op tb col lo hi st [k]).steps with
  |true=>rw[gS hs];simp
  |false=>
   have e:=abb hs;have:=j.2.2;rw[e]at this;have:m=0:=this;omega
 refine .inr ⟨rfl,rfl,i,?_⟩;rw[<- l];show g=g++([]:am D).reverse;simp
def opS (p:Pln)(g:am D):S:=⟨[(1,cV (.ptr 1 0)),(3,cV (.own 19 1 g.length))],[(1,.box p.cs),(19,.arr 1 (qD g) false)]⟩
theorem Vo (P B:Pln)(m:Nat)(hc:Js B P m)(hm:m<=100000):Sat Pg jQ [P.w] (λr=>r=rC (.d (.sl (qD (aak B::P.nodes.map wD))))):=by
 refine zD ?_;rw[wg];suffices h: ∀x,qD (aak B::P.nodes.map wD)=x ->Sat Pg jQ [.agg P.cs] (DQ (rC (.d (.sl x))))from h _ rfl
 intro x hx;have a3:(P.nodes.map wD).length<=100000:=by
  have:=aF cU (JW P);rw[cG]at this⊢;rw[this,<- hc.2.2];exact hm
 obtain⟨R,hR⟩: ∃R:Pln×am D×Nat ->Prop,∀p l m,R (p,l,m)↔OpR P B p l m:=⟨λz=>OpR P B z.1 z.2.1 z.2.2,λ_ _ _=>Iff.rfl⟩;have h0:R (P,[],m):=(hR _ _ _).2 ⟨hc,rfl⟩;have ai: ∀p l m,R (p,l,m) ->l.length<=100000:=λp l m h=>by
  have:=aF cU ((hR _ _ _).1 h).2;simp only[aA,cJ]at this;omega
 have af: ∀op tb col lo hi st ks l m,R (.mk op tb col lo hi st ks,l,m) ->(∃k m',ks=[k]/\m'<m /\op≠1 /\R (k,l++[wD (op,st)],m'))\/(ks=[]/\op=1 /\aak B=aak (.mk op tb col lo hi st ks)/\qD ((l++[aak B]).reverse)=x):=λop tb col lo hi st ks l m h=>by
  rcases auj ((hR _ _ _).1 h)with⟨k,m',h1,h2,h3,h4⟩|⟨h1,h2,h3,h4⟩
  ·exact .inl ⟨k,m',h1,h2,h3,(hR _ _ _).2 h4⟩
  exact .inr ⟨h1,h2,by rw[h3],by rw[<- hx,h4];simp⟩
 clear hR hx hc hm a3;obtain⟨op,tb,col,lo,hi,⟨J,⟨eo,nm,⟨vk,vn,vs⟩,o⟩,g,I,j,i,n,U⟩,ks⟩:=P;refine Xn.s T8 ?_;refine yq (P:=Pg) (f:=T8.f) (body:=(Xn.l 0)) (λz:Pln×am D×Nat=>opS z.1 z.2.1) (λz=>z.2.2) R ⟨(_,[],m),h0,⟨_,zW 3 19 1 (by omega) (by omega) rfl,?_⟩⟩ ?_
 ·exact rfl
 clear h0;clear op tb col lo hi J eo nm vk vn vs o g I j i n U ks m;rintro⟨p,l,m⟩ h;show mwpR Pg T8.f (Xn.l 0) _ (opS p l);unfold opS;have a5:=ai _ _ _ h;have ak:(qD l).take l.length=qD l:=by rw[<- gW,aL]
 obtain⟨op,tb,col,lo,hi,⟨J,⟨eo,nm,⟨vk,vn,vs⟩,o⟩,g,I,j,i,n,U⟩,ks⟩:=p;rcases af _ _ _ _ _ _ _ _ _ h with⟨k,m',rfl,hm,au,h2⟩|⟨rfl,rfl,hB,hx⟩
 ·obtain⟨kd,ab⟩: ∃kd,kd=k.ds:=⟨_,rfl⟩;have hK:plnsD [k]=[kd]:=by rw[ab];rfl
  have au:(op !=1)=true:=by simpa using au
  clear h af ai;rw[uW,hK];(conv=>whnf);rw[au];refine zi (b:=op==3) (λh3=>?_) (λh3=>?_)
  ·have e:wD (op,⟨J,⟨eo,nm,⟨vk,vn,vs⟩,o⟩,g,I,j,i,n,U⟩)= .ifc 109 (c7 ⟨J,⟨eo,nm,⟨vk,vn,vs⟩,o⟩,g,I,j,i,n,U⟩):=by unfold wD;simp only[h3,aD]
   rw[e]at h2;have aa:=UV l [.ifc 109 (c7 ⟨J,⟨eo,nm,⟨vk,vn,vs⟩,o⟩,g,I,j,i,n,U⟩)];(conv=>whnf);refine⟨by simp,by unfold ym;simp;omega,by simp;omega,?_⟩;(conv=>whnf);obtain⟨ay,az,ag,aw,ar,⟨an,⟨aq,ax,⟨a0,a1,a2⟩,ah⟩,ac,al,ae,ad,n1,ao⟩,av⟩:=k;refine⟨by omega,_,rfl,by rw[ab];rfl,?_⟩;subst ab;(conv=>whnf);refine⟨(_,_,m'),⟨h2,hm⟩,⟨_,u9 3 28 19 1 _ _ (by omega) rfl rfl,?_⟩⟩;(conv=>whnf)
   dsimp only
   rw[aa,aA,ak];rfl
  refine zi (b:=op==4) (λh4=>?_) (λh4=>?_)
  ·have e:wD (op,⟨J,⟨eo,nm,⟨vk,vn,vs⟩,o⟩,g,I,j,i,n,U⟩)= .ifc 110 (c7 ⟨J,⟨eo,nm,⟨vk,vn,vs⟩,o⟩,g,I,j,i,n,U⟩):=by unfold wD;simp only[h3,h4,aD,aB]
   rw[e]at h2;have aa:=UV l [.ifc 110 (c7 ⟨J,⟨eo,nm,⟨vk,vn,vs⟩,o⟩,g,I,j,i,n,U⟩)];(conv=>whnf);refine⟨by simp,by unfold ym;simp;omega,by simp;omega,?_⟩;(conv=>whnf);obtain⟨ay,az,ag,aw,ar,⟨an,⟨aq,ax,⟨a0,a1,a2⟩,ah⟩,ac,al,ae,ad,n1,ao⟩,av⟩:=k;refine⟨by omega,_,rfl,by rw[ab];rfl,?_⟩;subst ab;(conv=>whnf);refine⟨(_,_,m'),⟨h2,hm⟩,⟨_,u9 3 37 19 1 _ _ (by omega) rfl rfl,?_⟩⟩;(conv=>whnf)
   dsimp only
   rw[aa,aA,ak];rfl
  refine zi (b:=op==5) (λh5=>?_) (λh5=>?_)
  ·have e:wD (op,⟨J,⟨eo,nm,⟨vk,vn,vs⟩,o⟩,g,I,j,i,n,U⟩)= .ifc 111 (c7 ⟨J,⟨eo,nm,⟨vk,vn,vs⟩,o⟩,g,I,j,i,n,U⟩):=by unfold wD;simp only[h3,h4,h5,aD,aB]
   rw[e]at h2;have aa:=UV l [.ifc 111 (c7 ⟨J,⟨eo,nm,⟨vk,vn,vs⟩,o⟩,g,I,j,i,n,U⟩)];(conv=>whnf);refine⟨by simp,by unfold ym;simp;omega,by simp;omega,?_⟩;(conv=>whnf);obtain⟨ay,az,ag,aw,ar,⟨an,⟨aq,ax,⟨a0,a1,a2⟩,ah⟩,ac,al,ae,ad,n1,ao⟩,av⟩:=k;refine⟨by omega,_,rfl,by rw[ab];rfl,?_⟩;subst ab;(conv=>whnf);refine⟨(_,_,m'),⟨h2,hm⟩,⟨_,u9 3 46 19 1 _ _ (by omega) rfl rfl,?_⟩⟩;(conv=>whnf)
   dsimp only
   rw[aa,aA,ak];rfl
  have e:wD (op,⟨J,⟨eo,nm,⟨vk,vn,vs⟩,o⟩,g,I,j,i,n,U⟩)= .ifc 112 (c7 ⟨J,⟨eo,nm,⟨vk,vn,vs⟩,o⟩,g,I,j,i,n,U⟩):=by unfold wD;simp only[h3,h4,h5,aB]
  rw[e]at h2;have aa:=UV l [.ifc 112 (c7 ⟨J,⟨eo,nm,⟨vk,vn,vs⟩,o⟩,g,I,j,i,n,U⟩)];(conv=>whnf);refine⟨by simp,by unfold ym;simp;omega,by simp;omega,?_⟩;(conv=>whnf);obtain⟨ay,az,ag,aw,ar,⟨an,⟨aq,ax,⟨a0,a1,a2⟩,ah⟩,ac,al,ae,ad,n1,ao⟩,av⟩:=k;refine⟨by omega,_,rfl,by rw[ab];rfl,?_⟩;subst ab;(conv=>whnf);refine⟨(_,_,m'),⟨h2,hm⟩,ze ?_⟩;(conv=>whnf)
  dsimp only
  rw[aa,aA,ak];rfl
 clear h af ai;have aa:=UV l [aak B];have aj:=aah (l++[aak B]) (l.length+1) (by simp) (by omega);rw[hx]at aj;have a4:x.take (l.length+1)=x:=by
  rw[<- hx];refine aT ?_;rw[gW];simp
 rw[hB]at aj aa;clear hx hB;(conv=>whnf);refine⟨by simp,by unfold ym;simp;omega,by simp;omega,?_⟩;(conv=>whnf);rw[ak];(conv=>whnf);refine zA.mono (aa▸aj) ?_;rintro _ rfl;(conv=>whnf);refine⟨rfl,?_⟩;show Res.mk (.w (.c (.d (.sl (x.take (l.length+1)))))) []=_;rw[a4];rfl
theorem U7 (d:am Nmd)(t:Tbl)(p:Pln)(X:Tbl)(o:Sat Pg xU [p.w,.c (.d (.sl (zu d)))] (λr=>r=⟨.w X.w,[]⟩)):Sat Pg xH [.c (.d (.sl (zu d))),t.w,.c (.d (aak p))] (λr=>r=qE X 0):=by
 have hs:=ajX p;have U:=y9 d ⟨#[]⟩;rw[wg]at o hs;obtain⟨tc,tr⟩:=t;obtain⟨xc,xr⟩:=X;generalize zZ ⟨#[]⟩ d=f at*;unfold aak;obtain⟨op,tb,col,lo,hi,⟨J,⟨eo,nm,⟨vk,vn,vs⟩,l⟩,g,I,j,i,n,P⟩,ks⟩:=p;obtain⟨R,aa⟩: ∃R,R=Pln.ds (.mk op tb col lo hi ⟨J,⟨eo,nm,⟨vk,vn,vs⟩,l⟩,g,I,j,i,n,P⟩ ks):=⟨_,rfl⟩;cases f with
 |none=>
  refine qP.s T8 ?_;refine aC hs ?_;refine aC U ?_;refine aC o ?_;rfl
 |some ft=>
  obtain⟨fc,fr⟩:=ft;refine qP.s T8 ?_;refine aC hs ?_;refine aC U ?_;refine aC o ?_;rfl
theorem ady (d:am Nmd)(t:Tbl)(st:Stp)(e:Int)(o:(e !=0)=true)(cols:am Col)(l:Sat Pg zK [.c (.d (.sl (zu d))),.c (.d (.sl (zm t.cols))),st.w] (λr=>r=xF (e,cols))):Sat Pg xH [.c (.d (.sl (zu d))),t.w,.c (.d (.ifc 112 st.ds))] (λr=>r=qE ⟨[],[]⟩ e):=by
 refine zD ?_;have hs:=kQ st;obtain⟨tc,P⟩:=t;obtain⟨op,⟨I,J,⟨R,U,vs⟩,ks⟩,g,p,j,i,n,tb⟩:=st;rw[qT]at hs l;refine qP.s T8 ?_;refine aC hs ?_;refine aC l ?_;rw[o];exact⟨rfl,rfl⟩
theorem aaR (d:am Nmd)(t:Tbl)(st:Stp)(cols:am Col)(i:Sat Pg zK [.c (.d (.sl (zu d))),.c (.d (.sl (zm t.cols))),st.w] (λr=>r=xF (0,cols)))(y:Int×Tbl)(g:Sat Pg wx [.c (.d (.sl (zu d))),t.w,st.w] (λr=>r=wK y)):Sat Pg xH [.c (.d (.sl (zu d))),t.w,.c (.d (.ifc 112 st.ds))] (λr=>r=wK y):=by
 have hs:=kQ st;have j:=y9 d st.table;obtain⟨tc,tr⟩:=t;obtain⟨y1,⟨y2,y3⟩⟩:=y;obtain⟨op,⟨P,nm,⟨vk,vn,vs⟩,ks⟩,l,J,p,o,n,tb⟩:=st;rw[qT]at hs i g;simp only at j;generalize zZ tb d=f at*;cases f with
 |none=>
  refine qP.s T8 ?_;refine aC hs ?_;refine aC i ?_;refine aC j ?_;refine aC g ?_;rfl
 |some I=>
  obtain⟨R,U⟩:=I;refine qP.s T8 ?_;refine aC hs ?_;refine aC i ?_;refine aC j ?_;refine aC g ?_;rfl
end
end Go.Proofs.YtkdijaiaplkliaaGreatDoor
namespace Go.Proofs
section
open Go.Shelf
def Tryz.lays177_ren:Go.Shelf.Ren:=⟨fun|177=>144|250=>181|289=>219|197=>241|323=>242|260=>264|339=>265|340=>266|242=>267|119=>268|345=>279|346=>280|278=>281|n=>n,fun|9=>9|5=>5|4=>4|3=>3|37=>209|21=>21|105=>312|46=>228|119=>339|0=>0|139=>342|138=>341|49=>343|234=>344|131=>78|51=>288|236=>346|n=>n,fun|3=>2|4=>3|20=>4|21=>5|22=>6|23=>7|24=>8|n=>n⟩
theorem Tryz.lays177:Go.Proofs.Lays.n177 Tryz.prog Tryz.lays177_ren:={
 mixed:=by kernel_rfl
 f119:=Tryz.func268.trans (aF some (by kernel_rfl))
 f177:=Tryz.func144.trans (aF some (by kernel_rfl))
 f197:=Tryz.func241.trans (aF some (by kernel_rfl))
 f242:=Tryz.func267.trans (aF some (by kernel_rfl))
 f250:=Tryz.func181.trans (aF some (by kernel_rfl))
 f260:=Tryz.func264.trans (aF some (by kernel_rfl))
 f278:=Tryz.func281.trans (aF some (by kernel_rfl))
 f289:=Tryz.func219.trans (aF some (by kernel_rfl))
 f323:=Tryz.func242.trans (aF some (by kernel_rfl))
 f339:=Tryz.func265.trans (aF some (by kernel_rfl))
 f340:=Tryz.func266.trans (aF some (by kernel_rfl))
 f345:=Tryz.func279.trans (aF some (by kernel_rfl))
 f346:=Tryz.func280.trans (aF some (by kernel_rfl))
 t0:=Tryz.underlying0
 a0:=Tryz.isAgg0
 z0:=Tryz.sizeOf0
 v0:=Tryz.zeroValue0
 t3:=Tryz.underlying3
 a3:=Tryz.isAgg3
 z3:=Tryz.sizeOf3
 v3:=Tryz.zeroValue3
 t4:=Tryz.underlying4
 a4:=Tryz.isAgg4
 z4:=Tryz.sizeOf4
 v4:=Tryz.zeroValue4
 t5:=Tryz.underlying5
 a5:=Tryz.isAgg5
 z5:=Tryz.sizeOf5
 v5:=Tryz.zeroValue5
 t9:=Tryz.underlying9
 a9:=Tryz.isAgg9
 z9:=Tryz.sizeOf9
 v9:=Tryz.zeroValue9
 t21:=Tryz.underlying21
 a21:=Tryz.isAgg21
 z21:=Tryz.sizeOf21
 v21:=Tryz.zeroValue21
 t37:=Tryz.underlying209
 a37:=Tryz.isAgg209
 z37:=Tryz.sizeOf209
 v37:=Tryz.zeroValue209
 t46:=Tryz.underlying228
 a46:=Tryz.isAgg228
 z46:=Tryz.sizeOf228
 v46:=Tryz.zeroValue228
 t49:=Tryz.underlying343
 a49:=Tryz.isAgg343
 z49:=Tryz.sizeOf343
 v49:=Tryz.zeroValue343
 t51:=Tryz.underlying288
 a51:=Tryz.isAgg288
 z51:=Tryz.sizeOf288
 v51:=Tryz.zeroValue288
 t105:=Tryz.underlying312
 a105:=Tryz.isAgg312
 z105:=Tryz.sizeOf312
 v105:=Tryz.zeroValue312
 t119:=Tryz.underlying339
 a119:=Tryz.isAgg339
 z119:=Tryz.sizeOf339
 t131:=Tryz.underlying78
 a131:=Tryz.isAgg78
 z131:=Tryz.sizeOf78
 v131:=Tryz.zeroValue78
 t138:=Tryz.underlying341
 a138:=Tryz.isAgg341
 z138:=Tryz.sizeOf341
 v138:=Tryz.zeroValue341
 t139:=Tryz.underlying342
 a139:=Tryz.isAgg342
 z139:=Tryz.sizeOf342
 v139:=Tryz.zeroValue342
 t234:=Tryz.underlying344
 a234:=Tryz.isAgg344
 z234:=Tryz.sizeOf344
 v234:=Tryz.zeroValue344
 t236:=Tryz.underlying346
 a236:=Tryz.isAgg346
 z236:=Tryz.sizeOf346
 v236:=Tryz.zeroValue346
 g3:=by kernel_rfl
 g4:=by kernel_rfl
 g20:=by kernel_rfl
 g21:=by kernel_rfl
 g22:=by kernel_rfl
 g23:=by kernel_rfl
 g24:=by kernel_rfl}
def Tryz.laysM171_ren:Go.Shelf.Ren:=⟨fun|171=>143|243=>180|246=>218|283=>237|284=>238|285=>239|286=>240|129=>216|317=>260|318=>261|319=>262|320=>263|337=>277|338=>278|n=>n,fun|3=>3|9=>9|2=>2|4=>4|171=>308|0=>0|53=>290|37=>209|5=>5|173=>310|212=>327|51=>288|20=>20|213=>328|46=>228|232=>349|233=>350|n=>n,fun|17=>1|18=>11|19=>12|n=>n⟩
theorem Tryz.laysM171:Go.Proofs.LaysM.n171 Tryz.prog Tryz.laysM171_ren:={
 mixed:=by kernel_rfl
 f129:=Tryz.func216.trans (aF some (by kernel_rfl))
 f171:=Tryz.func143.trans (aF some (by kernel_rfl))
 f243:=Tryz.func180.trans (aF some (by kernel_rfl))
 f246:=Tryz.func218.trans (aF some (by kernel_rfl))
 f283:=Tryz.func237.trans (aF some (by kernel_rfl))
 f284:=Tryz.func238.trans (aF some (by kernel_rfl))
 f285:=Tryz.func239.trans (aF some (by kernel_rfl))
 f286:=Tryz.func240.trans (aF some (by kernel_rfl))
 f317:=Tryz.func260.trans (aF some (by kernel_rfl))
 f318:=Tryz.func261.trans (aF some (by kernel_rfl))
 f319:=Tryz.func262.trans (aF some (by kernel_rfl))
 f320:=Tryz.func263.trans (aF some (by kernel_rfl))
 f337:=Tryz.func277.trans (aF some (by kernel_rfl))
 f338:=Tryz.func278.trans (aF some (by kernel_rfl))
 t0:=Tryz.underlying0
 a0:=Tryz.isAgg0
 z0:=Tryz.sizeOf0
 v0:=Tryz.zeroValue0
 t2:=Tryz.underlying2
 a2:=Tryz.isAgg2
 z2:=Tryz.sizeOf2
 v2:=Tryz.zeroValue2
 t3:=Tryz.underlying3
 a3:=Tryz.isAgg3
 z3:=Tryz.sizeOf3
 v3:=Tryz.zeroValue3
 t4:=Tryz.underlying4
 a4:=Tryz.isAgg4
 z4:=Tryz.sizeOf4
 v4:=Tryz.zeroValue4
 t5:=Tryz.underlying5
 a5:=Tryz.isAgg5
 z5:=Tryz.sizeOf5
 v5:=Tryz.zeroValue5
 t9:=Tryz.underlying9
 a9:=Tryz.isAgg9
 z9:=Tryz.sizeOf9
 v9:=Tryz.zeroValue9
 t20:=Tryz.underlying20
 a20:=Tryz.isAgg20
 z20:=Tryz.sizeOf20
 v20:=Tryz.zeroValue20
 t37:=Tryz.underlying209
 a37:=Tryz.isAgg209
 z37:=Tryz.sizeOf209
 v37:=Tryz.zeroValue209
 t46:=Tryz.underlying228
 a46:=Tryz.isAgg228
 z46:=Tryz.sizeOf228
 v46:=Tryz.zeroValue228
 t51:=Tryz.underlying288
 a51:=Tryz.isAgg288
 z51:=Tryz.sizeOf288
 v51:=Tryz.zeroValue288
 t53:=Tryz.underlying290
 a53:=Tryz.isAgg290
 z53:=Tryz.sizeOf290
 v53:=Tryz.zeroValue290
 t171:=Tryz.underlying308
 a171:=Tryz.isAgg308
 z171:=Tryz.sizeOf308
 v171:=Tryz.zeroValue308
 t173:=Tryz.underlying310
 a173:=Tryz.isAgg310
 z173:=Tryz.sizeOf310
 v173:=Tryz.zeroValue310
 t212:=Tryz.underlying327
 a212:=Tryz.isAgg327
 z212:=Tryz.sizeOf327
 v212:=Tryz.zeroValue327
 t213:=Tryz.underlying328
 a213:=Tryz.isAgg328
 z213:=Tryz.sizeOf328
 t232:=Tryz.underlying349
 a232:=Tryz.isAgg349
 z232:=Tryz.sizeOf349
 v232:=Tryz.zeroValue349
 t233:=Tryz.underlying350
 a233:=Tryz.isAgg350
 z233:=Tryz.sizeOf350
 v233:=Tryz.zeroValue350
 g17:=by kernel_rfl
 g18:=by kernel_rfl
 g19:=by kernel_rfl
 i0:=by kernel_rfl
 i2:=by kernel_rfl
 i3:=by kernel_rfl
 i4:=by kernel_rfl
 i5:=by kernel_rfl
 i9:=by kernel_rfl
 i20:=by kernel_rfl
 i37:=by kernel_rfl
 i46:=by kernel_rfl
 i51:=by kernel_rfl
 i53:=by kernel_rfl
 i171:=by kernel_rfl
 i173:=by kernel_rfl
 i212:=by kernel_rfl
 i232:=by kernel_rfl
 i233:=by kernel_rfl
 m17:=by kernel_rfl
 m18:=by kernel_rfl
 m19:=by kernel_rfl}
def Tryz.lays169_ren:Go.Shelf.Ren:=⟨fun|169=>145|n=>n,fun|70=>208|9=>9|0=>0|72=>211|37=>209|127=>260|3=>3|5=>5|n=>n,fun|n=>n⟩
theorem Tryz.lays169:Go.Proofs.Lays.n169 Tryz.prog Tryz.lays169_ren:={
 mixed:=by kernel_rfl
 f169:=Tryz.func145.trans (aF some (by kernel_rfl))
 t0:=Tryz.underlying0
 a0:=Tryz.isAgg0
 z0:=Tryz.sizeOf0
 v0:=Tryz.zeroValue0
 t3:=Tryz.underlying3
 a3:=Tryz.isAgg3
 z3:=Tryz.sizeOf3
 v3:=Tryz.zeroValue3
 t9:=Tryz.underlying9
 a9:=Tryz.isAgg9
 z9:=Tryz.sizeOf9
 v9:=Tryz.zeroValue9
 t37:=Tryz.underlying209
 a37:=Tryz.isAgg209
 z37:=Tryz.sizeOf209
 v37:=Tryz.zeroValue209
 t70:=Tryz.underlying208
 a70:=Tryz.isAgg208
 z70:=Tryz.sizeOf208
 v70:=Tryz.zeroValue208
 t72:=Tryz.underlying211
 a72:=Tryz.isAgg211
 z72:=Tryz.sizeOf211
 v72:=Tryz.zeroValue211
 t127:=Tryz.underlying260
 a127:=Tryz.isAgg260
 z127:=Tryz.sizeOf260
 v127:=Tryz.zeroValue260}
theorem Tryz.Builder_Extra_169:Builder.Extra Tryz.prog Tryz.lays169_ren:={
 sizeBuilder:=by kernel_rfl
 liesBuilder:=by kernel_rfl
 t5:=Tryz.underlying5
 a5:=Tryz.isAgg5
 z5:=Tryz.sizeOf5
 v5:=Tryz.zeroValue5
 infoByte:=by kernel_rfl
 cellsByte:=by kernel_rfl
 sizeByte:=by kernel_rfl
 neB5:=by decide}
end
end Go.Proofs
namespace Go.Proofs.YtkdijaiaplkliaaGreatDoor
section
open Go Go.AM Go.Proofs Go.RowKit Go.Sort
attribute [local irreducible] zY
theorem awv {w:aE}(h:Psi w):Lib.TabIs Tryz.prog w "internal/strconv.uint64pow10" .u64 Lib.pow10Tab:=by
 obtain⟨_,_,_,t,f,h⟩:=h;unfold Lib.TabIs aE.var?;have g:Tryz.prog.globalNamed "internal/strconv.uint64pow10" =some 1:=by kernel_rfl
 rw[g];show(match w.heap[1]? with|some (.cells cs _ _)=>some cs|_=>none)=_;rw[h]
def aj8 (n:Int):ByteArray:=⟨(Lib.itoa n).toArray⟩
def af4 (s:ByteArray):ByteArray:=strOfNums (Lib.quoteZ de s)
theorem adP (s:ByteArray):(af4 s).size<=10*s.size+2:=by unfold af4;rw[strOfNums_size];exact Lib.quoteZ_length_le de s
theorem ao9 (w:aE)(k:Nat)(os:aY Obj):Below w.heap.size w (grow (w.drewN k) os):=
 ⟨rfl,rfl,rfl,by simp[grow],λb g=>by simp[grow,aY.getElem?_append,g]⟩
abbrev tB:Nat:=211
abbrev t8:Nat:=5
theorem atp (b:Nat)(w:aE)(h0:w.cell? ⟨b,0,none⟩=some (.pointer (some ⟨b,0,none⟩))):
 cq Tryz.prog 179 #[.pointer (some ⟨b,0,none⟩)] w λe w'=>e= .returned (.tuple #[])/\w'=w:=by
 obtain⟨j,g,_⟩:=c8.1 Tryz.Builder_Extra_169.sizeBuilder
 go_enter Tryz.func179,Tryz.ntmps179
 go_wp2
 rw[Lib.run_neq_ptr_same w _ Tryz.underlying208 g]
 go_wp2
 go_end0
 exact⟨rfl,rfl⟩
theorem aq8 (b:Nat)(w:aE)(h0:w.cell? ⟨b,0,none⟩=some (.pointer none))(g:w.shape? b=some (tB,2))(o:w.frozen? ⟨b,0,none⟩=false):
 cq Tryz.prog 179 #[.pointer (some ⟨b,0,none⟩)] w λe w'=>e= .returned (.tuple #[])/\w'=w.setCell ⟨b,0,none⟩ (.pointer (some ⟨b,0,none⟩)):=by
 obtain⟨j,l,i⟩:=c8.1 Tryz.Builder_Extra_169.sizeBuilder
 go_enter Tryz.func179,Tryz.ntmps179
 go_wp2
 rw[Lib.run_to_unsafe w ⟨b,0,none⟩ Tryz.underlying208 Tryz.underlying291 l (by rw[i];decide) g (Nat.zero_lt_succ 1)];simp only[cS];rw[df]
 go_wp2
 rw[dq Tryz.func217 (by kernel_rfl) (by kernel_rfl) (by kernel_rfl) (e:=Extern.AbiNoEscape.same) (by kernel_rfl)];rw[Lib.run_noEscape];simp only[cS];rw[df]
 go_wp2
 rw[Lib.run_from_unsafe w ⟨b,0,none⟩ Tryz.underlying291 Tryz.underlying208 l g Tryz.Builder_Extra_169.liesBuilder];simp only[cS];rw[df]
 go_wp2
 go_end0
 exact⟨rfl,rfl⟩
theorem aq7 (B b:Nat)(g:am Value)(w:aE)(h:bR tB t8 B b g w):
 cq Tryz.prog 179 #[.pointer (some ⟨b,0,none⟩)] w λe w'=>e= .returned (.tuple #[])/\(bS tB t8 B b (.pointer (some ⟨b,0,none⟩)) g w' /\Below B w w')/\ ∀c,c≠b ->w'.heap[c]? =w.heap[c]? :=by
 rcases h with h|h
 ·refine(aq8 b w h.cell0 h.shape h.frozen0).mono ?_;rintro e w' ⟨rfl,rfl⟩;exact⟨rfl,⟨h.used _,(Below.refl B w).setCell (p:=⟨b,0,none⟩) h.1 _⟩,λc i=>cK w ⟨b,0,none⟩ c _ i⟩
 refine(atp b w h.cell0).mono ?_;rintro e w' ⟨rfl,rfl⟩;exact⟨rfl,⟨h,Below.refl B _⟩,λc _=>rfl⟩
end
section
open Go Go.AM Go.Proofs Go.RowKit
theorem aq9 (B b:Nat)(P:am Value)(s:ByteArray)(w:aE)(h:bR tB t8 B b P w)(ah:P.length+s.size<=140737488355328)(ai:B<=w.heap.size):
 cq Tryz.prog 142 #[.pointer (some ⟨b,0,none⟩),.string s] w λe w'=>e= .returned (.tuple #[.int .i64 s.size,.nilIface])/\(bS tB t8 B b (.pointer (some ⟨b,0,none⟩)) (P++c9 s) w' /\Below B w w')/\ ∀c cs t f,c≠b ->w.heap[c]? =some (.cells cs t f) ->t≠t8 ->w'.heap[c]? =w.heap[c]? :=by
 obtain⟨i0,hi,ad,ae,af⟩:=info_parts Tryz.Builder_Extra_169.infoByte
 go_enter Tryz.func142,Tryz.ntmps142
 go_wp2_with (go_at_call 179;refine(aq7 B b P _ h).mono ?_)
 rintro e w1 ⟨rfl,⟨h1,I⟩,R⟩;obtain⟨hB,v,r,j,ac⟩:=h1;have c0:w1.cell? ⟨b,0,none⟩=some (.pointer (some ⟨b,0,none⟩)):=by rw[bF r];rfl
 have c1:w1.cell? ⟨b,1,none⟩=some v:=by rw[bF r];rfl
 go_wp2_with (at_builtin;refine Lib.wpList_append_own_string _ rfl _ _ 209 9 rfl B t8 i0 Tryz.underlying209 Tryz.underlying9 hi ad ae af _ _ _ rfl j s rfl ?c3 ?c4 ?c5 ?_)
 case c3=>unfold maxLen;omega
 case c4=>omega
 case c5=>have:=I.size;omega
 intro v' U l i _;have ab:b<w1.heap.size:=by
  rcases Nat.lt_or_ge b w1.heap.size with h'|h'
  ·exact h'
  simp[aY.getElem?_eq_none h']at r
 have o:U.heap[b]? =some (.cells #[.pointer (some ⟨b,0,none⟩),v] tB (0,0)):=by
  rw[i.block b ab (λe=>ac e.symm)];exact r
 have d0:U.cell? ⟨b,0,none⟩=some (.pointer (some ⟨b,0,none⟩)):=by rw[bF o];rfl
 have d1:U.cell? ⟨b,1,none⟩=some v:=by rw[bF o];rfl
 have f1:U.frozen? ⟨b,1,none⟩=false:=Lib.frozen_of_heap o 1;obtain⟨ao,n',cap,rfl⟩: ∃ao n' cap,v'= .slice ao n' cap:=by
  rcases l.2 with⟨hv,_⟩|⟨g,cap,aa,hv,_⟩
  ·exact⟨_,_,_,hv⟩
  exact⟨_,_,_,hv⟩
 go_wp2
 go_ret2
 refine⟨rfl,⟨?_,?_⟩,λc cs t f hc J ht=>?_⟩
 ·exact Lib.BuilderAt.put (T:=tB) (e:=t8) hB o (bs':=P++c9 s) (by simpa[Lib.strCells_length]using l) Tryz.Builder_Extra_169.neB5
 ·exact(I.grown i (by have:=I.size;omega) (λk hk=>(j.lt k hk).1)).setCell (p:=⟨b,1,none⟩) hB _
 rw[<- R c hc]at J;refine(cK U ⟨b,1,none⟩ c _ hc).trans ((i.block c (aY.getElem?_eq_some_iff.1 J).1 (λe=>?_)).trans (R c hc));rcases j.2 with⟨rfl,_⟩|⟨g,ag,aa,rfl,_,hg,_⟩
 ·cases e
 simp only[Value.ownBlock,Option.some.injEq]at e;subst e;rw[J]at hg;cases hg;exact ht rfl
theorem apb (B b:Nat)(l:am UInt8)(w:aE)(h:bR tB t8 B b (aQ l) w)(g:B<=w.heap.size):
 cq Tryz.prog 145 #[.pointer (some ⟨b,0,none⟩)] w λe w'=>e= .returned (.string ⟨l.toArray⟩)/\Below B w w':=
 Any.Builder_String_any Tryz.lays169 Tryz.Builder_Extra_169 B b l w h g
def aqo:ByteArray:=⟨#[32]⟩
def aey (v:Val):ByteArray:=aj8 v.k++aqo++aj8 v.n++aqo++af4 v.s++aqo
def aex (v:Val):am UInt8:=(aey v).data.toList
def uo (row:am Val):am Int ->aP (am UInt8)
 | []=>some []
 |i::r=>bif (at0 row i.toNat).k==0 then none else(uo row r).map (aex (at0 row i.toNat)++ ·)
def VS (v:Val):Prop:=(-9223372036854775808<=v.k /\v.k<=9223372036854775807)/\(-9223372036854775808<=v.n /\v.n<=9223372036854775807)/\v.s.size<=1000000
theorem VV {n:Int}(h0: -9223372036854775808<=n)(g:n<=9223372036854775807):(aj8 n).size<=21:=Lib.itoa_length_le n h0 g
theorem arO {v:Val}(h:VS v):(aey v).size<=10000100:=by
 have i:=VV h.1.1 h.1.2;have j:=VV h.2.1.1 h.2.1.2;have l:=adP v.s;have o:=h.2.2;have g:aqo.size=1:=rfl;simp only[aey,ByteArray.size_append,g];omega
theorem aiv (row:am Val): ∀(l:am Int) (i:Int),uo row (l++[i])=(uo row l).bind λx=>bif (at0 row i.toNat).k==0 then none else some (x++aex (at0 row i.toNat))
 | [],i=>by
   simp only[cH,uo,cZ];cases(at0 row i.toNat).k==0<;>simp
 |j::r,i=>by
  simp only[bM,uo,aiv row r i];cases(at0 row j.toNat).k==0 with
  |true=>rfl
  |false=>
   simp only[aB];cases uo row r with
   |none=>rfl
   |some x=>
    simp only[cZ,Option.map_some];cases(at0 row i.toNat).k==0<;>simp
theorem alx (row:am Val): ∀(l r:am Int),uo row l=none ->uo row (l++r)=none
 | [],_,h=>by cases h
 |i::l,r,h=>by
  simp only[bM,uo]at h⊢;cases hk:(at0 row i.toNat).k==0 with
  |true=>rfl
  |false=>
   rw[hk]at h;simp only[aB,Option.map_eq_none_iff]at h⊢;exact alx row l r h
def axz:aP (am UInt8) ->Value
 |none=>.tuple #[.string ⟨#[]⟩,.bool false]
 |some l=>.tuple #[.string ⟨l.toArray⟩,.bool true]
theorem aiI {w:aE}{ok:Nat ->Prop}{b sz:Nat}: ∀(x:am Val) (o:Nat),RDs w ok b sz o (rowD x) -> ∀(i:Nat) (h:i<x.length),sz=3 /\w.cell? ⟨b,o+i*3,none⟩=some (.int .i64 x[i].k)/\w.cell? ⟨b,o+i*3+1,none⟩=some (.int .i64 x[i].n)/\w.cell? ⟨b,o+i*3+2,none⟩=some (.string x[i].s)
 | [],_,_,i,h=>by simp at h
 |v::r,o,h,i,hi=>by
  simp only[rowD,bE,RDs,Val.ds,RDc,RD]at h;obtain⟨g,⟨⟨_,j,rfl,_⟩,⟨_,l,rfl,_⟩,⟨_,p,rfl,_⟩,_⟩,I⟩:=h;have hs:sz=3:=by simpa using g.symm
  subst hs;cases i with
  |zero=>exact⟨rfl,by simpa using j,by simpa using l,by simpa using p⟩
  |succ i=>
   obtain⟨U,J,P,R⟩:=aiI r (o+3) I i (by simpa using hi);refine⟨rfl,?_,?_,?_⟩
   ·rw[show o+(i+1)*3=o+3+i*3 by omega];exact J
   ·rw[show o+(i+1)*3=o+3+i*3 by omega];exact P
   rw[show o+(i+1)*3=o+3+i*3 by omega];exact R
theorem abw {w:aE}{ok:Nat ->Prop}{b sz:Nat}: ∀(x:am Int) (o:Nat),RDs w ok b sz o (zg x) -> ∀(i:Nat) (h:i<x.length),w.cell? ⟨b,o+i,none⟩=some (.int .i64 x[i])
 | [],_,_,i,h=>by simp at h
 |v::r,o,h,i,hi=>by
  simp only[zg,bE,RDs,RDc,RD]at h;obtain⟨g,⟨⟨_,j,rfl,_⟩,_⟩,l⟩:=h;have hs:sz=1:=by simpa using g.symm
  subst hs;cases i with
  |zero=>simpa using j
  |succ i=>
   have:=abw r (o+1) l i (by simpa using hi);rw[show o+(i+1)=o+1+i by omega];exact this
structure KeyS (B vb:Nat)(v:Val)(l:am UInt8)(w W:aE):Prop where
 c:W.heap[vb]? =some (.cells #[.int .i64 v.k,.int .i64 v.n,.string v.s] 28 (0,0))
 bl:bR tB t8 B B (aQ l) W
 be:Below B w W
 ne:vb≠B
def avx (g:Nat)(v:Val)(W:aE):Prop:=W.cell? ⟨g,0,none⟩=some (.int .i64 v.k)/\W.cell? ⟨g,1,none⟩=some (.int .i64 v.n)/\W.cell? ⟨g,2,none⟩=some (.string v.s)
theorem JC {g:Nat}{v:Val}{W:aE}{e:TypeId}(h:W.heap[g]? =some (.cells #[.int .i64 v.k,.int .i64 v.n,.string v.s] e (0,0))):avx g v W:=
 ⟨by rw[bF h];rfl,by rw[bF h];rfl,by rw[bF h];rfl⟩
theorem adD {w w':aE}(h:Below w.heap.size w w'):w.grownBy w' none:=⟨h.os,h.tape,h.output,h.size,λk hk _=>h.block k hk⟩
theorem KeyS.next {B o:Nat}{v:Val}{l:am UInt8}{w W W':aE}(h:KeyS B o v l w W)(i:Below W.heap.size W W')(hB:B<=W.heap.size):KeyS B o v l w W':=by
 refine⟨by rw[i.block _ (aY.getElem?_eq_some_iff.1 h.c).1];exact h.c,?_,h.be.grown (adD i) hB (λk e=>by cases e),h.ne⟩;have gen: ∀p,bS tB t8 B B p (aQ l) W ->bS tB t8 B B p (aQ l) W':=by
  rintro p ⟨r,u,j,I,J⟩;exact⟨r,u,by rw[i.block _ (aY.getElem?_eq_some_iff.1 j).1];exact j,I.kept (adD i) (by cases P:u.ownBlock with|none=>exact .inl rfl|some g=>exact .inr (by simp)),J⟩
 exact h.bl.imp (gen _) (gen _)
theorem KeyS.start {B:Nat}{v:Val}{l:am UInt8}{w wr:aE}(hB:B<=wr.heap.size)(I:bR tB t8 B B (aQ l) wr)(g:Below B w wr):KeyS B wr.heap.size v l w (wr.alloc (.cells #[.int .i64 v.k,.int .i64 v.n,.string v.s] 28)):=by
 have i:=heap_alloc_new wr (.cells #[.int .i64 v.k,.int .i64 v.n,.string v.s] 28);refine⟨i,?_,g.alloc hB _,λe=>?_⟩
 ·have gen: ∀p,bS tB t8 B B p (aQ l) wr ->bS tB t8 B B p (aQ l) (wr.alloc (.cells #[.int .i64 v.k,.int .i64 v.n,.string v.s] 28)):=by
   rintro p ⟨i,u,j,o,r⟩;exact⟨i,u,by rw[heap_alloc_old wr _ (h:=(aY.getElem?_eq_some_iff.1 j).1)];exact j,o.alloc _,r⟩
  exact I.imp (gen _) (gen _)
 have gen: ∀p,bS tB t8 B B p (aQ l) wr ->B<wr.heap.size:=by
  rintro p ⟨i,u,j,o,r⟩;exact(aY.getElem?_eq_some_iff.1 j).1
 have:B<wr.heap.size:=I.elim (gen _) (gen _);omega
theorem atW (w:aE)(A:Nat ->Prop)(hA:(∀b,A b ->b<w.heap.size)/\Glb A w)(row:am Val)(at_:am Int)(ra aa:aP dn)(rc ac:Nat)(hr:RD w A (.sl (rowD row)) (.slice ra row.length rc))(U:RD w A (.sl (zg at_)) (.slice aa at_.length ac))
 (an:zQ row.length at_) (a2:at_.length<=1000000) (hv: ∀v∈row,VS v):
 cq Tryz.prog 84 #[.slice ra row.length rc,.slice aa at_.length ac] w λe w'=>e= .returned (axz (uo row at_))/\Below w.heap.size w w':=by
 have hP: ∀W,Below w.heap.size w W ->Psi W:=λW h=>(JJ hA h).psi
 simp only[RD]at hr U;obtain⟨_,_,_,e1,n1,bc,bd,hr⟩:=hr;obtain⟨_,_,_,e2,n2,a7,a8,U⟩:=U;cases e1;cases e2;clear n1 n2
 go_enter Tryz.func84,Tryz.ntmps84
 go_wp2
 go_loopw [12] (λi wr=> ∃(k:Nat) (l:am UInt8),k<=at_.length /\i= .int .i64 k /\uo row (at_.take k)=some l /\l.length<=k*10000100 /\bR tB t8 w.heap.size w.heap.size (aQ l) wr /\Below w.heap.size w wr) (λi _=>at_.length -(intOf i).toNat)
 case atStart=>
  refine⟨0,[],bD _,rfl,rfl,bD _,?_,(Below.refl _ _).alloc (aM _) _⟩;exact Lib.fresh_isBuilder tB t8 w
 case round=>
  obtain⟨k,l,hk,rfl,I,bb,R,r⟩:=hrel;have hB:=r.size;by_cases ad:k<at_.length
  ·have a9:=an _ (aI ad);rcases U with U|⟨ab,ao,a3,rfl,aj,U⟩
   ·have:=aF cU U;rw[zB]at this;simp only[b9]at this;omega
   rcases hr with hr|⟨rb,ro,bf,rfl,P,hr⟩
   ·have:=aF cU hr;rw[zt]at this;simp only[b9]at this;omega
   have af:=abw at_ ao U k ad;have J:=aiv row (at_.take k) at_[k];have ar:=zR ad;rw[I,cZ]at J;generalize at_[k]=i at*;obtain⟨i,rfl⟩: ∃n:Nat,i=n:=⟨i.toNat,by omega⟩;have ae:i<row.length:=by omega
   obtain⟨_,ag,ah,ai⟩:=aiI row ro hr i ae;have o:=hv _ (aI ae);rw[show at0 row ((i:Int)).toNat=row[i]by simp[at0,List.getD,am.getElem?_eq_getElem ae]]at J;generalize row[i]=v at*;have kc: ∀(b j:Nat) (u:Value),A b ->w.cell? ⟨b,j,none⟩=some u ->wr.cell? ⟨b,j,none⟩=some u:=λb j u hb h=>(r.cell (p:=⟨b,j,none⟩) (hA.1 b hb)).trans h
   have ca:=kc _ _ _ aj af;have a4:=kc _ _ _ P ag;have a5:=kc _ _ _ P ah;have a6:=kc _ _ _ P ai;clear hv hr U ag ah ai af kc an;cases aq:(v.k==0)with
   |true=>
    rw[aq,aD]at J
    go_wp2
    go_ret2
    have hn:=alx row _ (at_.drop (k+1)) (ar▸J);rw[List.take_append_drop]at hn;rw[hn];exact⟨rfl,r.alloc hB _⟩
   |false=>
    rw[aq,aB]at J
    go_wp2
    have g:KeyS w.heap.size wr.heap.size v l w (wr.alloc (.cells #[.int .i64 v.k,.int .i64 v.n,.string v.s] 28)):=KeyS.start hB R r;generalize wr.alloc (.cells #[.int .i64 v.k,.int .i64 v.n,.string v.s] 28)=W at*;have cI: ∀(n:Int) (W:aE),(-9223372036854775808<=n /\n<=9223372036854775807) ->KeyS w.heap.size wr.heap.size v l w W ->cq Tryz.prog 143 #[.int .i64 n] W λe w'=>e= .returned (.string (aj8 n))/\KeyS w.heap.size wr.heap.size v l w w':=λn W hn g=>by
     refine(Any.strconv_Itoa Tryz.laysM171 n hn.1 hn.2 W (awv (hP W g.be))).mono ?_;rintro e w' ⟨rfl,k,os,rfl⟩;exact⟨rfl,g.next (ao9 W k os) g.be.size⟩
    have cQ: ∀(W:aE),KeyS w.heap.size wr.heap.size v l w W ->cq Tryz.prog 144 #[.string v.s] W λe w'=>e= .returned (.string (af4 v.s))/\KeyS w.heap.size wr.heap.size v l w w':=λW g=>by
     have hp:=hP W g.be;refine(Any.strconv_Quote Tryz.lays177 (by kernel_rfl) de v.s W (by have:=o.2.2;omega) hp.2.1 hp.2.2.1).mono ?_;rintro e w' ⟨rfl,hb⟩;exact⟨rfl,g.next hb g.be.size⟩
    have ba:=arO o;have cW: ∀(s:ByteArray) (W:aE),s=aey v ->KeyS w.heap.size wr.heap.size v l w W ->cq Tryz.prog 142 #[.pointer (some ⟨w.heap.size,0,none⟩),.string s] W λe w'=>e= .returned (.tuple #[.int .i64 s.size,.nilIface])/\bR tB t8 w.heap.size w.heap.size (aQ (l++aex v)) w' /\Below w.heap.size w w' /\avx wr.heap.size v w':=λs W hs g=>by
     subst hs;refine(aq9 w.heap.size w.heap.size _ (aey v) W g.bl (by rw[Lib.byteCells_length];omega) g.be.size).mono ?_;rintro e w' ⟨rfl,⟨az,hb⟩,a1⟩;refine⟨rfl,.inr ?_,g.be.trans hb,JC ((a1 _ _ _ _ g.ne g.c (by decide)).trans g.c)⟩;have e1:aQ l++c9 (aey v)=aQ (l++aex v):=by simp[aQ,c9,aex]
     rw[<- e1];exact az
    have z1:=VV o.1.1 o.1.2;have z2:=VV o.2.1.1 o.2.1.2;have z3:=adP v.s;have z4:=o.2.2;have g1: ¬9223372036854775807<(aj8 v.k).size+1:=by omega
    have g2: ¬9223372036854775807<(aj8 v.k).size+1+(aj8 v.n).size:=by omega
    have g3: ¬9223372036854775807<(aj8 v.k).size+1+(aj8 v.n).size+1:=by omega
    have g4: ¬9223372036854775807<(aj8 v.k).size+1+(aj8 v.n).size+1+(af4 v.s).size:=by omega
    have g5: ¬9223372036854775807<(aj8 v.k).size+1+(aj8 v.n).size+1+(af4 v.s).size+1:=by omega
    have b1:=o.1;have b2:=o.2.1;clear o hP hA R I;have ax:KeyS w.heap.size wr.heap.size v l w W.drew:=g.next ⟨rfl,rfl,rfl,aM _,λ_ _=>rfl⟩ g.be.size;have d0:=(JC g.c).1;have d1:=(JC g.c).2.1;have d2:=(JC g.c).2.2
    go_region_held3 (λW=>W.cell? ⟨wr.heap.size,0,none⟩=some (.int .i64 v.k)/\W.cell? ⟨wr.heap.size,1,none⟩=some (.int .i64 v.n)/\W.cell? ⟨wr.heap.size,2,none⟩=some (.string v.s))
     (first
      |exact aw
      |exact JC av.c
      |exact JC au.c
      |exact JC ax.c
      |exact JC g.c)
     (first
      |(go_at_call 142;refine Calls.mono (cW _ _ rfl (by assumption)) ?_;rintro e w4 ⟨rfl,al,ak,aw⟩)
      |(go_at_call 144;refine Calls.mono (cQ _ (by assumption)) ?_;rintro e w3 ⟨rfl,av⟩)
      |(go_at_call 143;refine Calls.mono (cI _ _ (by assumption) (by assumption)) ?_;rintro e w2 ⟨rfl,au⟩))
    all_goals go_wp2
    all_goals go_roundw
    all_goals first
     |(refine⟨k+1,l++aex v,ad,by go_num,by rw[ar];exact J,?_,al,ak⟩;rw[aA,show(aex v).length=(aey v).size from rfl];omega)
     |(simp[intOf];omega)
  have a0:k=at_.length:=by omega
  subst a0;rw[aL]at I
  go_wp2_with (go_at_call 145;refine(apb w.heap.size w.heap.size l _ R hB).mono ?_;rintro e w1 ⟨rfl,ay⟩)
  go_ret2
  rw[I];exact⟨rfl,r.trans ay⟩
def axy:aP (am UInt8) ->Res
 |none=>⟨.tup [.c (str ⟨#[]⟩),.c (bool false)],[]⟩
 |some l=>⟨.tup [.c (str ⟨l.toArray⟩),.c (bool true)],[]⟩
theorem ada (row:am Val)(at_:am Int)(o:zQ row.length at_)(j:at_.length<=1000000)(hv: ∀v∈row,VS v):Sat Pg Qk [yt row,.c (.d (.sl (zg at_)))] (λr=>r=axy (uo row at_)):=by
 refine⟨by kernel_rfl,λw A vals hA g=>?_⟩
 match vals,g with
 | [],g=>exact g.elim
 | [_],g=>exact g.2.elim
 |_::_::_::_,g=>exact g.2.2.elim
 | [rv,I],g=>
 have J:RD w A (.sl (rowD row)) rv:=g.1;have P:RD w A (.sl (zg at_)) I:=g.2.1;obtain⟨ra,rn,rc,e1,R,_⟩:=(by simpa only[RD]using J: ∃a n c,rv= .slice a n c /\n=(rowD row).length /\_);obtain⟨aa,an,ac,e2,U,_⟩:=(by simpa only[RD]using P: ∃a n c,I= .slice a n c /\n=(zg at_).length /\_);subst e1 e2;rw[zt]at R;rw[zB]at U;subst R U;refine(atW w A hA row at_ ra aa rc ac J P o j hv).mono ?_;rintro e w' ⟨rfl,hb⟩;have hR:gf ⟨w,A,λ_=>False,λ_=>none⟩ w' (axy (uo row at_)) (axz (uo row at_)):=by
  have gen: ∀(x y:Value),x.oneCell'=true ->y.oneCell'=true ->gf ⟨w,A,λ_=>False,λ_=>none⟩ w' ⟨.tup [.c (.d (.lit x)),.c (.d (.lit y))],[]⟩ (.tuple #[x,y]):=λx y hx hy=>by
   refine⟨aM _,λ_=>⟨none,0,.nilFunc,[]⟩,⟨[x,y],rfl,?_,?_,trivial⟩,?_,?_,?_,?_,?_⟩
   ·simp only[WR,CR,RD];exact⟨trivial,hx⟩
   ·simp only[WR,CR,RD];exact⟨trivial,hy⟩
   ·intro p y i;cases i
   ·intro p q y z b i;cases i
   ·intro p y b i;cases i
   ·intro p y i;cases i
   intro p y i;cases i
  cases uo row at_ with
  |none=>exact gen _ _ rfl rfl
  |some l=>exact gen _ _ rfl rfl
 exact⟨_,_,rfl,rfl,hR,adE hb⟩
end
section
open Go Go.AM
attribute [local irreducible] Sat zA zY zo
def erS (d:am Nmd)(O:am D):aP (Nat×Tbl) ->S
 |none=>⟨[(0,.w (.c (.d (.sl (zu d))))),(4,cV (.ptr 4 0)),(7,cV (.ptr 7 0)),(20,.w (.c (.d (.sl (qD O))))),(21,zl (qD O).length),(22,zl 0)],[(4,.box [.nil,.nil]),(7,.box [.nil,.nil])]⟩
 |some (i,t)=>⟨[(0,.w (.c (.d (.sl (zu d))))),(4,cV (.ptr 4 0)),(7,cV (.ptr 7 0)),(20,.w (.c (.d (.sl (qD O))))),(21,zl (qD O).length),(22,zl ((i+1:Nat):Int))],[(4,.box [.nil,.nil]),(7,.box [.d (.sl (zm t.cols)),.d (.sl (zf t.rows))])]⟩
def erR (d:am Nmd)(l:am Stp)(K:Nat ->Tbl ->Prop)(y:Int×Tbl):aP (Nat×Tbl) ->Prop
 |none=>True
 |some (i,t)=>i<=l.length /\K i t /\y=runT d t (l.drop i)
theorem J5 (d:am Nmd)(P:Pln)(aa:Sat Pg um [.c (.d (.sl (zu d))),.agg P.cs] (λr=>r=rI 0))(g:am (Int×Stp))(hn:g.length<=100000)(sc:D)(I:Sat Pg jQ [.agg P.cs] (λr=>r=rC (.d (.sl (qD (sc::g.map wD))))))
 (X:Tbl) (ai:Sat Pg xH [.c (.d (.sl (zu d))),Tbl.w ⟨[],[]⟩,.c (.d sc)] (λr=>r=qE X 0)) (K:Nat ->Tbl ->Prop) (h0:K 0 X)
 (hO: ∀i (h:i<g.length) t,K i t ->Sat Pg xH [.c (.d (.sl (zu d))),t.w,.c (.d (wD g[i]))] (λr=>r=wK (nStepT d t g[i].2)))
 (hK: ∀i (h:i<g.length) t,K i t ->(nStepT d t g[i].2).1=0 ->K (i+1) (nStepT d t g[i].2).2) (y:Int×Tbl) (hy:y=runT d X (g.map Prod.snd)):
 Sat Pg qR [.c (.d (.sl (zu d))),.agg P.cs] (λr=>r=wK y):=by
 refine zD ?_;obtain⟨l,hl⟩: ∃l,l=g.map Prod.snd:=⟨_,rfl⟩;have ar:l.length=g.length:=by rw[hl,cG]
 have ah: ∀i (h:i<g.length),l[i]'(by omega)=g[i].2:=λi h=>by subst hl;simp
 rw[<- hl]at hy;obtain⟨O,p⟩: ∃O,O=sc::g.map wD:=⟨_,rfl⟩;have ak:O.length=g.length+1:=by rw[p];simp
 have af:(qD O)[((0:Int)).toNat]? =some [sc]:=by rw[p];rfl
 have ag: ∀i (h:i<g.length),(qD O)[(((i+1:Nat):Int)).toNat]? =some [wD g[i]]:=λi h=>by
  rw[UW (show i+1<O.length by omega)];subst p;simp
 rw[<- p]at I;clear p hl;obtain⟨op,tb,col,lo,hi,⟨an,⟨eo,nm,⟨vk,vn,vs⟩,aj⟩,ab,al,ad,ac,n,ao⟩,ks⟩:=P;obtain⟨R,hR⟩: ∃R,R=erR d l K y:=⟨_,rfl⟩;refine vY.s T8 ?_;refine aC aa ?_;refine aC I ?_;refine yq (P:=Pg) (f:=T8.f) (body:=(vY.l 0)) (erS d O) (λz=>match z with|none=>g.length+5|some (i,_)=>g.length - i) R ⟨none,by rw[hR];trivial,ze ?_⟩ ?_
 ·exact rfl
 clear aa I;clear op tb col lo hi an eo nm vk vn vs aj ab al ad ac n ao ks;have o:((qD O).length:Int)=(g.length:Int)+1:=by rw[gW,ak];omega
 rintro(_|⟨i,t⟩) h
 ·show mwpR Pg T8.f (vY.l 0) _ (erS d O none);unfold erS;obtain⟨xc,xr⟩:=X;(conv=>whnf);rw[o];refine zw (λJ=>?_) (λJ=>?_)
  ·(conv=>whnf);refine⟨by omega,_,af,rfl,?_⟩;refine aC ai ?_;refine⟨some (0,⟨xc,xr⟩),⟨by rw[hR];exact⟨by omega,h0,hy⟩,by show g.length - 0<g.length+5;omega⟩,ze ?_⟩;(conv=>whnf);rw[<- o];rfl
  have:=aG J;omega
 rw[hR]at h;obtain⟨hi,ae,j⟩:i<=l.length /\K i t /\y=runT d t (l.drop i):=h;show mwpR Pg T8.f (vY.l 0) _ (erS d O (some (i,t)));unfold erS;obtain⟨tc,tr⟩:=t;(conv=>whnf);rw[o];refine zw (λJ=>?_) (λJ=>?_)
 ·have U:i<g.length:=by
   have J:decide (((i+1:Nat):Int)<(g.length:Int)+1)=true:=J;have:=aN J;omega
  have hg:=ag i U;have ho:=hO i U _ ae;have hk:=hK i U _ ae;have wi:aV.wrap (((i+1:Nat):Int)+1)=((i+1+1:Nat):Int):=by rw[yk (by omega) (by omega)];omega
  rw[zq (show i<l.length by omega),ah i U]at j;simp only[runT]at j;generalize g[i]=z at*;generalize wD z=zd at*;generalize nStepT d ⟨tc,tr⟩ z.2=x at*;obtain⟨x1,⟨x2,x3⟩⟩:=x;clear hO hK ag af ai ah;(conv=>whnf);refine⟨by omega,_,hg,rfl,?_⟩;refine aC ho ?_;refine zw (b:=x1 !=0) (λh4=>?_) (λh4=>?_)
  ·simp only[h4,aD]at j;subst j;exact⟨rfl,rfl⟩
  simp only[h4,aB]at j;(conv=>whnf);refine⟨some (i+1,⟨x2,x3⟩),⟨by rw[hR];exact⟨by omega,hk (by simpa using h4),j⟩,by show g.length -(i+1)<g.length - i;omega⟩,ze ?_⟩;(conv=>whnf);rw[wi,<- o];rfl
 have aq:g.length<=i:=by
  have J:decide (((i+1:Nat):Int)<(g.length:Int)+1)=false:=J;have:=aG J;omega
 rw[bB (by omega)]at j;have j:y=(0,⟨tc,tr⟩):=j;subst j;exact⟨rfl,rfl⟩
def rdS (d:am Nmd)(p:Pln):S:=⟨[(0,.w (.c (.d (.sl (zu d))))),(3,cV (.ptr 3 0))],[(3,.box p.cs)]⟩
theorem aeT (d:am Nmd)(P:Pln)(I:Sat Pg um [.c (.d (.sl (zu d))),.agg P.cs] (λr=>r=rI 0))(B:Pln)(m:Nat)(hc:Js B P m)(X:Tbl)(hX:Sat Pg xU [.agg B.cs,.c (.d (.sl (zu d)))] (λr=>r=⟨.w X.w,[]⟩)):
 Sat Pg adI [.c (.d (.sl (zu d))),.agg P.cs] (λr=>r=rII (X.rows.length,0)):=by
 obtain⟨R,hR⟩: ∃R:Pln×Nat ->Prop,∀p l,R (p,l)↔Js B p l:=⟨λz=>Js B z.1 z.2,λ_ _=>Iff.rfl⟩
 replace hc:R (P,m):=(hR _ _).2 hc
 have g: ∀op tb col lo hi st ks m,R (.mk op tb col lo hi st ks,m) ->(∃k m',ks=[k]/\m'<m /\op≠1 /\R (k,m'))\/(ks=[]/\op=1 /\B.cs=(Pln.mk op tb col lo hi st ks).cs):=λop tb col lo hi st ks m h=>by
  rcases aem ((hR _ _).1 h)with⟨k,m',h1,h2,h3,h4⟩|⟨h1,h2,h3⟩
  ·exact .inl ⟨k,m',h1,h2,h3,(hR _ _).2 h4⟩
  exact .inr ⟨h1,h2,by rw[h3]⟩
 clear hR;rw[<- zx];obtain⟨xc,xr⟩:=X;obtain⟨op,tb,col,lo,hi,⟨ac,⟨eo,nm,⟨vk,vn,vs⟩,aa⟩,i,ab,o,j,n,ad⟩,ks⟩:=P;refine Ko.s T8 ?_;refine aC I ?_;refine yq (P:=Pg) (f:=T8.f) (body:=(Ko.l 0)) (λz:Pln×Nat=>rdS d z.1) (λz=>z.2) R ⟨(_,m),hc,ze ?_⟩ ?_
 ·exact rfl
 clear hc I;clear op tb col lo hi ac eo nm vk vn vs aa i ab o j n ad ks m;rintro⟨p,m⟩ h;show mwpR Pg T8.f (Ko.l 0) _ (rdS d p);unfold rdS;obtain⟨op,tb,col,lo,hi,⟨ac,⟨eo,nm,⟨vk,vn,vs⟩,aa⟩,i,ab,o,j,n,ad⟩,ks⟩:=p;rcases g _ _ _ _ _ _ _ _ h with⟨k,m',rfl,hm,U,h2⟩|⟨rfl,rfl,hB⟩
 ·obtain⟨kd,J⟩: ∃kd,kd=k.ds:=⟨_,rfl⟩;have hK:plnsD [k]=[kd]:=by rw[J];rfl
  have U:(op !=1)=true:=by simpa using U
  clear h g;rw[uW,hK];(conv=>whnf);rw[U];(conv=>whnf);obtain⟨av,aw,ah,ar,ao,⟨ak,⟨an,au,⟨ax,ay,az⟩,ai⟩,ae,aj,ag,af,n1,al⟩,aq⟩:=k;refine⟨by omega,_,rfl,by rw[J];rfl,?_⟩;subst J;(conv=>whnf);refine⟨(_,m'),⟨h2,hm⟩,ze ?_⟩;exact rfl
 clear h g;rw[hB]at hX;refine aC hX ?_;rfl
theorem aeU (d:am Nmd)(P:Pln)(e:Int)(p:(e !=0)=true)(g:Sat Pg um [.c (.d (.sl (zu d))),.agg P.cs] (λr=>r=rI e)):Sat Pg qR [.c (.d (.sl (zu d))),.agg P.cs] (λr=>r=wK (e,⟨[],[]⟩)):=by
 refine zD ?_;obtain⟨op,tb,col,lo,hi,⟨J,⟨U,nm,⟨vk,vn,vs⟩,o⟩,i,I,l,j,n,R⟩,ks⟩:=P;refine vY.s T8 ?_;refine aC g ?_;rw[p];exact⟨rfl,rfl⟩
end
section
open Go Go.AM
attribute [local irreducible] Sat zA zY
theorem ua (cols:am Col)(rows:D)(g:am ByteArray)(hn:g.length<=1000000):Sat Pg ajs [.agg [.d (.sl (zm cols)),.d rows],.c (.d (.sl (zp g)))] (λr=>r=rC (.d (.sl (zg (zh cols g))))):=by
 refine zD ?_;refine Va.s T8 ?_;refine yx (P:=Pg) (f:=T8.f) (body:=(Va.l 0)) g.length (λi=>adf cols rows g i (zh cols (g.take i))) (λ_=>True) ⟨trivial,⟨_,zW 5 19 1 (by omega) (by omega) rfl,?_⟩⟩ ?_
 ·exact rfl
 intro i hi _;have aa:(zh cols (g.take i)).length=i:=by simp[zh];omega
 have o: ∀h:i<g.length,zh cols (g.take (i+1))=zh cols (g.take i)++[zj cols g[i]]:=λh=>by
  unfold zh;rw[zR h,bI];rfl
 have I:g.length<=i ->zh cols g=zh cols (g.take i):=λh=>by rw[aT h]
 show mwpR Pg T8.f (Va.l 0) _ (adf cols rows g i (zh cols (g.take i)));generalize zh cols (g.take i)=T at*;have J:(zg T).take T.length=zg T:=by rw[<- zB,aL]
 unfold adf;refine zi (λR=>?_) (λR=>?_)
 ·have j:i<g.length:=by have:=aN R;rw[zF]at this;omega
  have hg:=wL j;have o:=o j;have p:=xz cols (.d rows) g[i] ⟨rows,rfl⟩;generalize g[i]=x at*;generalize zj cols x=c at*;(conv=>whnf);refine⟨by omega,_,hg,rfl,?_⟩;refine aC p ?_;refine⟨by simp,by unfold ym;simp;omega,by simp;omega,?_⟩;(conv=>whnf);refine⟨j,trivial,ze ?_⟩;(conv=>whnf);rw[zC j (by omega),J,o,<- vu,aA];rfl
 have U:g.length<=i:=by have:=aG R;rw[zF]at this;omega
 rw[I U];(conv=>whnf);refine⟨rfl,?_⟩;show Res.mk (.w (.c (.d (.sl ((zg T).take T.length))))) []=_;rw[J];rfl
theorem acg (row:am Val)(at_:am Int)(hn:at_.length<=1000000)(U:zQ row.length at_):Sat Pg anp [yt row,.c (.d (.sl (zg at_)))] (λr=>r=rC (.d (.sl (rowD (zn row at_))))):=by
 refine zD ?_;refine Kp.s T8 ?_;refine yx (P:=Pg) (f:=T8.f) (body:=(Kp.l 0)) at_.length (λi=>k7 row at_ i (zn row (at_.take i))) (λ_=>True) ⟨trivial,⟨_,zW 5 20 3 (by omega) (by omega) rfl,?_⟩⟩ ?_
 ·exact rfl
 intro i hi _;have aa:(zn row (at_.take i)).length=i:=by simp[zn];omega
 have j: ∀h:i<at_.length,zn row (at_.take (i+1))=zn row (at_.take i)++[at0 row (at_[i]).toNat]:=λh=>by
  unfold zn;rw[zR h,bI];rfl
 have o:at_.length<=i ->zn row at_=zn row (at_.take i):=λh=>by rw[aT h]
 show mwpR Pg T8.f (Kp.l 0) _ (k7 row at_ i (zn row (at_.take i)));generalize zn row (at_.take i)=T at*;have p:(rowD T).take T.length=rowD T:=by rw[<- zt,aL]
 unfold k7;refine zi (λI=>?_) (λI=>?_)
 ·have g:i<at_.length:=by have:=aN I;rw[zB]at this;omega
  have hg:=y5 g;have j:=j g;have hk:=U _ (aI g);generalize at_[i]=k at*;have R:(rowD row)[k.toNat]? =some (at0 row k.toNat).ds:=by
   have h6:k.toNat<row.length:=by omega
   rw[show at0 row k.toNat=row[k.toNat]by simp[at0,List.getD,am.getElem?_eq_getElem h6]];simp[rowD,am.getElem?_eq_getElem h6]
  generalize at0 row k.toNat=v at*;obtain⟨v1,v2,v3⟩:=v;(conv=>whnf);refine⟨by omega,_,hg,rfl,?_⟩;(conv=>whnf);(conv=>whnf);refine⟨hk.1,_,R,rfl,?_⟩;(conv=>whnf);refine⟨by simp,by unfold ym;simp;omega,by simp;omega,?_⟩;(conv=>whnf);refine⟨g,trivial,ze ?_⟩;(conv=>whnf);rw[zC g (by omega),p,j,<- vT,aA];rfl
 have J:at_.length<=i:=by have:=aG I;rw[zB]at this;omega
 rw[o J];(conv=>whnf);refine⟨rfl,?_⟩;show Res.mk (.w (.c (.d (.sl ((rowD T).take T.length))))) []=_;rw[p];rfl
theorem ach (cols:am Col)(rows:D)(g:am ByteArray)(aa:cols.length<=1000000):Sat Pg Kw [.agg [.d (.sl (zm cols)),.d rows],.c (.d (.sl (zp g)))] (λr=>r=rC (.d (.sl (zg (oth g 0 cols))))):=by
 refine zD ?_;refine Kq.s T8 ?_;rw[zV];refine yq (P:=Pg) (f:=T8.f) (body:=(Kq.l 0)) (λx:Nat×am Int=>trS cols g x.1 x.2) (λx=>cols.length - x.1) (λx=>x.1<=cols.length /\x.2.length<=x.1 /\oth g 0 cols=x.2++oth g x.1 (cols.drop x.1)) ⟨(0,[]),⟨bD _,aM _,rfl⟩,⟨_,zW 5 24 1 (by omega) (by omega) rfl,?_⟩⟩ ?_
 ·exact rfl
 rintro⟨i,A⟩ hx;obtain⟨hi,hA,j⟩:i<=cols.length /\A.length<=i /\oth g 0 cols=A++oth g i (cols.drop i):=hx;show mwpR Pg T8.f (Kq.l 0) _ (trS cols g i A);have I:(zg A).take A.length=zg A:=by rw[<- zB,aL]
 unfold trS;refine zi (λJ=>?_) (λJ=>?_)
 ·have o:i<cols.length:=by have:=aN J;omega
  rw[zq o]at j;simp only[oth]at j;have hg:=xC o;have wi:=zC o (by omega);have p:=yi g cols[i].name;generalize cols[i]=c at*;obtain⟨c1,c2⟩:=c;simp only at j p;generalize hasB g c1=b at*;(conv=>whnf);refine⟨by omega,_,hg,rfl,?_⟩;refine aC p ?_;refine zw (b:=!b) (λR=>?_) (λR=>?_)
  ·rw[R,aD]at j;(conv=>whnf);refine⟨by simp,by unfold ym;simp;omega,by simp;omega,?_⟩;(conv=>whnf);refine⟨(i+1,A++[(i:Int)]),⟨⟨o,by simp;omega,?_⟩,by show cols.length -(i+1)<cols.length - i;omega⟩,ze ?_⟩
   ·rw[j];simp
   (conv=>whnf);rw[wi,I];show _=trS cols g (i+1) (A++[(i:Int)]);unfold trS;rw[aA,<- vu];rfl
  rw[R,aB,cH]at j;(conv=>whnf);refine⟨(i+1,A),⟨⟨o,by show A.length<=i+1;omega,j⟩,by show cols.length -(i+1)<cols.length - i;omega⟩,ze ?_⟩;(conv=>whnf);rw[wi];rfl
 have U:cols.length<=i:=by have:=aG J;omega
 rw[bB U]at j;have j:oth g 0 cols=A:=by rw[j];simp[oth]
 rw[j];(conv=>whnf);refine⟨rfl,?_⟩;show Res.mk (.w (.c (.d (.sl ((zg A).take A.length))))) []=_;rw[I];rfl
theorem aiP (row:am Val)(p q:Int)(o:0<=p /\p<row.length)(I:0<=q /\q<row.length):Sat Pg anq [yt row,.c (.d (.sl (zg [p,q])))] (λr=>r=QA (at0 row p.toNat) (at0 row q.toNat)):=by
 have g: ∀k:Int,0<=k /\k<row.length ->(rowD row)[k.toNat]? =some (at0 row k.toNat).ds:=λk hk=>by
  have l:k.toNat<row.length:=by omega
  rw[show at0 row k.toNat=row[k.toNat]by simp[at0,List.getD,am.getElem?_eq_getElem l]];simp[rowD,am.getElem?_eq_getElem l]
 have i:=g p o;have j:=g q I;generalize at0 row p.toNat=a at*;generalize at0 row q.toNat=b at*;obtain⟨J,a2,a3⟩:=a;obtain⟨P,R,U⟩:=b;refine am7.s T8 ?_
 repeat' (first
  |(refine⟨by omega,[.lit (.int .i64 p)],rfl,rfl,?_⟩;conv=>whnf)
  |(refine⟨by omega,[.lit (.int .i64 q)],rfl,rfl,?_⟩;conv=>whnf)
  |(refine⟨o.1,_,i,rfl,?_⟩;conv=>whnf)
  |(refine⟨I.1,_,j,rfl,?_⟩;conv=>whnf)
  |(refine bY ?_ ?_<;>conv=>whnf))
 all_goals refine zw (λh=>?_) (λh=>?_)
 all_goals conv=>whnf
 all_goals repeat' (first
  |(refine bY ?_ ?_<;>conv=>whnf))
 all_goals have h:(J==2&&P==2)=_:=h
 all_goals simp only[QA,xK,h,bQ,cR]
 all_goals rfl
def XS (a b:Int):Bool:=decide (a>=0)&&decide (a<b)&&decide (b<=1000000000000)
theorem J4 (a b:Int):Sat Pg ajv [.agg [int a,int b]] (λr=>r=rB (XS a b)):=by
 refine ajg.s T8 ?_;rfl
end
section
open Go Go.AM
attribute [local irreducible] Sat zA zY zo
structure Spa where
 a:Int
 b:Int
def Spa.ds (s:Spa):am D:=[.lit (.int .i64 s.a),.lit (.int .i64 s.b)]
def qW (l:am Spa):am (am D):=l.map Spa.ds
theorem Wq (l:am Spa):(qW l).length=l.length:=by simp[qW]
theorem amJ (a b:am Spa):qW (a++b)=qW a++qW b:=by simp[qW]
def agE (p q:Nat)(row:am Val):aP Spa:=
 bif xK (at0 row p) (at0 row q)then(bif XS (at0 row p).n (at0 row q).n then some ⟨(at0 row p).n,(at0 row q).n⟩else none)else some ⟨0,0⟩
def q8 (p q:Nat):am (am Val) ->aP (am Spa)
 | []=>some []
 |r::g=>match agE p q r with
  |some s=>(q8 p q g).map (s:: ·)
  |none=>none
def rSO:aP (am Spa) ->Res
 |some l=>⟨.tup [.c (.d (.sl (qW l))),.c (bool true)],[]⟩
 |none=>⟨.tup [.c (.d (.sl [])),.c (bool false)],[]⟩
def spS (p q:Int)(rows:am (am Val))(i:Nat)(g:am Spa):S:=⟨[(4,.w (.c (.d (.sl (zg [p,q]))))),(5,cV (.own 38 2 g.length)),(14,.w (.c (.d (.sl (zf rows))))),(15,zl rows.length),(16,zl i)],[(38,.arr 2 (qW g) false)]⟩
theorem anP (cols:am Col)(rows:am (am Val))(hl:rows.length<=20000)(p q:Int)(hp:zj cols sFrom=p)(hq:zj cols sTo=q)(ab: ∀r∈rows,(0<=p /\p<r.length)/\(0<=q /\q<r.length)):
 Sat Pg Yh [Tbl.w ⟨cols,rows⟩] (λr=>r=rSO (q8 p.toNat q.toNat rows)):=by
 refine zD ?_;suffices h: ∀y,q8 p.toNat q.toNat rows=y ->Sat Pg Yh [Tbl.w ⟨cols,rows⟩] (DQ (rSO y))from h _ rfl
 intro y hy;have I:=ua cols (.sl (zf rows)) [sFrom,sTo] (by decide);rw[show zh cols [sFrom,sTo]=[p,q]by simp[zh,hp,hq]]at I;clear hp hq;unfold sFrom sTo at I;refine QW.s T8 ?_;refine aC I ?_;rw[zx];refine yq (P:=Pg) (f:=T8.f) (body:=(QW.l 0)) (λz:Nat×am Spa=>spS p q rows z.1 z.2) (λz=>rows.length - z.1) (λz=>z.1<=rows.length /\z.2.length=z.1 /\(q8 p.toNat q.toNat (rows.drop z.1)).map (z.2++ ·)=y) ⟨(0,[]),⟨bD _,rfl,by show(q8 p.toNat q.toNat rows).map ([]++ ·)=y;rw[hy];cases y<;>rfl⟩,⟨_,zW 5 38 2 (by omega) (by omega) rfl,?_⟩⟩ ?_
 ·exact rfl
 rintro⟨i,g⟩ ⟨hi,U,j⟩;have hi:i<=rows.length:=hi;have U:g.length=i:=U;have j:(q8 p.toNat q.toNat (rows.drop i)).map (g++ ·)=y:=j;have R:(qW g).take g.length=qW g:=by rw[<- Wq,aL]
 clear hy;show mwpR Pg T8.f (QW.l 0) _ (spS p q rows i g);unfold spS;refine zi (λh1=>?_) (λh1=>?_)
 ·have o:i<rows.length:=by have:=aN h1;omega
  have hg:=yJ o;have wi:=zC o (by omega);obtain⟨hp,hq⟩:=ab _ (aI o);have J:=aiP rows[i] p q hp hq;rw[zq o]at j;simp only[q8,agE]at j;generalize rows[i]=x at*;unfold QA at J;have hv:=J4 (at0 x p.toNat).n (at0 x q.toNat).n;generalize xK (at0 x p.toNat) (at0 x q.toNat)=b at*;generalize at0 x p.toNat=u at*;generalize at0 x q.toNat=v at*;obtain⟨u1,u2,u3⟩:=u;obtain⟨v1,v2,v3⟩:=v;simp only at J hv j;generalize XS u2 v2=b2 at*;(conv=>whnf);refine⟨by omega,_,hg,rfl,?_⟩;refine aC J ?_;cases b with
  |false=>
   simp only[aB]at j;(conv=>whnf);refine⟨by simp,by unfold ym;simp;omega,by simp;omega,?_⟩;(conv=>whnf);refine⟨(i+1,g++[(⟨0,0⟩:Spa)]),⟨⟨by show i+1<=rows.length;omega,by show(g++[(⟨0,0⟩:Spa)]).length=i+1;simp;omega,?_⟩,by show rows.length -(i+1)<rows.length - i;omega⟩,ze ?_⟩
   ·show(q8 p.toNat q.toNat (rows.drop (i+1))).map ((g++[(⟨0,0⟩:Spa)])++ ·)=y;rw[<- j];cases q8 p.toNat q.toNat (rows.drop (i+1))with
    |none=>rfl
    |some l=>simp
   conv=>whnf
   dsimp only
   rw[wi,R,amJ,aA];rfl
  |true=>
   simp only[aD]at j;(conv=>whnf);refine Sat.cal (hv) ?_;cases b2 with
   |false=>
    simp only[aB]at j;have j:none=y:=j;subst j;exact⟨rfl,rfl⟩
   |true=>
    simp only[aD]at j;(conv=>whnf);refine⟨by simp,by unfold ym;simp;omega,by simp;omega,?_⟩;(conv=>whnf);refine⟨(i+1,g++[(⟨u2,v2⟩:Spa)]),⟨⟨by show i+1<=rows.length;omega,by show(g++[(⟨u2,v2⟩:Spa)]).length=i+1;simp;omega,?_⟩,by show rows.length -(i+1)<rows.length - i;omega⟩,ze ?_⟩
    ·show(q8 p.toNat q.toNat (rows.drop (i+1))).map ((g++[(⟨u2,v2⟩:Spa)])++ ·)=y;rw[<- j];cases q8 p.toNat q.toNat (rows.drop (i+1))with
     |none=>rfl
     |some l=>simp
    conv=>whnf
    dsimp only
    rw[wi,R,amJ,aA];rfl
 have aa:rows.length<=i:=by have:=aG h1;omega
 rw[bB aa]at j;have j:some (g++[])=y:=j;rw[bA]at j;subst j;(conv=>whnf);refine⟨rfl,?_⟩;show Res.mk (.tup [.c (.d (.sl ((qW g).take g.length))),.c (bool true)]) []=_;rw[R];rfl
end
end Go.Proofs.YtkdijaiaplkliaaGreatDoor
