import Derived.Shelf.RegionOpenPlain
import Derived.Lib.JoinLaws
import Derived.Lib.AppendZerosOnto
import Derived.Lib.Overlaps
import Derived.Laws.Externs
import Derived.Laws.IdiomCopy
import Derived.Laws.NewBlocks
import Derived.Test.YtnlbmefhdiabcaaGreatCn10
set_option linter.unusedSimpArgs false
set_option linter.unusedVariables false
set_option maxRecDepth 100000
set_option maxHeartbeats 4000000
namespace Go.Proofs.YtnlbmefhdiabcaaGreat
open Go Go.AM
attribute [local irreducible] Sat zu zS
def qm (a b:Val):Bool:=a.k==2&&b.k==2&&decide (a.n<b.n)
def agX (a b:Val):Res:=⟨.tup [.agg [int a.n,int b.n],.c (bool (qm a b))],[]⟩
theorem aeU (row:List Val)(p q:Int)(hp:0<=p /\p<row.length)(hq:0<=q /\q<row.length):Sat Pg af2 [yf row,.c (.d (.sl (zw [p,q])))] (λr=>r=agX (at0 row p.toNat) (at0 row q.toNat)):=by
 have hgr: ∀k:Int,0<=k /\k<row.length ->(rowD row)[k.toNat]? =some (at0 row k.toNat).ds:=λk hk=>by
  have h6:k.toNat<row.length:=by omega
  rw[show at0 row k.toNat=row[k.toNat]by simp[at0,List.getD,List.getElem?_eq_getElem h6]];simp[rowD,List.getElem?_eq_getElem h6]
 have hgp:=hgr p hp;have hgq:=hgr q hq;generalize at0 row p.toNat=a at*;generalize at0 row q.toNat=b at*;obtain⟨a1,a2,a3⟩:=a;obtain⟨b1,b2,b3⟩:=b;refine zg T8 aa7 (by kernel_rfl) ?_
 conv=>whnf
 repeat' (first
  |(refine⟨by omega,[.lit (.int .i64 p)],rfl,rfl,?_⟩;conv=>whnf)
  |(refine⟨by omega,[.lit (.int .i64 q)],rfl,rfl,?_⟩;conv=>whnf)
  |(refine⟨hp.1,_,hgp,rfl,?_⟩;conv=>whnf)
  |(refine⟨hq.1,_,hgq,rfl,?_⟩;conv=>whnf)
  |(refine And.intro ?_ ?_<;>conv=>whnf))
 all_goals refine zd (λh=>?_) (λh=>?_)
 all_goals conv=>whnf
 all_goals repeat' (first
  |(refine And.intro ?_ ?_<;>conv=>whnf))
 all_goals have h:(a1==2&&b1==2)=_:=h
 all_goals simp only[agX,qm,h,Bool.true_and,Bool.false_and]
 all_goals rfl
def vu:ByteArray:=⟨#[98]⟩
def vU (op:Int)(on:List ByteArray)(tb:ByteArray):Stp:=⟨op,.mk 0 ⟨#[]⟩ ⟨0,0,⟨#[]⟩⟩ [],[],on,[],[],0,tb⟩
def UN (op:Int)(on:List ByteArray)(a:Tbl):Int×List Col:=bif zQ a !=0 then(zQ a,[])else yw [] a.cols (vU op on ⟨#[]⟩)
def Y8 (op:Int)(on:List ByteArray)(a b:Tbl):Int×List Col:=bif zQ a !=0 then(zQ a,[])else bif zQ b !=0 then(zQ b,[])else yw [⟨vu,b⟩] a.cols (vU op on vu)
theorem anm (op:Int)(on:List ByteArray)(tb:ByteArray)(h:on.length<=1000000):(vU op on tb).OK:=⟨Nat.zero_le _,h,Nat.zero_le _,Nat.zero_le _⟩
theorem aqG (op:Int)(on:List ByteArray)(a:Tbl)(hon:on.length<=1000000)(hac:a.cols.length<=1000000):Sat Pg WH [.c (int op),.c (.d (.sl (zp on))),.c (.d (.sl [a.ds]))] (λr=>r=qH (UN op on a)):=by
 have hk:=y8 a;have hT:=VJ [] a.cols (vU op on ⟨#[]⟩) (anm op on _ hon) hac (λt ht=>by cases ht);unfold UN;generalize zQ a=e at*;generalize yw [] a.cols (vU op on ⟨#[]⟩)=x at*;obtain⟨x1,x2⟩:=x;obtain⟨ac,ar⟩:=a;refine z0 ?_;refine zg T8 Xa (by kernel_rfl) ?_
 conv=>whnf
 refine qY (P:=Pg) (f:=T8.f) (body:=uV) 2 ?_
 conv=>whnf
 refine⟨by omega,_,rfl,rfl,?_⟩
 conv=>whnf
 refine Sat.cal (hk) ?_
 conv=>whnf
 refine zd (λh1=>?_) (λh1=>?_)
 ·rw[show(e !=0)=true from h1];(conv=>whnf);exact⟨rfl,rfl⟩
 ·rw[show(e !=0)=false from h1];(conv=>whnf);refine⟨by omega,_,rfl,rfl,?_⟩;(conv=>whnf);refine Sat.cal (hT) ?_;(conv=>whnf);exact⟨rfl,rfl⟩
theorem agL (op:Int)(on:List ByteArray)(a b:Tbl)(hon:on.length<=1000000)(hac:a.cols.length<=1000000)(hbc:b.cols.length<=1000000):Sat Pg WH [.c (int op),.c (.d (.sl (zp on))),.c (.d (.sl [a.ds,b.ds]))] (λr=>r=qH (Y8 op on a b)):=by
 have hk:=y8 a;have hk2:=y8 b;have hT:=VJ [⟨vu,b⟩] a.cols (vU op on vu) (anm op on _ hon) hac (λt ht=>by
  have h1:zY (vU op on vu).table [⟨vu,b⟩]=some b:=by
   show(bif zl vu vu then some b else none)=some b;rw[AM.beqS_self];rfl
  rw[h1]at ht;cases ht;exact hbc)
 unfold Y8;generalize zQ a=e at*;generalize zQ b=e2 at*;generalize yw [⟨vu,b⟩] a.cols (vU op on vu)=x at*;obtain⟨x1,x2⟩:=x;obtain⟨ac,ar⟩:=a;obtain⟨bc,br⟩:=b;refine z0 ?_;refine zg T8 Xa (by kernel_rfl) ?_
 conv=>whnf
 refine qY (P:=Pg) (f:=T8.f) (body:=uV) 3 ?_
 conv=>whnf
 refine⟨by omega,_,rfl,rfl,?_⟩
 conv=>whnf
 refine Sat.cal (hk) ?_
 conv=>whnf
 refine zd (λh1=>?_) (λh1=>?_)
 ·rw[show(e !=0)=true from h1];(conv=>whnf);exact⟨rfl,rfl⟩
 ·rw[show(e !=0)=false from h1];(conv=>whnf);refine⟨by decide,_,rfl,rfl,?_⟩;(conv=>whnf);refine Sat.cal (hk2) ?_;(conv=>whnf);refine zd (λh2=>?_) (λh2=>?_)
  ·rw[show(e2 !=0)=true from h2];(conv=>whnf);exact⟨rfl,rfl⟩
  ·rw[show(e2 !=0)=false from h2];(conv=>whnf)
   repeat' (first
    |(refine⟨by decide,[.sl (zi bc),.sl (zj br)],rfl,rfl,?_⟩;conv=>whnf)
    |(refine⟨by decide,[.sl (zi ac),.sl (zj ar)],rfl,rfl,?_⟩;conv=>whnf)
    |(refine And.intro ?_ ?_<;>conv=>whnf))
   all_goals refine Sat.mono hT ?_
   all_goals rintro _ rfl
   all_goals conv=>whnf
   all_goals exact⟨rfl,rfl⟩
end Go.Proofs.YtnlbmefhdiabcaaGreat
namespace Go.Proofs.YtnlbmefhdiabcaaGreat
open Go Go.AM
theorem akW {ι:Nat ->Gh}{pl:List (Nat×Pl)}{q:Nat}{cs cs2:List C}(h:aget pl q=some (.box cs))(b:Nat):Owns ι (yq q (.box cs2) pl) b↔Owns ι pl b:=by
 constructor
 ·rintro⟨p,x,h1,h2,h3⟩;rw[yi]at h1;split at h1
  ·rename_i e;subst e;exact⟨q,_,h,rfl,h3⟩
  ·exact⟨p,x,h1,h2,h3⟩
 ·rintro⟨p,x,h1,h2,h3⟩;by_cases e:q=p
  ·subst e;exact⟨q,.box cs2,by rw[yi,if_pos rfl],rfl,h3⟩
  ·exact⟨p,x,by rw[yi,if_neg e];exact h1,h2,h3⟩
theorem ash {F:Fr}{N:Nat}{ι:Nat ->Gh}{s:S}{a:Act}{w:World}(hr:Rel F N ι s a w){q:Nat}{cs cs2:List C}(h:aget s.pl q=some (.box cs))
 (hc: ∀vs,CRs ι w (F.ok ι s.pl w) cs vs ->CRs ι w (F.ok ι s.pl w) cs2 vs):Rel F N ι (s.withPl (yq q (.box cs2) s.pl)) a w:=by
 have hok:F.ok ι (yq q (.box cs2) s.pl) w=F.ok ι s.pl w:=by
  funext b;unfold Fr.ok;rw[propext (akW h b)]
 refine⟨hr.room,λk v hv=>?_,λp x hx=>?_,λp r x y b hx hy hpr hl hb=>?_,λb hb=>hr.mine b ((akW h b).1 hb),hr.defers,hr.grows,hr.foreign,hr.handed,hr.few,hr.hdom,λp x g hx hg=>?_⟩
 ·show∃x,a.tmps[k]? =some x /\VR ι w (F.ok ι (yq q (.box cs2) s.pl) w) v x;rw[hok];exact hr.slots k v hv
 ·show PR ι w (F.ok ι (yq q (.box cs2) s.pl) w) p x;rw[hok];have hx2:aget (yq q (.box cs2) s.pl) p=some x:=hx;clear hx;rw[yi]at hx2;split at hx2
  ·rename_i e;subst e;cases hx2;obtain⟨b,cur,h1,h2,h3⟩:=hr.places q _ h;exact⟨b,cur,h1,h2,hc _ h3⟩
  ·exact hr.places p x hx2
 ·have get: ∀{p:Nat}{x:Pl},aget (s.withPl (yq q (.box cs2) s.pl)).pl p=some x -> ∃x',aget s.pl p=some x' /\x'.live=x.live:=fun{p x} hx=>by
   have hx2:aget (yq q (.box cs2) s.pl) p=some x:=hx;clear hx;rw[yi]at hx2;split at hx2
   ·rename_i e;subst e;cases hx2;exact⟨_,h,rfl⟩
   ·exact⟨x,hx2,rfl⟩
  obtain⟨x',h1,h2⟩:=get hx;obtain⟨y',h3,_⟩:=get hy;exact hr.inj p r x' y' b h1 h3 hpr (h2.trans hl) hb
 ·have hx:aget (yq q (.box cs2) s.pl) p=some x:=hx;rw[yi]at hx;split at hx
  ·rename_i e;subst e;exact hr.hkeep q _ g h hg
  ·exact hr.hkeep p x g hx hg
theorem aou {ι:Nat ->Gh}{w:World}{ok:Nat ->Prop}{c2:C}(h2: ∀v,CR ι w ok .nil v ->CR ι w ok c2 v): ∀(cs:List C) (vs:List Value) (i:Nat),cs[i]? =some .nil ->CRs ι w ok cs vs ->CRs ι w ok (cs.set i c2) vs
 | [],_,i,h,_=>by cases i<;>cases h
 |c::r,[],_,_,h=>h.elim
 |c::r,v::vs,0,h,hc=>by
  have h:c= .nil:=by simpa using h
  subst h;exact⟨h2 v hc.1,hc.2⟩
 |c::r,v::vs,i+1,h,hc=>⟨hc.1,aou h2 r vs i (by simpa using h) hc.2⟩
def aoE (pl:List (Nat×Pl))(q i:Nat):Option C:=match aget pl q with
 |some (.box cs)=>cs[i]?
 |_=>none
def asy (pl:List (Nat×Pl))(q i:Nat)(c:C):List (Nat×Pl):=match aget pl q with
 |some (.box cs)=>yq q (.box (cs.set i c)) pl
 |_=>pl
def S.boxNil (s:S)(q i p sz:Nat):S:=(s.redo [p] [(p,.arr sz [] false)]).withPl (asy (s.redo [p] [(p,.arr sz [] false)]).pl q i (.own p sz 0))
theorem Kp {s:S}(q i p sz:Nat)(hpos:0<sz)(hp:p<100000)(h:aoE (s.redo [p] [(p,.arr sz [] false)]).pl q i=some .nil):QH s (S.boxNil s q i p sz):=by
 intro F N ι a w hr;have hh:F.h p=none:=by
  cases e:F.h p with
  |none=>rfl
  |some g=>have:=hr.hdom p g e;omega
 have hrel:=hr.noRow (d:=p) [p] (by simp[isin]) hpos hh;unfold S.boxNil;generalize s.redo [p] [(p,.arr sz [] false)]=t at*;unfold aoE at h;unfold asy;cases hq:aget t.pl q with
 |none=>rw[hq]at h;cases h
 |some x=>
  rw[hq]at h;cases x with
  |box cs=>
   refine⟨_,ash hrel hq λvs hc=>aou (λv hv=>?_) cs vs i h hc⟩;have hv:v= .slice none 0 0:=hv;exact .inl ⟨by rw[zH],rfl,hv⟩
  |arr a b c=>cases h
  |fbox a=>cases h
  |gone=>cases h
end Go.Proofs.YtnlbmefhdiabcaaGreat
namespace Go.Proofs.YtnlbmefhdiabcaaGreat
open Go Go.AM
attribute [local irreducible] Sat zu zS
def setN (r:List Val)(k:Int)(n:Int):List Val:=r.set k.toNat ⟨(at0 r k.toNat).k,n,(at0 r k.toNat).s⟩
theorem kl {R:List Val}{k:Int}(h:k.toNat<R.length):(rowD R)[k.toNat]? =some (at0 R k.toNat).ds:=by
 rw[show at0 R k.toNat=R[k.toNat]by simp[at0,List.getD,List.getElem?_eq_getElem h]];simp[rowD,List.getElem?_eq_getElem h]
theorem ai5 (R:List Val)(k n:Int):(rowD R).set k.toNat [.lit (.int .i64 (at0 R k.toNat).k),.lit (.int .i64 n),.lit (.string (at0 R k.toNat).s)]=rowD (setN R k n):=by
 unfold setN rowD;rw[List.map_set];rfl
theorem am5 (R:List Val)(k n:Int):(setN R k n).length=R.length:=by simp[setN]
def agt (p q:Int)(more:List Int)(x y:List Val)(lo hi:Int):List Val:=setN (setN (x++zn y more) p lo) q hi
def gI (p2 q2:Int)(left right:List Int)(s1 s2:Int)(x y:List Val):Bool:=
 qm (at0 y p2.toNat) (at0 y q2.toNat)&&(!decide (yP true s1 (at0 y p2.toNat).n>=yP false s2 (at0 y q2.toNat).n)&&Yl (zn x left) (zn y right))
def uF (p q p2 q2:Int)(left right more:List Int)(x:List Val)(s1 s2:Int)(ys:List (List Val)):List (List Val):=
 ys.flatMap λy=>bif gI p2 q2 left right s1 s2 x y then [agt p q more x y (yP true s1 (at0 y p2.toNat).n) (yP false s2 (at0 y q2.toNat).n)]else []
theorem aeG (p q p2 q2:Int)(left right more:List Int)(x:List Val)(s1 s2:Int): ∀ys,(uF p q p2 q2 left right more x s1 s2 ys).length<=ys.length
 | []=>Nat.le_refl _
 |y::r=>by
  have:=aeG p q p2 q2 left right more x s1 s2 r;have e:uF p q p2 q2 left right more x s1 s2 (y::r)=(bif gI p2 q2 left right s1 s2 x y then [agt p q more x y (yP true s1 (at0 y p2.toNat).n) (yP false s2 (at0 y q2.toNat).n)]else [])++uF p q p2 q2 left right more x s1 s2 r:=by simp[uF]
  rw[e,List.length_append,List.length_cons];cases gI p2 q2 left right s1 s2 x y
  ·show 0+_<=_;omega
  ·show 1+_<=_;omega
def ovS (cols bc:List Col)(br:List (List Val))(left right:List Int)(p q p2 q2:Int)(more:List Int)(ar:List (List Val))(i:Nat)(x:List Val)(s1 s2:Int)(j:Nat)(out:List (List Val)):S:=
 ⟨[(4,cV (.ptr 4 0)),(6,cV (.ptr 6 0)),(10,.w (.c (.d (.sl (zw left))))),(11,.w (.c (.d (.sl (zw right))))),(12,.w (.c (.d (.sl (zw [p,q]))))),(13,.w (.c (.d (.sl (zw [p2,q2]))))),(14,.w (.c (.d (.sl (zw more))))),(15,cV (.ptr 15 0)),(17,.w (yf x)),(18,cV (.ptr 18 0)),(60,.w (.c (.d (.sl (zj ar))))),(61,zf ar.length),(62,zf i),(75,.w (.c (.d (.sl (zj br))))),(76,zf br.length),(77,zf j)],
 [(4,.box [.d (.sl (zi bc)),.d (.sl (zj br))]),(6,.box [.nil,.nil]),(15,.box [.d (.sl (zi cols)),.own 143 1 out.length]),(18,.box [int s1,int s2]),(143,.arr 1 (zj out) false)]⟩
theorem axg {Q:E ->S ->Prop}{s:S}(cols bc:List Col)(br:List (List Val))(left right:List Int)(p q p2 q2:Int)(more:List Int)(ar:List (List Val))(i:Nat)(x:List Val)(s1 s2:Int)(out:List (List Val))
 (hout:out.length+br.length<=20000) (hll:left.length<=100000) (hrl:right.length<=100000) (hml:more.length<=100000) (hxl:x.length<=100000) (hx:yQ x.length left) (hp:0<=p /\p<x.length) (hq:0<=q /\q<x.length)
 (hy: ∀y∈br,yQ y.length right /\yQ y.length more /\yQ y.length [p2,q2])
 (h0:xD s [4,6,10,11,12,13,14,15,17,18,60,61,62,75,76,77] (· =ovS cols bc br left right p q p2 q2 more ar i x s1 s2 0 out))
 (hQ:Q (.exit 2) (vi (ovS cols bc br left right p q p2 q2 more ar i x s1 s2 br.length (out++uF p q p2 q2 left right more x s1 s2 br)) 78 (zD (decide ((br.length:Int)<br.length))))):
 zS (mwpR Pg T8.f wJ) [4,6,10,11,12,13,14,15,17,18,60,61,62,75,76,77] Q s:=by
 refine zF (P:=Pg) (f:=T8.f) (body:=wJ) br.length (λj=>ovS cols bc br left right p q p2 q2 more ar i x s1 s2 j (out++uF p q p2 q2 left right more x s1 s2 (br.take j))) (λ_=>True) ⟨trivial,?_⟩ ?_
 ·rw[show out++uF p q p2 q2 left right more x s1 s2 (br.take 0)=out by simp[uF]];exact h0
 ·clear h0;intro j hj _;have hTl:j<br.length ->(out++uF p q p2 q2 left right more x s1 s2 (br.take j)).length<20000:=λh=>by
   have:=aeG p q p2 q2 left right more x s1 s2 (br.take j);rw[List.length_take]at this;rw[List.length_append];omega
  have hnx: ∀h:j<br.length,out++uF p q p2 q2 left right more x s1 s2 (br.take (j+1))=(out++uF p q p2 q2 left right more x s1 s2 (br.take j))++(bif gI p2 q2 left right s1 s2 x br[j]then [agt p q more x br[j] (yP true s1 (at0 br[j] p2.toNat).n) (yP false s2 (at0 br[j] q2.toNat).n)]else []):=λh=>by
   unfold uF;rw[zP h,List.flatMap_append,List.append_assoc];simp
  have hend:j=br.length ->out++uF p q p2 q2 left right more x s1 s2 br=out++uF p q p2 q2 left right more x s1 s2 (br.take j):=λh=>by rw[h,List.take_length]
  show mwpR Pg T8.f wJ _ (ovS cols bc br left right p q p2 q2 more ar i x s1 s2 j (out++uF p q p2 q2 left right more x s1 s2 (br.take j)));generalize out++uF p q p2 q2 left right more x s1 s2 (br.take j)=T at*;have hta:(zj T).take T.length=zj T:=by rw[<- zA,List.take_length]
  unfold ovS;(conv=>whnf);refine zd (λh1=>?_) (λh1=>?_)
  ·have hlt:j<br.length:=by have:=of_decide_eq_true h1;omega
   have hg:=xu hlt;have hnx:=hnx hlt;obtain⟨hy1,hy2,hy3⟩:=hy _ (List.getElem_mem hlt);have wi:=zx hlt (by omega);have hsp:=aeU br[j] p2 q2 (hy3 _ (by simp)) (hy3 _ (by simp));have hpl:=ZD x left (by omega) hx;have hpr:=ZD br[j] right (by omega) hy1;have hpm:=ZD br[j] more (by omega) hy2;have hag:=ai9 (zn x left) (zn br[j] right);have hTl:=hTl hlt;have hT20:((T.length:Int)==20000)=false:=by simp;omega
   clear hQ hend hy;unfold gI at hnx;generalize br[j]=y at*;generalize at0 y p2.toNat=u1 at*;generalize at0 y q2.toNat=u2 at*;generalize Yl (zn x left) (zn y right)=ag at*;unfold agX at hsp;generalize qm u1 u2=b at*;obtain⟨_,u1,_⟩:=u1;obtain⟨_,u2,_⟩:=u2;simp only at hsp hnx;(conv=>whnf);refine⟨by omega,_,hg,rfl,?_⟩;(conv=>whnf);(conv=>whnf);refine Sat.cal (hsp) ?_;(conv=>whnf);cases b with
   |false=>
    have hnx:out++uF p q p2 q2 left right more x s1 s2 (br.take (j+1))=T:=by rw[hnx,Bool.false_and,cond_false,List.append_nil]
    (conv=>whnf);refine⟨hlt,trivial,ze ?_⟩;(conv=>whnf);rw[wi,hnx];rfl
   |true=>
    rw[Bool.true_and]at hnx;(conv=>whnf);refine zd (λh2=>?_) (λh2=>?_)
    ·have h2:(false||decide (yP true s1 u1>=yP false s2 u2))=true:=h2;rw[Bool.false_or]at h2;have hnx:out++uF p q p2 q2 left right more x s1 s2 (br.take (j+1))=T:=by rw[hnx,h2,Bool.not_true,Bool.false_and,cond_false,List.append_nil]
     (conv=>whnf);refine⟨hlt,trivial,ze ?_⟩;(conv=>whnf);rw[wi,hnx];rfl
    ·have h2:(false||decide (yP true s1 u1>=yP false s2 u2))=false:=h2;rw[Bool.false_or]at h2;rw[h2,Bool.not_false,Bool.true_and]at hnx;(conv=>whnf);refine Sat.cal (hpl) ?_;(conv=>whnf);refine Sat.cal (hpr) ?_;(conv=>whnf);refine Sat.cal (hag) ?_;(conv=>whnf);cases ag with
     |false=>
      have hnx:out++uF p q p2 q2 left right more x s1 s2 (br.take (j+1))=T:=by rw[hnx,cond_false,List.append_nil]
      (conv=>whnf);refine⟨hlt,trivial,ze ?_⟩;(conv=>whnf);rw[wi,hnx];rfl
     |true=>
      rw[cond_true]at hnx;(conv=>whnf);refine zd (λh3=>?_) (λh3=>?_)
      ·have h3:((T.length:Int)==20000)=true:=h3;rw[hT20]at h3;cases h3
      ·(conv=>whnf);refine Sat.mono (jj x (by omega)) ?_;rintro _ (⟨hnil,rfl⟩|rfl)
       ·subst hnil;simp at hp;omega
       ·(conv=>whnf);refine Sat.cal (hpm) ?_;(conv=>whnf);refine⟨Q9 _,by unfold ye;simp only[zo];simp[zn];omega,by simp only[zo];simp[zn];omega,?_⟩;(conv=>whnf);rw[show List.take (rowD x).length (rowD x)++rowD (zn y more)=rowD (x++zn y more)by rw[List.take_length];simp[rowD],show(rowD x).length+(rowD (zn y more)).length=(x++zn y more).length by simp[zo]];have hRl:x.length<=(x++zn y more).length:=by simp
        unfold agt at hnx;generalize x++zn y more=R at*;(conv=>whnf);refine⟨by omega,_,rfl,rfl,?_⟩;(conv=>whnf);refine⟨by omega,_,rfl,rfl,?_⟩;(conv=>whnf);refine⟨hp.1,by omega,?_⟩;(conv=>whnf);refine⟨(at0 R p.toNat).ds,kl (by omega),Nat.le_of_ble_eq_true rfl,?_⟩;(conv=>whnf);rw[show(rowD R).set p.toNat (yb (at0 R p.toNat).ds 1 [.lit (.int .i64 (yP true s1 u1))])=rowD (setN R p (yP true s1 u1))from ai5 _ _ _];generalize yP true s1 u1=lo at*;have hR1:=am5 R p lo;generalize setN R p lo=R1 at*;refine⟨hq.1,by omega,?_⟩;(conv=>whnf);refine⟨(at0 R1 q.toNat).ds,kl (by omega),Nat.le_of_ble_eq_true rfl,?_⟩;(conv=>whnf);rw[show(rowD R1).set q.toNat (yb (at0 R1 q.toNat).ds (0+1) [.lit (.int .i64 (yP false s2 u2))])=rowD (setN R1 q (yP false s2 u2))from ai5 _ _ _];generalize yP false s2 u2=hi at*;have hR2:=am5 R1 q hi;generalize setN R1 q hi=R2 at*;have htk:List.take R.length (rowD R2)=rowD R2:=by rw[show R.length=R2.length by omega,<- zo,List.take_length]
        rw[htk];refine⟨by simp,by unfold ye;simp;omega,by simp;omega,?_⟩;(conv=>whnf);refine⟨hlt,trivial,ze ?_⟩;(conv=>whnf);rw[wi,hta,hnx,vt,List.length_append];rfl
  ·have hge:j=br.length:=by have:=of_decide_eq_false h1;omega
   rw[hend hge]at hQ;subst hge;(conv=>whnf);exact hQ
def kf (p q p2 q2:Int)(left right more:List Int)(br:List (List Val))(x:List Val):List (List Val):=
 bif qm (at0 x p.toNat) (at0 x q.toNat)then uF p q p2 q2 left right more x (at0 x p.toNat).n (at0 x q.toNat).n br else []
def qP (p q p2 q2:Int)(left right more:List Int)(ar br:List (List Val)):List (List Val):=ar.flatMap (kf p q p2 q2 left right more br)
theorem aql (p q p2 q2:Int)(left right more:List Int)(br:List (List Val))(x:List Val):(kf p q p2 q2 left right more br x).length<=br.length:=by
 unfold kf;cases qm (at0 x p.toNat) (at0 x q.toNat)
 ·exact Nat.zero_le _
 ·exact aeG ..
theorem abI (p q p2 q2:Int)(left right more:List Int)(br:List (List Val)): ∀xs,(qP p q p2 q2 left right more xs br).length<=xs.length*br.length
 | []=>by simp[qP]
 |x::r=>by
  have h1:=aql p q p2 q2 left right more br x;have h2:=abI p q p2 q2 left right more br r;simp only[qP,List.flatMap_cons,List.length_append,List.length_cons]at h2⊢;rw[Nat.add_mul];omega
def aqm (cols bc:List Col)(br:List (List Val))(left right:List Int)(p q p2 q2:Int)(more:List Int)(ar:List (List Val))(i:Nat)(out:List (List Val)):S:=
 ⟨[(4,cV (.ptr 4 0)),(6,cV (.ptr 6 0)),(10,.w (.c (.d (.sl (zw left))))),(11,.w (.c (.d (.sl (zw right))))),(12,.w (.c (.d (.sl (zw [p,q]))))),(13,.w (.c (.d (.sl (zw [p2,q2]))))),(14,.w (.c (.d (.sl (zw more))))),(15,cV (.ptr 15 0)),(60,.w (.c (.d (.sl (zj ar))))),(61,zf ar.length),(62,zf i)],
 [(4,.box [.d (.sl (zi bc)),.d (.sl (zj br))]),(6,.box [.nil,.nil]),(15,.box [.d (.sl (zi cols)),.own 143 1 out.length]),(143,.arr 1 (zj out) false)]⟩
def aww:ACode:=xS (xS (xS (xS (xS (xS (xS (xS Zn.code)))))))
theorem axh {s:S}(cols bc:List Col)(br:List (List Val))(left right:List Int)(p q p2 q2:Int)(more:List Int)(ar:List (List Val))
 (hmul:ar.length*br.length<=20000) (har:ar.length<=1000000) (hll:left.length<=100000) (hrl:right.length<=100000) (hml:more.length<=100000)
 (hx: ∀x∈ar,x.length<=100000 /\yQ x.length left /\yQ x.length [p,q])
 (hy: ∀y∈br,yQ y.length right /\yQ y.length more /\yQ y.length [p2,q2])
 (h0:xD s [4,6,10,11,12,13,14,15,60,61,62] (· =aqm cols bc br left right p q p2 q2 more ar 0 [])):
 zS (mwpR Pg T8.f wK) [4,6,10,11,12,13,14,15,60,61,62] (XF 0 (gU (mwpR Pg T8.f aww) (Uo Zn.res [] (DQ (wE ⟨cols,qP p q p2 q2 left right more ar br⟩ 0))))) s:=by
 refine zF (P:=Pg) (f:=T8.f) (body:=wK) ar.length (λi=>aqm cols bc br left right p q p2 q2 more ar i (qP p q p2 q2 left right more (ar.take i) br)) (λ_=>True) ⟨trivial,h0⟩ ?_
 ·clear h0;intro i hi _;have hnx: ∀h:i<ar.length,qP p q p2 q2 left right more (ar.take (i+1)) br=qP p q p2 q2 left right more (ar.take i) br++kf p q p2 q2 left right more br ar[i]:=λh=>by
   unfold qP;rw[zP h,List.flatMap_append];simp
  have hend:ar.length<=i ->qP p q p2 q2 left right more ar br=qP p q p2 q2 left right more (ar.take i) br:=λh=>by rw[List.take_of_length_le h]
  have hUl:i<ar.length ->(qP p q p2 q2 left right more (ar.take i) br).length+br.length<=20000:=λh=>by
   have h1:=abI p q p2 q2 left right more br (ar.take i);rw[List.length_take,Nat.min_eq_left (by omega)]at h1;have h2:(i+1)*br.length<=ar.length*br.length:=Nat.mul_le_mul_right _ h;rw[Nat.add_mul]at h2;omega
  have hL0:=λ(Q':E ->S ->Prop) (s':S) (x:List Val) (s1 s2:Int)=>axg (Q:=Q') (s:=s') cols bc br left right p q p2 q2 more ar i x s1 s2 (qP p q p2 q2 left right more (ar.take i) br)
  show mwpR Pg T8.f wK _ (aqm cols bc br left right p q p2 q2 more ar i (qP p q p2 q2 left right more (ar.take i) br));generalize qP p q p2 q2 left right more (ar.take i) br=U at*;have htu:(zj U).take U.length=zj U:=by rw[<- zA,List.take_length]
  unfold aqm;(conv=>whnf);refine zd (λh1=>?_) (λh1=>?_)
  ·have hlt:i<ar.length:=by have:=of_decide_eq_true h1;omega
   have hg:=xu hlt;have hnx:=hnx hlt;have hUl:=hUl hlt;obtain⟨hx1,hx2,hx3⟩:=hx _ (List.getElem_mem hlt);have wi:=zx hlt (by omega);have hsp:=aeU ar[i] p q (hx3 _ (by simp)) (hx3 _ (by simp));have hL0:=λQ' s' s1 s2=>hL0 Q' s' ar[i] s1 s2 hUl (by omega) (by omega) (by omega) hx1 hx2 (hx3 _ (by simp)) (hx3 _ (by simp)) hy
   clear hend hx;unfold kf at hnx;generalize ar[i]=x at*;generalize at0 x p.toNat=u1 at*;generalize at0 x q.toNat=u2 at*;unfold agX at hsp;generalize qm u1 u2=b at*;obtain⟨_,u1,_⟩:=u1;obtain⟨_,u2,_⟩:=u2;simp only at hsp hnx;(conv=>whnf);refine⟨by omega,_,hg,rfl,?_⟩;(conv=>whnf);(conv=>whnf);refine Sat.cal (hsp) ?_;(conv=>whnf);cases b with
   |false=>
    have hnx:qP p q p2 q2 left right more (ar.take (i+1)) br=U:=by rw[hnx,cond_false,List.append_nil]
    (conv=>whnf);refine⟨hlt,trivial,ze ?_⟩;(conv=>whnf);rw[wi,hnx];rfl
   |true=>
    rw[cond_true]at hnx;(conv=>whnf);refine hL0 _ _ u1 u2 (ze ?_) ?_
    ·(conv=>whnf);unfold ovS;rw[zA];rfl
    unfold vi ovS;(conv=>whnf);refine⟨hlt,trivial,ze ?_⟩;(conv=>whnf);rw[wi,hnx];rfl
  ·have hge:ar.length<=i:=by have:=of_decide_eq_false h1;omega
   rw[hend hge];clear hL0;(conv=>whnf);refine⟨rfl,?_⟩;refine Eq.trans (b:=⟨.tup [.agg [.d (.sl (zi cols)),.d (.sl ((zj U).take U.length))],.c (int 0)],[]⟩) rfl ?_;rw[htu];rfl
theorem u6 {t:Tbl}(h:zQ t=0):t.cols.length<=32 /\t.rows.length<=20000:=by
 unfold zQ at h;obtain⟨h1,_⟩:=zW (by omega) h;simp only[Bool.or_eq_false_iff,decide_eq_false_iff_not]at h1;omega
theorem xF {b:Bool}{e:Int}{y:Int×List Col}(he:b=true ->e≠0)(h:(bif b then(e,([]:List Col))else y).1=0):b=false /\(bif b then(e,([]:List Col))else y)=y:=by
 cases b
 ·exact⟨rfl,rfl⟩
 ·exact absurd h (he rfl)
theorem gm {cols tc:List Col}: ∀{cs:List ByteArray},jnErr cols tc cs=0 ->yQ cols.length (zm cols cs)/\yQ tc.length (zm tc cs)
 | [],_=>And.intro (λk hk=>nomatch hk) (λk hk=>nomatch hk)
 |s::r,h=>by
  simp only[jnErr]at h;obtain⟨h1,h⟩:=zW (by omega) h;obtain⟨_,h⟩:=zW (by omega) h;obtain⟨i1,i2⟩:=gm h;simp only[Bool.or_eq_false_iff,decide_eq_false_iff_not]at h1;refine⟨λk hk=>?_,λk hk=>?_⟩
  ·rcases List.mem_cons.1 hk with rfl|hk
   ·exact wA _ _ h1.1
   ·exact i1 k hk
  ·rcases List.mem_cons.1 hk with rfl|hk
   ·exact wA _ _ h1.2
   ·exact i2 k hk
theorem aba {cols:List Col}{s:ByteArray}(h:colInt cols s=0):0<=zh cols s /\zh cols s<cols.length:=by
 unfold colInt at h;obtain⟨h1,_⟩:=zW (by omega) h;exact wA _ _ (by simpa using h1)
theorem WB {cols:List Col}: ∀{sp:List ByteArray},intErr cols sp=0 ->yQ cols.length (zm cols sp)
 | [],_=>λk hk=>nomatch hk
 |s::r,h=>by
  simp only[intErr]at h;cases h1:(colInt cols s !=0)
  ·rw[h1,cond_false]at h;intro k hk;rcases List.mem_cons.1 hk with rfl|hk
   ·exact aba (by simpa using h1)
   ·exact WB h k hk
  ·rw[h1,cond_true]at h;rw[h]at h1;cases h1
structure JnOK (sp:List ByteArray)(cols tc:List Col)(cs:List ByteArray)(R:List Col):Prop where
 jn:jnErr cols tc cs=0
 i1:intErr cols sp=0
 i2:intErr tc sp=0
 dup:dupL [] (cols++keepS sp cs tc)=false
 few:(cols++keepS sp cs tc).length<=32
 two:sp.any (hasB cs)=false
 eq:R=cols++keepS sp cs tc
theorem Xf {sp:List ByteArray}{d:List Nmd}{cols:List Col}{cs:List ByteArray}{tb:ByteArray}(h:(YU sp d cols cs tb).1=0): ∃t,zY tb d=some t /\JnOK sp cols t.cols cs (YU sp d cols cs tb).2:=by
 unfold YU at h⊢;cases hf:zY tb d with
 |none=>rw[hf]at h;cases h
 |some t=>
  rw[hf]at h;simp only at h⊢;obtain⟨h1,e1⟩:=xF (by intro _;omega) h;rw[e1]at h⊢;unfold ap8 at h⊢;obtain⟨h2,e2⟩:=xF (by simp) h;rw[e2]at h⊢;obtain⟨h3,e3⟩:=xF (by simp) h;rw[e3]at h⊢;obtain⟨h4,e4⟩:=xF (by simp) h;rw[e4]at h⊢;obtain⟨h5,e5⟩:=xF (by intro _;omega) h;rw[e5]at h⊢;obtain⟨h6,e6⟩:=xF (by intro _;omega) h;rw[e6];exact⟨t,rfl,by simpa using h2,by simpa using h3,by simpa using h4,h5,by simp only[decide_eq_false_iff_not]at h6;omega,h1,rfl⟩
theorem ub {d:List Nmd}{cols:List Col}{st:Stp}(h:(yw d cols st).1=0):st.err=0:=by
 unfold yw at h;have:=(xF (by simp) h).1;simpa using this
theorem ZH {d:List Nmd}{cols:List Col}{st:Stp}(hop:st.op=6\/st.op=7\/st.op=8)(h:(yw d cols st).1=0):yw d cols st=YU (aeY st.op) d cols st.cols st.table:=by
 have he:=ub h;unfold yw;rw[he];rcases hop with hop|hop|hop<;>rw[hop]<;>rfl
theorem apm {op:Int}{on:List ByteArray}{a b:Tbl}(hop:op=6\/op=7\/op=8)(h:(Y8 op on a b).1=0):zQ a=0 /\zQ b=0 /\JnOK (aeY op) a.cols b.cols on (Y8 op on a b).2:=by
 unfold Y8 at h⊢;obtain⟨h1,e1⟩:=xF (by simp) h;rw[e1]at h⊢;obtain⟨h2,e2⟩:=xF (by simp) h;rw[e2]at h⊢;have h3:=ZH (st:=vU op on vu) hop h;rw[h3]at h⊢;obtain⟨t,ht,hj⟩:=Xf h;have hb:zY (vU op on vu).table [⟨vu,b⟩]=some b:=by
  show(bif zl vu vu then some b else none)=some b;rw[AM.beqS_self];rfl
 rw[hb]at ht;cases ht;exact⟨by simpa using h1,by simpa using h2,hj⟩
theorem aju (a b:List ByteArray):zp a++zp b=zp (a++b):=by simp[zp]
def ovQ (a b:Tbl)(on:List ByteArray):Res:=bif (Y8 7 on a b).1 !=0 then wE ⟨[],[]⟩ (Y8 7 on a b).1 else
 wE ⟨(Y8 7 on a b).2,qP (zh a.cols sFrom) (zh a.cols sTo) (zh b.cols sFrom) (zh b.cols sTo) (zm a.cols on) (zm b.cols on) (oth (on++[sFrom,sTo]) 0 b.cols) a.rows b.rows⟩ 0
theorem aif (on:List ByteArray): ∀(l:List Col) (i:Nat),(oth on i l).length<=l.length
 | [],_=>Nat.le_refl _
 |c::r,i=>by
  have:=aif on r (i+1);simp only[oth,List.length_append,List.length_cons];cases(!hasB on c.name)<;>simp<;>omega
theorem ar9 (on:List ByteArray)(l:List Col):yQ l.length (oth on 0 l):=λk hk=>by have:=aie on l 0 k hk;omega
theorem aoi (a b:Tbl)(on:List ByteArray)(hon:on.length<=100000)(hac:a.cols.length<=1000000)(hbc:b.cols.length<=1000000)(hmul:a.rows.length*b.rows.length<=20000):Sat Pg WG [a.w,b.w,.c (.d (.sl (zp on)))] (λr=>r=ovQ a b on):=by
 have hc:=agL 7 on a b (by omega) hac hbc;have hok:=@apm 7 on a b (by omega);have hpa:=vw a.cols (.sl (zj a.rows)) on (by omega);have hpb:=vw b.cols (.sl (zj b.rows)) on (by omega);have hsa:=vw a.cols (.sl (zj a.rows)) [sFrom,sTo] (by simp);have hsb:=vw b.cols (.sl (zj b.rows)) [sFrom,sTo] (by simp);have hre:=amS b.cols (.sl (zj b.rows)) (on++[sFrom,sTo]) hbc;have hcl:=Vp on (by omega);have hre2:Sat Pg XZ [b.w,.c (.d (.sl (List.take ((zp on).length+(List.take 2 (zp [sFrom,sTo])).length) (List.take (zp on).length (zp on)++List.take 2 (zp [sFrom,sTo])))))] (λr=>r=rC (.d (.sl (zw (oth (on++[sFrom,sTo]) 0 b.cols))))):=by
  rw[show List.take ((zp on).length+(List.take 2 (zp [sFrom,sTo])).length) (List.take (zp on).length (zp on)++List.take 2 (zp [sFrom,sTo]))=zp (on++[sFrom,sTo])by
   rw[List.take_length,show List.take 2 (zp [sFrom,sTo])=zp [sFrom,sTo]from rfl,aju,show(zp on).length+(zp [sFrom,sTo]).length=(zp (on++[sFrom,sTo])).length by simp[zK],List.take_length]]
  exact hre
 unfold ovQ;generalize Y8 7 on a b=c at*;obtain⟨c1,c2⟩:=c;simp only at hok⊢;refine z0 ?_;obtain⟨ac,ar⟩:=a;obtain⟨bc,br⟩:=b;simp only at*;refine zg T8 KI (by kernel_rfl) ?_
 conv=>whnf
 refine Sat.cal (hc) ?_
 conv=>whnf
 refine zd (λh1=>?_) (λh1=>?_)
 ·rw[show(c1 !=0)=true from h1];(conv=>whnf);exact⟨rfl,rfl⟩
 ·have h1:(c1 !=0)=false:=h1;rw[h1];have h10:c1=0:=by simpa using h1
  subst h10;obtain⟨ka,kb,hj⟩:=hok rfl;obtain⟨i1,i2⟩:=gm hj.jn;have i3:=WB hj.i1;have i4:=WB hj.i2;have wa:=Xl ka;have wb:=Xl kb;have fa:=u6 ka;have fb:=u6 kb;have ol:=aif (on++[sFrom,sTo]) bc 0;have oi:=ar9 (on++[sFrom,sTo]) bc;have p1:zm ac [sFrom,sTo]=[zh ac sFrom,zh ac sTo]:=rfl;have p2:zm bc [sFrom,sTo]=[zh bc sFrom,zh bc sTo]:=rfl;have l1:(zm ac on).length=on.length:=by simp[zm]
  have l2:(zm bc on).length=on.length:=by simp[zm]
  have hm:=λ(s:S)=>axh (s:=s) c2 bc br (zm ac on) (zm bc on) (zh ac sFrom) (zh ac sTo) (zh bc sFrom) (zh bc sTo) (oth (on++[sFrom,sTo]) 0 bc) ar hmul (by have:=fa.2;simp only at this;omega) (by omega) (by omega) (by have:=fb.1;simp only at this;omega)
   (λx hx=>by have h2:=wa x hx;have:=fa.1;simp only at this h2;exact⟨by omega,by rw[h2];exact i1,by rw[h2];exact i3⟩)
   (λy hy=>by have h2:=wb y hy;simp only at h2;exact⟨by rw[h2];exact i2,by rw[h2];exact oi,by rw[h2];exact i4⟩)
  rw[p1]at hsa;rw[p2]at hsb;clear i1 i2 i3 i4 wa wb fa fb ol oi p1 p2 l1 l2 hj ka kb hok h1;generalize zh ac sFrom=p at*;generalize zh ac sTo=q at*;generalize zh bc sFrom=p2 at*;generalize zh bc sTo=q2 at*;generalize zm ac on=left at*;generalize zm bc on=right at*;generalize oth (on++[sFrom,sTo]) 0 bc=more at*;(conv=>whnf);refine Sat.cal (hpa) ?_;(conv=>whnf);refine Sat.cal (hpb) ?_;(conv=>whnf)
  repeat' (first
   |(refine Sat.mono hsa ?_;rintro _ rfl;conv=>whnf)
   |(refine Sat.mono hsb ?_;rintro _ rfl;conv=>whnf)
   |(refine Sat.mono hcl ?_;rintro _ (⟨hnil,rfl⟩|rfl)<;>conv=>whnf)
   |(refine⟨by simp,by unfold ye;simp only[zK];simp;omega,by simp only[zK];simp;omega,?_⟩;conv=>whnf)
   |(refine⟨by simp,by unfold ye;simp,by simp,?_⟩;conv=>whnf)
   |(refine Sat.mono hre2 ?_;rintro _ rfl;conv=>whnf)
   |(subst hnil;refine Sat.mono hre ?_;rintro _ rfl;conv=>whnf)
   |(refine And.intro ?_ ?_<;>conv=>whnf))
  all_goals rw[zA]
  all_goals refine hm _ ⟨_,Kp 15 1 143 1 (by omega) (by omega) rfl,?_⟩
  all_goals conv=>whnf
  all_goals rfl
def acp (u v:Val)(ag:Bool):Bool:=!((u.k==0||v.k==0)||decide (v.n>u.n))&&ag
def ahV (p2:Int)(y:List Val):Option (List Val) ->Option (List Val)
 |none=>some y
 |some z=>bif decide ((at0 y p2.toNat).n>=(at0 z p2.toNat).n)then some y else some z
def K4 (p p2:Int)(left right:List Int)(x:List Val)(ys:List (List Val)):Option (List Val):=
 ys.foldl (λb y=>bif acp (at0 x p.toNat) (at0 y p2.toNat) (Yl (zn x left) (zn y right))then ahV p2 y b else b) none
def nrS (cols bc:List Col)(br:List (List Val))(left right:List Int)(p p2:Int)(more:List Int)(ar:List (List Val))(i:Nat)(out:List (List Val))(x:List Val)(b:Int)(j:Nat):S:=
 ⟨[(4,cV (.ptr 4 0)),(6,cV (.ptr 6 0)),(10,.w (.c (.d (.sl (zw left))))),(11,.w (.c (.d (.sl (zw right))))),(12,zf p),(13,zf p2),(14,.w (.c (.d (.sl (zw more))))),(15,cV (.ptr 15 0)),(17,.w (yf x)),(18,zf b),(55,.w (.c (.d (.sl (zj ar))))),(56,zf ar.length),(57,zf i),(62,.w (.c (.d (.sl (zj br))))),(63,zf br.length),(64,zf j)],
 [(4,.box [.d (.sl (zi bc)),.d (.sl (zj br))]),(6,.box [.nil,.nil]),(15,.box [.d (.sl (zi cols)),.own 139 1 out.length]),(139,.arr 1 (zj out) false)]⟩
def nrR (br:List (List Val))(B:Option (List Val))(b:Int):Prop:=(b= -1 /\B=none)\/(0<=b /\ ∃h:b.toNat<br.length,B=some br[b.toNat])
theorem axe {Q:E ->S ->Prop}{s:S}(cols bc:List Col)(br:List (List Val))(left right:List Int)(p p2:Int)(more:List Int)(ar:List (List Val))(i:Nat)(out:List (List Val))(x:List Val)
 (hbr:br.length<=1000000) (hll:left.length<=100000) (hrl:right.length<=100000) (hx:yQ x.length left) (hp:0<=p /\p<x.length)
 (hy: ∀y∈br,yQ y.length right /\(0<=p2 /\p2<y.length))
 (h0:xD s [4,6,10,11,12,13,14,15,17,18,55,56,57,62,63,64] (· =nrS cols bc br left right p p2 more ar i out x (-1) 0))
 (hQ: ∀b,nrR br (K4 p p2 left right x br) b ->Q (.exit 2) (vi (nrS cols bc br left right p p2 more ar i out x b br.length) 65 (zD (decide ((br.length:Int)<br.length))))):
 zS (mwpR Pg T8.f wH) [4,6,10,11,12,13,14,15,17,18,55,56,57,62,63,64] Q s:=by
 refine yv (P:=Pg) (f:=T8.f) (body:=wH) (λz:Nat×Int=>nrS cols bc br left right p p2 more ar i out x z.2 z.1) (λz=>br.length - z.1) (λz=>z.1<=br.length /\nrR br (K4 p p2 left right x (br.take z.1)) z.2) ⟨(0, -1),⟨Nat.zero_le _,.inl ⟨rfl,rfl⟩⟩,h0⟩ ?_
 ·clear h0;rintro⟨j,b⟩ hz;obtain⟨hj,hR⟩:j<=br.length /\nrR br (K4 p p2 left right x (br.take j)) b:=hz;have hnx: ∀h:j<br.length,K4 p p2 left right x (br.take (j+1))=bif acp (at0 x p.toNat) (at0 br[j] p2.toNat) (Yl (zn x left) (zn br[j] right))then ahV p2 br[j] (K4 p p2 left right x (br.take j))else K4 p p2 left right x (br.take j):=λh=>by
   unfold K4;rw[zP h,List.foldl_append];rfl
  have hend:j=br.length ->K4 p p2 left right x br=K4 p p2 left right x (br.take j):=λh=>by rw[h,List.take_length]
  show mwpR Pg T8.f wH _ (nrS cols bc br left right p p2 more ar i out x b j);generalize K4 p p2 left right x (br.take j)=B at*;unfold nrS;(conv=>whnf);refine zd (λh1=>?_) (λh1=>?_)
  ·have hlt:j<br.length:=by have:=of_decide_eq_true h1;omega
   have hg:=xu hlt;have hnx:=hnx hlt;obtain⟨hy1,hy2⟩:=hy _ (List.getElem_mem hlt);have wi:=zx hlt (by omega);have hpl:=ZD x left (by omega) hx;have hpr:=ZD br[j] right (by omega) hy1;have hag:=ai9 (zn x left) (zn br[j] right);have hgu:=kl (R:=x) (k:=p) (by omega);have hgv:=kl (R:=br[j]) (k:=p2) (by omega);have hj1:nrR br (some br[j]) j:=.inr ⟨by omega,by simpa using hlt,by simp⟩;clear hend;clear hQ;generalize br[j]=y at*;unfold acp at hnx;generalize Yl (zn x left) (zn y right)=ag at*;generalize hu:at0 x p.toNat=u at*;generalize hv:at0 y p2.toNat=v at*;obtain⟨u1,u2,u3⟩:=u;obtain⟨v1,v2,v3⟩:=v;simp only at hnx;(conv=>whnf);refine⟨by omega,_,hg,rfl,?_⟩;(conv=>whnf)
   repeat' (first
    |(refine⟨hp.1,_,hgu,rfl,?_⟩;conv=>whnf)
    |(refine⟨hy2.1,_,hgv,rfl,?_⟩;conv=>whnf)
    |(refine And.intro ?_ ?_<;>conv=>whnf))
   all_goals (
    refine zd (λh=>?_) (λh=>?_)
    ·have h:((u1==0||v1==0)||decide (v2>u2))=true:=h;rw[h,Bool.not_true,Bool.false_and,cond_false]at hnx;(conv=>whnf);refine⟨(j+1,b),⟨⟨hlt,by rw[hnx];exact hR⟩,by show br.length -(j+1)<br.length - j;omega⟩,ze ?_⟩;(conv=>whnf);rw[wi];rfl
    ·have h:((u1==0||v1==0)||decide (v2>u2))=false:=h;rw[h,Bool.not_false,Bool.true_and]at hnx;(conv=>whnf);refine Sat.cal (hpl) ?_;(conv=>whnf);refine Sat.cal (hpr) ?_;(conv=>whnf);refine Sat.cal (hag) ?_;(conv=>whnf);cases ag with
     |false=>
      rw[cond_false]at hnx;(conv=>whnf);refine⟨(j+1,b),⟨⟨hlt,by rw[hnx];exact hR⟩,by show br.length -(j+1)<br.length - j;omega⟩,ze ?_⟩;(conv=>whnf);rw[wi];rfl
     |true=>
      rw[cond_true]at hnx;(conv=>whnf);refine zd (λh2=>?_) (λh2=>?_)
      ·have h2:b<0:=of_decide_eq_true h2;obtain⟨rfl,rfl⟩:b= -1 /\B=none:=by
        rcases hR with hR|⟨hR,_⟩
        ·exact hR
        ·omega
       (conv=>whnf);refine⟨(j+1,(j:Int)),⟨⟨hlt,by rw[hnx];exact hj1⟩,by show br.length -(j+1)<br.length - j;omega⟩,ze ?_⟩;(conv=>whnf);rw[wi];rfl
      ·have h2: ¬b<0:=of_decide_eq_false h2;obtain⟨hb0,hbl,rfl⟩:0<=b /\ ∃h:b.toNat<br.length,B=some br[b.toNat]:=by
        rcases hR with⟨rfl,_⟩|hR
        ·omega
        ·exact hR
       have hgz:(zj br)[b.toNat]? =some [.sl (rowD br[b.toNat])]:=by simp[zj,List.getElem?_eq_getElem hbl]
       have hz:=(hy _ (List.getElem_mem hbl)).2;simp only[ahV,hv]at hnx;generalize br[b.toNat]=z at*;have hgw:=kl (R:=z) (k:=p2) (by omega);generalize at0 z p2.toNat=w at*;obtain⟨w1,w2,w3⟩:=w;simp only at hnx;(conv=>whnf);refine⟨hb0,_,hgz,rfl,?_⟩;(conv=>whnf);refine⟨hz.1,_,hgw,rfl,?_⟩;(conv=>whnf);refine zd (λh3=>?_) (λh3=>?_)
       ·have h3:decide (v2>=w2)=true:=h3;rw[h3,cond_true]at hnx;(conv=>whnf);refine⟨(j+1,(j:Int)),⟨⟨hlt,by rw[hnx];exact hj1⟩,by show br.length -(j+1)<br.length - j;omega⟩,ze ?_⟩;(conv=>whnf);rw[wi];rfl
       ·have h3:decide (v2>=w2)=false:=h3;rw[h3,cond_false]at hnx;(conv=>whnf);refine⟨(j+1,b),⟨⟨hlt,by rw[hnx];exact hR⟩,by show br.length -(j+1)<br.length - j;omega⟩,ze ?_⟩;(conv=>whnf);rw[wi];rfl)
  ·have hge:j=br.length:=by have:=of_decide_eq_false h1;omega
   rw[<- hend hge]at hR;subst hge;(conv=>whnf);exact hQ b hR
def avv (more:List Int):Option (List Val) ->List Val
 |none=>List.replicate more.length yp
 |some z=>zn z more
def wg (p p2:Int)(left right more:List Int)(br:List (List Val))(x:List Val):List Val:=x++avv more (K4 p p2 left right x br)
def aqg (cols bc:List Col)(br:List (List Val))(left right:List Int)(p p2:Int)(more:List Int)(ar:List (List Val))(i:Nat)(out:List (List Val)):S:=
 ⟨[(4,cV (.ptr 4 0)),(6,cV (.ptr 6 0)),(10,.w (.c (.d (.sl (zw left))))),(11,.w (.c (.d (.sl (zw right))))),(12,zf p),(13,zf p2),(14,.w (.c (.d (.sl (zw more))))),(15,cV (.ptr 15 0)),(55,.w (.c (.d (.sl (zj ar))))),(56,zf ar.length),(57,zf i)],
 [(4,.box [.d (.sl (zi bc)),.d (.sl (zj br))]),(6,.box [.nil,.nil]),(15,.box [.d (.sl (zi cols)),.own 139 1 out.length]),(139,.arr 1 (zj out) false)]⟩
def awu:ACode:=xS (xS (xS (xS (xS (xS (xS (xS Zm.code)))))))
theorem axf {s:S}(cols bc:List Col)(br:List (List Val))(left right:List Int)(p p2:Int)(more:List Int)(ar:List (List Val))
 (har:ar.length<=100000) (hbr:br.length<=1000000) (hll:left.length<=100000) (hrl:right.length<=100000) (hml:more.length<=100000)
 (hx: ∀x∈ar,x.length<=100000 /\yQ x.length left /\(0<=p /\p<x.length))
 (hy: ∀y∈br,yQ y.length right /\yQ y.length more /\(0<=p2 /\p2<y.length))
 (h0:xD s [4,6,10,11,12,13,14,15,55,56,57] (· =aqg cols bc br left right p p2 more ar 0 [])):
 zS (mwpR Pg T8.f wI) [4,6,10,11,12,13,14,15,55,56,57] (XF 0 (gU (mwpR Pg T8.f awu) (Uo Zm.res [] (DQ (wE ⟨cols,ar.map (wg p p2 left right more br)⟩ 0))))) s:=by
 refine zF (P:=Pg) (f:=T8.f) (body:=wI) ar.length (λi=>aqg cols bc br left right p p2 more ar i ((ar.take i).map (wg p p2 left right more br))) (λ_=>True) ⟨trivial,h0⟩ ?_
 ·clear h0;intro i hi _;have hnx: ∀h:i<ar.length,(ar.take (i+1)).map (wg p p2 left right more br)=(ar.take i).map (wg p p2 left right more br)++[wg p p2 left right more br ar[i]]:=λh=>by
   rw[zP h,List.map_append];rfl
  have hend:ar.length<=i ->ar.map (wg p p2 left right more br)=(ar.take i).map (wg p p2 left right more br):=λh=>by rw[List.take_of_length_le h]
  have hUl:((ar.take i).map (wg p p2 left right more br)).length=i:=by simp;omega
  have hL0:=λ(Q':E ->S ->Prop) (s':S) (x:List Val)=>axe (Q:=Q') (s:=s') cols bc br left right p p2 more ar i ((ar.take i).map (wg p p2 left right more br)) x hbr hll hrl
  show mwpR Pg T8.f wI _ (aqg cols bc br left right p p2 more ar i ((ar.take i).map (wg p p2 left right more br)));generalize(ar.take i).map (wg p p2 left right more br)=U at*;have htu:(zj U).take U.length=zj U:=by rw[<- zA,List.take_length]
  unfold aqg;(conv=>whnf);refine zd (λh1=>?_) (λh1=>?_)
  ·have hlt:i<ar.length:=by have:=of_decide_eq_true h1;omega
   have hg:=xu hlt;have hnx:=hnx hlt;obtain⟨hx1,hx2,hx3⟩:=hx _ (List.getElem_mem hlt);have wi:=zx hlt (by omega);have hL0:=λQ' s'=>hL0 Q' s' ar[i] hx2 hx3 (λy h=>⟨(hy y h).1,(hy y h).2.2⟩)
   have hcl:=jj ar[i] (by omega);clear hend hx;unfold wg at hnx;generalize ar[i]=x at*;generalize K4 p p2 left right x br=B at*;(conv=>whnf);refine⟨by omega,_,hg,rfl,?_⟩;(conv=>whnf);refine hL0 _ _ (ze ?_) ?_
   ·(conv=>whnf);unfold nrS;rw[zA];rfl
   intro b hR;unfold vi nrS;rcases hR with⟨rfl,rfl⟩|⟨hb0,hbl,rfl⟩
   ·have hnx:(ar.take (i+1)).map (wg p p2 left right more br)=U++[x++List.replicate more.length yp]:=hnx;have hzr:List.replicate (((zw more).length:Int)).toNat JM=rowD (List.replicate more.length yp):=by
     rw[yu];simp[rowD];exact .inr rfl
    have hmn:(((zw more).length:Int)).toNat=more.length:=by rw[yu];simp
    (conv=>whnf);refine⟨by omega,by omega,by unfold ye;rw[hmn];omega,by rw[yu];omega,?_⟩;have hz1: ∀y∈List.take (((zw more).length:Int)).toNat (List.replicate (((zw more).length:Int)).toNat JM),y.length=3:=by
     rw[hzr];exact λy hy=>Q9 _ y (List.mem_of_mem_take hy)
    have hzl:(rowD x).length+(List.take (((zw more).length:Int)).toNat (List.replicate (((zw more).length:Int)).toNat JM)).length<=1000000:=by
     rw[hzr];simp[zo];omega
    have hzE:List.take ((rowD x).length+(List.take (((zw more).length:Int)).toNat (List.replicate (((zw more).length:Int)).toNat JM)).length) (List.take (rowD x).length (rowD x)++List.take (((zw more).length:Int)).toNat (List.replicate (((zw more).length:Int)).toNat JM))=rowD (x++List.replicate more.length yp):=by
     rw[hzr,hmn,show List.take more.length (rowD (List.replicate more.length yp))=rowD (List.replicate more.length yp)by rw[show more.length=(rowD (List.replicate more.length yp)).length by simp[zo]];simp[rowD],List.take_length,vL,show(rowD x).length+(rowD (List.replicate more.length yp)).length=(rowD (x++List.replicate more.length yp)).length by simp[zo],List.take_length]
    unfold JM at hzE;(conv=>whnf)
    repeat' (first
     |(refine Sat.mono hcl ?_;rintro _ (⟨hnil,rfl⟩|rfl);(subst hnil;simp at hx3;omega);(conv=>whnf))
     |(refine⟨hz1,by unfold ye;have:=hzl;exact Nat.le_trans (Nat.mul_le_mul_right _ this) (by omega),Nat.le_trans hzl (by omega),?_⟩;conv=>whnf)
     |(refine⟨by simp,by unfold ye;simp;omega,by simp;omega,?_⟩;conv=>whnf)
     |(refine⟨hlt,trivial,ze ?_⟩;(conv=>whnf);rw[wi,htu,hnx,hzE,vt,List.length_append];rfl)
     |(refine And.intro ?_ ?_<;>conv=>whnf))
   ·have hnx:(ar.take (i+1)).map (wg p p2 left right more br)=U++[x++zn br[b.toNat] more]:=hnx;have hgz:(zj br)[b.toNat]? =some [.sl (rowD br[b.toNat])]:=by simp[zj,List.getElem?_eq_getElem hbl]
    have hpm:=ZD br[b.toNat] more (by omega) (hy _ (List.getElem_mem hbl)).2.1;have hpl:(zn br[b.toNat] more).length=more.length:=by simp[zn]
    generalize br[b.toNat]=z at*;generalize zn z more=F at*;have hmn:(((zw more).length:Int)).toNat=more.length:=by rw[yu];simp
    have hz1: ∀y∈rowD F,y.length=3:=Q9 _;have hzl:(rowD x).length+(rowD F).length<=1000000:=by simp only[zo];omega
    have hzE:List.take ((rowD x).length+(rowD F).length) (List.take (rowD x).length (rowD x)++rowD F)=rowD (x++F):=by
     rw[List.take_length,vL,show(rowD x).length+(rowD F).length=(rowD (x++F)).length by simp[zo],List.take_length]
    (conv=>whnf);refine⟨by omega,by omega,by unfold ye;rw[hmn];omega,by rw[yu];omega,?_⟩;(conv=>whnf);refine zd (λh2=>?_) (λh2=>?_)
    ·(conv=>whnf);refine⟨hb0,_,hgz,rfl,?_⟩;(conv=>whnf);refine Sat.cal (hpm) ?_;(conv=>whnf)
     repeat' (first
      |(refine Sat.mono hcl ?_;rintro _ (⟨hnil,rfl⟩|rfl);(subst hnil;simp at hx3;omega);(conv=>whnf))
      |(refine⟨hz1,by unfold ye;have:=hzl;exact Nat.le_trans (Nat.mul_le_mul_right _ this) (by omega),Nat.le_trans hzl (by omega),?_⟩;conv=>whnf)
      |(refine⟨by simp,by unfold ye;simp;omega,by simp;omega,?_⟩;conv=>whnf)
      |(refine⟨hlt,trivial,ze ?_⟩;(conv=>whnf);rw[wi,htu,hnx,hzE,vt,List.length_append];rfl)
      |(refine And.intro ?_ ?_<;>conv=>whnf))
    ·have h2: ¬b>=0:=of_decide_eq_false h2;omega
  ·have hge:ar.length<=i:=by have:=of_decide_eq_false h1;omega
   rw[hend hge];clear hL0;(conv=>whnf);refine⟨rfl,?_⟩;refine Eq.trans (b:=⟨.tup [.agg [.d (.sl (zi cols)),.d (.sl ((zj U).take U.length))],.c (int 0)],[]⟩) rfl ?_;rw[htu];rfl
def nrQ (a b:Tbl)(on:List ByteArray):Res:=bif (Y8 8 on a b).1 !=0 then wE ⟨[],[]⟩ (Y8 8 on a b).1 else
 wE ⟨(Y8 8 on a b).2,a.rows.map (wg (zh a.cols sFrom) (zh b.cols sFrom) (zm a.cols on) (zm b.cols on) (oth (on++[sFrom]) 0 b.cols) b.rows)⟩ 0
theorem aoh (a b:Tbl)(on:List ByteArray)(hon:on.length<=100000)(hac:a.cols.length<=1000000)(hbc:b.cols.length<=1000000):Sat Pg WF [a.w,b.w,.c (.d (.sl (zp on)))] (λr=>r=nrQ a b on):=by
 have hc:=agL 8 on a b (by omega) hac hbc;have hok:=@apm 8 on a b (by omega);have hpa:=vw a.cols (.sl (zj a.rows)) on (by omega);have hpb:=vw b.cols (.sl (zj b.rows)) on (by omega);have hsa:=qM a.cols (.d (.sl (zj a.rows))) sFrom ⟨_,rfl⟩;have hsb:=qM b.cols (.d (.sl (zj b.rows))) sFrom ⟨_,rfl⟩;have hre:=amS b.cols (.sl (zj b.rows)) (on++[sFrom]) hbc;have hcl:=Vp on (by omega);have hre2:Sat Pg XZ [b.w,.c (.d (.sl (List.take ((zp on).length+(List.take 1 (zp [sFrom])).length) (List.take (zp on).length (zp on)++List.take 1 (zp [sFrom])))))] (λr=>r=rC (.d (.sl (zw (oth (on++[sFrom]) 0 b.cols))))):=by
  rw[show List.take ((zp on).length+(List.take 1 (zp [sFrom])).length) (List.take (zp on).length (zp on)++List.take 1 (zp [sFrom]))=zp (on++[sFrom])by
   rw[List.take_length,show List.take 1 (zp [sFrom])=zp [sFrom]from rfl,aju,show(zp on).length+(zp [sFrom]).length=(zp (on++[sFrom])).length by simp[zK],List.take_length]]
  exact hre
 unfold nrQ;generalize Y8 8 on a b=c at*;obtain⟨c1,c2⟩:=c;simp only at hok⊢;refine z0 ?_;obtain⟨ac,ar⟩:=a;obtain⟨bc,br⟩:=b;simp only at*;refine zg T8 KH (by kernel_rfl) ?_
 conv=>whnf
 refine Sat.cal (hc) ?_
 conv=>whnf
 refine zd (λh1=>?_) (λh1=>?_)
 ·rw[show(c1 !=0)=true from h1];(conv=>whnf);exact⟨rfl,rfl⟩
 ·have h1:(c1 !=0)=false:=h1;rw[h1];have h10:c1=0:=by simpa using h1
  subst h10;obtain⟨ka,kb,hj⟩:=hok rfl;obtain⟨i1,i2⟩:=gm hj.jn;have i3:=WB hj.i1;have i4:=WB hj.i2;have wa:=Xl ka;have wb:=Xl kb;have fa:=u6 ka;have fb:=u6 kb;have ol:=aif (on++[sFrom]) bc 0;have oi:=ar9 (on++[sFrom]) bc;have l1:(zm ac on).length=on.length:=by simp[zm]
  have l2:(zm bc on).length=on.length:=by simp[zm]
  have q1:0<=zh ac sFrom /\zh ac sFrom<ac.length:=i3 _ (List.mem_cons_self ..);have q2:0<=zh bc sFrom /\zh bc sFrom<bc.length:=i4 _ (List.mem_cons_self ..)
  have hm:=λ(s:S)=>axf (s:=s) c2 bc br (zm ac on) (zm bc on) (zh ac sFrom) (zh bc sFrom) (oth (on++[sFrom]) 0 bc) ar (by have:=fa.2;simp only at this;omega) (by have:=fb.2;simp only at this;omega) (by omega) (by omega) (by have:=fb.1;simp only at this;omega)
   (λx hx=>by have h2:=wa x hx;have:=fa.1;simp only at this h2;exact⟨by omega,by rw[h2];exact i1,by rw[h2];exact q1⟩)
   (λy hy=>by have h2:=wb y hy;simp only at h2;exact⟨by rw[h2];exact i2,by rw[h2];exact oi,by rw[h2];exact q2⟩)
  clear i1 i2 i3 i4 wa wb fa fb ol oi l1 l2 hj ka kb hok h1 q1 q2;generalize zh ac sFrom=p at*;generalize zh bc sFrom=p2 at*;generalize zm ac on=left at*;generalize zm bc on=right at*;generalize oth (on++[sFrom]) 0 bc=more at*;(conv=>whnf);refine Sat.cal (hpa) ?_;(conv=>whnf);refine Sat.cal (hpb) ?_;(conv=>whnf);refine Sat.cal (hsa) ?_;(conv=>whnf);refine Sat.cal (hsb) ?_;(conv=>whnf)
  repeat' (first
   |(refine Sat.mono hsa ?_;rintro _ rfl;conv=>whnf)
   |(refine Sat.mono hsb ?_;rintro _ rfl;conv=>whnf)
   |(refine Sat.mono hcl ?_;rintro _ (⟨hnil,rfl⟩|rfl)<;>conv=>whnf)
   |(refine⟨by simp,by unfold ye;simp only[zK];simp;omega,by simp only[zK];simp;omega,?_⟩;conv=>whnf)
   |(refine⟨by simp,by unfold ye;simp,by simp,?_⟩;conv=>whnf)
   |(refine Sat.mono hre2 ?_;rintro _ rfl;conv=>whnf)
   |(subst hnil;refine Sat.mono hre ?_;rintro _ rfl;conv=>whnf)
   |(refine And.intro ?_ ?_<;>conv=>whnf))
  all_goals rw[zA]
  all_goals refine hm _ ⟨_,Kp 15 1 139 1 (by omega) (by omega) rfl,?_⟩
  all_goals conv=>whnf
  all_goals rfl
end Go.Proofs.YtnlbmefhdiabcaaGreat
namespace Go.Proofs.YtnlbmefhdiabcaaGreat
open Go Go.AM
attribute [local irreducible] Sat zu zS
set_option maxRecDepth 100000
set_option maxHeartbeats 2000000
variable {α:Type}(d0 d1 d2:α ->D)
def yr (l:List α):List (List D):=l.map λx=> [d0 x,d1 x,d2 x]
theorem y6 {l:List α}{i:Nat}{x:α}(h:l[i]? =some x):(yr d0 d1 d2 l)[i]? =some [d0 x,d1 x,d2 x]:=by simp[yr,h]
theorem YR (l:List α)(i:Nat)(x:α):(yr d0 d1 d2 l).set i [d0 x,d1 x,d2 x]=yr d0 d1 d2 (l.set i x):=by simp[yr]
theorem k7 {l:List α}{i j:Nat}{x y:α}(h:l[j]? =some y): ∃z:α,((yr d0 d1 d2 l).set i [d0 x,d1 x,d2 x])[j]? =some [d0 z,d1 z,d2 z]:=by
 have hj:j<l.length:=(List.getElem?_eq_some_iff.1 h).1;rw[YR];exact⟨(l.set i x)[j]'(by simpa using hj),y6 d0 d1 d2 (List.getElem?_eq_getElem _)⟩
def awm (g:FuncId)(n a b i:Nat)(els:List (List D)):S:=⟨[(0,cV (.own 100000 3 n)),(1,zf a),(2,zf b),(3,.w (.c (.d (.fn g [])))),(8,zf i)],[(100000,.arr 3 els false)]⟩
def arP (g:FuncId)(n a b i j:Nat)(els:List (List D)):S:=⟨[(0,cV (.own 100000 3 n)),(1,zf a),(2,zf b),(3,.w (.c (.d (.fn g [])))),(8,zf i),(9,zf j)],[(100000,.arr 3 els false)]⟩
theorem akD (g:FuncId)(c:α ->α ->Int)(hcc:CmpOK c)(R:α ->α ->Prop)(hg: ∀x y:α,R x y ->Sat Pg g [(.agg [.d (d0 y),.d (d1 y),.d (d2 y)]),(.agg [.d (d0 x),.d (d1 x),.d (d2 x)])] (λr=> ∃z,r=rI z /\(z<0↔c y x<0)))(l:List α)(a b:Nat)(hab:a<=b)(hb:b<=l.length)(hl:l.length<=1000000)(hpr:u9 R a b l):
 zu Pg wQ [.c (.own 0 3 l.length),.c (int a),.c (int b),.c (.d (.fn g []))] [.arr 3 (yr d0 d1 d2 l) false]
  (λr=> ∃l':List α,PermW a b l l' /\zB c a b l' /\r=⟨.tup [],[.arr 3 (yr d0 d1 d2 l') false]⟩):=by
 have wa:IntKind.i64.wrap ((a:Int)+1)=((a+1:Nat):Int):=zx (n:=1000001) (by omega) (by omega);refine xT T8 jT (by kernel_rfl) (by simp) ?_
 conv=>whnf
 refine yv (P:=Pg) (f:=T8.f) (body:=qS) (λx:Nat×List α=>awm g l.length a b x.1 (yr d0 d1 d2 x.2)) (λx=>b - x.1)
  (λx=>a<x.1 /\(x.1<=b\/(x.1=a+1 /\x.2=l))/\PermW a x.1 l x.2 /\zB c a x.1 x.2)
  ⟨(a+1,l),⟨by show a<a+1;omega,.inr ⟨rfl,rfl⟩,PermW.refl _ _ _,zB.one _ _ _ (Nat.le_refl _)⟩,ze ?_⟩ ?_
 ·(conv=>whnf);rw[wa];rfl
 ·rintro⟨i,l1⟩ hR;have hS:a<i /\(i<=b\/(i=a+1 /\l1=l))/\PermW a i l l1 /\zB c a i l1:=hR;clear hR;obtain⟨g1,g2,g3,g4⟩:=hS;(conv=>whnf);refine zd (λh1=>?_) (λh1=>?_)
  ·have hib:i<b:=by have h1:decide ((i:Int)<(b:Int))=true:=h1;have:=of_decide_eq_true h1;omega
   have wi:IntKind.i64.wrap ((i:Int)+1)=((i+1:Nat):Int):=zx hib (by omega);(conv=>whnf)
   refine yv (P:=Pg) (f:=T8.f) (body:=qR) (λx:Nat×List α=>arP g l.length a b i x.1 (yr d0 d1 d2 x.2)) (λx=>x.1)
    (λx=>a<=x.1 /\x.1<=i /\PermW a (i+1) l x.2 /\QG c a i x.1 x.2 /\VX R a x.1 x.2)
    ⟨(i,l1),⟨by show a<=i;omega,Nat.le_refl _,g3.mono (Nat.le_refl _) (by omega),QG.start g4,VX.start hpr g3 hib⟩,ze ?_⟩ ?_
   ·(conv=>whnf);rfl
   ·rintro⟨j,l2⟩ hR;have hS:a<=j /\j<=i /\PermW a (i+1) l l2 /\QG c a i j l2 /\VX R a j l2:=hR;clear hR;obtain⟨k1,k2,k3,k4,k6⟩:=hS;have k5:=k3.len;(conv=>whnf);refine zd (λh2=>?_) (λh2=>?_)
    ·have hja:a<j:=by have h2:decide ((j:Int)>(a:Int))=true:=h2;have:=of_decide_eq_true h2;omega
     have wj:IntKind.i64.wrap ((j:Int) - 1)=((j - 1:Nat):Int):=JL (by omega) (by omega);obtain⟨x,hx⟩:=yG (l:=l2) (i:=j - 1) (by omega);obtain⟨y,hy⟩:=yG (l:=l2) (i:=j) (by omega);(conv=>whnf);refine⟨by show(0:Int)<=(j:Int);omega,by show(j:Int)<(l.length:Int);omega,?_⟩;(conv=>whnf);refine⟨_,y6 d0 d1 d2 hy,?_⟩;(conv=>whnf);rw[wj];refine⟨by omega,by omega,?_⟩;(conv=>whnf);refine⟨_,y6 d0 d1 d2 hx,?_⟩;(conv=>whnf);refine Sat.mono (hg x y (k6 (j - 1) x y (by omega) (by omega) hx hy)) ?_;rintro _ ⟨z,rfl,hz⟩;(conv=>whnf);refine zd (λh3=>?_) (λh3=>?_)
     ·have hlt:c y x<0:=hz.1 (of_decide_eq_true h3);(conv=>whnf);rw[wj];refine⟨by omega,by omega,?_⟩;(conv=>whnf);refine⟨_,y6 d0 d1 d2 hx,?_⟩;(conv=>whnf);refine⟨by show(0:Int)<=(j:Int);omega,by show(j:Int)<(l.length:Int);omega,?_⟩;(conv=>whnf);refine⟨_,y6 d0 d1 d2 hy,?_⟩;(conv=>whnf);refine⟨by show(0:Int)<=(j:Int);omega,by show(j:Int)<(l.length:Int);omega,?_⟩;(conv=>whnf);refine⟨_,y6 d0 d1 d2 hy,Nat.le_refl _,?_⟩;(conv=>whnf);refine⟨by omega,by omega,?_⟩;obtain⟨z1,hz1⟩:=k7 d0 d1 d2 (i:=j) (x:=x) hx;(conv=>whnf);refine⟨_,hz1,Nat.le_refl _,?_⟩;(conv=>whnf);refine⟨(j - 1,jL l2 j (j - 1) y x),⟨⟨by show a<=j - 1;omega,by show j - 1<=i;omega,k3.trans (acB hy hx (by omega) (by omega) (by omega) (by omega)),k4.step hcc hja k2 hx hy hlt,k6.step hja hx hy⟩,by show j - 1<j;omega⟩,ze ?_⟩;(conv=>whnf);rw[wj];have e:((yr d0 d1 d2 l2).set j [d0 x,d1 x,d2 x]).set (j - 1) [d0 y,d1 y,d2 y]=yr d0 d1 d2 (jL l2 j (j - 1) y x):=by rw[YR,YR];rfl
      exact congrArg (arP g l.length a b i (j - 1)) e
     ·have hge: ¬c y x<0:=λh=>(of_decide_eq_false h3: ¬z<0) (hz.2 h)
      (conv=>whnf);refine⟨(i+1,l2),⟨⟨by show a<i+1;omega,.inl (by show i+1<=b;omega),k3,?_⟩,by show b -(i+1)<b - i;omega⟩,ze ?_⟩
      ·exact k4.stop hcc k2 (.inr ⟨x,y,hx,hy,by omega⟩)
      ·(conv=>whnf);rw[wi];rfl
    ·have hja:j<=a:=by have h2:decide ((j:Int)>(a:Int))=false:=h2;have:=of_decide_eq_false h2;omega
     (conv=>whnf);refine⟨(i+1,l2),⟨⟨by show a<i+1;omega,.inl (by show i+1<=b;omega),k3,?_⟩,by show b -(i+1)<b - i;omega⟩,ze ?_⟩
     ·exact k4.stop hcc k2 (.inl hja)
     ·(conv=>whnf);rw[wi];rfl
  ·have hib:b<=i:=by have h1:decide ((i:Int)<(b:Int))=false:=h1;have:=of_decide_eq_false h1;omega
   (conv=>whnf);refine⟨l1,?_,g4.mono (Nat.le_refl _) hib,rfl⟩;rcases g2 with g2|⟨_,g2⟩
   ·exact g3.mono (Nat.le_refl _) g2
   ·rw[g2];exact PermW.refl _ _ _
end Go.Proofs.YtnlbmefhdiabcaaGreat
namespace Go.Proofs.YtnlbmefhdiabcaaGreat
open Go Go.AM
attribute [local irreducible] Sat zu zS
set_option maxRecDepth 100000
set_option maxHeartbeats 2000000
variable {α:Type}(d0 d1 d2:α ->D)
def auU (n a b k i:Nat)(els:List (List D)):S:=⟨[(0,cV (.own 100000 3 n)),(1,zf a),(2,zf b),(3,zf k),(10,zf i)],[(100000,.arr 3 els false)]⟩
theorem agI (g:FuncId)(P X M Y S:List α)(h:X.length=Y.length)(N a b n:Nat)(hN:N=(P++X++M++Y++S).length)(ha:a=P.length)(hn:n=X.length)(hb:b=P.length+X.length+M.length)(hl:N<=1000000):
 zu Pg vZ [.c (.own 0 3 N),.c (int a),.c (int b),.c (int n),.c (.d (.fn g []))] [.arr 3 (yr d0 d1 d2 (P++X++M++Y++S)) false]
  (λr=>r=⟨.tup [],[.arr 3 (yr d0 d1 d2 (P++Y++M++X++S)) false]⟩):=by
 have hsz:P.length+X.length+M.length+Y.length+S.length=N:=by rw[hN];simp;omega
 obtain⟨l0,hl0⟩: ∃l0,l0=P++X++M++Y++S:=⟨_,rfl⟩;rw[<- hl0];refine xT T8 Yb (by kernel_rfl) (by simp) ?_
 conv=>whnf
 refine zF (P:=Pg) (f:=T8.f) (body:=wZ) n (λi=>auU N a b n i (yr d0 d1 d2 (Qh P X M Y S i))) (λ_=>True) ⟨trivial,ze ?_⟩ ?_
 ·(conv=>whnf);rw[hl0,<- anl];rfl
 ·intro i hi _;have hlen:=aph P X M Y S i h (by omega);rw[<- hN]at hlen;(conv=>whnf);refine zd (λh1=>?_) (λh1=>?_)
  ·have hlt:i<n:=by have h1:decide ((i:Int)<(n:Int))=true:=h1;have:=of_decide_eq_true h1;omega
   obtain⟨x,y,hx,hy,hs⟩:=ank P X M Y S i h (by omega);rw[<- hb]at hy hs;rw[<- ha]at hx hs;have wi:IntKind.i64.wrap ((i:Int)+1)=((i+1:Nat):Int):=zx hlt (by omega);have wa:IntKind.i64.wrap ((a:Int)+(i:Int))=((a+i:Nat):Int):=by rw[zM (by omega) (by omega)];omega
   have wb:IntKind.i64.wrap ((b:Int)+(i:Int))=((b+i:Nat):Int):=by rw[zM (by omega) (by omega)];omega
   (conv=>whnf);rw[wb];refine⟨by omega,by omega,?_⟩;(conv=>whnf);refine⟨_,y6 d0 d1 d2 hy,?_⟩;(conv=>whnf);rw[wa];refine⟨by omega,by omega,?_⟩;(conv=>whnf);refine⟨_,y6 d0 d1 d2 hx,?_⟩;(conv=>whnf);refine⟨by omega,by omega,?_⟩;(conv=>whnf);refine⟨_,y6 d0 d1 d2 hx,Nat.le_refl _,?_⟩;(conv=>whnf);refine⟨by omega,by omega,?_⟩;obtain⟨z1,hz1⟩:=k7 d0 d1 d2 (i:=a+i) (x:=y) hy;(conv=>whnf);refine⟨_,hz1,Nat.le_refl _,?_⟩;(conv=>whnf);refine⟨hlt,trivial,ze ?_⟩;(conv=>whnf);rw[wi];have e:((yr d0 d1 d2 (Qh P X M Y S i)).set (a+i) [d0 y,d1 y,d2 y]).set (b+i) [d0 x,d1 x,d2 x]=yr d0 d1 d2 (Qh P X M Y S (i+1)):=by rw[YR,YR,<- hs];rfl
   exact congrArg (auU N a b n (i+1)) e
  ·have hge:n<=i:=by have h1:decide ((i:Int)<(n:Int))=false:=h1;have:=of_decide_eq_false h1;omega
   obtain rfl:i=n:=by omega
   (conv=>whnf);have e:=apg P X M Y S h;rw[<- hn]at e;exact congrArg (λl=>(⟨.tup [],[.arr 3 (yr d0 d1 d2 l) false]⟩:Res)) e
end Go.Proofs.YtnlbmefhdiabcaaGreat
namespace Go.Proofs.YtnlbmefhdiabcaaGreat
open Go Go.AM
attribute [local irreducible] Sat zu zS
set_option maxRecDepth 100000
set_option maxHeartbeats 2000000
variable {α:Type}(d0 d1 d2:α ->D)
theorem Y5 (g:FuncId)(P X M Y S l l':List α)(h1:l=P++X++M++Y++S)(h2:l'=P++Y++M++X++S)(h:X.length=Y.length)(N a b n:Nat)(hN:N=l.length)(ha:a=P.length)(hn:n=X.length)(hb:b=P.length+X.length+M.length)(hl:N<=1000000):
 zu Pg vZ [.c (.own 0 3 N),.c (int a),.c (int b),.c (int n),.c (.d (.fn g []))] [.arr 3 (yr d0 d1 d2 l) false]
  (λr=>r=⟨.tup [],[.arr 3 (yr d0 d1 d2 l') false]⟩):=by
 subst h1 h2;exact agI d0 d1 d2 g P X M Y S h N a b n hN ha hn hb hl
structure Rt_p (α:Type) where
 P:List α
 A:List α
 B:List α
 S:List α
def Rt_p.l (x:Rt_p α):List α:=x.P++x.A++x.B++x.S
def Rt_p.t (x:Rt_p α):List α:=x.P++x.B++x.A++x.S
def abQ (g:FuncId)(n m i j:Nat)(els:List (List D)):S:=⟨[(0,cV (.own 100000 3 n)),(2,zf m),(4,.w (.c (.d (.fn g [])))),(10,zf i),(11,zf j)],[(100000,.arr 3 els false)]⟩
theorem amT (g:FuncId)(x0:Rt_p α)(N a m b:Nat)(hN:N=x0.l.length)(ha:a=x0.P.length)(hm:m=a+x0.A.length)(hb:b=m+x0.B.length)(hA:0<x0.A.length)(hB:0<x0.B.length)(hl:N<=1000000):
 zu Pg u0 [.c (.own 0 3 N),.c (int a),.c (int m),.c (int b),.c (.d (.fn g []))] [.arr 3 (yr d0 d1 d2 x0.l) false]
  (λr=>r=⟨.tup [],[.arr 3 (yr d0 d1 d2 x0.t) false]⟩):=by
 have hsz:x0.P.length+x0.A.length+x0.B.length+x0.S.length=N:=by rw[hN];simp[Rt_p.l];omega
 have w1:IntKind.i64.wrap ((m:Int) -(a:Int))=((x0.A.length:Nat):Int):=by rw[zM (by omega) (by omega)];omega
 have w2:IntKind.i64.wrap ((b:Int) -(m:Int))=((x0.B.length:Nat):Int):=by rw[zM (by omega) (by omega)];omega
 refine xT T8 Xp (by kernel_rfl) (by simp) ?_
 conv=>whnf
 refine yv (P:=Pg) (f:=T8.f) (body:=vX) (λx:Rt_p α=>abQ g N m x.A.length x.B.length (yr d0 d1 d2 x.l)) (λx=>x.A.length+x.B.length)
  (λx=>x.P.length+x.A.length=m /\0<x.A.length /\0<x.B.length /\x.l.length=N /\x.t=x0.t)
  ⟨x0,⟨by omega,hA,hB,hN.symm,rfl⟩,ze ?_⟩ ?_
 ·(conv=>whnf);rw[w1,w2];rfl
 ·rintro⟨P,A,B,S⟩ hR;have hS:P.length+A.length=m /\0<A.length /\0<B.length /\(P++A++B++S).length=N /\P++B++A++S=x0.t:=hR;clear hR;obtain⟨g1,g2,g3,g4,g5⟩:=hS;have g6:P.length+A.length+B.length+S.length=N:=by rw[<- g4];simp;omega
  have wmi:IntKind.i64.wrap ((m:Int) -(A.length:Int))=((P.length:Nat):Int):=by rw[zM (by omega) (by omega)];omega
  (conv=>whnf);refine zd (λh1=>?_) (λh1=>?_)
  ·have hne:A.length≠B.length:=by
    intro e;have h1:(((A.length:Nat):Int) !=((B.length:Nat):Int))=true:=h1;rw[e]at h1;simp at h1
   (conv=>whnf);refine zd (λh2=>?_) (λh2=>?_)
   ·have hgt:B.length<A.length:=by have h2:decide ((A.length:Int)>(B.length:Int))=true:=h2;have:=of_decide_eq_true h2;omega
    have wij:IntKind.i64.wrap ((A.length:Int) -(B.length:Int))=(((A.drop B.length).length:Nat):Int):=by rw[zM (by omega) (by omega),List.length_drop];omega
    have e1:(A.take B.length).length=B.length:=by rw[List.length_take];omega
    have e2:(A.drop B.length).length=A.length - B.length:=List.length_drop;have e3:A.take B.length++A.drop B.length=A:=List.take_append_drop _ _;(conv=>whnf);rw[wmi];obtain⟨l',hl'⟩: ∃l',l'=(P++B)++A.drop B.length++A.take B.length++S:=⟨_,rfl⟩;refine zu.mono (Y5 d0 d1 d2 g P (A.take B.length) (A.drop B.length) B S (P++A++B++S) l' ?_ hl' e1 N P.length m B.length g4.symm rfl e1.symm (by omega) hl) ?_
    ·rw[List.append_assoc P (A.take _),e3]
    rintro _ rfl;(conv=>whnf);refine⟨⟨P++B,A.drop B.length,A.take B.length,S⟩,⟨⟨?_,?_,?_,?_,?_⟩,?_⟩,ze ?_⟩
    ·show(P++B).length+(A.drop B.length).length=m;rw[e2,List.length_append];omega
    ·show 0<(A.drop B.length).length;omega
    ·show 0<(A.take B.length).length;omega
    ·show((P++B)++A.drop B.length++A.take B.length++S).length=N;simp only[List.length_append,e1,e2];omega
    ·show(P++B)++A.take B.length++A.drop B.length++S=x0.t;rw[<- g5,List.append_assoc (P++B) (A.take _),e3]
    ·show(A.drop B.length).length+(A.take B.length).length<A.length+B.length;omega
    ·(conv=>whnf);rw[wij];show abQ g N m (A.drop B.length).length B.length (yr d0 d1 d2 l')=abQ g N m (A.drop B.length).length (A.take B.length).length (yr d0 d1 d2 ((P++B)++A.drop B.length++A.take B.length++S));rw[e1,hl']
   ·have hlt:A.length<B.length:=by have h2:decide ((A.length:Int)>(B.length:Int))=false:=h2;have:=of_decide_eq_false h2;omega
    have e1:(B.take (B.length - A.length)).length=B.length - A.length:=by rw[List.length_take];omega
    have e2:(B.drop (B.length - A.length)).length=A.length:=by rw[List.length_drop];omega
    have e3:B.take (B.length - A.length)++B.drop (B.length - A.length)=B:=List.take_append_drop _ _;have wji:IntKind.i64.wrap ((B.length:Int) -(A.length:Int))=(((B.take (B.length - A.length)).length:Nat):Int):=by rw[zM (by omega) (by omega),e1];omega
    have wmj:IntKind.i64.wrap ((m:Int)+(B.length:Int))=((m+B.length:Nat):Int):=by rw[zM (by omega) (by omega)];omega
    have wk:IntKind.i64.wrap (((m+B.length:Nat):Int) -(A.length:Int))=((m+B.length - A.length:Nat):Int):=by rw[zM (by omega) (by omega)];omega
    (conv=>whnf);rw[wmi,wmj,wk];obtain⟨l',hl'⟩: ∃l',l'=P++B.drop (B.length - A.length)++B.take (B.length - A.length)++(A++S):=⟨_,rfl⟩;refine zu.mono (Y5 d0 d1 d2 g P A (B.take (B.length - A.length)) (B.drop (B.length - A.length)) S (P++A++B++S) l' ?_ ?_ e2.symm N P.length (m+B.length - A.length) A.length g4.symm rfl rfl (by omega) hl) ?_
    ·rw[List.append_assoc (P++A) (B.take _),e3]
    ·rw[hl'];simp only[List.append_assoc]
    rintro _ rfl;(conv=>whnf);refine⟨⟨P,B.drop (B.length - A.length),B.take (B.length - A.length),A++S⟩,⟨⟨?_,?_,?_,?_,?_⟩,?_⟩,ze ?_⟩
    ·show P.length+(B.drop (B.length - A.length)).length=m;omega
    ·show 0<(B.drop (B.length - A.length)).length;omega
    ·show 0<(B.take (B.length - A.length)).length;omega
    ·show(P++B.drop (B.length - A.length)++B.take (B.length - A.length)++(A++S)).length=N;simp only[List.length_append,e1,e2];omega
    ·show P++B.take (B.length - A.length)++B.drop (B.length - A.length)++(A++S)=x0.t;rw[<- g5,List.append_assoc P (B.take _),e3];simp only[List.append_assoc]
    ·show(B.drop (B.length - A.length)).length+(B.take (B.length - A.length)).length<A.length+B.length;omega
    ·(conv=>whnf);rw[wji];show abQ g N m A.length (B.take (B.length - A.length)).length (yr d0 d1 d2 l')=abQ g N m (B.drop (B.length - A.length)).length (B.take (B.length - A.length)).length (yr d0 d1 d2 (P++B.drop (B.length - A.length)++B.take (B.length - A.length)++(A++S)));rw[e2,hl']
  ·have heq:A.length=B.length:=by
    have h1:(((A.length:Nat):Int) !=((B.length:Nat):Int))=false:=h1;rw[bne_eq_false_iff_eq]at h1;omega
   (conv=>whnf);rw[wmi];refine zu.mono (Y5 d0 d1 d2 g P A [] B S (P++A++B++S) (P++B++A++S) (by simp) (by simp) heq N P.length m A.length g4.symm rfl rfl (by simp;omega) hl) ?_;rintro _ rfl;(conv=>whnf);exact congrArg (λl=>(⟨.tup [],[.arr 3 (yr d0 d1 d2 l) false]⟩:Res)) g5
end Go.Proofs.YtnlbmefhdiabcaaGreat
namespace Go.Proofs.YtnlbmefhdiabcaaGreat
open Go Go.AM
attribute [local irreducible] Sat zu zS
set_option maxRecDepth 100000
set_option maxHeartbeats 2000000
variable {α:Type}(d0 d1 d2:α ->D)
def awA (g:FuncId)(n a i j:Nat)(els:List (List D)):S:=⟨[(0,cV (.own 100000 3 n)),(1,zf a),(4,.w (.c (.d (.fn g [])))),(10,zf i),(11,zf j)],[(100000,.arr 3 els false)]⟩
def asK (n i k:Nat)(els:List (List D)):S:=⟨[(0,cV (.own 100000 3 n)),(10,zf i),(13,zf k)],[(100000,.arr 3 els false)]⟩
def awC (g:FuncId)(n m i j:Nat)(els:List (List D)):S:=⟨[(0,cV (.own 100000 3 n)),(2,zf m),(4,.w (.c (.d (.fn g [])))),(14,zf i),(15,zf j)],[(100000,.arr 3 els false)]⟩
def asM (n i k:Nat)(els:List (List D)):S:=⟨[(0,cV (.own 100000 3 n)),(14,zf i),(17,zf k)],[(100000,.arr 3 els false)]⟩
def asO (g:FuncId)(N a m b mid n s r p:Nat)(els:List (List D)):S:=⟨[(0,cV (.own 100000 3 N)),(1,zf a),(2,zf m),(3,zf b),(4,.w (.c (.d (.fn g [])))),(18,zf mid),(19,zf n),(20,zf s),(21,zf r),(22,zf p)],[(100000,.arr 3 els false)]⟩
def av1 (g:FuncId)(c:α ->α ->Int)(R:α ->α ->Prop)(N k:Nat):Prop:= ∀(l:List α) (a m b:Nat),b - a<=k ->a<m ->m<b ->b<=l.length ->l.length=N ->zB c a m l ->zB c m b l ->JP R a m m b l ->
    zu Pg XY [.c (.own 0 3 N),.c (int a),.c (int m),.c (int b),.c (.d (.fn g []))] [.arr 3 (yr d0 d1 d2 l) false]
     (λr=> ∃l':List α,PermW a b l l' /\zB c a b l' /\r=⟨.tup [],[.arr 3 (yr d0 d1 d2 l') false]⟩)
def jp (c:α ->α ->Int)(l:List α)(i j:Nat):Prop:= ∃u v,l[i]? =some u /\l[j]? =some v /\c u v<=0
theorem agZ {l:List α}{i j:Nat}(x y:α):((yr d0 d1 d2 l).set i [d0 y,d1 y,d2 y]).set j [d0 x,d1 x,d2 x]=yr d0 d1 d2 (jL l i j x y):=by rw[YR,YR];rfl
def UH (s m e:Nat)(l:List α):List α:=l.take s++(l.drop m).take (e - m)++(l.drop s).take (m - s)++l.drop e
theorem aam (g:FuncId)(l:List α)(N s m e:Nat)(h1:s<m)(h2:m<e)(h3:e<=l.length)(hN:l.length=N)(hl:N<=1000000):
 zu Pg u0 [.c (.own 0 3 N),.c (int s),.c (int m),.c (int e),.c (.d (.fn g []))] [.arr 3 (yr d0 d1 d2 l) false]
  (λr=>r=⟨.tup [],[.arr 3 (yr d0 d1 d2 (UH s m e l)) false]⟩):=by
 have h:=amT d0 d1 d2 g ⟨l.take s,(l.drop s).take (m - s),(l.drop m).take (e - m),l.drop e⟩ N s m e;simp only[Rt_p.l,Rt_p.t,Va (Nat.le_of_lt h1) (Nat.le_of_lt h2) h3]at h;refine h hN.symm ?_ ?_ ?_ ?_ ?_ hl<;>simp<;>omega
theorem xw {c:α ->α ->Int}{l l1 l2 l3:List α}{a r mid e b:Nat}(hw:PermW r e l l1)(h1:a<=r)(h2:e<=b)(p2:PermW a mid l1 l2)(p3:PermW mid b l2 l3)(h3:a<=mid)(h4:mid<=b)
 (t2:zB c a mid l2) (t3:zB c mid b l3) (s5:LeW c a mid mid b l1):PermW a b l l3 /\zB c a b l3:=
 ⟨(hw.mono h1 h2).trans ((p2.mono (Nat.le_refl _) h4).trans (p3.mono h3 (Nat.le_refl _))),zB.glue (t2.same λi _ i2=>p3.out i (.inl i2)) t3 ((s5.perm p2).perm2 p3)⟩
theorem ku (g:FuncId)(c:α ->α ->Int)(hcc:CmpOK c)(R:α ->α ->Prop)(hg: ∀x y:α,R x y ->Sat Pg g [(.agg [.d (d0 y),.d (d1 y),.d (d2 y)]),(.agg [.d (d0 x),.d (d1 x),.d (d2 x)])] (λr=> ∃z,r=rI z /\(z<0↔c y x<0)))(N:Nat)(hl:N<=1000000): ∀k,av1 d0 d1 d2 g c R N k:=by
 intro k;induction k with
 |zero=>intro l a m b h0 h1 h2;omega
 |succ k ih=>
 intro l a m b h0 h1 h2 hb hN hs1 hs2 hrw;refine xT T8 Yo (by kernel_rfl) (by simp) ?_
 conv=>whnf
 refine zd (λe1=>?_) (λe1=>?_)
 ·have hm:m=a+1:=by
   have e1:(IntKind.i64.wrap ((m:Int) -(a:Int))==1)=true:=e1;rw[zM (by omega) (by omega)]at e1;have:=eq_of_beq e1;omega
  obtain⟨x,hx⟩:=yG (l:=l) (i:=a) (by omega);(conv=>whnf)
  refine yv (P:=Pg) (f:=T8.f) (body:=vm) (λz:Nat×Nat=>awA g N a z.1 z.2 (yr d0 d1 d2 l)) (λz=>z.2 - z.1)
   (λz=>m<=z.1 /\z.1<=z.2 /\z.2<=b /\(z.1=m\/ ∃u,l[z.1 - 1]? =some u /\c u x<=0)/\(z.2=b\/ ∃u,l[z.2]? =some u /\c x u<=0))
   ⟨(m,b),⟨by omega,by omega,by omega,.inl rfl,.inl rfl⟩,ze ?_⟩ ?_
  ·(conv=>whnf);rfl
  ·rintro⟨i,j⟩ hR;have hS:m<=i /\i<=j /\j<=b /\(i=m\/ ∃u,l[i - 1]? =some u /\c u x<=0)/\(j=b\/ ∃u,l[j]? =some u /\c x u<=0):=hR;clear hR;obtain⟨g1,g2,g3,g4,g5⟩:=hS;(conv=>whnf);refine zd (λk1=>?_) (λk1=>?_)
   ·have hij:i<j:=by have k1:decide ((i:Int)<(j:Int))=true:=k1;have:=of_decide_eq_true k1;omega
    have wh:=J4 i j (by omega);obtain⟨h,hh⟩: ∃h,h=(i+j)/2:=⟨_,rfl⟩;rw[<- hh]at wh;obtain⟨u,hu⟩:=yG (l:=l) (i:=h) (by omega);have w1:IntKind.i64.wrap ((h:Int)+1)=((h+1:Nat):Int):=zx (n:=b) (by omega) (by omega);(conv=>whnf);refine⟨by decide,?_⟩;(conv=>whnf);rw[wh];refine⟨by omega,by omega,?_⟩;(conv=>whnf);refine⟨_,y6 d0 d1 d2 hu,?_⟩;(conv=>whnf);refine⟨by omega,by omega,?_⟩;(conv=>whnf);refine⟨_,y6 d0 d1 d2 hx,?_⟩;(conv=>whnf);refine Sat.mono (hg x u (hrw a h x u (Nat.le_refl _) (by omega) (by omega) (by omega) hx hu)) ?_;rintro _ ⟨z,rfl,hz⟩;(conv=>whnf);refine zd (λk2=>?_) (λk2=>?_)
    ·have hlt:c u x<0:=hz.1 (of_decide_eq_true k2);(conv=>whnf);refine⟨(h+1,j),⟨⟨by show m<=h+1;omega,by show h+1<=j;omega,g3,.inr ⟨u,hu,by omega⟩,g5⟩,by show j -(h+1)<j - i;omega⟩,ze ?_⟩;(conv=>whnf);rw[w1];rfl
    ·have hge: ¬c u x<0:=λh=>(of_decide_eq_false k2: ¬z<0) (hz.2 h)
     (conv=>whnf);refine⟨(i,h),⟨⟨g1,by show i<=h;omega,by show h<=b;omega,g4,.inr ⟨u,hu,hcc.ge.1 (by omega)⟩⟩,by show h - i<j - i;omega⟩,ze ?_⟩;(conv=>whnf);rfl
   ·have hij:j=i:=by have k1:decide ((i:Int)<(j:Int))=false:=k1;have:=of_decide_eq_false k1;omega
    subst hij;have wi:IntKind.i64.wrap ((j:Int) - 1)=((j - 1:Nat):Int):=JL (by omega) (by omega);(conv=>whnf)
    refine yv (P:=Pg) (f:=T8.f) (body:=vo) (λz:Nat×List α=>asK N j z.1 (yr d0 d1 d2 z.2)) (λz=>j - z.1)
     (λz=>a<=z.1 /\z.1<=j - 1 /\PermW a b l z.2 /\ ∀p,z.2[p]? =if a<=p /\p<z.1 then l[p+1]? else if p=z.1 then l[a]? else l[p]?)
     ⟨(a,l),⟨Nat.le_refl _,by omega,PermW.refl _ _ _,λp=>?_⟩,ze ?_⟩ ?_
    ·rw[if_neg (by omega)];split
     ·rename_i e;rw[e]
     ·rfl
    ·(conv=>whnf);rfl
    ·rintro⟨q,l1⟩ hR;have hS:a<=q /\q<=j - 1 /\PermW a b l l1 /\ ∀p,l1[p]? =if a<=p /\p<q then l[p+1]? else if p=q then l[a]? else l[p]? :=hR
     clear hR;obtain⟨r1,r2,r3,r4⟩:=hS;have r5:=r3.len;(conv=>whnf);refine zd (λk3=>?_) (λk3=>?_)
     ·have hq:q<j - 1:=by
       have k3:decide ((q:Int)<IntKind.i64.wrap ((j:Int) - 1))=true:=k3;rw[wi]at k3;have:=of_decide_eq_true k3;omega
      have wq:IntKind.i64.wrap ((q:Int)+1)=((q+1:Nat):Int):=zx (n:=b) (by omega) (by omega);obtain⟨u,hu⟩:=yG (l:=l1) (i:=q) (by omega);obtain⟨v,hv⟩:=yG (l:=l1) (i:=q+1) (by omega);obtain⟨z,hz⟩:=k7 d0 d1 d2 (i:=q) (x:=v) hv;(conv=>whnf);rw[wq];refine⟨by omega,by omega,?_⟩;(conv=>whnf);refine⟨_,y6 d0 d1 d2 hv,?_⟩;(conv=>whnf);refine⟨by show(0:Int)<=(q:Int);omega,by show(q:Int)<(N:Int);omega,?_⟩;(conv=>whnf);refine⟨_,y6 d0 d1 d2 hu,?_⟩;(conv=>whnf);refine⟨by show(0:Int)<=(q:Int);omega,by show(q:Int)<(N:Int);omega,?_⟩;(conv=>whnf);refine⟨_,y6 d0 d1 d2 hu,Nat.le_refl _,?_⟩;(conv=>whnf);refine⟨by omega,by omega,?_⟩;(conv=>whnf);refine⟨_,hz,Nat.le_refl _,?_⟩;(conv=>whnf);refine⟨(q+1,jL l1 q (q+1) u v),⟨⟨by show a<=q+1;omega,by show q+1<=j - 1;omega,r3.trans (acB hu hv (by omega) (by omega) (by omega) (by omega)),λp=>?_⟩,by show j -(q+1)<j - q;omega⟩,ze ?_⟩
      ·rw[r4]at hu hv;rw[if_neg (by omega),if_pos rfl]at hu;rw[if_neg (by omega),if_neg (by omega)]at hv;show(jL l1 q (q+1) u v)[p]? =if a<=p /\p<q+1 then l[p+1]? else if p=q+1 then l[a]? else l[p]?
       have hu':l1[q]? =some u:=by rw[r4,if_neg (by omega),if_pos rfl];exact hu
       have hv':l1[q+1]? =some v:=by rw[r4,if_neg (by omega),if_neg (by omega)];exact hv
       rw[Xk hu' hv',r4 p];by_cases p1:p=q+1
       ·rw[if_pos p1,if_neg (by omega),if_pos p1,hu]
       ·rw[if_neg p1];by_cases p2:p=q
        ·rw[if_pos p2,if_pos (by omega),p2,hv]
        ·rw[if_neg p2];by_cases p3:a<=p /\p<q
         ·rw[if_pos p3,if_pos (by omega)]
         ·rw[if_neg p3,if_neg p2,if_neg (by omega),if_neg p1]
      ·(conv=>whnf);rw[wq];exact congrArg (asK N j (q+1)) (agZ d0 d1 d2 u v)
     ·have hq:q=j - 1:=by
       have k3:decide ((q:Int)<IntKind.i64.wrap ((j:Int) - 1))=false:=k3;rw[wi]at k3;have:=of_decide_eq_false k3;omega
      subst hq;(conv=>whnf);exact⟨l1,r3,apf hcc hx (by omega) g3 (hs2.mono (by omega) (Nat.le_refl _)) r4 (by rcases g4 with g4|g4;exact .inl (by omega);exact .inr g4) g5,rfl⟩
 ·have hm:a+1<m:=by
   have e1:(IntKind.i64.wrap ((m:Int) -(a:Int))==1)=false:=e1;rw[zM (by omega) (by omega),beq_eq_false_iff_ne]at e1;omega
  (conv=>whnf);refine zd (λe2=>?_) (λe2=>?_)
  ·have hm2:b=m+1:=by
    have e2:(IntKind.i64.wrap ((b:Int) -(m:Int))==1)=true:=e2;rw[zM (by omega) (by omega)]at e2;have:=eq_of_beq e2;omega
   obtain⟨x,hx⟩:=yG (l:=l) (i:=m) (by omega);(conv=>whnf)
   refine yv (P:=Pg) (f:=T8.f) (body:=vp) (λz:Nat×Nat=>awC g N m z.1 z.2 (yr d0 d1 d2 l)) (λz=>z.2 - z.1)
    (λz=>a<=z.1 /\z.1<=z.2 /\z.2<=m /\(z.1=a\/ ∃u,l[z.1 - 1]? =some u /\c u x<=0)/\(z.2=m\/ ∃u,l[z.2]? =some u /\c x u<=0))
    ⟨(a,m),⟨by omega,by omega,by omega,.inl rfl,.inl rfl⟩,ze ?_⟩ ?_
   ·(conv=>whnf);rfl
   ·rintro⟨i,j⟩ hR;have hS:a<=i /\i<=j /\j<=m /\(i=a\/ ∃u,l[i - 1]? =some u /\c u x<=0)/\(j=m\/ ∃u,l[j]? =some u /\c x u<=0):=hR;clear hR;obtain⟨g1,g2,g3,g4,g5⟩:=hS;(conv=>whnf);refine zd (λk1=>?_) (λk1=>?_)
    ·have hij:i<j:=by have k1:decide ((i:Int)<(j:Int))=true:=k1;have:=of_decide_eq_true k1;omega
     have wh:=J4 i j (by omega);obtain⟨h,hh⟩: ∃h,h=(i+j)/2:=⟨_,rfl⟩;rw[<- hh]at wh;obtain⟨u,hu⟩:=yG (l:=l) (i:=h) (by omega);have w1:IntKind.i64.wrap ((h:Int)+1)=((h+1:Nat):Int):=zx (n:=b) (by omega) (by omega);(conv=>whnf);refine⟨by decide,?_⟩;(conv=>whnf);refine⟨by omega,by omega,?_⟩;(conv=>whnf);refine⟨_,y6 d0 d1 d2 hx,?_⟩;(conv=>whnf);rw[wh];refine⟨by omega,by omega,?_⟩;(conv=>whnf);refine⟨_,y6 d0 d1 d2 hu,?_⟩;(conv=>whnf);refine Sat.mono (hg u x (hrw h m u x (by omega) (by omega) (Nat.le_refl _) (by omega) hu hx)) ?_;rintro _ ⟨z,rfl,hz⟩;(conv=>whnf);refine zd (λk2=>?_) (λk2=>?_)
     ·have hge: ¬c x u<0:=by
       have k2:(!decide (z<0))=true:=k2;rw[<- hz];simpa using k2
      (conv=>whnf);refine⟨(h+1,j),⟨⟨by show a<=h+1;omega,by show h+1<=j;omega,g3,.inr ⟨u,hu,hcc.ge.1 (by omega)⟩,g5⟩,by show j -(h+1)<j - i;omega⟩,ze ?_⟩;(conv=>whnf);rw[w1];rfl
     ·have hlt:c x u<0:=by
       have k2:(!decide (z<0))=false:=k2;rw[<- hz];simpa using k2
      (conv=>whnf);refine⟨(i,h),⟨⟨g1,by show i<=h;omega,by show h<=m;omega,g4,.inr ⟨u,hu,by omega⟩⟩,by show h - i<j - i;omega⟩,ze ?_⟩;(conv=>whnf);rfl
    ·have hij:j=i:=by have k1:decide ((i:Int)<(j:Int))=false:=k1;have:=of_decide_eq_false k1;omega
     subst hij;(conv=>whnf)
     refine yv (P:=Pg) (f:=T8.f) (body:=vq) (λz:Nat×List α=>asM N j z.1 (yr d0 d1 d2 z.2)) (λz=>z.1)
      (λz=>j<=z.1 /\z.1<=m /\PermW a b l z.2 /\ ∀p,z.2[p]? =if z.1<p /\p<=m then l[p - 1]? else if p=z.1 then l[m]? else l[p]?)
      ⟨(m,l),⟨g3,Nat.le_refl _,PermW.refl _ _ _,λp=>?_⟩,ze ?_⟩ ?_
     ·rw[if_neg (by omega)];split
      ·rename_i e;rw[e]
      ·rfl
     ·(conv=>whnf);rfl
     ·rintro⟨q,l1⟩ hR;have hS:j<=q /\q<=m /\PermW a b l l1 /\ ∀p,l1[p]? =if q<p /\p<=m then l[p - 1]? else if p=q then l[m]? else l[p]? :=hR
      clear hR;obtain⟨r1,r2,r3,r4⟩:=hS;have r5:=r3.len;(conv=>whnf);refine zd (λk3=>?_) (λk3=>?_)
      ·have hq:j<q:=by
        have k3:decide ((q:Int)>(j:Int))=true:=k3;have:=of_decide_eq_true k3;omega
       have wq:IntKind.i64.wrap ((q:Int) - 1)=((q - 1:Nat):Int):=JL (by omega) (by omega);obtain⟨u,hu⟩:=yG (l:=l1) (i:=q) (by omega);obtain⟨v,hv⟩:=yG (l:=l1) (i:=q - 1) (by omega);obtain⟨z,hz⟩:=k7 d0 d1 d2 (i:=q) (x:=v) hv;(conv=>whnf);rw[wq];refine⟨by omega,by omega,?_⟩;(conv=>whnf);refine⟨_,y6 d0 d1 d2 hv,?_⟩;(conv=>whnf);refine⟨by show(0:Int)<=(q:Int);omega,by show(q:Int)<(N:Int);omega,?_⟩;(conv=>whnf);refine⟨_,y6 d0 d1 d2 hu,?_⟩;(conv=>whnf);refine⟨by show(0:Int)<=(q:Int);omega,by show(q:Int)<(N:Int);omega,?_⟩;(conv=>whnf);refine⟨_,y6 d0 d1 d2 hu,Nat.le_refl _,?_⟩;(conv=>whnf);refine⟨by omega,by omega,?_⟩;(conv=>whnf);refine⟨_,hz,Nat.le_refl _,?_⟩;(conv=>whnf);refine⟨(q - 1,jL l1 q (q - 1) u v),⟨⟨by show j<=q - 1;omega,by show q - 1<=m;omega,r3.trans (acB hu hv (by omega) (by omega) (by omega) (by omega)),λp=>?_⟩,by show q - 1<q;omega⟩,ze ?_⟩
       ·rw[r4]at hu hv;rw[if_neg (by omega),if_pos rfl]at hu;rw[if_neg (by omega),if_neg (by omega)]at hv;show(jL l1 q (q - 1) u v)[p]? =if q - 1<p /\p<=m then l[p - 1]? else if p=q - 1 then l[m]? else l[p]?
        have hu':l1[q]? =some u:=by rw[r4,if_neg (by omega),if_pos rfl];exact hu
        have hv':l1[q - 1]? =some v:=by rw[r4,if_neg (by omega),if_neg (by omega)];exact hv
        rw[Xk hu' hv',r4 p];by_cases p1:p=q - 1
        ·rw[if_pos p1,if_neg (by omega),if_pos p1,hu]
        ·rw[if_neg p1];by_cases p2:p=q
         ·rw[if_pos p2,if_pos (by omega),p2,hv]
         ·rw[if_neg p2];by_cases p3:q<p /\p<=m
          ·rw[if_pos p3,if_pos (by omega)]
          ·rw[if_neg p3,if_neg p2,if_neg (by omega),if_neg p1]
       ·(conv=>whnf);rw[wq];exact congrArg (asM N j (q - 1)) (agZ d0 d1 d2 u v)
      ·have hq:q=j:=by
        have k3:decide ((q:Int)>(j:Int))=false:=k3;have:=of_decide_eq_false k3;omega
       subst hq;(conv=>whnf);exact⟨l1,r3,by rw[hm2];exact ajf hcc hx g1 g3 hs1 r4 g4 g5,rfl⟩
  ·have hm2:m+1<b:=by
    have e2:(IntKind.i64.wrap ((b:Int) -(m:Int))==1)=false:=e2;rw[zM (by omega) (by omega),beq_eq_false_iff_ne]at e2;omega
   have wh:=J4 a b (by omega);obtain⟨mid,hmid⟩: ∃mid,mid=(a+b)/2:=⟨_,rfl⟩;rw[<- hmid]at wh;have wn:IntKind.i64.wrap ((mid:Int)+(m:Int))=((mid+m:Nat):Int):=by rw[zM (by omega) (by omega)];omega
   have wnb:IntKind.i64.wrap (((mid+m:Nat):Int) -(b:Int))=((mid+m - b:Nat):Int)\/m<=mid:=by
    by_cases h:m<=mid
    ·exact .inr h
    ·exact .inl (by rw[zM (by omega) (by omega)];omega)
   have wp:IntKind.i64.wrap (((mid+m:Nat):Int) - 1)=((mid+m - 1:Nat):Int):=JL (by omega) (by omega);(conv=>whnf);refine⟨by decide,?_⟩;(conv=>whnf);rw[wh];refine zd (λe3=>?_) (λe3=>?_)
   ·have hm3:mid<m:=by
     have e3:decide ((m:Int)>(mid:Int))=true:=e3;have:=of_decide_eq_true e3;omega
    (conv=>whnf);rw[wn]
    refine yv (P:=Pg) (f:=T8.f) (body:=qi) (λz:Nat×Nat=>asO g N a m b mid (mid+m) z.1 z.2 (mid+m - 1) (yr d0 d1 d2 l)) (λz=>z.2 - z.1)
     (λz=>mid+m - b<=z.1 /\z.1<=z.2 /\z.2<=mid /\(z.1=mid+m - b\/jp c l (z.1 - 1) (mid+m - z.1))/\(z.2=mid\/jp c l (mid+m - 1 - z.2) z.2))
     ⟨(mid+m - b,mid),⟨Nat.le_refl _,by show mid+m - b<=mid;omega,Nat.le_refl _,.inl rfl,.inl rfl⟩,ze ?_⟩ ?_
    ·(conv=>whnf);rw[wp,wnb.resolve_right (by omega)];rfl
    ·rintro⟨s,r⟩ hR;have hS:mid+m - b<=s /\s<=r /\r<=mid /\(s=mid+m - b\/jp c l (s - 1) (mid+m - s))/\(r=mid\/jp c l (mid+m - 1 - r) r):=hR;clear hR;obtain⟨g1,g2,g3,g4,g5⟩:=hS;(conv=>whnf);refine zd (λk1=>?_) (λk1=>?_)
     ·have hij:s<r:=by have k1:decide ((s:Int)<(r:Int))=true:=k1;have:=of_decide_eq_true k1;omega
      have wq:=J4 s r (by omega);obtain⟨h,hh⟩: ∃h,h=(s+r)/2:=⟨_,rfl⟩;rw[<- hh]at wq;obtain⟨u,hu⟩:=yG (l:=l) (i:=h) (by omega);obtain⟨v,hv⟩:=yG (l:=l) (i:=mid+m - 1 - h) (by omega);have w1:IntKind.i64.wrap ((h:Int)+1)=((h+1:Nat):Int):=zx (n:=b) (by omega) (by omega);have wv:IntKind.i64.wrap (((mid+m - 1:Nat):Int) -(h:Int))=((mid+m - 1 - h:Nat):Int):=by rw[zM (by omega) (by omega)];omega
      (conv=>whnf);refine⟨by decide,?_⟩;(conv=>whnf);rw[wq,wv];refine⟨by omega,by omega,?_⟩;(conv=>whnf);refine⟨_,y6 d0 d1 d2 hv,?_⟩;(conv=>whnf);refine⟨by omega,by omega,?_⟩;(conv=>whnf);refine⟨_,y6 d0 d1 d2 hu,?_⟩;(conv=>whnf);refine Sat.mono (hg u v (hrw h (mid+m - 1 - h) u v (by omega) (by omega) (by omega) (by omega) hu hv)) ?_;rintro _ ⟨z,rfl,hz⟩;(conv=>whnf);refine zd (λk2=>?_) (λk2=>?_)
      ·have hge: ¬c v u<0:=by
        have k2:(!decide (z<0))=true:=k2;rw[<- hz];simpa using k2
       (conv=>whnf);refine⟨(h+1,r),⟨⟨by show mid+m - b<=h+1;omega,by show h+1<=r;omega,g3,.inr ⟨u,v,hu,?_,hcc.ge.1 (by omega)⟩,g5⟩,by show r -(h+1)<r - s;omega⟩,ze ?_⟩
       ·rw[<- hv];congr 1;show mid+m -(h+1)=_;omega
       (conv=>whnf);rw[w1];rfl
      ·have hlt:c v u<0:=by
        have k2:(!decide (z<0))=false:=k2;rw[<- hz];simpa using k2
       (conv=>whnf);refine⟨(s,h),⟨⟨g1,by show s<=h;omega,by show h<=mid;omega,g4,.inr ⟨v,u,hv,hu,by omega⟩⟩,by show h - s<r - s;omega⟩,ze ?_⟩;(conv=>whnf);rfl
     ·have hij:r=s:=by have k1:decide ((s:Int)<(r:Int))=false:=k1;have:=of_decide_eq_false k1;omega
      subst hij;obtain⟨e,he⟩: ∃e,e=mid+m - r:=⟨_,rfl⟩;have we:IntKind.i64.wrap (((mid+m:Nat):Int) -(r:Int))=(e:Int):=by rw[zM (by omega) (by omega)];omega
      have hb1:r=a\/e=b\/jp c l (r - 1) e:=by
       rcases g4 with g4|⟨u,v,q1,q2,q3⟩
       ·right;left;omega
       ·exact .inr (.inr ⟨u,v,q1,by rw[he];exact q2,q3⟩)
      have hb2:r=m\/e=m\/jp c l (e - 1) r:=by
       rcases g5 with g5|⟨u,v,q1,q2,q3⟩
       ·right;left;omega
       ·refine .inr (.inr ⟨u,v,?_,q2,q3⟩);rw[<- q1];congr 1;omega
      have hpar:=λ(l1:List α) (hr:wV r m e l l1)=>Jz hcc (show a<=r by omega) (show r<=m by omega) (show m<=e by omega) (show e<=b by omega) hr hs1 hs2 hb1 hb2
      have hmd:r+(e - m)=mid:=by omega
      simp only[hmd]at hpar;have hrl:=λ(l1:List α) (hr:wV r m e l l1)=>hrw.rot (show a<=r by omega) (show r<=m by omega) (show m<=e by omega) (show e<=b by omega) hr
      simp only[hmd]at hrl;(conv=>whnf);rw[we];refine zd (λf1=>?_) (λf1=>?_)
      ·have f1:r<m /\m<e:=xI f1;(conv=>whnf);refine zu.mono (aam d0 d1 d2 g l N r m e f1.1 f1.2 (by omega) hN hl) ?_;rintro _ rfl;have hr0:wV r m e l (UH r m e l):=kk (by omega) (by omega) (by omega);have hw0:PermW r e l (UH r m e l):=akP (by omega) (by omega) (by omega);obtain⟨l1,hl1⟩: ∃l1,l1=UH r m e l:=⟨_,rfl⟩;rw[<- hl1]at hr0 hw0⊢;have hr:=hr0;have hw:=hw0;have hrel:=hrl l1 hr;obtain⟨s1,s2,s3,s4,s5⟩:=hpar l1 hr;have hn1:=hw.len;(conv=>whnf);refine zd (λf2=>?_) (λf2=>?_)
       ·have f2:a<r /\r<mid:=xI f2;(conv=>whnf);refine zu.mono (ih l1 a r mid (by omega) f2.1 f2.2 (by omega) (by omega) s1 s2 hrel.1) ?_;rintro _ ⟨l2,p2,t2,rfl⟩;have hn2:=p2.len;(conv=>whnf);refine zd (λf3=>?_) (λf3=>?_)
        ·have f3:mid<e /\e<b:=xI f3;(conv=>whnf);refine zu.mono (ih l2 mid e b (by omega) f3.1 f3.2 (by omega) (by omega) (s3.same λi i1 _=>p2.out i (.inr i1)) (s4.same λi i1 _=>p2.out i (.inr (by omega))) (hrel.2.same λi hi=>p2.out i (.inr (by omega)))) ?_;rintro _ ⟨l3,p3,t3,rfl⟩;have fin:=xw hw (show a<=r by omega) (show e<=b by omega) p2 p3 (by omega) (by omega) t2 t3 s5;(conv=>whnf);exact⟨l3,fin.1,fin.2,rfl⟩
        ·have f3:e<=mid\/b<=e:=xH f3;have t3:zB c mid b l2:=by
          rcases f3 with f3|f3
          ·exact(s4.mono (show e<=mid by omega) (Nat.le_refl _)).same λi i1 _=>p2.out i (.inr i1)
          ·exact(s3.mono (Nat.le_refl _) (show b<=e by omega)).same λi i1 _=>p2.out i (.inr i1)
         have fin:=xw hw (show a<=r by omega) (show e<=b by omega) p2 (PermW.refl mid b l2) (by omega) (by omega) t2 t3 s5;(conv=>whnf);exact⟨l2,fin.1,fin.2,rfl⟩
       ·have f2:r<=a\/mid<=r:=xH f2;have p2:PermW a mid l1 l1:=PermW.refl _ _ _;have t2:zB c a mid l1:=by
         rcases f2 with f2|f2
         ·exact s2.mono (show r<=a by omega) (Nat.le_refl _)
         ·exact s1.mono (Nat.le_refl _) (show mid<=r by omega)
        (conv=>whnf);refine zd (λf3=>?_) (λf3=>?_)
        ·have f3:mid<e /\e<b:=xI f3;(conv=>whnf);refine zu.mono (ih l1 mid e b (by omega) f3.1 f3.2 (by omega) (by omega) (s3.same λi i1 _=>p2.out i (.inr i1)) (s4.same λi i1 _=>p2.out i (.inr (by omega))) (hrel.2.same λi hi=>p2.out i (.inr (by omega)))) ?_;rintro _ ⟨l3,p3,t3,rfl⟩;have fin:=xw hw (show a<=r by omega) (show e<=b by omega) p2 p3 (by omega) (by omega) t2 t3 s5;(conv=>whnf);exact⟨l3,fin.1,fin.2,rfl⟩
        ·have f3:e<=mid\/b<=e:=xH f3;have t3:zB c mid b l1:=by
          rcases f3 with f3|f3
          ·exact(s4.mono (show e<=mid by omega) (Nat.le_refl _)).same λi i1 _=>p2.out i (.inr i1)
          ·exact(s3.mono (Nat.le_refl _) (show b<=e by omega)).same λi i1 _=>p2.out i (.inr i1)
         have fin:=xw hw (show a<=r by omega) (show e<=b by omega) p2 (PermW.refl mid b l1) (by omega) (by omega) t2 t3 s5;(conv=>whnf);exact⟨l1,fin.1,fin.2,rfl⟩
      ·have f1:m<=r\/e<=m:=xH f1;have hr:wV r m e l l:=wV.same (by omega) (by omega) (by omega);have hw:PermW r e l l:=PermW.refl _ _ _;have hrel:=hrl l hr;obtain⟨s1,s2,s3,s4,s5⟩:=hpar l hr;have hn1:=hw.len;(conv=>whnf);refine zd (λf2=>?_) (λf2=>?_)
       ·have f2:a<r /\r<mid:=xI f2;(conv=>whnf);refine zu.mono (ih l a r mid (by omega) f2.1 f2.2 (by omega) (by omega) s1 s2 hrel.1) ?_;rintro _ ⟨l2,p2,t2,rfl⟩;have hn2:=p2.len;(conv=>whnf);refine zd (λf3=>?_) (λf3=>?_)
        ·have f3:mid<e /\e<b:=xI f3;(conv=>whnf);refine zu.mono (ih l2 mid e b (by omega) f3.1 f3.2 (by omega) (by omega) (s3.same λi i1 _=>p2.out i (.inr i1)) (s4.same λi i1 _=>p2.out i (.inr (by omega))) (hrel.2.same λi hi=>p2.out i (.inr (by omega)))) ?_;rintro _ ⟨l3,p3,t3,rfl⟩;have fin:=xw hw (show a<=r by omega) (show e<=b by omega) p2 p3 (by omega) (by omega) t2 t3 s5;(conv=>whnf);exact⟨l3,fin.1,fin.2,rfl⟩
        ·have f3:e<=mid\/b<=e:=xH f3;have t3:zB c mid b l2:=by
          rcases f3 with f3|f3
          ·exact(s4.mono (show e<=mid by omega) (Nat.le_refl _)).same λi i1 _=>p2.out i (.inr i1)
          ·exact(s3.mono (Nat.le_refl _) (show b<=e by omega)).same λi i1 _=>p2.out i (.inr i1)
         have fin:=xw hw (show a<=r by omega) (show e<=b by omega) p2 (PermW.refl mid b l2) (by omega) (by omega) t2 t3 s5;(conv=>whnf);exact⟨l2,fin.1,fin.2,rfl⟩
       ·have f2:r<=a\/mid<=r:=xH f2;have p2:PermW a mid l l:=PermW.refl _ _ _;have t2:zB c a mid l:=by
         rcases f2 with f2|f2
         ·exact s2.mono (show r<=a by omega) (Nat.le_refl _)
         ·exact s1.mono (Nat.le_refl _) (show mid<=r by omega)
        (conv=>whnf);refine zd (λf3=>?_) (λf3=>?_)
        ·have f3:mid<e /\e<b:=xI f3;(conv=>whnf);refine zu.mono (ih l mid e b (by omega) f3.1 f3.2 (by omega) (by omega) (s3.same λi i1 _=>p2.out i (.inr i1)) (s4.same λi i1 _=>p2.out i (.inr (by omega))) (hrel.2.same λi hi=>p2.out i (.inr (by omega)))) ?_;rintro _ ⟨l3,p3,t3,rfl⟩;have fin:=xw hw (show a<=r by omega) (show e<=b by omega) p2 p3 (by omega) (by omega) t2 t3 s5;(conv=>whnf);exact⟨l3,fin.1,fin.2,rfl⟩
        ·have f3:e<=mid\/b<=e:=xH f3;have t3:zB c mid b l:=by
          rcases f3 with f3|f3
          ·exact(s4.mono (show e<=mid by omega) (Nat.le_refl _)).same λi i1 _=>p2.out i (.inr i1)
          ·exact(s3.mono (Nat.le_refl _) (show b<=e by omega)).same λi i1 _=>p2.out i (.inr i1)
         have fin:=xw hw (show a<=r by omega) (show e<=b by omega) p2 (PermW.refl mid b l) (by omega) (by omega) t2 t3 s5;(conv=>whnf);exact⟨l,fin.1,fin.2,rfl⟩
   ·have hm3:m<=mid:=by
     have e3:decide ((m:Int)>(mid:Int))=false:=e3;have:=of_decide_eq_false e3;omega
    (conv=>whnf);rw[wn]
    refine yv (P:=Pg) (f:=T8.f) (body:=qi) (λz:Nat×Nat=>asO g N a m b mid (mid+m) z.1 z.2 (mid+m - 1) (yr d0 d1 d2 l)) (λz=>z.2 - z.1)
     (λz=>a<=z.1 /\z.1<=z.2 /\z.2<=m /\(z.1=a\/jp c l (z.1 - 1) (mid+m - z.1))/\(z.2=m\/jp c l (mid+m - 1 - z.2) z.2))
     ⟨(a,m),⟨Nat.le_refl _,by show a<=m;omega,Nat.le_refl _,.inl rfl,.inl rfl⟩,ze ?_⟩ ?_
    ·(conv=>whnf);rw[wp];rfl
    ·rintro⟨s,r⟩ hR;have hS:a<=s /\s<=r /\r<=m /\(s=a\/jp c l (s - 1) (mid+m - s))/\(r=m\/jp c l (mid+m - 1 - r) r):=hR;clear hR;obtain⟨g1,g2,g3,g4,g5⟩:=hS;(conv=>whnf);refine zd (λk1=>?_) (λk1=>?_)
     ·have hij:s<r:=by have k1:decide ((s:Int)<(r:Int))=true:=k1;have:=of_decide_eq_true k1;omega
      have wq:=J4 s r (by omega);obtain⟨h,hh⟩: ∃h,h=(s+r)/2:=⟨_,rfl⟩;rw[<- hh]at wq;obtain⟨u,hu⟩:=yG (l:=l) (i:=h) (by omega);obtain⟨v,hv⟩:=yG (l:=l) (i:=mid+m - 1 - h) (by omega);have w1:IntKind.i64.wrap ((h:Int)+1)=((h+1:Nat):Int):=zx (n:=b) (by omega) (by omega);have wv:IntKind.i64.wrap (((mid+m - 1:Nat):Int) -(h:Int))=((mid+m - 1 - h:Nat):Int):=by rw[zM (by omega) (by omega)];omega
      (conv=>whnf);refine⟨by decide,?_⟩;(conv=>whnf);rw[wq,wv];refine⟨by omega,by omega,?_⟩;(conv=>whnf);refine⟨_,y6 d0 d1 d2 hv,?_⟩;(conv=>whnf);refine⟨by omega,by omega,?_⟩;(conv=>whnf);refine⟨_,y6 d0 d1 d2 hu,?_⟩;(conv=>whnf);refine Sat.mono (hg u v (hrw h (mid+m - 1 - h) u v (by omega) (by omega) (by omega) (by omega) hu hv)) ?_;rintro _ ⟨z,rfl,hz⟩;(conv=>whnf);refine zd (λk2=>?_) (λk2=>?_)
      ·have hge: ¬c v u<0:=by
        have k2:(!decide (z<0))=true:=k2;rw[<- hz];simpa using k2
       (conv=>whnf);refine⟨(h+1,r),⟨⟨by show a<=h+1;omega,by show h+1<=r;omega,g3,.inr ⟨u,v,hu,?_,hcc.ge.1 (by omega)⟩,g5⟩,by show r -(h+1)<r - s;omega⟩,ze ?_⟩
       ·rw[<- hv];congr 1;show mid+m -(h+1)=_;omega
       (conv=>whnf);rw[w1];rfl
      ·have hlt:c v u<0:=by
        have k2:(!decide (z<0))=false:=k2;rw[<- hz];simpa using k2
       (conv=>whnf);refine⟨(s,h),⟨⟨g1,by show s<=h;omega,by show h<=m;omega,g4,.inr ⟨v,u,hv,hu,by omega⟩⟩,by show h - s<r - s;omega⟩,ze ?_⟩;(conv=>whnf);rfl
     ·have hij:r=s:=by have k1:decide ((s:Int)<(r:Int))=false:=k1;have:=of_decide_eq_false k1;omega
      subst hij;obtain⟨e,he⟩: ∃e,e=mid+m - r:=⟨_,rfl⟩;have we:IntKind.i64.wrap (((mid+m:Nat):Int) -(r:Int))=(e:Int):=by rw[zM (by omega) (by omega)];omega
      have hb1:r=a\/e=b\/jp c l (r - 1) e:=by
       rcases g4 with g4|⟨u,v,q1,q2,q3⟩
       ·left;exact g4
       ·exact .inr (.inr ⟨u,v,q1,by rw[he];exact q2,q3⟩)
      have hb2:r=m\/e=m\/jp c l (e - 1) r:=by
       rcases g5 with g5|⟨u,v,q1,q2,q3⟩
       ·left;exact g5
       ·refine .inr (.inr ⟨u,v,?_,q2,q3⟩);rw[<- q1];congr 1;omega
      have hpar:=λ(l1:List α) (hr:wV r m e l l1)=>Jz hcc (show a<=r by omega) (show r<=m by omega) (show m<=e by omega) (show e<=b by omega) hr hs1 hs2 hb1 hb2
      have hmd:r+(e - m)=mid:=by omega
      simp only[hmd]at hpar;have hrl:=λ(l1:List α) (hr:wV r m e l l1)=>hrw.rot (show a<=r by omega) (show r<=m by omega) (show m<=e by omega) (show e<=b by omega) hr
      simp only[hmd]at hrl;(conv=>whnf);rw[we];refine zd (λf1=>?_) (λf1=>?_)
      ·have f1:r<m /\m<e:=xI f1;(conv=>whnf);refine zu.mono (aam d0 d1 d2 g l N r m e f1.1 f1.2 (by omega) hN hl) ?_;rintro _ rfl;have hr0:wV r m e l (UH r m e l):=kk (by omega) (by omega) (by omega);have hw0:PermW r e l (UH r m e l):=akP (by omega) (by omega) (by omega);obtain⟨l1,hl1⟩: ∃l1,l1=UH r m e l:=⟨_,rfl⟩;rw[<- hl1]at hr0 hw0⊢;have hr:=hr0;have hw:=hw0;have hrel:=hrl l1 hr;obtain⟨s1,s2,s3,s4,s5⟩:=hpar l1 hr;have hn1:=hw.len;(conv=>whnf);refine zd (λf2=>?_) (λf2=>?_)
       ·have f2:a<r /\r<mid:=xI f2;(conv=>whnf);refine zu.mono (ih l1 a r mid (by omega) f2.1 f2.2 (by omega) (by omega) s1 s2 hrel.1) ?_;rintro _ ⟨l2,p2,t2,rfl⟩;have hn2:=p2.len;(conv=>whnf);refine zd (λf3=>?_) (λf3=>?_)
        ·have f3:mid<e /\e<b:=xI f3;(conv=>whnf);refine zu.mono (ih l2 mid e b (by omega) f3.1 f3.2 (by omega) (by omega) (s3.same λi i1 _=>p2.out i (.inr i1)) (s4.same λi i1 _=>p2.out i (.inr (by omega))) (hrel.2.same λi hi=>p2.out i (.inr (by omega)))) ?_;rintro _ ⟨l3,p3,t3,rfl⟩;have fin:=xw hw (show a<=r by omega) (show e<=b by omega) p2 p3 (by omega) (by omega) t2 t3 s5;(conv=>whnf);exact⟨l3,fin.1,fin.2,rfl⟩
        ·have f3:e<=mid\/b<=e:=xH f3;have t3:zB c mid b l2:=by
          rcases f3 with f3|f3
          ·exact(s4.mono (show e<=mid by omega) (Nat.le_refl _)).same λi i1 _=>p2.out i (.inr i1)
          ·exact(s3.mono (Nat.le_refl _) (show b<=e by omega)).same λi i1 _=>p2.out i (.inr i1)
         have fin:=xw hw (show a<=r by omega) (show e<=b by omega) p2 (PermW.refl mid b l2) (by omega) (by omega) t2 t3 s5;(conv=>whnf);exact⟨l2,fin.1,fin.2,rfl⟩
       ·have f2:r<=a\/mid<=r:=xH f2;have p2:PermW a mid l1 l1:=PermW.refl _ _ _;have t2:zB c a mid l1:=by
         rcases f2 with f2|f2
         ·exact s2.mono (show r<=a by omega) (Nat.le_refl _)
         ·exact s1.mono (Nat.le_refl _) (show mid<=r by omega)
        (conv=>whnf);refine zd (λf3=>?_) (λf3=>?_)
        ·have f3:mid<e /\e<b:=xI f3;(conv=>whnf);refine zu.mono (ih l1 mid e b (by omega) f3.1 f3.2 (by omega) (by omega) (s3.same λi i1 _=>p2.out i (.inr i1)) (s4.same λi i1 _=>p2.out i (.inr (by omega))) (hrel.2.same λi hi=>p2.out i (.inr (by omega)))) ?_;rintro _ ⟨l3,p3,t3,rfl⟩;have fin:=xw hw (show a<=r by omega) (show e<=b by omega) p2 p3 (by omega) (by omega) t2 t3 s5;(conv=>whnf);exact⟨l3,fin.1,fin.2,rfl⟩
        ·have f3:e<=mid\/b<=e:=xH f3;have t3:zB c mid b l1:=by
          rcases f3 with f3|f3
          ·exact(s4.mono (show e<=mid by omega) (Nat.le_refl _)).same λi i1 _=>p2.out i (.inr i1)
          ·exact(s3.mono (Nat.le_refl _) (show b<=e by omega)).same λi i1 _=>p2.out i (.inr i1)
         have fin:=xw hw (show a<=r by omega) (show e<=b by omega) p2 (PermW.refl mid b l1) (by omega) (by omega) t2 t3 s5;(conv=>whnf);exact⟨l1,fin.1,fin.2,rfl⟩
      ·have f1:m<=r\/e<=m:=xH f1;have hr:wV r m e l l:=wV.same (by omega) (by omega) (by omega);have hw:PermW r e l l:=PermW.refl _ _ _;have hrel:=hrl l hr;obtain⟨s1,s2,s3,s4,s5⟩:=hpar l hr;have hn1:=hw.len;(conv=>whnf);refine zd (λf2=>?_) (λf2=>?_)
       ·have f2:a<r /\r<mid:=xI f2;(conv=>whnf);refine zu.mono (ih l a r mid (by omega) f2.1 f2.2 (by omega) (by omega) s1 s2 hrel.1) ?_;rintro _ ⟨l2,p2,t2,rfl⟩;have hn2:=p2.len;(conv=>whnf);refine zd (λf3=>?_) (λf3=>?_)
        ·have f3:mid<e /\e<b:=xI f3;(conv=>whnf);refine zu.mono (ih l2 mid e b (by omega) f3.1 f3.2 (by omega) (by omega) (s3.same λi i1 _=>p2.out i (.inr i1)) (s4.same λi i1 _=>p2.out i (.inr (by omega))) (hrel.2.same λi hi=>p2.out i (.inr (by omega)))) ?_;rintro _ ⟨l3,p3,t3,rfl⟩;have fin:=xw hw (show a<=r by omega) (show e<=b by omega) p2 p3 (by omega) (by omega) t2 t3 s5;(conv=>whnf);exact⟨l3,fin.1,fin.2,rfl⟩
        ·have f3:e<=mid\/b<=e:=xH f3;have t3:zB c mid b l2:=by
          rcases f3 with f3|f3
          ·exact(s4.mono (show e<=mid by omega) (Nat.le_refl _)).same λi i1 _=>p2.out i (.inr i1)
          ·exact(s3.mono (Nat.le_refl _) (show b<=e by omega)).same λi i1 _=>p2.out i (.inr i1)
         have fin:=xw hw (show a<=r by omega) (show e<=b by omega) p2 (PermW.refl mid b l2) (by omega) (by omega) t2 t3 s5;(conv=>whnf);exact⟨l2,fin.1,fin.2,rfl⟩
       ·have f2:r<=a\/mid<=r:=xH f2;have p2:PermW a mid l l:=PermW.refl _ _ _;have t2:zB c a mid l:=by
         rcases f2 with f2|f2
         ·exact s2.mono (show r<=a by omega) (Nat.le_refl _)
         ·exact s1.mono (Nat.le_refl _) (show mid<=r by omega)
        (conv=>whnf);refine zd (λf3=>?_) (λf3=>?_)
        ·have f3:mid<e /\e<b:=xI f3;(conv=>whnf);refine zu.mono (ih l mid e b (by omega) f3.1 f3.2 (by omega) (by omega) (s3.same λi i1 _=>p2.out i (.inr i1)) (s4.same λi i1 _=>p2.out i (.inr (by omega))) (hrel.2.same λi hi=>p2.out i (.inr (by omega)))) ?_;rintro _ ⟨l3,p3,t3,rfl⟩;have fin:=xw hw (show a<=r by omega) (show e<=b by omega) p2 p3 (by omega) (by omega) t2 t3 s5;(conv=>whnf);exact⟨l3,fin.1,fin.2,rfl⟩
        ·have f3:e<=mid\/b<=e:=xH f3;have t3:zB c mid b l:=by
          rcases f3 with f3|f3
          ·exact(s4.mono (show e<=mid by omega) (Nat.le_refl _)).same λi i1 _=>p2.out i (.inr i1)
          ·exact(s3.mono (Nat.le_refl _) (show b<=e by omega)).same λi i1 _=>p2.out i (.inr i1)
         have fin:=xw hw (show a<=r by omega) (show e<=b by omega) p2 (PermW.refl mid b l) (by omega) (by omega) t2 t3 s5;(conv=>whnf);exact⟨l,fin.1,fin.2,rfl⟩
end Go.Proofs.YtnlbmefhdiabcaaGreat
namespace Go.Proofs.YtnlbmefhdiabcaaGreat
open Go Go.AM
attribute [local irreducible] Sat zu zS
set_option maxRecDepth 100000
set_option maxHeartbeats 2000000
variable {α:Type}(d0 d1 d2:α ->D)
def Wn (g:FuncId)(N n bs a b:Nat)(els:List (List D)):S:=⟨[(0,cV (.own 100000 3 N)),(1,zf n),(2,.w (.c (.d (.fn g [])))),(6,zf bs),(7,zf a),(8,zf b)],[(100000,.arr 3 els false)]⟩
def axl (g:FuncId)(N n bs:Nat)(els:List (List D)):S:=⟨[(0,cV (.own 100000 3 N)),(1,zf n),(2,.w (.c (.d (.fn g [])))),(6,zf bs)],[(100000,.arr 3 els false)]⟩
theorem ko (g:FuncId)(c:α ->α ->Int)(hcc:CmpOK c)(R:α ->α ->Prop)(hg: ∀x y:α,R x y ->Sat Pg g [(.agg [.d (d0 y),.d (d1 y),.d (d2 y)]),(.agg [.d (d0 x),.d (d1 x),.d (d2 x)])] (λr=> ∃z,r=rI z /\(z<0↔c y x<0)))(N:Nat)(l:List α)(a b:Nat)(hN:l.length=N)(hab:a<=b)(hb:b<=N)(hl:N<=1000000)(hpr:u9 R a b l):
 zu Pg wQ [.c (.own 0 3 N),.c (int a),.c (int b),.c (.d (.fn g []))] [.arr 3 (yr d0 d1 d2 l) false]
  (λr=> ∃l':List α,PermW a b l l' /\zB c a b l' /\r=⟨.tup [],[.arr 3 (yr d0 d1 d2 l') false]⟩):=by
 subst hN;exact akD d0 d1 d2 g c hcc R hg l a b hab hb hl hpr
theorem amX (g:FuncId)(c:α ->α ->Int)(hcc:CmpOK c)(R:α ->α ->Prop)(hg: ∀x y:α,R x y ->Sat Pg g [(.agg [.d (d0 y),.d (d1 y),.d (d2 y)]),(.agg [.d (d0 x),.d (d1 x),.d (d2 x)])] (λr=> ∃z,r=rI z /\(z<0↔c y x<0)))(l:List α)(n:Nat)(hn:l.length=n)(hl:n<=1000000)(hpr:u9 R 0 n l):
 zu Pg QZ [.c (.own 0 3 n),.c (int n),.c (.d (.fn g []))] [.arr 3 (yr d0 d1 d2 l) false]
  (λr=> ∃l':List α,PermW 0 n l l' /\zB c 0 n l' /\r=⟨.tup [],[.arr 3 (yr d0 d1 d2 l') false]⟩):=by
 refine xT T8 Xq (by kernel_rfl) (by simp) ?_
 conv=>whnf
 refine yv (P:=Pg) (f:=T8.f) (body:=qz) (λz:Nat×List α=>Wn g n n 20 (z.1*20) (z.1*20+20) (yr d0 d1 d2 z.2)) (λz=>n - z.1*20)
  (λz=>z.1*20<=n /\PermW 0 n l z.2 /\xy c 20 (z.1*20) z.2 /\qf R 20 (z.1*20) z.2)
  ⟨(0,l),⟨by show 0*20<=n;omega,PermW.refl _ _ _,by show xy c 20 (0*20) l;rw[Nat.zero_mul];exact xy.zero _ _,by show qf R 20 (0*20) l;rw[Nat.zero_mul];exact qf.start hpr hn⟩,ze ?_⟩ ?_
 ·(conv=>whnf);rfl
 ·rintro⟨q,l1⟩ hR;have hS:q*20<=n /\PermW 0 n l l1 /\xy c 20 (q*20) l1 /\qf R 20 (q*20) l1:=hR;clear hR;obtain⟨g1,g2,g3,g6⟩:=hS;have g7:=g6.pair (n:=n);have g4:=g2.len;obtain⟨a,ha⟩: ∃a,a=q*20:=⟨_,rfl⟩;show mwpR Pg T8.f qz _ (Wn g n n 20 (q*20) (q*20+20) (yr d0 d1 d2 l1));rw[<- ha]at g1 g3 g6 g7⊢;(conv=>whnf);refine zd (λk1=>?_) (λk1=>?_)
  ·have hlt:a+20<=n:=by have k1:decide (((a+20:Nat):Int)<=(n:Int))=true:=k1;have:=of_decide_eq_true k1;omega
   have wb:IntKind.i64.wrap (((a+20:Nat):Int)+((20:Nat):Int))=((a+20+20:Nat):Int):=by rw[zM (by omega) (by omega)];omega
   (conv=>whnf);refine zu.mono (ko d0 d1 d2 g c hcc R hg n l1 a (a+20) (by omega) (by omega) hlt hl (g7.mono (Nat.le_refl _) hlt)) ?_;rintro _ ⟨l2,p2,s2,rfl⟩;(conv=>whnf);have e1:(q+1)*20=a+20:=by omega
   refine⟨(q+1,l2),⟨⟨by show(q+1)*20<=n;omega,g2.trans (p2.mono (Nat.zero_le _) hlt),?_,?_⟩,by show n -(q+1)*20<n - a;omega⟩,ze ?_⟩
   ·show xy c 20 ((q+1)*20) l2;rw[ha]at g3 p2 s2;exact g3.ext (e:=(q+1)*20) (by rw[Nat.succ_mul];exact p2) (by rw[Nat.succ_mul];exact s2) (by omega) (Nat.le_refl _)
   ·show qf R 20 ((q+1)*20) l2;rw[ha]at g6 p2;exact g6.next (e:=(q+1)*20) (by rw[Nat.succ_mul];exact p2) (by omega) (Nat.le_refl _)
   ·(conv=>whnf);rw[wb];show Wn g n n 20 (a+20) (a+20+20) (yr d0 d1 d2 l2)=Wn g n n 20 ((q+1)*20) ((q+1)*20+20) (yr d0 d1 d2 l2);rw[e1]
  ·have hge:n<a+20:=by have k1:decide (((a+20:Nat):Int)<=(n:Int))=false:=k1;have:=of_decide_eq_false k1;omega
   (conv=>whnf);refine zu.mono (ko d0 d1 d2 g c hcc R hg n l1 a n (by omega) g1 (Nat.le_refl _) hl g7) ?_;rintro _ ⟨l2,p2,s2,rfl⟩;have b2:xy c 20 n l2:=by
    rw[ha]at g3 p2 s2;exact g3.ext p2 s2 (by omega) (by rw[Nat.succ_mul];omega)
   have b3:qf R 20 n l2:=by
    rw[ha]at g6 p2 g1;exact g6.next p2 g1 (by omega)
   have q2:PermW 0 n l l2:=g2.trans (p2.mono (Nat.zero_le _) (Nat.le_refl _));have b4:=b3.blk;clear p2 s2 g3 g2 g4 g6 g7 b3;(conv=>whnf)
   refine yv (P:=Pg) (f:=T8.f) (body:=vY) (λz:Nat×List α=>axl g n n z.1 (yr d0 d1 d2 z.2)) (λz=>n - z.1)
    (λz=>0<z.1 /\z.1<=2000000 /\PermW 0 n l z.2 /\xy c z.1 n z.2 /\aaN R z.1 z.2)
    ⟨(20,l2),⟨by show 0<20;omega,by show 20<=2000000;omega,q2,b2,b4⟩,ze ?_⟩ ?_
   ·(conv=>whnf);rfl
   ·rintro⟨bs,l3⟩ hR;have hS:0<bs /\bs<=2000000 /\PermW 0 n l l3 /\xy c bs n l3 /\aaN R bs l3:=hR;clear hR;obtain⟨g1,g2,g3,g4,g6⟩:=hS;(conv=>whnf);refine zd (λk2=>?_) (λk2=>?_)
    ·have hbs:bs<n:=by have k2:decide ((bs:Int)<(n:Int))=true:=k2;have:=of_decide_eq_true k2;omega
     have w2:IntKind.i64.wrap (2*(bs:Int))=((2*bs:Nat):Int):=by rw[zM (by omega) (by omega)];omega
     have w3:IntKind.i64.wrap ((bs:Int)*2)=((2*bs:Nat):Int):=by rw[zM (by omega) (by omega)];omega
     conv=>whnf
     refine yv (P:=Pg) (f:=T8.f) (body:=qA) (λz:Nat×List α=>Wn g n n bs (z.1*(2*bs)) (z.1*(2*bs)+2*bs) (yr d0 d1 d2 z.2)) (λz=>n - z.1*(2*bs))
      (λz=>z.1*(2*bs)<=n /\PermW 0 n l z.2 /\xy c (2*bs) (z.1*(2*bs)) z.2 /\Z3 c bs (z.1*(2*bs)) n z.2 /\uM R bs (z.1*(2*bs)) z.2)
      ⟨(0,l3),⟨by show 0*(2*bs)<=n;omega,g3,by show xy c (2*bs) (0*(2*bs)) l3;rw[Nat.zero_mul];exact xy.zero _ _,by show Z3 c bs (0*(2*bs)) n l3;rw[Nat.zero_mul];exact g4.blkF,by show uM R bs (0*(2*bs)) l3;rw[Nat.zero_mul];exact g6.pass⟩,ze ?_⟩ ?_
     ·(conv=>whnf);rw[w2];show Wn g n n bs 0 (2*bs) (yr d0 d1 d2 l3)=Wn g n n bs (0*(2*bs)) (0*(2*bs)+2*bs) (yr d0 d1 d2 l3);rw[Nat.zero_mul,Nat.zero_add]
     ·rintro⟨q,l4⟩ hR;have hS:q*(2*bs)<=n /\PermW 0 n l l4 /\xy c (2*bs) (q*(2*bs)) l4 /\Z3 c bs (q*(2*bs)) n l4 /\uM R bs (q*(2*bs)) l4:=hR;clear hR;obtain⟨r1,r2,r3,r4,r6⟩:=hS;have r7:=λe=>r6.rel (e:=e)
      have r8:=r6.blk;have r9:=λe l5=>r6.next (e:=e) (n:=n) (l':=l5)
      have r5:=r2.len;have s1:=r4.at0;have s2:=r4.at1;obtain⟨a,ha⟩: ∃a,a=q*(2*bs):=⟨_,rfl⟩;show mwpR Pg T8.f qA _ (Wn g n n bs (q*(2*bs)) (q*(2*bs)+2*bs) (yr d0 d1 d2 l4));have hq1:(q+1)*(2*bs)=a+2*bs:=by rw[Nat.succ_mul,ha]
      rw[<- ha]at r1 r3 r4 s1 s2 r7 r9⊢;rw[hq1]at r9;have w4:IntKind.i64.wrap ((a:Int)+(bs:Int))=((a+bs:Nat):Int):=by rw[zM (by omega) (by omega)];omega
      (conv=>whnf);refine zd (λk3=>?_) (λk3=>?_)
      ·have hlt:a+2*bs<=n:=by have k3:decide (((a+2*bs:Nat):Int)<=(n:Int))=true:=k3;have:=of_decide_eq_true k3;omega
       have w5:IntKind.i64.wrap (((a+2*bs:Nat):Int)+((2*bs:Nat):Int))=((a+2*bs+2*bs:Nat):Int):=by rw[zM (by omega) (by omega)];omega
       rw[Nat.min_eq_left (by omega)]at s1 s2;(conv=>whnf);rw[w4];refine zu.mono (ku d0 d1 d2 g c hcc R hg n hl _ l4 a (a+bs) (a+2*bs) (Nat.le_refl _) (by omega) (by omega) (by omega) (by omega) s1 (s2.mono (Nat.le_refl _) (by omega)) (r7 _)) ?_;rintro _ ⟨l5,p5,t5,rfl⟩;have e1:(q+1)*(2*bs)=a+2*bs:=by rw[Nat.succ_mul,ha]
       (conv=>whnf);refine⟨(q+1,l5),⟨⟨by show(q+1)*(2*bs)<=n;omega,r2.trans (p5.mono (Nat.zero_le _) hlt),?_,?_,?_⟩,by show n -(q+1)*(2*bs)<n - a;rw[e1];omega⟩,ze ?_⟩
       ·show xy c (2*bs) ((q+1)*(2*bs)) l5;rw[e1];have e2:=e1;subst ha;exact r3.ext p5 t5 (by omega) (by omega)
       ·show Z3 c bs ((q+1)*(2*bs)) n l5;rw[e1];exact r4.next p5 (by omega)
       ·show uM R bs ((q+1)*(2*bs)) l5;rw[e1];exact r9 _ _ p5 (Nat.le_refl _) (.inl rfl)
       ·(conv=>whnf);rw[w2,w5];show Wn g n n bs (a+2*bs) (a+2*bs+2*bs) (yr d0 d1 d2 l5)=Wn g n n bs ((q+1)*(2*bs)) ((q+1)*(2*bs)+2*bs) (yr d0 d1 d2 l5);rw[e1]
      ·have hge:n<a+2*bs:=by have k3:decide (((a+2*bs:Nat):Int)<=(n:Int))=false:=k3;have:=of_decide_eq_false k3;omega
       have e1:(q+1)*(2*bs)=a+2*bs:=by rw[Nat.succ_mul,ha]
       (conv=>whnf);rw[w4];refine zd (λk4=>?_) (λk4=>?_)
       ·have hm:a+bs<n:=by have k4:decide (((a+bs:Nat):Int)<(n:Int))=true:=k4;have:=of_decide_eq_true k4;omega
        rw[Nat.min_eq_left (by omega)]at s1;rw[Nat.min_eq_right (by omega)]at s2;(conv=>whnf);refine zu.mono (ku d0 d1 d2 g c hcc R hg n hl _ l4 a (a+bs) n (Nat.le_refl _) (by omega) (by omega) (by omega) (by omega) s1 s2 (r7 _)) ?_;rintro _ ⟨l5,p5,t5,rfl⟩;(conv=>whnf);refine⟨(2*bs,l5),⟨⟨by show 0<2*bs;omega,by show 2*bs<=2000000;omega,r2.trans (p5.mono (Nat.zero_le _) (Nat.le_refl _)),?_,(r9 _ _ p5 (by omega) (.inr ⟨rfl,by rw[r5];exact hn⟩)).blk⟩,by show n - 2*bs<n - bs;omega⟩,ze ?_⟩
        ·show xy c (2*bs) n l5;subst ha;exact r3.ext p5 t5 r1 (by omega)
        ·(conv=>whnf);rw[w3];rfl
       ·have hm:n<=a+bs:=by have k4:decide (((a+bs:Nat):Int)<(n:Int))=false:=k4;have:=of_decide_eq_false k4;omega
        rw[Nat.min_eq_right (by omega)]at s1;(conv=>whnf);refine⟨(2*bs,l4),⟨⟨by show 0<2*bs;omega,by show 2*bs<=2000000;omega,r2,?_,r8⟩,by show n - 2*bs<n - bs;omega⟩,ze ?_⟩
        ·show xy c (2*bs) n l4;subst ha;exact r3.ext (PermW.refl _ _ _) s1 r1 (by omega)
        ·(conv=>whnf);rw[w3];rfl
    ·have hbs:n<=bs:=by have k2:decide ((bs:Int)<(n:Int))=false:=k2;have:=of_decide_eq_false k2;omega
     have s0:=g4 0;rw[Nat.zero_mul,Nat.zero_add,Nat.one_mul,Nat.min_eq_right hbs]at s0;(conv=>whnf);exact⟨l3,g3,s0,rfl⟩
theorem aeO (g:FuncId)(c:α ->α ->Int)(hcc:CmpOK c)(R:α ->α ->Prop)(hg: ∀x y:α,R x y ->Sat Pg g [(.agg [.d (d0 y),.d (d1 y),.d (d2 y)]),(.agg [.d (d0 x),.d (d1 x),.d (d2 x)])] (λr=> ∃z,r=rI z /\(z<0↔c y x<0)))(l:List α)(n:Nat)(hn:l.length=n)(hl:n<=1000000)(hpr:u9 R 0 n l):
 zu Pg uI [.c (.own 0 3 n),.c (.d (.fn g []))] [.arr 3 (yr d0 d1 d2 l) false]
  (λr=> ∃l':List α,PermW 0 n l l' /\zB c 0 n l' /\r=⟨.tup [],[.arr 3 (yr d0 d1 d2 l') false]⟩):=by
 refine xT T8 YM (by kernel_rfl) (by simp) ?_
 conv=>whnf
 refine zu.mono (amX d0 d1 d2 g c hcc R hg l n hn hl hpr) ?_;rintro _ ⟨l',h1,h2,rfl⟩
 conv=>whnf
 exact⟨l',h1,h2,rfl⟩
end Go.Proofs.YtnlbmefhdiabcaaGreat
namespace Go.Proofs.YtnlbmefhdiabcaaGreat
open Go Go.AM
attribute [local irreducible] Sat zu zS
theorem avD (x y:Int):Sat Pg alV [.c (.d (.sl [[.lit (.int .i64 x)],[.lit (.int .i64 y)]]))] (λr=>r=rI (bif x !=0 then x else y)):=by
 refine zg T8 afc (by kernel_rfl) ?_
 conv=>whnf
 refine qY (P:=Pg) (f:=T8.f) (body:=U9) 3 ?_
 conv=>whnf
 refine⟨by omega,_,rfl,rfl,?_⟩
 conv=>whnf
 refine zd (λh1=>?_) (λh1=>?_)
 ·rw[show(x !=0)=true from h1];rfl
 ·rw[show(x !=0)=false from h1];(conv=>whnf);refine⟨by decide,_,rfl,rfl,?_⟩;(conv=>whnf);refine zd (λh2=>?_) (λh2=>?_)
  ·rfl
  ·have h2:(y !=0)=false:=h2;have:y=0:=by simpa using h2
   subst this;rfl
structure Pc where
 key:List Val
 a:Int
 b:Int
def Pc.dk (x:Pc):D:=.sl (rowD x.key)
def Pc.da (x:Pc):D:=.lit (.int .i64 x.a)
def Pc.db (x:Pc):D:=.lit (.int .i64 x.b)
def v0 (l:List Pc):List (List D):=l.map λx=> [.sl (rowD x.key),.lit (.int .i64 x.a),.lit (.int .i64 x.b)]
theorem aih (l:List Pc):(v0 l).length=l.length:=by simp[v0]
theorem ao4 {r:List Pc}{i:Nat}(h:i<r.length):(v0 r)[((i:Int)).toNat]? =some [.sl (rowD r[i].key),.lit (.int .i64 r[i].a),.lit (.int .i64 r[i].b)]:=by simp[v0,List.getElem?_eq_getElem h]
theorem aig (a b:List Pc):v0 (a++b)=v0 a++v0 b:=by simp[v0]
def WU (x y:Pc):Int:=bif xP x.key y.key !=0 then xP x.key y.key else qD x.a y.a
theorem ace:CmpOK WU:=CmpOK.both (CmpOK.onF (f:=Pc.key) (show CmpOK xP from ao3)) (CmpOK.onF aoH (f:=Pc.a))
theorem aok (x y:Pc):Sat Pg Zx [.agg [.d x.dk,.d x.da,.d x.db],.agg [.d y.dk,.d y.da,.d y.db]] (λr=>r=rI (WU x y)):=by
 have h:=JA y4 yY uu x.key y.key;unfold WU xP;generalize vG yY x.key y.key=c at*;have h2:=JB x.a y.a;have h3:=avD c (qD x.a y.a);generalize qD x.a y.a=d at*;obtain⟨x1,x2,x3⟩:=x;obtain⟨y1,y2,y3⟩:=y;refine zg T1 KJ (by kernel_rfl) ?_
 conv=>whnf
 refine Sat.cal (h) ?_
 conv=>whnf
 refine Sat.cal (h2) ?_
 conv=>whnf
 refine Sat.cal (h3) ?_
 conv=>whnf
 rfl
theorem asw (l:List Pc)(n:Nat)(hn:l.length=n)(hlen:n<=1000000):
 zu Pg uI [.c (.own 0 3 n),.c (.d (.fn Zx []))] [.arr 3 (v0 l) false] (λr=>r=⟨.tup [],[.arr 3 (v0 (yK WU l)) false]⟩):=by
 have hmap: ∀L:List (Pc×Nat),yr (λx:Pc×Nat=>x.1.dk) (λx=>x.1.da) (λx=>x.1.db) L=v0 (L.map Prod.fst):=λL=>by simp[yr,v0,Function.comp_def];exact λa b _=>⟨rfl,rfl,rfl⟩
 have e:v0 l=yr (λx:Pc×Nat=>x.1.dk) (λx=>x.1.da) (λx=>x.1.db) (qw l):=by rw[hmap,gW]
 rw[e];refine zu.mono (aeO (λx:Pc×Nat=>x.1.dk) (λx=>x.1.da) (λx=>x.1.db) Zx (uG WU) (acC ace) (λx y=>x.2<y.2) (λx y hxy=>?_) (qw l) n (by rw[gX,hn]) hlen ?_) ?_
 ·refine(aok y.1 x.1).mono ?_;rintro _ rfl;exact⟨_,rfl,api ace hxy⟩
 ·intro i j x y h1 h2 h3 hx hy;exact adD l n i j x y h1 h2 h3 hx hy
 ·rintro _ ⟨l',h1,h2,rfl⟩;rw[hmap,ajt ace hn h1 h2]
def Zc (x:Pc):List Val:=x.key++[⟨2,x.a,⟨#[]⟩⟩,⟨2,x.b,⟨#[]⟩⟩]
def apQ (cols:List Col)(l:List Pc)(i:Nat)(out:List (List Val)):S:=
 ⟨[(4,cV (.ptr 4 0)),(19,cV (.ptr 19 0)),(124,.w (.c (.d (.sl (v0 l))))),(125,zf l.length),(126,zf i)],
 [(4,.box [.nil,.nil]),(19,.box [.d (.sl (zi cols)),.own 146 1 out.length]),(146,.arr 1 (zj out) false)]⟩
def avi:ACode:=xS (xS (xS (xS (xS (xS (xS (xS (xS (xS (xz.code))))))))))
theorem awY {s:S}(cols:List Col)(l:List Pc)(hl:l.length<=100000)(hk: ∀x∈l,x.key.length<=100000)
 (h0:xD s [4,19,124,125,126] (· =apQ cols l 0 [])):
 zS (mwpR Pg T8.f wc) [4,19,124,125,126] (XF 4 (gU (mwpR Pg T8.f avi) (Uo xz.res [] (DQ (wE ⟨cols,l.map Zc⟩ 0))))) s:=by
 refine zF (P:=Pg) (f:=T8.f) (body:=wc) l.length (λi=>apQ cols l i ((l.take i).map Zc)) (λ_=>True) ⟨trivial,h0⟩ ?_
 ·clear h0;intro i hi _;have hnx: ∀h:i<l.length,(l.take (i+1)).map Zc=(l.take i).map Zc++[Zc l[i]]:=λh=>by
   rw[zP h,List.map_append];rfl
  have hend:l.length<=i ->l.map Zc=(l.take i).map Zc:=λh=>by rw[List.take_of_length_le h]
  have hUl:((l.take i).map Zc).length=i:=by simp;omega
  show mwpR Pg T8.f wc _ (apQ cols l i ((l.take i).map Zc));generalize(l.take i).map Zc=U at*;have htu:(zj U).take U.length=zj U:=by rw[<- zA,List.take_length]
  unfold apQ;(conv=>whnf);refine zd (λh1=>?_) (λh1=>?_)
  ·have hlt:i<l.length:=by have:=of_decide_eq_true h1;omega
   have hg:=ao4 hlt;have hnx:=hnx hlt;have hkl:=hk _ (List.getElem_mem hlt);have wi:=zx hlt (by omega);clear hend hk;generalize l[i]=x at*;obtain⟨xk,xa,xb⟩:=x;simp only at hkl hg;have hcl:=jj xk (by omega);have hnx:(l.take (i+1)).map Zc=U++[xk++[⟨2,xa,⟨#[]⟩⟩,⟨2,xb,⟨#[]⟩⟩]]:=hnx;(conv=>whnf);refine⟨by omega,_,hg,rfl,?_⟩;(conv=>whnf);generalize hE:([⟨2,xa,⟨#[]⟩⟩,⟨2,xb,⟨#[]⟩⟩]:List Val)=E at*;have hED:rowD E=[[.lit (.int .i64 2),.lit (.int .i64 xa),.lit (.string ⟨#[]⟩)],[.lit (.int .i64 2),.lit (.int .i64 xb),.lit (.string ⟨#[]⟩)]]:=by rw[<- hE];rfl
   have hE2:E.length=2:=by rw[<- hE];rfl
   have hz1: ∀y∈List.take (rowD E).length (rowD E),y.length=3:=λy hy=>Q9 _ y (List.mem_of_mem_take hy)
   have hzl:(rowD xk).length+(List.take (rowD E).length (rowD E)).length<=1000000:=by simp only[List.length_take,zo];omega
   have hzE:List.take ((rowD xk).length+(List.take (rowD E).length (rowD E)).length) (List.take (rowD xk).length (rowD xk)++List.take (rowD E).length (rowD E))=rowD (xk++E):=by
    rw[show List.take (rowD E).length (rowD E)=rowD E from List.take_length,List.take_length,vL,show(rowD xk).length+(rowD E).length=(rowD (xk++E)).length by simp[zo],List.take_length]
   have hzn:xk=[] ->List.take (List.take (rowD E).length (rowD E)).length (List.take (rowD E).length (rowD E))=rowD (xk++E):=λh=>by rw[h,List.nil_append,List.take_length,List.take_length]
   rw[hED]at hz1 hzl hzE hzn
   repeat' (first
    |(refine Sat.mono hcl ?_;rintro _ (⟨hnil,rfl⟩|rfl)<;>(conv=>whnf))
    |(refine⟨hz1,by unfold ye;have:=hzl;exact Nat.le_trans (Nat.mul_le_mul_right _ this) (by omega),Nat.le_trans hzl (by omega),?_⟩;conv=>whnf)
    |(refine⟨by simp,by unfold ye;simp;omega,by simp;omega,?_⟩;conv=>whnf)
    |(refine⟨by simp,by unfold ye;simp,by simp,?_⟩;conv=>whnf)
    |(refine⟨hlt,trivial,ze ?_⟩;(conv=>whnf);rw[wi,htu,hnx,hzE,vt,List.length_append];rfl)
    |(refine⟨hlt,trivial,ze ?_⟩;(conv=>whnf);rw[wi,htu,hnx,hzn hnil,vt,List.length_append];rfl)
    |(refine And.intro ?_ ?_<;>conv=>whnf))
  ·have hge:l.length<=i:=by have:=of_decide_eq_false h1;omega
   rw[hend hge];(conv=>whnf);refine⟨rfl,?_⟩;refine Eq.trans (b:=⟨.tup [.agg [.d (.sl (zi cols)),.d (.sl ((zj U).take U.length))],.c (int 0)],[]⟩) rfl ?_;rw[htu];rfl
def UA (acc:List Pc)(x:Pc):List Pc:=match acc.getLast? with
 |none=>acc++[x]
 |some z=>bif yz z.key x.key&&decide (x.a<=z.b)then acc.set (acc.length - 1) ⟨z.key,z.a,yP true z.b x.b⟩else acc++[x]
def jW (l:List Pc):List Pc:=l.foldl UA []
theorem atR (acc:List Pc)(x:Pc):(UA acc x).length<=acc.length+1:=by
 unfold UA;split
 ·simp
 ·cases(yz _ x.key&&_)
  ·simp
  ·simp
theorem aet (l:List Pc): ∀i,i<=l.length ->(jW (l.take i)).length<=i
 |0,_=>by simp[jW]
 |i+1,h=>by
  have h1:=aet l i (by omega);have h2:=atR (jW (l.take i)) l[i];unfold jW at*;rw[zP (by omega:i<l.length),List.foldl_append];simp only[List.foldl_cons,List.foldl_nil];omega
theorem atQ {n:Nat}{acc:List Pc}{x:Pc}(h: ∀z∈acc,z.key.length<=n)(hx:x.key.length<=n): ∀z∈UA acc x,z.key.length<=n:=by
 have ha: ∀z∈acc++[x],z.key.length<=n:=λz hz=>by
  rcases List.mem_append.1 hz with hz|hz
  ·exact h z hz
  ·rw[List.mem_singleton.1 hz];exact hx
 unfold UA;split
 ·exact ha
 ·rename_i y hy;cases(yz y.key x.key&&_)
  ·exact ha
  ·intro z hz;rcases List.mem_or_eq_of_mem_set hz with hz|rfl
   ·exact h z hz
   ·exact h y (List.mem_of_getLast? hy)
theorem atO {n:Nat}{l:List Pc}(h: ∀z∈l,z.key.length<=n): ∀z∈jW l,z.key.length<=n:=by
 have gen: ∀(l acc:List Pc),(∀z∈l,z.key.length<=n) ->(∀z∈acc,z.key.length<=n) -> ∀z∈l.foldl UA acc,z.key.length<=n:=by
  intro l;induction l with
  |nil=>intro acc _ h;exact h
  |cons x r ih=>intro acc h1 h2;exact ih _ (λz hz=>h1 z (List.mem_cons_of_mem _ hz)) (atQ h2 (h1 x (List.mem_cons_self ..)))
 exact gen l [] h (λz hz=>by cases hz)
def apP (cols:List Col)(l:List Pc)(i:Nat)(T:List Pc):S:=
 ⟨[(4,cV (.ptr 4 0)),(6,.w (.c (.d (.sl (zi cols))))),(11,cV (.own 120 3 T.length)),(69,.w (.c (.d (.sl (v0 l))))),(70,zf l.length),(71,zf i)],
 [(4,.box [.nil,.nil]),(120,.arr 3 (v0 T) false)]⟩
def avh:ACode:=xS (xS (xS (xS (xS (xS (xS (xS xz.code)))))))
theorem awX {s:S}(cols:List Col)(l:List Pc)(hl:l.length<=100000)(hk: ∀x∈l,x.key.length<=100000)
 (h0:xD s [4,6,11,69,70,71] (· =apP cols l 0 [])):
 zS (mwpR Pg T8.f q9) [4,6,11,69,70,71] (XF 2 (gU (mwpR Pg T8.f avh) (Uo xz.res [] (DQ (wE ⟨cols,(jW l).map Zc⟩ 0))))) s:=by
 refine zF (P:=Pg) (f:=T8.f) (body:=q9) l.length (λi=>apP cols l i (jW (l.take i))) (λ_=>True) ⟨trivial,h0⟩ ?_
 ·clear h0;intro i hi _;have hnx: ∀h:i<l.length,jW (l.take (i+1))=UA (jW (l.take i)) l[i]:=λh=>by
   unfold jW;rw[zP h,List.foldl_append];rfl
  have hend:l.length<=i ->jW l=jW (l.take i):=λh=>by rw[List.take_of_length_le h]
  have hUl:=aet l i hi;have hkl:=atO (n:=100000) (l:=l) hk;show mwpR Pg T8.f q9 _ (apP cols l i (jW (l.take i)));generalize jW (l.take i)=T at*;have htu:(v0 T).take T.length=v0 T:=by rw[<- aih,List.take_length]
  unfold apP;(conv=>whnf);refine zd (λh1=>?_) (λh1=>?_)
  ·have hlt:i<l.length:=by have:=of_decide_eq_true h1;omega
   have hg:=ao4 hlt;have hnx:=hnx hlt;have wi:=zx hlt (by omega);clear hend hk hkl;generalize l[i]=x at*;obtain⟨xk,xa,xb⟩:=x;simp only at hg;(conv=>whnf);refine⟨by omega,_,hg,rfl,?_⟩;(conv=>whnf);rw[zM (n:=(T.length:Int) - 1) (by omega) (by omega)];refine zd (λh2=>?_) (λh2=>?_)
   ·have h2:(T.length:Int) - 1>=0:=of_decide_eq_true h2;have hzl:T.length - 1<T.length:=by omega
    have hix:((T.length:Int) - 1).toNat=T.length - 1:=by omega
    have hgz:(v0 T)[((T.length:Int) - 1).toNat]? =some [.sl (rowD T[T.length - 1].key),.lit (.int .i64 T[T.length - 1].a),.lit (.int .i64 T[T.length - 1].b)]:=by
     rw[hix];simp[v0,List.getElem?_eq_getElem hzl]
    have hla:T.getLast?=some T[T.length - 1]:=by rw[List.getLast?_eq_getElem?,List.getElem?_eq_getElem hzl]
    unfold UA at hnx;rw[hla]at hnx;have heq:=Qe T[T.length - 1].key xk;generalize hz:T[T.length - 1]=z at*;obtain⟨zk,za,zb⟩:=z;simp only at hgz hnx heq;generalize yz zk xk=b at*;(conv=>whnf);refine⟨by omega,by omega,?_⟩;(conv=>whnf);refine⟨_,hgz,?_⟩;(conv=>whnf);refine Sat.cal (heq) ?_;(conv=>whnf);have hadd:jW (l.take (i+1))=T++[⟨xk,xa,xb⟩] ->True:=λ_=>trivial
    cases b with
    |false=>
     rw[Bool.false_and,cond_false]at hnx;(conv=>whnf);refine⟨by simp,by unfold ye;simp;omega,by simp;omega,?_⟩;(conv=>whnf);refine⟨hlt,trivial,ze ?_⟩;(conv=>whnf);rw[wi,htu,hnx,aig,List.length_append];rfl
    |true=>
     rw[Bool.true_and]at hnx;(conv=>whnf);refine⟨by omega,by omega,?_⟩;(conv=>whnf);refine⟨_,hgz,?_⟩;(conv=>whnf);refine zd (λh3=>?_) (λh3=>?_)
     ·have h3:decide (xa<=zb)=true:=h3;rw[h3,cond_true]at hnx;have hset:(v0 T).set ((T.length:Int) - 1).toNat [.sl (rowD zk),.lit (.int .i64 za),.lit (.int .i64 (yP true zb xb))]=v0 (T.set (T.length - 1) ⟨zk,za,yP true zb xb⟩):=by
       rw[hix];simp[v0,List.map_set]
      have hsl:(T.set (T.length - 1) ⟨zk,za,yP true zb xb⟩).length=T.length:=by simp
      (conv=>whnf);refine⟨by omega,by omega,?_⟩;(conv=>whnf);refine⟨_,hgz,?_⟩;(conv=>whnf);refine⟨by omega,by omega,?_⟩;(conv=>whnf);refine⟨_,hgz,Nat.le_of_ble_eq_true rfl,?_⟩;(conv=>whnf);refine⟨hlt,trivial,ze ?_⟩;(conv=>whnf);generalize yP true zb xb=m at*;rw[wi,hnx,<- hset,hsl];rfl
     ·have h3:decide (xa<=zb)=false:=h3;rw[h3,cond_false]at hnx;(conv=>whnf);refine⟨by simp,by unfold ye;simp;omega,by simp;omega,?_⟩;(conv=>whnf);refine⟨hlt,trivial,ze ?_⟩;(conv=>whnf);rw[wi,htu,hnx,aig,List.length_append];rfl
   ·have h2: ¬(T.length:Int) - 1>=0:=of_decide_eq_false h2;have hT:T=[]:=List.length_eq_zero_iff.1 (by omega);subst hT;have hnx:jW (l.take (i+1))=[⟨xk,xa,xb⟩]:=hnx;(conv=>whnf);refine⟨by simp,by unfold ye;simp,by simp,?_⟩;(conv=>whnf);refine⟨hlt,trivial,ze ?_⟩;(conv=>whnf);rw[wi,hnx];rfl
  ·have hge:l.length<=i:=by have:=of_decide_eq_false h1;omega
   rw[hend hge]at hkl⊢;have hL2:=λ(s:S)=>awY (s:=s) cols T (by omega) hkl
   (conv=>whnf);refine hL2 _ ⟨_,(Kp 19 1 146 1 (by omega) (by omega) rfl).trans (UP 124 (.own 120 3 T.length) (.sl ((v0 T).take T.length)) _ rfl rfl),?_⟩;(conv=>whnf);rw[htu];rfl
def aeH (at_:List Int)(p q:Int)(x:List Val):List Pc:=bif qm (at0 x p.toNat) (at0 x q.toNat)&&decide ((at0 x p.toNat).n>=0)then [⟨zn x at_,(at0 x p.toNat).n,(at0 x q.toNat).n⟩]else []
def vT (at_:List Int)(p q:Int)(rows:List (List Val)):List Pc:=rows.flatMap (aeH at_ p q)
theorem at3 (at_:List Int)(p q:Int)(x:List Val):(aeH at_ p q x).length<=1:=by
 unfold aeH;cases(qm _ _&&_)<;>simp
theorem abL (at_:List Int)(p q:Int): ∀rows,(vT at_ p q rows).length<=rows.length
 | []=>Nat.le_refl _
 |x::r=>by
  have h1:=at3 at_ p q x;have h2:=abL at_ p q r;unfold vT at*;rw[List.flatMap_cons,List.length_append,List.length_cons];omega
theorem asd (at_:List Int)(p q:Int){rows:List (List Val)}: ∀z∈vT at_ p q rows,z.key.length=at_.length:=by
 intro z hz;unfold vT at hz;obtain⟨x,_,hx⟩:=List.mem_flatMap.1 hz;unfold aeH at hx;cases h:(qm (at0 x p.toNat) (at0 x q.toNat)&&decide ((at0 x p.toNat).n>=0))
 ·rw[h]at hx;cases hx
 ·rw[h,cond_true,List.mem_singleton]at hx;subst hx;simp[zn]
def Zr (at_:List Int)(p q:Int)(rows:List (List Val)):List (List Val):=(jW (yK WU (vT at_ p q rows))).map Zc
def apO (cols:List Col)(at_:List Int)(p q:Int)(rows:List (List Val))(i:Nat)(T:List Pc):S:=
 ⟨[(4,cV (.ptr 4 0)),(6,.w (.c (.d (.sl (zi cols))))),(8,.w (.c (.d (.sl (zw at_))))),(9,.w (.c (.d (.sl (zw [p,q]))))),(10,cV (.own 65 3 T.length)),(11,cV .nil),(40,.w (.c (.d (.sl (zj rows))))),(41,zf rows.length),(42,zf i)],
 [(4,.box [.nil,.nil]),(65,.arr 3 (v0 T) false)]⟩
def avg:ACode:=xS (xS (xS (xS (xS (xS xz.code)))))
theorem awW {s:S}(cols:List Col)(at_:List Int)(p q:Int)(rows:List (List Val))(hr:rows.length<=100000)(hal:at_.length<=100000)
 (hx: ∀x∈rows,yQ x.length at_ /\yQ x.length [p,q])
 (h0:xD s [4,6,8,9,10,11,40,41,42] (· =apO cols at_ p q rows 0 [])):
 zS (mwpR Pg T8.f q8) [4,6,8,9,10,11,40,41,42] (XF 0 (gU (mwpR Pg T8.f avg) (Uo xz.res [] (DQ (wE ⟨cols,Zr at_ p q rows⟩ 0))))) s:=by
 unfold Zr;refine zF (P:=Pg) (f:=T8.f) (body:=q8) rows.length (λi=>apO cols at_ p q rows i (vT at_ p q (rows.take i))) (λ_=>True) ⟨trivial,h0⟩ ?_
 ·clear h0;intro i hi _;have hnx: ∀h:i<rows.length,vT at_ p q (rows.take (i+1))=vT at_ p q (rows.take i)++aeH at_ p q rows[i]:=λh=>by
   unfold vT;rw[zP h,List.flatMap_append];simp
  have hend:rows.length<=i ->vT at_ p q rows=vT at_ p q (rows.take i):=λh=>by rw[List.take_of_length_le h]
  have hUl:(vT at_ p q (rows.take i)).length<=rows.length:=Nat.le_trans (abL _ _ _ _) (by simp;omega);have hkl:=asd at_ p q (rows:=rows.take i);show mwpR Pg T8.f q8 _ (apO cols at_ p q rows i (vT at_ p q (rows.take i)));generalize vT at_ p q (rows.take i)=T at*;have htu:(v0 T).take T.length=v0 T:=by rw[<- aih,List.take_length]
  unfold apO;(conv=>whnf);refine zd (λh1=>?_) (λh1=>?_)
  ·have hlt:i<rows.length:=by have:=of_decide_eq_true h1;omega
   have hg:=xu hlt;have hnx:=hnx hlt;obtain⟨hx1,hx2⟩:=hx _ (List.getElem_mem hlt);have wi:=zx hlt (by omega);have hsp:=aeU rows[i] p q (hx2 _ (by simp)) (hx2 _ (by simp));have hpk:=ZD rows[i] at_ (by omega) hx1;clear hend hx hkl;unfold aeH at hnx;generalize rows[i]=x at*;generalize at0 x p.toNat=u at*;generalize at0 x q.toNat=v at*;unfold agX at hsp;generalize qm u v=b at*;obtain⟨_,u,_⟩:=u;obtain⟨_,v,_⟩:=v;simp only at hsp hnx;(conv=>whnf);refine⟨by omega,_,hg,rfl,?_⟩;(conv=>whnf);(conv=>whnf);refine Sat.cal (hsp) ?_;(conv=>whnf);cases b with
   |false=>
    rw[Bool.false_and,cond_false,List.append_nil]at hnx;(conv=>whnf);refine⟨hlt,trivial,ze ?_⟩;(conv=>whnf);rw[wi,hnx];rfl
   |true=>
    rw[Bool.true_and]at hnx;(conv=>whnf);refine zd (λh2=>?_) (λh2=>?_)
    ·have h2:decide (u>=0)=true:=h2;rw[h2,cond_true]at hnx;(conv=>whnf);refine Sat.cal (hpk) ?_;(conv=>whnf);refine⟨by simp,by unfold ye;simp;omega,by simp;omega,?_⟩;(conv=>whnf);refine⟨hlt,trivial,ze ?_⟩;(conv=>whnf);rw[wi,htu,hnx,aig,List.length_append];rfl
    ·have h2:decide (u>=0)=false:=h2;rw[h2,cond_false,List.append_nil]at hnx;(conv=>whnf);refine⟨hlt,trivial,ze ?_⟩;(conv=>whnf);rw[wi,hnx];rfl
  ·have hge:rows.length<=i:=by have:=of_decide_eq_false h1;omega
   rw[hend hge];have hso:=asw T T.length rfl (by omega);have hpm:=VK ace T;have hsl:(yK WU T).length=T.length:=hpm.length_eq;have hsk: ∀z∈yK WU T,z.key.length<=100000:=λz hz=>by have:=hkl z (hpm.mem_iff.1 hz);omega
   generalize yK WU T=Z at*;have hL1:=λ(s:S)=>awX (s:=s) cols Z (by omega) hsk
   have htz:(v0 Z).take T.length=v0 Z:=by rw[<- hsl,<- aih,List.take_length]
   (conv=>whnf);refine zu.mono (hso) ?_;rintro _ rfl;(conv=>whnf);refine hL1 _ ⟨_,(yh 11 120 3 (by omega) (by omega) rfl).trans (UP 69 (.own 65 3 T.length) (.sl ((v0 Z).take T.length)) _ rfl rfl),?_⟩;(conv=>whnf);rw[htz,<- hsl];rfl
theorem anp {d:List Nmd}{cols:List Col}{st:Stp}(hop:st.op=9)(h:(yw d cols st).1=0):yw d cols st=coT cols st.cols:=by
 have he:=ub h;unfold yw;rw[he,hop];rfl
structure CoOK (cols:List Col)(on:List ByteArray)(R:List Col):Prop where
 tk:takeErr cols on=false
 i1:colInt cols sFrom=0
 i2:colInt cols sTo=0
 two:(hasB on sFrom||hasB on sTo)=false
 eq:R=takeC cols on++[⟨sFrom,2⟩,⟨sTo,2⟩]
theorem alx {cols:List Col}{on:List ByteArray}(h:(coT cols on).1=0):CoOK cols on (coT cols on).2:=by
 unfold coT at h⊢;obtain⟨h1,e1⟩:=xF (by intro _;omega) h;rw[e1]at h⊢;obtain⟨h2,e2⟩:=xF (by intro _;omega) h;rw[e2]at h⊢;obtain⟨h3,e3⟩:=xF (by simp) h;rw[e3]at h⊢;obtain⟨h4,e4⟩:=xF (by simp) h;rw[e4];exact⟨h2,by simpa using h3,by simpa using h4,h1,rfl⟩
theorem avO {on:List ByteArray}{a:Tbl}(h:(UN 9 on a).1=0):zQ a=0 /\CoOK a.cols on (UN 9 on a).2:=by
 unfold UN at h⊢;obtain⟨h1,e1⟩:=xF (by simp) h;rw[e1]at h⊢;have h3:=anp (st:=vU 9 on ⟨#[]⟩) rfl h;rw[h3]at h⊢;exact⟨by simpa using h1,alx h⟩
def coQ (a:Tbl)(on:List ByteArray):Res:=bif (UN 9 on a).1 !=0 then wE ⟨[],[]⟩ (UN 9 on a).1 else
 wE ⟨(UN 9 on a).2,Zr (zm a.cols on) (zh a.cols sFrom) (zh a.cols sTo) a.rows⟩ 0
theorem amF (a:Tbl)(on:List ByteArray)(hon:on.length<=100000)(hac:a.cols.length<=1000000):Sat Pg QD [a.w,.c (.d (.sl (zp on)))] (λr=>r=coQ a on):=by
 have hc:=aqG 9 on a (by omega) hac;have hok:=@avO on a;have hpa:=vw a.cols (.sl (zj a.rows)) on (by omega);have hsa:=vw a.cols (.sl (zj a.rows)) [sFrom,sTo] (by simp);unfold coQ;generalize UN 9 on a=c at*;obtain⟨c1,c2⟩:=c;simp only at hok⊢;refine z0 ?_;obtain⟨ac,ar⟩:=a;simp only at*;refine zg T8 JZ (by kernel_rfl) ?_
 conv=>whnf
 refine Sat.cal (hc) ?_
 conv=>whnf
 refine zd (λh1=>?_) (λh1=>?_)
 ·rw[show(c1 !=0)=true from h1];(conv=>whnf);exact⟨rfl,rfl⟩
 ·have h1:(c1 !=0)=false:=h1;rw[h1];have h10:c1=0:=by simpa using h1
  subst h10;obtain⟨ka,hj⟩:=hok rfl;have i1:=apj hj.tk;have i2:=aba hj.i1;have i3:=aba hj.i2;have wa:=Xl ka;have fa:=u6 ka;have p1:zm ac [sFrom,sTo]=[zh ac sFrom,zh ac sTo]:=rfl;have l1:(zm ac on).length=on.length:=by simp[zm]
  have hm:=λ(s:S)=>awW (s:=s) c2 (zm ac on) (zh ac sFrom) (zh ac sTo) ar (by have:=fa.2;simp only at this;omega) (by omega)
   (λx hx=>by
    have h2:=wa x hx;simp only at h2;refine⟨by rw[h2];exact i1,λk hk=>?_⟩;rw[h2];simp only[List.mem_cons,List.not_mem_nil,or_false]at hk;rcases hk with rfl|rfl
    ·exact i2
    ·exact i3)
  rw[p1]at hsa;clear i1 i2 i3 wa fa p1 l1 hj ka hok h1;generalize zh ac sFrom=p at*;generalize zh ac sTo=q at*;generalize zm ac on=left at*;(conv=>whnf)
  repeat' (first
   |(refine Sat.mono hpa ?_;rintro _ rfl;conv=>whnf)
   |(refine Sat.mono hsa ?_;rintro _ rfl;conv=>whnf)
   |(refine And.intro ?_ ?_<;>conv=>whnf))
  all_goals rw[zA]
  all_goals refine hm _ ⟨_,yh 10 65 3 (by omega) (by omega) rfl,?_⟩
  all_goals conv=>whnf
  all_goals rfl
noncomputable def itR (cols:List Col)(row:List Val)(l:List Itm):List Val:=l.map λx=>exprV cols row x.e
noncomputable def selR (cols:List Col)(rows:List (List Val))(l:List Itm):List (List Val):=rows.map λr=>itR cols r l
def seI (cols:List Col)(rows:List (List Val))(st:List C)(i:Nat)(out:List (List Val))(x:List Val)(its:List Itm)(j:Nat)(acc:List Val):S:=
 ⟨[(4,cV (.ptr 4 0)),(5,cV (.ptr 5 0)),(8,cV (.own 69 1 out.length)),(12,.w (yf x)),(13,cV (.own 64 3 acc.length)),(43,.w (.c (.d (.sl (zj rows))))),(44,zf rows.length),(45,zf i),(50,.w (.c (.d (.sl (yR its))))),(51,zf its.length),(52,zf j)],
 [(4,.box [.d (.sl (zi cols)),.d (.sl (zj rows))]),(5,.box st),(64,.arr 3 (rowD acc) false),(69,.arr 1 (zj out) false)]⟩
theorem axj (hC:JO){Q:E ->S ->Prop}{s:S}(cols:List Col)(rows:List (List Val))(eo:Int)(nm:ByteArray)(v:Val)(ks:List Ex)(its:List Itm)(cs ags sts:List (List D))(m:Int)(tb:ByteArray)(i:Nat)(out:List (List Val))(x:List Val)
 (hil:its.length<=100000)
 (h0:xD s [4,5,8,12,13,43,44,45,50,51,52] (· =seI cols rows (qB 2 eo nm v ks (yR its) cs ags sts m tb) i out x its 0 []))
 (hQ:Q (.exit 5) (vi (seI cols rows (qB 2 eo nm v ks (yR its) cs ags sts m tb) i out x its its.length (itR cols x its)) 53 (zD (decide ((its.length:Int)<its.length))))):
 zS (mwpR Pg T8.f jZ) [4,5,8,12,13,43,44,45,50,51,52] Q s:=by
 obtain⟨vk,vn,vs⟩:=v;refine zF (P:=Pg) (f:=T8.f) (body:=jZ) its.length (λj=>seI cols rows (qB 2 eo nm ⟨vk,vn,vs⟩ ks (yR its) cs ags sts m tb) i out x its j (itR cols x (its.take j))) (λ_=>True) ⟨trivial,h0⟩ ?_
 ·clear h0;intro j hj _;have hTl:(itR cols x (its.take j)).length=j:=by simp[itR];omega
  have hnx: ∀h:j<its.length,itR cols x (its.take (j+1))=itR cols x (its.take j)++[exprV cols x its[j].e]:=λh=>by
   unfold itR;rw[zP h,List.map_append];rfl
  have hend:j=its.length ->itR cols x its=itR cols x (its.take j):=λh=>by rw[h,List.take_length]
  show mwpR Pg T8.f jZ _ (seI cols rows (qB 2 eo nm ⟨vk,vn,vs⟩ ks (yR its) cs ags sts m tb) i out x its j (itR cols x (its.take j)));generalize itR cols x (its.take j)=T at*;have hta:(rowD T).take T.length=rowD T:=by rw[<- zo,List.take_length]
  unfold seI qB;(conv=>whnf);refine zd (λh1=>?_) (λh1=>?_)
  ·have hlt:j<its.length:=by have:=of_decide_eq_true h1;omega
   have hg:=WD hlt;have hnx:=hnx hlt;have wi:=zx hlt (by omega);have hex:=aja hC cols x its[j].e;clear hQ hend;generalize its[j]=z at*;obtain⟨⟨eo2,nm2,⟨vk2,vn2,vs2⟩,ks2⟩,s2⟩:=z;simp only at hex hnx;generalize exprV cols x (.mk eo2 nm2 ⟨vk2,vn2,vs2⟩ ks2)=u at*;obtain⟨u1,u2,u3⟩:=u;(conv=>whnf);refine⟨by omega,_,hg,rfl,?_⟩;(conv=>whnf);(conv=>whnf);refine Sat.cal (hex) ?_;(conv=>whnf);refine⟨by simp,by unfold ye;simp;omega,by simp;omega,?_⟩;(conv=>whnf);refine⟨hlt,trivial,ze ?_⟩;(conv=>whnf);rw[wi,hta,hnx,<- vL,List.length_append];rfl
  ·have hge:j=its.length:=by have:=of_decide_eq_false h1;omega
   rw[hend hge]at hQ;subst hge;(conv=>whnf);exact hQ
def seO (cols:List Col)(rows:List (List Val))(st:List C)(i:Nat)(out:List (List Val)):S:=
 ⟨[(4,cV (.ptr 4 0)),(5,cV (.ptr 5 0)),(8,cV (.own 69 1 out.length)),(43,.w (.c (.d (.sl (zj rows))))),(44,zf rows.length),(45,zf i)],
 [(4,.box [.d (.sl (zi cols)),.d (.sl (zj rows))]),(5,.box st),(69,.arr 1 (zj out) false)]⟩
theorem agG (hC:JO)(d:D)(cols:List Col)(rows:List (List Val))(hr:rows.length<=20000)(eo:Int)(nm:ByteArray)(v:Val)(ks:List Ex)(its:List Itm)(cs ags sts:List (List D))(m:Int)(tb:ByteArray)(hil:its.length<=100000):
 Sat Pg wC [.c (.d d),.agg [.d (.sl (zi cols)),.d (.sl (zj rows))],.agg (qB 2 eo nm v ks (yR its) cs ags sts m tb)] (λr=>r=rRT (selR cols rows its)):=by
 refine z0 ?_;have hL1:=λ(Q:E ->S ->Prop) (s:S) (i:Nat) (out:List (List Val)) (x:List Val)=>axj hC (Q:=Q) (s:=s) cols rows eo nm v ks its cs ags sts m tb i out x hil
 obtain⟨vk,vn,vs⟩:=v;unfold qB;refine zg T8 ui (by kernel_rfl) ?_
 conv=>whnf
 rw[zA];refine zF (P:=Pg) (f:=T8.f) (body:=XM) rows.length (λi=>seO cols rows (qB 2 eo nm ⟨vk,vn,vs⟩ ks (yR its) cs ags sts m tb) i (selR cols (rows.take i) its)) (λ_=>True) ⟨trivial,⟨_,yh 8 69 1 (by omega) (by omega) rfl,?_⟩⟩ ?_
 ·(conv=>whnf);rfl
 ·intro i hi _;have hnx: ∀h:i<rows.length,selR cols (rows.take (i+1)) its=selR cols (rows.take i) its++[itR cols rows[i] its]:=λh=>by
   unfold selR;rw[zP h,List.map_append];rfl
  have hend:rows.length<=i ->selR cols rows its=selR cols (rows.take i) its:=λh=>by rw[List.take_of_length_le h]
  have hUl:(selR cols (rows.take i) its).length=i:=by simp[selR];omega
  show mwpR Pg T8.f XM _ (seO cols rows (qB 2 eo nm ⟨vk,vn,vs⟩ ks (yR its) cs ags sts m tb) i (selR cols (rows.take i) its));generalize selR cols (rows.take i) its=U at*;have htu:(zj U).take U.length=zj U:=by rw[<- zA,List.take_length]
  have hL1:=λQ s x=>hL1 Q s i U x
  unfold seO qB;(conv=>whnf);refine zd (λh1=>?_) (λh1=>?_)
  ·have hlt:i<rows.length:=by have:=of_decide_eq_true h1;omega
   have hg:=xu hlt;have hnx:=hnx hlt;have wi:=zx hlt (by omega);clear hend;generalize rows[i]=x at*;have hL1:=λQ s=>hL1 Q s x
   have hRl:(rowD (itR cols x its)).take its.length=rowD (itR cols x its):=by rw[show its.length=(rowD (itR cols x its)).length by simp[zo,itR],List.take_length]
   have hRi:(itR cols x its).length=its.length:=by simp[itR]
   generalize itR cols x its=R at*;(conv=>whnf);refine⟨by omega,_,hg,rfl,?_⟩;(conv=>whnf);refine hL1 _ _ ⟨_,yh 13 64 3 (by omega) (by omega) rfl,?_⟩ ?_
   ·(conv=>whnf);unfold seI qB;rw[wB];rfl
   unfold vi seI qB;(conv=>whnf);rw[show List.take R.length (rowD R)=rowD R by rw[hRi];exact hRl];refine⟨by simp,by unfold ye;simp;omega,by simp;omega,?_⟩;(conv=>whnf);refine⟨hlt,trivial,ze ?_⟩;(conv=>whnf);rw[wi,htu,hnx,vt,List.length_append];rfl
  ·have hge:rows.length<=i:=by have:=of_decide_eq_false h1;omega
   rw[hend hge];clear hL1;(conv=>whnf);refine⟨rfl,?_⟩;show Res.mk (.tup [.c (.d (.sl ((zj U).take U.length))),.c (bool true)]) []=_;rw[htu];rfl
theorem jz (d:List Nmd)(t:Tbl)(st:Stp)(cols2:List Col)(R:List (List Val))(h4:(st.op==4)=false)(h7:(st.op==7)=false)(h8:(st.op==8)=false)(h9:(st.op==9)=false)(hl:R.length<=20000)(hR:Sat Pg wC [.c (.d (.sl (zL d))),t.w,.agg st.cs] (λr=>r=rRT R)):
 Sat Pg qF [.c (.d (.sl (zL d))),t.w,.agg st.cs,.c (.d (.sl (zi cols2)))] (λr=>r=wE ⟨cols2,R⟩ 0):=by
 have hf:=xR d st.table;obtain⟨tc,tr⟩:=t;obtain⟨op,⟨eo,nm,⟨vk,vn,vs⟩,ks⟩,items,scs,saggs,sorts,sn,tb⟩:=st;simp only at*;unfold Stp.cs qB at*;have hl2:decide (((zj R).length:Int)>20000)=false:=decide_eq_false (by rw[zA];omega);generalize zY tb d=f at*;cases f with
 |none=>
  refine zg T8 yJ (by kernel_rfl) ?_;(conv=>whnf);refine Sat.cal (hf) ?_;(conv=>whnf);rw[h4];(conv=>whnf);rw[h7];(conv=>whnf);rw[h8];(conv=>whnf);rw[h9];(conv=>whnf);refine Sat.cal (hR) ?_;(conv=>whnf);rw[hl2];(conv=>whnf);rfl
 |some ft=>
  obtain⟨fc,fr⟩:=ft;refine zg T8 yJ (by kernel_rfl) ?_;(conv=>whnf);refine Sat.cal (hf) ?_;(conv=>whnf);rw[h4];(conv=>whnf);rw[h7];(conv=>whnf);rw[h8];(conv=>whnf);rw[h9];(conv=>whnf);refine Sat.cal (hR) ?_;(conv=>whnf);rw[hl2];(conv=>whnf);rfl
theorem agH (d:List Nmd)(t:Tbl)(st:Stp)(cols2:List Col)(hop:st.op=4)(R:Tbl)(e:Int)(hR:Sat Pg K2 [t.w,.c (.d (.sl (xg st.sorts)))] (λr=>r=wE R e)):
 Sat Pg qF [.c (.d (.sl (zL d))),t.w,.agg st.cs,.c (.d (.sl (zi cols2)))] (λr=>r=wE R e):=by
 have hf:=xR d st.table;obtain⟨tc,tr⟩:=t;obtain⟨rc,rr⟩:=R;obtain⟨op,⟨eo,nm,⟨vk,vn,vs⟩,ks⟩,items,scs,saggs,sorts,sn,tb⟩:=st;simp only at*;subst hop;unfold Stp.cs qB at*;generalize zY tb d=f at*;cases f with
 |none=>
  refine zg T8 yJ (by kernel_rfl) ?_;(conv=>whnf);refine Sat.cal (hf) ?_;(conv=>whnf);refine Sat.cal (hR) ?_;(conv=>whnf);rfl
 |some ft=>
  obtain⟨fc,fr⟩:=ft;refine zg T8 yJ (by kernel_rfl) ?_;(conv=>whnf);refine Sat.cal (hf) ?_;(conv=>whnf);refine Sat.cal (hR) ?_;(conv=>whnf);rfl
theorem adj (d:List Nmd)(t:Tbl)(st:Stp)(cols2:List Col)(hop:st.op=9)(R:Tbl)(e:Int)(hR:Sat Pg QD [t.w,.c (.d (.sl (zp st.cols)))] (λr=>r=wE R e)):
 Sat Pg qF [.c (.d (.sl (zL d))),t.w,.agg st.cs,.c (.d (.sl (zi cols2)))] (λr=>r=wE R e):=by
 have hf:=xR d st.table;obtain⟨tc,tr⟩:=t;obtain⟨rc,rr⟩:=R;obtain⟨op,⟨eo,nm,⟨vk,vn,vs⟩,ks⟩,items,scs,saggs,sorts,sn,tb⟩:=st;simp only at*;subst hop;unfold Stp.cs qB at*;generalize zY tb d=f at*;cases f with
 |none=>
  refine zg T8 yJ (by kernel_rfl) ?_;(conv=>whnf);refine Sat.cal (hf) ?_;(conv=>whnf);refine Sat.cal (hR) ?_;(conv=>whnf);rfl
 |some ft=>
  obtain⟨fc,fr⟩:=ft;refine zg T8 yJ (by kernel_rfl) ?_;(conv=>whnf);refine Sat.cal (hf) ?_;(conv=>whnf);refine Sat.cal (hR) ?_;(conv=>whnf);rfl
theorem aeW (d:List Nmd)(t:Tbl)(st:Stp)(cols2:List Col)(hop:st.op=7)(b:Tbl)(hb:zY st.table d=some b)(R:Tbl)(e:Int)(hR:Sat Pg WG [t.w,b.w,.c (.d (.sl (zp st.cols)))] (λr=>r=wE R e)):
 Sat Pg qF [.c (.d (.sl (zL d))),t.w,.agg st.cs,.c (.d (.sl (zi cols2)))] (λr=>r=wE R e):=by
 have hf:=xR d st.table;rw[hb]at hf;obtain⟨tc,tr⟩:=t;obtain⟨bc,br⟩:=b;obtain⟨rc,rr⟩:=R;obtain⟨op,⟨eo,nm,⟨vk,vn,vs⟩,ks⟩,items,scs,saggs,sorts,sn,tb⟩:=st;simp only at*;subst hop;unfold Stp.cs qB at*;refine zg T8 yJ (by kernel_rfl) ?_
 conv=>whnf
 refine Sat.cal (hf) ?_
 conv=>whnf
 refine Sat.cal (hR) ?_
 conv=>whnf
 rfl
theorem aeV (d:List Nmd)(t:Tbl)(st:Stp)(cols2:List Col)(hop:st.op=8)(b:Tbl)(hb:zY st.table d=some b)(R:Tbl)(e:Int)(hR:Sat Pg WF [t.w,b.w,.c (.d (.sl (zp st.cols)))] (λr=>r=wE R e)):
 Sat Pg qF [.c (.d (.sl (zL d))),t.w,.agg st.cs,.c (.d (.sl (zi cols2)))] (λr=>r=wE R e):=by
 have hf:=xR d st.table;rw[hb]at hf;obtain⟨tc,tr⟩:=t;obtain⟨bc,br⟩:=b;obtain⟨rc,rr⟩:=R;obtain⟨op,⟨eo,nm,⟨vk,vn,vs⟩,ks⟩,items,scs,saggs,sorts,sn,tb⟩:=st;simp only at*;subst hop;unfold Stp.cs qB at*;refine zg T8 yJ (by kernel_rfl) ?_
 conv=>whnf
 refine Sat.cal (hf) ?_
 conv=>whnf
 refine Sat.cal (hR) ?_
 conv=>whnf
 rfl
end Go.Proofs.YtnlbmefhdiabcaaGreat
namespace Go.Proofs.YtnlbmefhdiabcaaGreat
open Go Go.AM
attribute [local irreducible] Sat zu zS zl
def qh (d:List Nmd)(st:Stp):Tbl:=(zY st.table d).getD ⟨[],[]⟩
noncomputable def stR (d:List Nmd)(t:Tbl)(st:Stp):List (List Val):=
 bif st.op==1 then whereR t.cols t.rows st.cond else bif st.op==2 then selR t.cols t.rows st.items else
 bif st.op==3 then(wP (zm t.cols st.cols) t.rows).map (yV t.cols st.aggs)else
 bif st.op==4 then yK (uX (vj t.cols st.sorts) st.sorts) t.rows else bif st.op==5 then t.rows.take (yP false st.n t.rows.length).toNat else
 bif st.op==6 then qx (zm t.cols st.cols) (zm (qh d st).cols st.cols) (oth st.cols 0 (qh d st).cols) t.rows (qh d st).rows else
 bif st.op==7 then qP (zh t.cols sFrom) (zh t.cols sTo) (zh (qh d st).cols sFrom) (zh (qh d st).cols sTo) (zm t.cols st.cols) (zm (qh d st).cols st.cols) (oth (st.cols++[sFrom,sTo]) 0 (qh d st).cols) t.rows (qh d st).rows else
 bif st.op==8 then t.rows.map (wg (zh t.cols sFrom) (zh (qh d st).cols sFrom) (zm t.cols st.cols) (zm (qh d st).cols st.cols) (oth (st.cols++[sFrom]) 0 (qh d st).cols) (qh d st).rows)else
 Zr (zm t.cols st.cols) (zh t.cols sFrom) (zh t.cols sTo) t.rows
noncomputable def nStepT (d:List Nmd)(t:Tbl)(st:Stp):Int×Tbl:=
 bif xm d !=0 then(xm d,⟨[],[]⟩)else bif zQ t !=0 then(zQ t,⟨[],[]⟩)else bif (yw d t.cols st).1 !=0 then((yw d t.cols st).1,⟨[],[]⟩)else(0,⟨(yw d t.cols st).2,stR d t st⟩)
def rTT (x:Int×Tbl):Res:=wE x.2 x.1
theorem aqq {e:Int}: ∀{P:Program}{k:Nat}{args:List W},Sat P k args (λr=>r=rNT e) ->Sat P k args (DQ (wE ⟨[],[]⟩ e)):=λh=>h.mono λr hr=>by subst hr;exact⟨rfl,rfl⟩
theorem aoF {nm:ByteArray}{b:Tbl}: ∀{d pre:List Nmd},Yq pre d=0 ->zY nm d=some b ->zQ b=0
 | [],_,_,hf=>by cases hf
 |x::r,pre,h,hf=>by
  simp only[Yq]at h;cases h1:(xZ x.nm !=0)
  ·rw[h1,cond_false]at h;obtain⟨_,h⟩:=zW (by omega) h;cases h2:(zQ x.t !=0)
   ·rw[h2,cond_false]at h;simp only[zY]at hf;cases h3:zl x.nm nm
    ·rw[h3,cond_false]at hf;exact aoF h hf
    ·rw[h3,cond_true]at hf;cases hf;simpa using h2
   ·rw[h2,cond_true]at h;rw[h]at h2;cases h2
  ·rw[h1,cond_true]at h;rw[h]at h1;cases h1
theorem Wy {d:List Nmd}{nm:ByteArray}{b:Tbl}(h:xm d=0)(hf:zY nm d=some b):zQ b=0:=by
 unfold xm at h;exact aoF (zW (by omega) h).2 hf
theorem alG {st:Stp}(h:st.err=0)(hop:st.op=7\/st.op=8\/st.op=9):qd st.cols 0=0:=by
 unfold Stp.err at h;have h:=(zW (by omega) h).2;rcases hop with hop|hop|hop
 ·rw[hop]at h;exact(zW (by omega) (show(bif !z7 st.table then 3 else qd st.cols 0)=0 from h)).2
 ·rw[hop]at h;exact(zW (by omega) (show(bif !z7 st.table then 3 else qd st.cols 0)=0 from h)).2
 ·rw[hop]at h;exact h
theorem ag2 {op:Int}{on:List ByteArray}{tb:ByteArray}(hop:op=7\/op=8\/(op=9 /\tb=⟨#[]⟩)):(vU op on tb).uses=true:=by
 show VM op (Ex.mk 0 ⟨#[]⟩ ⟨0,0,⟨#[]⟩⟩ []).zero 0 on.length 0 0 0 tb=true;have hz:(Ex.mk 0 ⟨#[]⟩ ⟨0,0,⟨#[]⟩⟩ []).zero=true:=by
  simp only[Ex.zero,VN,xi,AM.beqS_self];rfl
 unfold VM;rw[hz];rcases hop with rfl|rfl|⟨rfl,rfl⟩
 ·rfl
 ·rfl
 ·rw[AM.beqS_self];rfl
theorem asT {op:Int}{on:List ByteArray}(hop:op=7\/op=8)(h:qd on 0=0):(vU op on vu).err=0:=by
 unfold Stp.err;rw[ag2 (by rcases hop with h|h<;>simp[h])];have hb:z7 vu=true:=by decide+kernel
 rcases hop with rfl|rfl
 ·show(bif !z7 vu then 3 else qd on 0)=0;rw[hb];exact h
 ·show(bif !z7 vu then 3 else qd on 0)=0;rw[hb];exact h
theorem aqV {on:List ByteArray}(h:qd on 0=0):(vU 9 on ⟨#[]⟩).err=0:=by
 unfold Stp.err;rw[ag2 (.inr (.inr ⟨rfl,rfl⟩))];exact h
theorem awq {sp:List ByteArray}{d:List Nmd}{cols:List Col}{cs:List ByteArray}{tb:ByteArray}{b:Tbl}(hf:zY tb d=some b):YU sp [⟨vu,b⟩] cols cs vu=YU sp d cols cs tb:=by
 have hb:zY vu [⟨vu,b⟩]=some b:=by
  show(bif zl vu vu then some b else none)=some b;rw[AM.beqS_self];rfl
 unfold YU;rw[hf,hb]
theorem apl {d:List Nmd}{t b:Tbl}{st:Stp}(hop:st.op=7\/st.op=8)(ht:zQ t=0)(hb:zQ b=0)(he:st.err=0)(hf:zY st.table d=some b):Y8 st.op st.cols t b=yw d t.cols st:=by
 have hc:=alG he (by omega);have he2:=asT hop hc;unfold Y8;rw[ht,hb];show yw [⟨vu,b⟩] t.cols (vU st.op st.cols vu)=_;have e1:yw [⟨vu,b⟩] t.cols (vU st.op st.cols vu)=YU (aeY st.op) [⟨vu,b⟩] t.cols st.cols vu:=by
  unfold yw;rw[he2];rcases hop with hop|hop<;>rw[show(vU st.op st.cols vu).op=st.op from rfl,hop]<;>rfl
 have e2:yw d t.cols st=YU (aeY st.op) d t.cols st.cols st.table:=by
  unfold yw;rw[he];rcases hop with hop|hop<;>rw[hop]<;>rfl
 rw[e1,e2,awq hf]
theorem avN {d:List Nmd}{t:Tbl}{st:Stp}(hop:st.op=9)(ht:zQ t=0)(he:st.err=0):UN 9 st.cols t=yw d t.cols st:=by
 have hc:=alG he (by omega);have he2:=aqV hc;unfold UN;rw[ht];show yw [] t.cols (vU 9 st.cols ⟨#[]⟩)=_;unfold yw;rw[he,he2,hop];rfl
theorem ue {x y:Int}:(bif x !=0 then x else y)=0↔x=0 /\y=0:=by
 by_cases h:x=0
 ·subst h;simp
 ·have h1:(x !=0)=true:=by simpa using h
  rw[h1];exact⟨λe=>absurd e h,λe=>absurd e.1 h⟩
theorem ud {b:Bool}{x y:Int}(hx:x≠0):(bif b then x else y)=0↔b=false /\y=0:=by
 cases b
 ·exact⟨λh=>⟨rfl,h⟩,λh=>h.2⟩
 ·exact⟨λh=>absurd h hx,λh=>absurd h.1 (by simp)⟩
def zV:List Col ->List Val ->Prop
 | [],[]=>True
 |c::cs,v::vs=>yy c.t v /\zV cs vs
 |_,_=>False
theorem zV.len: ∀{cs:List Col}{vs:List Val},zV cs vs ->vs.length=cs.length
 | [],[],_=>rfl
 |c::cs,v::vs,h=>by simp only[List.length_cons];rw[zV.len h.2]
theorem zV.app: ∀{cs cs':List Col}{vs vs':List Val},zV cs vs ->zV cs' vs' ->zV (cs++cs') (vs++vs')
 | [],_,[],_,_,h=>h
 |c::cs,_,v::vs,_,h,h'=>⟨h.1,zV.app h.2 h'⟩
theorem zV.get: ∀{cs:List Col}{vs:List Val},zV cs vs -> ∀{i:Nat}(h:i<cs.length),yy cs[i].t (at0 vs i)
 |c::cs,v::vs,h,0,_=>h.1
 |c::cs,v::vs,h,i+1,hi=>zV.get h.2 (i:=i) (by simpa using hi)
theorem zV.map {α:Type}(f:α ->Col)(g:α ->Val): ∀{l:List α},(∀x∈l,yy (f x).t (g x)) ->zV (l.map f) (l.map g)
 | [],_=>trivial
 |x::r,h=>⟨h x (by simp),zV.map f g λy hy=>h y (by simp[hy])⟩
theorem zV.of: ∀{cs:List Col}{vs:List Val},vs.length=cs.length ->(∀i (h:i<cs.length),yy cs[i].t (at0 vs i)) ->zV cs vs
 | [],[],_,_=>trivial
 |c::cs,v::vs,hl,h=>⟨h 0 (by simp),zV.of (by simpa using hl) λi hi=>h (i+1) (by simpa using hi)⟩
theorem zV.set {cs:List Col}{vs:List Val}(h:zV cs vs){i:Nat}(hi:i<cs.length){v:Val}(hv:yy cs[i].t v):zV cs (vs.set i v):=by
 refine zV.of (by rw[List.length_set];exact h.len) λj hj=>?_
 have hl:=h.len;by_cases e:i=j
 ·subst e;have:at0 (vs.set i v) i=v:=by simp[at0,List.getD,hl,hi]
  rw[this];exact hv
 ·have:at0 (vs.set i v) j=at0 vs j:=by simp[at0,List.getD,List.getElem?_set,e]
  rw[this];exact h.get hj
theorem ab9: ∀{cs:List Col}{vs:List Val},vs.length=cs.length ->(wU cs vs=0↔zV cs vs)
 | [],[],_=>⟨λ_=>trivial,λ_=>rfl⟩
 |c::cs,v::vs,h=>by
  simp only[wU];rw[ue,ab9 (by simpa using h)];exact⟨λh=>⟨acg h.1,h.2⟩,λh=>⟨ajw h.1,h.2⟩⟩
theorem ao7 {cols:List Col}: ∀{rows:List (List Val)},ZW cols rows=0↔ ∀r∈rows,zV cols r
 | []=>⟨λ_ r hr=>by(cases hr),λ_=>rfl⟩
 |a::rs=>by
  simp only[ZW];rw[ud (by omega),ue,ao7];constructor
  ·rintro⟨h1,h2,h3⟩ r hr;have h1':(a.length:Int)=cols.length:=by simpa using h1
   have h1:a.length=cols.length:=by omega
   rcases List.mem_cons.1 hr with rfl|hr
   ·exact(ab9 h1).1 h2
   ·exact h3 r hr
  ·intro h;have ha:=h a (by simp);have hl:=ha.len;exact⟨by simp[hl],(ab9 hl).2 ha,λr hr=>h r (by simp[hr])⟩
theorem aly (l:List Col)(s:ByteArray):decide (zh l s>=0)=true↔s∈l.map Col.name:=by
 unfold zh;have:=YT (λx:Col=>zl x.name s) l 0;rw[show((0:Nat):Int)=0 from rfl]at this;rw[this,List.any_eq_true];constructor
 ·rintro⟨x,hx,he⟩;have:=(AM.beqS_iff _ _).1 he;exact List.mem_map.2 ⟨x,hx,this⟩
 ·intro h;obtain⟨x,hx,rfl⟩:=List.mem_map.1 h;exact⟨x,hx,AM.beqS_self _⟩
theorem alz (l:List Col)(s:ByteArray):decide (zh l s>=0)=false↔s∉l.map Col.name:=by
 rw[<- aly,Bool.not_eq_true]
def ColF (c:Col):Prop:=xZ c.name=0 /\(c.t=1\/c.t=2\/c.t=3)
theorem aoJ: ∀{l:List Col}{all:List Col}{i:Nat},all.drop i=l ->i<=all.length ->(j8 all i l=0↔(∀c∈l,ColF c)/\(∀c∈l,c.name∉(all.take i).map Col.name)/\(l.map Col.name).Nodup)
 | [],_,_,_,_=>⟨λ_=>⟨λ_ h=>(by cases h),λ_ h=>(by cases h),List.nodup_nil⟩,λ_=>rfl⟩
 |c::r,all,i,h,hi=>by
  have hlt:i<all.length:=by
   have:=congrArg List.length h;simp only[List.length_drop,List.length_cons]at this;omega
  have hd:=zq hlt;rw[h]at hd;obtain⟨e1,e2⟩:=List.cons.inj hd;have htk:all.take (i+1)=all.take i++[c]:=by rw[e1];exact(List.take_append_getElem hlt).symm
  simp only[j8];rw[ue,ud (by omega),ud (by omega),aoJ e2.symm (by omega),alz,htk];have ht:(c.t !=1&&c.t !=2&&c.t !=3)=false↔(c.t=1\/c.t=2\/c.t=3):=by
   simp only[Bool.and_eq_false_iff,bne_eq_false_iff_eq];omega
  rw[ht];simp only[List.map_append,List.mem_append,List.map_cons,List.map_nil,List.mem_singleton,List.nodup_cons];constructor
  ·rintro⟨h1,h2,h3,h4,h5,h6⟩;refine⟨λx hx=>?_,λx hx=>?_,?_,h6⟩
   ·rcases List.mem_cons.1 hx with rfl|hx
    ·exact⟨h1,h3⟩
    ·exact h4 x hx
   ·rcases List.mem_cons.1 hx with rfl|hx
    ·exact h2
    ·exact λh=>h5 x hx (.inl h)
   ·intro hm;obtain⟨x,hx,e⟩:=List.mem_map.1 hm;exact h5 x hx (.inr e)
  ·rintro⟨h1,h2,h3,h4⟩;have hc:=h1 c (by simp);refine⟨hc.1,h2 c (by simp),hc.2,λx hx=>h1 x (by simp[hx]),λx hx=>?_,h4⟩;rintro(h|h)
   ·exact h2 x (by simp[hx]) h
   ·exact h3 (List.mem_map.2 ⟨x,hx,h⟩)
structure ColsF (cols:List Col):Prop where
 few:cols.length<=32
 ok: ∀c∈cols,ColF c
 nd:(cols.map Col.name).Nodup
theorem ag1 (t:Tbl):zQ t=0↔ColsF t.cols /\t.rows.length<=20000 /\ ∀r∈t.rows,zV t.cols r:=by
 unfold zQ;rw[ud (by omega),ue,aoJ (by rfl) (Nat.zero_le _),ao7];simp only[Bool.or_eq_false_iff,decide_eq_false_iff_not,List.take_zero,List.map_nil,List.not_mem_nil,not_false_eq_true,implies_true,true_and];constructor
 ·rintro⟨⟨h1,h2⟩,⟨h3,h4⟩,h5⟩;exact⟨⟨by omega,h3,h4⟩,by omega,h5⟩
 ·rintro⟨⟨h1,h3,h4⟩,h2,h5⟩;exact⟨⟨by omega,by omega⟩,⟨h3,h4⟩,h5⟩
theorem aoP: ∀{cols:List Col}{row:List Val},zV cols row ->XW cols row=true
 | [],[],_=>rfl
 |c::cs,v::r,h=>by
  simp only[XW];rw[show(yx c.t v !=0)=false by simpa using ajw h.1];exact aoP h.2
theorem avj {cols:List Col}{row:List Val}(h:zV cols row):WX cols row=true:=by
 unfold WX;rw[h.len];rw[show(((cols.length:Int)) !=(cols.length:Int))=false by simp];exact aoP h
theorem arC: ∀{l pre:List Col},dupL pre l=false↔(∀c∈l,c.name∉pre.map Col.name)/\(l.map Col.name).Nodup
 | [],_=>⟨λ_=>⟨λ_ h=>(by cases h),List.nodup_nil⟩,λ_=>rfl⟩
 |c::r,pre=>by
  simp only[dupL];have ih:=arC (l:=r) (pre:=pre++[c]);cases hb:decide (zh pre c.name>=0)
  ·rw[cond_false,ih];rw[alz]at hb;simp only[List.map_append,List.mem_append,List.map_cons,List.map_nil,List.mem_singleton,List.nodup_cons];constructor
   ·rintro⟨h1,h2⟩;refine⟨λx hx=>?_,?_,h2⟩
    ·rcases List.mem_cons.1 hx with rfl|hx
     ·exact hb
     ·exact λh=>h1 x hx (.inl h)
    ·intro hm;obtain⟨x,hx,e⟩:=List.mem_map.1 hm;exact h1 x hx (.inr e)
   ·rintro⟨h1,h2,h3⟩;refine⟨λx hx=>?_,h3⟩;rintro(h|h)
    ·exact h1 x (by simp[hx]) h
    ·exact h2 (List.mem_map.2 ⟨x,hx,h⟩)
  ·rw[cond_true];rw[aly]at hb;exact⟨λh=>(by cases h),λh=>absurd hb (h.1 c (by simp))⟩
theorem anx: ∀c:Fin 256,afQ ((c.val:Int))=false ->acm (c.val:Int)=true:=by decide+kernel
theorem aoV: ∀{l:List UInt8},idL l=true ->aby l=0
 | [],_=>rfl
 |c::r,h=>by
  simp only[idL]at h;simp only[aby];cases hb:afQ c.toNat
  ·rw[hb,cond_false]at h;have:=anx ⟨c.toNat,c.toNat_lt⟩ hb;simp only at this;rw[this];exact aoV h
  ·rw[hb]at h;cases h
theorem VE {s:ByteArray}(h:z7 s=true):xZ s=0:=by
 unfold z7 at h;unfold xZ;cases h1:(zl s ⟨#[]⟩||decide ((s.size:Int)>40)||decide (Vt s<97)||decide (Vt s>122))
 ·rw[h1,cond_false]at h;simp only[Bool.or_eq_false_iff]at h1;rw[h1.1.1.1,h1.1.1.2];cases h2:(!idL s.data.toList)
  ·exact aoV (by simpa using h2)
  ·rw[h2]at h;cases h
 ·rw[h1]at h;cases h
theorem atB {l:List ByteArray}{s:ByteArray}:hasB l s=true↔s∈l:=by
 unfold hasB;rw[List.any_eq_true];constructor
 ·rintro⟨x,hx,he⟩;rw[(AM.beqS_iff _ _).1 he];exact hx
 ·intro h;exact⟨s,h,AM.beqS_self _⟩
theorem alO {l:List ByteArray}{s:ByteArray}:hasB l s=false↔s∉l:=by rw[<- atB,Bool.not_eq_true]
theorem as7 {acc:List ByteArray}{s:ByteArray}(h:zU acc s=0):z7 s=true /\s∉acc:=by
 unfold zU at h;rw[ud (by omega),ud (by omega)]at h;exact⟨by simpa using h.1,alO.1 h.2.1⟩
theorem Jw {α:Type}(f:α ->ByteArray){E:List ByteArray ->List α ->Int}(hE: ∀acc x r,E acc (x::r)=0 ->zU acc (f x)=0 /\E (acc++[f x]) r=0): ∀(l:List α) (acc:List ByteArray),E acc l=0 ->(∀x∈l,z7 (f x)=true)/\(∀x∈l,f x∉acc)/\(l.map f).Nodup
 | [],_,_=>⟨λ_ h=>(by cases h),λ_ h=>(by cases h),List.nodup_nil⟩
 |x::r,acc,h=>by
  obtain⟨h1,h2⟩:=hE acc x r h;obtain⟨h3,h4⟩:=as7 h1;obtain⟨i1,i2,i3⟩:=Jw f hE r _ h2;refine⟨λy hy=>?_,λy hy=>?_,?_⟩
  ·rcases List.mem_cons.1 hy with rfl|hy
   ·exact h3
   ·exact i1 y hy
  ·rcases List.mem_cons.1 hy with rfl|hy
   ·exact h4
   ·exact λh=>i2 y hy (by simp[h])
  ·rw[List.map_cons,List.nodup_cons];refine⟨λhm=>?_,i3⟩;obtain⟨y,hy,e⟩:=List.mem_map.1 hm;exact i2 y hy (by simp[e])
theorem aiI {l acc:List ByteArray}(h:qC acc l=0):(∀x∈l,z7 x=true)/\(∀x∈l,x∉acc)/\l.Nodup:=by
 have:=Jw (λs:ByteArray=>s) (E:=qC) (λacc x r h=>by simp only[qC]at h;exact ue.1 h) l acc h;rw[List.map_id']at this;exact this
theorem anR {l:List Itm}{acc:List ByteArray}(h:xA acc l=0):(∀x∈l,z7 x.nm=true)/\(∀x∈l,x.nm∉acc)/\(l.map Itm.nm).Nodup:=
 Jw Itm.nm (E:=xA) (λacc x r h=>by simp only[xA]at h;exact ue.1 (ue.1 h).2) l acc h
theorem apC {l:List Agg}{acc:List ByteArray}(h:qI acc l=0):(∀x∈l,z7 x.nm=true)/\(∀x∈l,x.nm∉acc)/\(l.map Agg.nm).Nodup:=
 Jw Agg.nm (E:=qI) (λacc x r h=>by simp only[qI]at h;exact ue.1 (ue.1 h).2) l acc h
theorem aiP {α:Type}(p:α ->Bool): ∀(l:List α) (i:Nat),yd p (i:Int) l<0\/ ∃k,∃h:k<l.length,yd p (i:Int) l=((i+k:Nat):Int)/\p l[k]=true
 | [],i=>.inl (by simp[yd])
 |x::r,i=>by
  simp only[yd];cases hb:p x
  ·have:=aiP p r (i+1);simp only[cond_false];rcases this with h|⟨k,hk,e,hp⟩
   ·left;exact h
   ·right
    refine⟨k+1,by simpa using hk,?_,hp⟩;have:yd p ((i:Int)+1) r=((i+1+k:Nat):Int):=e;rw[this];congr 1;omega
  ·right
   exact⟨0,by simp,by simp,hb⟩
theorem Zs {cols:List Col}{s:ByteArray}(h: ¬zh cols s<0): ∃h:(zh cols s).toNat<cols.length,y5 cols (zh cols s)=cols[(zh cols s).toNat]/\(y5 cols (zh cols s)).name=s:=by
 have:=aiP (λx:Col=>zl x.name s) cols 0;rcases this with h1|⟨k,hk,e,hp⟩
 ·exact absurd h1 h
 ·have e:zh cols s=((0+k:Nat):Int):=e;have e2:(zh cols s).toNat=k:=by omega
  have hlt:(zh cols s).toNat<cols.length:=by omega
  have e3:y5 cols (zh cols s)=cols[(zh cols s).toNat]:=by simp[y5,List.getD,List.getElem?_eq_getElem hlt]
  refine⟨hlt,e3,?_⟩;rw[e3];simp only[e2];exact(AM.beqS_iff _ _).1 hp
theorem ab7 {cols:List Col}{nms:List ByteArray}(h:takeErr cols nms=false): ∀s∈nms,¬zh cols s<0:=λs hs=>by
 unfold takeErr at h;rw[List.any_eq_false]at h;simpa using h s hs
theorem adE {cols:List Col}{nms:List ByteArray}(h:takeErr cols nms=false):(takeC cols nms).map Col.name=nms:=by
 unfold takeC;rw[List.map_map];conv=>rhs;rw[<- List.map_id' nms]
 exact List.map_congr_left λs hs=>(Zs (ab7 h s hs)).2.2
theorem asR {cols:List Col}{nms:List ByteArray}(h:takeErr cols nms=false): ∀c∈takeC cols nms,c∈cols:=λc hc=>by
 unfold takeC at hc;obtain⟨s,hs,rfl⟩:=List.mem_map.1 hc;obtain⟨h1,h2,_⟩:=Zs (ab7 h s hs);rw[h2];exact List.getElem_mem _
theorem zV.pick {cols:List Col}{r:List Val}(hr:zV cols r){nms:List ByteArray}(h:takeErr cols nms=false):zV (takeC cols nms) (zn r (zm cols nms)):=by
 unfold zn zm takeC;rw[List.map_map];refine zV.map _ _ λs hs=>?_
 obtain⟨h1,h2,_⟩:=Zs (ab7 h s hs);rw[h2];exact hr.get h1
theorem ase (r:List Val)(a b:List Int):zn r (a++b)=zn r a++zn r b:=by simp[zn]
theorem arA {vs:List Val}{i:Nat}{v:Val}{r:List Val}(h:vs.drop i=v::r):at0 vs i=v /\vs.drop (i+1)=r:=by
 have hlt:i<vs.length:=by
  have:=congrArg List.length h;simp only[List.length_drop,List.length_cons]at this;omega
 rw[zq hlt]at h;obtain⟨h1,h2⟩:=List.cons.inj h;exact⟨by rw[<- h1];simp[at0,List.getD,List.getElem?_eq_getElem hlt],h2⟩
theorem zV.rest (on:List ByteArray){y:List Val}: ∀{tc:List Col}{i:Nat},zV tc (y.drop i) ->zV (tc.filter λc=>!hasB on c.name) (zn y (oth on i tc))
 | [],i,_=>trivial
 |c::r,i,h=>by
  cases hd:y.drop i with
  |nil=>rw[hd]at h;exact False.elim h
  |cons v vs=>
   rw[hd]at h;obtain⟨e1,e2⟩:=arA hd;have ih:=zV.rest on (y:=y) (tc:=r) (i:=i+1) (by rw[e2];exact h.2);simp only[Go.Proofs.YtnlbmefhdiabcaaGreat.oth];cases hb:(!hasB on c.name)
   ·rw[List.filter_cons,hb];exact ih
   ·rw[List.filter_cons,hb,if_pos rfl,ase];refine zV.app (cs:=[c]) ?_ ih;show zV [c] [at0 y ((i:Int)).toNat];rw[show((i:Int)).toNat=i by omega,e1];exact⟨h.1,trivial⟩
theorem amt (on:List ByteArray): ∀(l:List Col) (i:Nat),(oth on i l).length=(l.filter λc=>!hasB on c.name).length
 | [],_=>rfl
 |c::r,i=>by
  simp only[oth,List.length_append];rw[amt on r (i+1)];cases hb:(!hasB on c.name)
  ·rw[List.filter_cons,hb];simp
  ·rw[List.filter_cons,hb];simp;omega
theorem atA (a b:List ByteArray)(s:ByteArray):hasB (a++b) s=(hasB a s||hasB b s):=by simp[hasB]
theorem aiY (sp cs:List ByteArray)(tc:List Col):keepS sp cs tc=tc.filter λc=>!hasB (cs++sp) c.name:=by
 unfold keepS;congr 1
 funext c;rw[atA,Bool.not_or]
theorem zV.nulls: ∀(l:List Col),zV l (List.replicate l.length yp)
 | []=>trivial
 |c::r=>⟨arJ _,zV.nulls r⟩
theorem arj {l:List Int}{w:Int}(h:qa l w=true): ∀x∈l,x=w\/x=0:=λx hx=>by
 cases hf:qX x w
 ·have:(l.any λk=>!qX k w)=true:=List.any_eq_true.2 ⟨x,hx,by rw[hf];rfl⟩;unfold qa at h;rw[this]at h;cases h
 ·unfold qX at hf;rw[Bool.or_eq_true,beq_iff_eq,beq_iff_eq]at hf;exact hf
theorem arK {l:List Int}{i:Nat}{P:Int ->Prop}(h: ∀x∈l,P x)(h0:P 0):P (l.getD i 0):=by
 by_cases hi:i<l.length
 ·rw[List.getD_eq_getElem?_getD,List.getElem?_eq_getElem hi];exact h _ (List.getElem_mem _)
 ·rw[List.getD_eq_getElem?_getD,List.getElem?_eq_none (by omega)];exact h0
theorem auI {cols:List Col}(hc: ∀c∈cols,ColF c){e:Ex}(he:e.err=0)(hty:(e.ty cols).2=0):0<=(e.ty cols).1 /\(e.ty cols).1<=3:=by
 obtain⟨op,nm,v,ks⟩:=e;have he0:xq op nm v ks.length=0:=by
  simp only[Ex.err]at he;exact(ue.1 he).1
 obtain⟨ht1,ht2⟩:=aiA hty;have hT:(Ex.ty cols (.mk op nm v ks))=vO cols op nm v (tyL cols ks).2:=by
  simp only[Ex.ty];rw[ht1];rfl
 rw[hT];obtain⟨_,ho1,ho2⟩:=X8 he0;generalize(tyL cols ks).2=l at*;have ho:op=1\/op=2\/op=3\/op=4\/op=5\/op=6\/op=7\/op=8\/op=9\/op=10\/op=11\/op=12\/op=13\/op=14\/op=15\/op=16:=by omega
 rcases ho with rfl|rfl|rfl|rfl|rfl|rfl|rfl|rfl|rfl|rfl|rfl|rfl|rfl|rfl|rfl|rfl
 ·show 0<=v.k /\v.k<=3;have hcon:=Ka (by rfl) he0;unfold XU at hcon;have:=acg (ue.1 hcon).1;rcases this with rfl|⟨h,_⟩|⟨h,_⟩|⟨h,_⟩
  ·exact⟨Int.le_refl _,by show(0:Int)<=3;omega⟩
  all_goals omega
 ·have ht2:(bif decide (zh cols nm<0)then((0:Int),(16:Int))else(uw cols (zh cols nm),0)).2=0:=ht2;have h4: ¬zh cols nm<0:=λh=>by
   rw[decide_eq_true h]at ht2;cases ht2
  show 0<=(bif decide (zh cols nm<0)then((0:Int),(16:Int))else(uw cols (zh cols nm),0)).1 /\(bif decide (zh cols nm<0)then((0:Int),(16:Int))else(uw cols (zh cols nm),0)).1<=3;rw[decide_eq_false h4];obtain⟨h5,_,_⟩:=Zs h4;have h7:uw cols (zh cols nm)=cols[(zh cols nm).toNat].t:=by simp[uw,List.getElem?_eq_getElem h5]
  simp only[cond_false];rw[h7];have:=(hc _ (List.getElem_mem h5)).2;omega
 ·rw[show(vO cols 3 nm v l).1=1 from(yn ht2).2];omega
 ·rw[show(vO cols 4 nm v l).1=2 from(yn ht2).2];omega
 ·rw[show(vO cols 5 nm v l).1=2 from(yn ht2).2];omega
 ·rw[show(vO cols 6 nm v l).1=2 from(yn ht2).2];omega
 ·rw[show(vO cols 7 nm v l).1=2 from(yn ht2).2];omega
 ·rw[show(vO cols 8 nm v l).1=2 from(yn ht2).2];omega
 ·rw[show(vO cols 9 nm v l).1=2 from(yn ht2).2];omega
 ·rw[show(vO cols 10 nm v l).1=1 from(yn ht2).2];omega
 ·rw[show(vO cols 11 nm v l).1=1 from(yn ht2).2];omega
 ·rw[show(vO cols 12 nm v l).1=1 from(yn ht2).2];omega
 ·rw[show(vO cols 13 nm v l).1=1 from(yn ht2).2];omega
 ·rw[show(vO cols 14 nm v l).1=1 from(yn ht2).2];omega
 ·rw[show(vO cols 15 nm v l).1=1 from(yn ht2).2];omega
 have ht2:(ZO nm l).2=0:=ht2;show 0<=(ZO nm l).1 /\(ZO nm l).1<=3;unfold ZO at ht2⊢;generalize(zl nm ⟨#[109,105,110]⟩||zl nm ⟨#[109,97,120]⟩)=q1 at*;generalize zl nm ⟨#[97,98,115]⟩=q2 at*;generalize zl nm ⟨#[108,101,110]⟩=q3 at*;cases q1 with
 |true=>
  simp only[cond_true]at ht2⊢;obtain⟨h1,h2⟩:=yn ht2;rw[h2,gu];have h3: ∀x∈l,0<=x /\x<=3:=λx hx=>by
   simp only[Bool.or_eq_true]at h1;rcases h1 with h1|h1
   ·have:=arj h1 x hx;omega
   ·have:=arj h1 x hx;omega
  have h4:=arK (i:=0) (P:=λx=>0<=x /\x<=3) h3 (by omega);have h5:=arK (i:=1) (P:=λx=>0<=x /\x<=3) h3 (by omega);omega
 |false=>
  simp only[cond_false]at ht2⊢;cases q2 with
  |true=>simp only[cond_true]at ht2⊢;rw[(yn ht2).2];omega
  |false=>
   simp only[cond_false]at ht2⊢;cases q3 with
   |true=>simp only[cond_true]at ht2⊢;rw[(yn ht2).2];omega
   |false=>simp only[cond_false]at ht2⊢;rw[(yn ht2).2];omega
theorem am4 {cols:List Col}(hc: ∀c∈cols,ColF c): ∀{l:List Itm},(∀x∈l,x.e.chk=0 /\z7 x.nm=true) ->(vx cols l).1=0 ->(vx cols l).2=l.map (λx=>(⟨x.nm,(x.e.ty cols).1⟩:Col))/\ ∀x∈l,(x.e.ty cols).2=0 /\ColF ⟨x.nm,(x.e.ty cols).1⟩
 | [],_,_=>⟨rfl,λ_ h=>by(cases h)⟩
 |x::r,hx,h=>by
  simp only[vx]at h⊢;cases h1:((x.e.ty cols).2 !=0)
  ·rw[h1]at h;cases h2:((x.e.ty cols).1==0)
   ·rw[h2]at h;cases h3:((vx cols r).1 !=0)
    ·rw[h3]at h;obtain⟨i1,i2⟩:=am4 hc (λy hy=>hx y (by simp[hy])) (l:=r) (by simpa using h3);simp only[cond_false,List.map_cons];have h1:(x.e.ty cols).2=0:=by simpa using h1
     have h2:(x.e.ty cols).1≠0:=by simpa using h2
     have hxx:=hx x (by simp);have hr:=auI hc (VO hxx.1) h1;refine⟨by rw[i1],λy hy=>?_⟩;rcases List.mem_cons.1 hy with rfl|hy
     ·exact⟨h1,VE hxx.2,by show(y.e.ty cols).1=1\/(y.e.ty cols).1=2\/(y.e.ty cols).1=3;omega⟩
     ·exact i2 y hy
    ·rw[h3]at h;simp only[cond_false,cond_true]at h;rw[h]at h3;cases h3
   ·rw[h2]at h;cases h
  ·rw[h1]at h;simp only[cond_true]at h;rw[h]at h1;cases h1
theorem auw {cols:List Col}(hc: ∀c∈cols,ColF c){l:List Itm}(hx: ∀x∈l,x.e.chk=0 /\z7 x.nm=true)(h:(vx cols l).1=0){row:List Val}(hr:zV cols row):zV (vx cols l).2 (itR cols row l):=by
 obtain⟨h1,h2⟩:=am4 hc hx h;rw[h1];unfold itR;refine zV.map _ _ λx hm=>?_
 have e:=h2 x hm;have:x.e.tyE cols=((x.e.ty cols).1,0):=by
  unfold Ex.tyE;rw[(hx x hm).1];show x.e.ty cols=_;rw[<- e.1]
 exact arI (avj hr) this
theorem atw (l:List Val):yy 2 (UL l):=by
 unfold UL;cases ab5 0 0 l with
 |none=>exact .inl rfl
 |some z=>
  obtain⟨h,x⟩:=z;show yy 2 (anj h x);unfold anj;cases(decide (KQ h x>1048576)||decide (KQ h x< -1048576))
  ·exact Ji λh=>h
  ·exact .inl rfl
theorem al9: ∀{l:List Val}{m:Val}{P:Val ->Prop},P m ->(∀v∈l,P v) ->P (X5 m l)
 | [],_,_,h,_=>h
 |v::r,m,P,h,hl=>by
  simp only[X5];refine al9 ?_ λx hx=>hl x (by simp[hx])
  cases decide (yY v m<0)
  ·exact h
  ·exact hl v (by simp)
theorem al7: ∀{l:List Val}{m:Val}{P:Val ->Prop},P m ->(∀v∈l,P v) ->P (X4 m l)
 | [],_,_,h,_=>h
 |v::r,m,P,h,hl=>by
  simp only[X4];refine al7 ?_ λx hx=>hl x (by simp[hx])
  cases decide (yY v m>0)
  ·exact h
  ·exact hl v (by simp)
theorem apF {l:List Val}{i:Nat}{P:Val ->Prop}(h: ∀v∈l,P v)(h0:P yp):P (at0 l i):=by
 unfold at0;by_cases hi:i<l.length
 ·rw[List.getD_eq_getElem?_getD,List.getElem?_eq_getElem hi];exact h _ (List.getElem_mem _)
 ·rw[List.getD_eq_getElem?_getD,List.getElem?_eq_none (by omega)];exact h0
theorem ak4 {fn:ByteArray}{l:List Val}{t:Int}(hn:l.length<=20000)(hl:zl fn qj=false -> ∀v∈l,yy t v)(hs:zl fn Y4=true ->zl fn qj=false ->t=2)(hcn:zl fn qj=true ->t=2):yy t (XA fn l):=by
 unfold XA;cases h1:zl fn qj
 ·have hl:=hl h1;have hS: ∀v∈z8 l,yy t v:=λv hv=>hl v (List.mem_filter.1 hv).1
  cases h2:zl fn Y4
  ·simp only[cond_false];cases(zl fn agD&&decide ((l.length:Int)>0))
   ·simp only[cond_false];have hd: ∀v∈(z8 l).drop 1,yy t v:=λv hv=>hS v (List.mem_of_mem_drop hv)
    cases(zl fn aqw&&decide (((z8 l).length:Int)>0))
    ·simp only[cond_false];cases(zl fn aqv&&decide (((z8 l).length:Int)>0))
     ·exact .inl rfl
     ·exact al7 (apF hS (.inl rfl)) hd
    ·exact al9 (apF hS (.inl rfl)) hd
   ·exact apF hl (.inl rfl)
  ·rw[hs h2 h1];exact atw _
 ·rw[hcn h1];simp only[cond_true];exact uC (WA (by omega) (by omega))
theorem adJ {cols:List Col}: ∀{l:List Agg},(yl cols l).1=0 ->(yl cols l).2=l.map (λa=>(ja cols a).2)/\ ∀a∈l,(ja cols a).1=0
 | [],_=>⟨rfl,λ_ h=>by(cases h)⟩
 |a::r,h=>by
  simp only[yl]at h⊢;cases h1:((ja cols a).1 !=0)
  ·rw[h1]at h;simp only[cond_false]at h⊢;obtain⟨i1,i2⟩:=adJ h;refine⟨by rw[i1,List.map_cons],λy hy=>?_⟩;rcases List.mem_cons.1 hy with rfl|hy
   ·simpa using h1
   ·exact i2 y hy
  ·rw[h1]at h;simp only[cond_true]at h;rw[h]at h1;cases h1
theorem aiG (cols:List Col)(a:Agg):(ja cols a).2.name=a.nm:=by
 unfold ja;cases(!zl a.fn qj)
 ·rfl
 ·simp only[cond_true];cases decide (zh cols a.col<0)
  ·simp only[cond_false];cases(zl a.fn Y4&&(y5 cols (zh cols a.col)).t !=2)<;>rfl
  ·rfl
theorem au3 {cols:List Col}(hc: ∀c∈cols,ColF c){a:Agg}(hid:z7 a.nm=true)(h:(ja cols a).1=0){rows:List (List Val)}(hn:rows.length<=20000)(hr: ∀r∈rows,zV cols r):ColF (ja cols a).2 /\yy (ja cols a).2.t (XA a.fn (YQ cols rows a)):=by
 have hname:xZ (ja cols a).2.name=0:=by rw[aiG];exact VE hid
 have hlen:(YQ cols rows a).length<=20000:=by rw[alA];exact hn
 unfold ColF;refine⟨⟨hname,?_⟩,?_⟩;all_goals clear hname
 all_goals unfold ja at h⊢
 all_goals cases h1:zl a.fn qj
 ·rw[h1]at h;simp only[Bool.not_false,cond_true]at h⊢;cases h2:decide (zh cols a.col<0)
  ·rw[h2]at h;simp only[cond_false]at h⊢;cases h3:(zl a.fn Y4&&(y5 cols (zh cols a.col)).t !=2)
   ·obtain⟨h5,h6,_⟩:=Zs (of_decide_eq_false h2);simp only[cond_false];rw[h6];exact(hc _ (List.getElem_mem h5)).2
   ·rw[h3]at h;cases h
  ·rw[h2]at h;cases h
 ·exact .inr (.inl rfl)
 ·rw[h1]at h;simp only[Bool.not_false,cond_true]at h⊢;cases h2:decide (zh cols a.col<0)
  ·rw[h2]at h;simp only[cond_false]at h⊢;cases h3:(zl a.fn Y4&&(y5 cols (zh cols a.col)).t !=2)
   ·obtain⟨h5,h6,_⟩:=Zs (of_decide_eq_false h2);simp only[cond_false];refine ak4 hlen (λ_ v hv=>?_) (λhs _=>?_) (λh=>by rw[h1]at h;cases h)
    ·unfold YQ at hv;rw[h1,show decide (zh cols a.col>=0)=true by have:=of_decide_eq_false h2;simp;omega]at hv;simp only[Bool.not_false,Bool.and_true,cond_true]at hv;obtain⟨r,hrm,rfl⟩:=List.mem_map.1 hv;rw[h6];exact(hr r hrm).get h5
    ·rw[hs]at h3;simpa using h3
   ·rw[h3]at h;cases h
  ·rw[h2]at h;cases h
 ·show yy 2 _;exact ak4 hlen (λh=>by rw[h1]at h;cases h) (λ_ _=>rfl) (λ_=>rfl)
theorem ap1 {at_:List Int}{P:Gr ->Prop}{gs:List Gr}{row:List Val}(h: ∀g∈gs,P g)(hP: ∀g g':Gr,g.key=g'.key ->P g ->P g')(hk: ∀rs,P ⟨zn row at_,rs⟩): ∀g∈ju at_ gs row,P g:=by
 have hi: ∀g∈jg gs (zn row at_),P g:=by
  unfold jg;cases v7 gs (zn row at_)
  ·intro g hg;simp only[cond_false,List.mem_append,List.mem_singleton]at hg;rcases hg with(hg|rfl)|hg
   ·exact h g (List.mem_of_mem_take hg)
   ·exact hk _
   ·exact h g (List.mem_of_mem_drop hg)
  ·exact h
 unfold ju ZK;intro g hg;cases hp:(jg gs (zn row at_))[yX gs (zn row at_)]? with
 |none=>rw[hp]at hg;exact hi g hg
 |some x=>
  rw[hp]at hg;rcases List.mem_or_eq_of_mem_set hg with hg|rfl
  ·exact hi g hg
  ·exact hP x _ rfl (hi x (List.mem_of_getElem? hp))
theorem alN (at_:List Int){P:Gr ->Prop}(hP: ∀g g':Gr,g.key=g'.key ->P g ->P g'): ∀(rows:List (List Val)) (acc:List Gr),(∀g∈acc,P g) ->(∀r∈rows,∀rs,P ⟨zn r at_,rs⟩) -> ∀g∈rows.foldl (ju at_) acc,P g
 | [],acc,h,_=>h
 |r::rs,acc,h,hk=>by
  rw[List.foldl_cons];exact alN at_ hP rs _ (ap1 h hP (hk r (by simp))) λx hx=>hk x (by simp[hx])
theorem anN (at_:List Int)(rows:List (List Val)): ∀g∈wP at_ rows,(at_=[]/\g.key=[])\/ ∃r∈rows,g.key=zn r at_:=by
 unfold wP;split
 ·rename_i h;intro g hg;rw[List.mem_singleton]at hg;subst hg;exact .inl ⟨h,rfl⟩
 ·intro g hg;exact .inr (alN at_ (P:=λg=> ∃r∈rows,g.key=zn r at_) (λg g' e h=>by obtain⟨r,h1,h2⟩:=h;exact⟨r,h1,by rw[<- e];exact h2⟩) rows [] (λ_ h=>by cases h) (λr hr _=>⟨r,hr,rfl⟩) g hg)
theorem zV.rest0 (sp cs:List ByteArray){tc:List Col}{y:List Val}(h:zV tc y):zV (keepS sp cs tc) (zn y (oth (cs++sp) 0 tc)):=by
 rw[aiY];exact zV.rest (cs++sp) (i:=0) (tc:=tc) (y:=y) h
theorem arS {left right others:List Int}{xs ys:List (List Val)}{z:List Val}(h:z∈qx left right others xs ys): ∃x∈xs,∃y∈ys,z=x++zn y others:=by
 unfold qx at h;obtain⟨x,hx,h⟩:=List.mem_flatMap.1 h;unfold aen at h;cases hb:(zn x left).any (xi yp)
 ·rw[hb,cond_false]at h;unfold vS at h;obtain⟨y,hy,rfl⟩:=List.mem_map.1 h;exact⟨x,hx,y,(List.mem_filter.1 hy).1,rfl⟩
 ·rw[hb]at h;cases h
theorem zV.setN {cols:List Col}{R:List Val}(h:zV cols R){k n:Int}(hk:k.toNat<cols.length)(ht:cols[k.toNat].t=2)(hn:(at0 R k.toNat).k≠0)(hi:inB n=true):zV cols (setN R k n)/\ ∀j,(at0 (setN R k n) j).k=(at0 R j).k:=by
 have hf:=h.get hk;rw[ht]at hf;obtain⟨m,_,e⟩:=hf.num hn rfl;have hl:=h.len;have he:Go.Proofs.YtnlbmefhdiabcaaGreat.setN R k n=R.set k.toNat (aeu n):=by
  unfold Go.Proofs.YtnlbmefhdiabcaaGreat.setN;rw[e];rfl
 rw[he];refine⟨h.set hk (by rw[ht];exact uC hi),λj=>?_⟩;by_cases hj:k.toNat=j
 ·subst hj;have:at0 (R.set k.toNat (aeu n)) k.toNat=aeu n:=by simp[at0,List.getD,hl,hk]
  rw[this,e];rfl
 ·have:at0 (R.set k.toNat (aeu n)) j=at0 R j:=by simp[at0,List.getD,List.getElem?_set,hj]
  rw[this]
theorem aoC {x m:List Val}{i:Nat}(h:i<x.length):at0 (x++m) i=at0 x i:=by simp[at0,List.getD,List.getElem?_append_left h]
theorem aix {a b:Val}(h:qm a b=true):a.k=2 /\b.k=2 /\a.n<b.n:=by
 unfold qm at h;simpa[and_assoc]using h
theorem zV.inB {cols:List Col}{R:List Val}(h:zV cols R){k:Nat}(hk:k<cols.length)(h2:(at0 R k).k=2):inB (at0 R k).n=true:=by
 obtain⟨e,_⟩:=(h.get hk).kind (by rw[h2];omega);obtain⟨m,hm,e2⟩:=(h.get hk).num (by rw[h2];omega) (by rw[<- e,h2];rfl);rw[e2];exact hm
theorem ahJ {b:Bool}{x y:Int}(hx:Go.Proofs.YtnlbmefhdiabcaaGreat.inB x=true)(hy:Go.Proofs.YtnlbmefhdiabcaaGreat.inB y=true):Go.Proofs.YtnlbmefhdiabcaaGreat.inB (yP b x y)=true:=by
 have h1:=qu hx;have h2:=qu hy;cases b
 ·rw[show yP false x y=min x y by unfold yP;cases h:decide (x<y)<;>simp at h<;>simp<;>omega];exact WA (by omega) (by omega)
 ·rw[gu];exact WA (by omega) (by omega)
structure Spn (cols:List Col)(p q:Int):Prop where
 p1:p.toNat<cols.length
 p2:cols[p.toNat].t=2
 q1:q.toNat<cols.length
 q2:cols[q.toNat].t=2
theorem Jg {cols:List Col}{s:ByteArray}(h:colInt cols s=0): ∃h:(zh cols s).toNat<cols.length,cols[(zh cols s).toNat].t=2:=by
 unfold colInt at h;rw[ud (by omega),ud (by omega)]at h;obtain⟨h1,h2,_⟩:=h;obtain⟨h3,h4,_⟩:=Zs (of_decide_eq_false h1);rw[h4]at h2;exact⟨h3,by simpa using h2⟩
theorem asJ {cols:List Col}(h:intErr cols [sFrom,sTo]=0):Spn cols (zh cols sFrom) (zh cols sTo):=by
 simp only[intErr]at h;rw[ue,ue]at h;obtain⟨a1,a2⟩:=Jg h.1;obtain⟨b1,b2⟩:=Jg h.2.1;exact⟨a1,a2,b1,b2⟩
theorem auM {A B:List Col}{i:Nat}(h:i<A.length)(ht:A[i].t=2): ∃h:i<(A++B).length,(A++B)[i].t=2:=
 ⟨by rw[List.length_append];omega,by rw[List.getElem_append_left h];exact ht⟩
theorem asa {cols tc K:List Col}{p q p2 q2:Int}{left right more:List Int}{ar br:List (List Val)}(hs:Spn cols p q)(hs2:Spn tc p2 q2)(ha: ∀r∈ar,zV cols r)(hb: ∀r∈br,zV tc r)(hm: ∀r∈br,zV K (zn r more)): ∀z∈qP p q p2 q2 left right more ar br,zV (cols++K) z:=by
 intro z hz;unfold qP at hz;obtain⟨x,hx,hz⟩:=List.mem_flatMap.1 hz;unfold kf at hz;cases h1:qm (at0 x p.toNat) (at0 x q.toNat)
 ·rw[h1]at hz;cases hz
 rw[h1,cond_true]at hz;unfold uF at hz;obtain⟨y,hy,hz⟩:=List.mem_flatMap.1 hz;cases h2:gI p2 q2 left right (at0 x p.toNat).n (at0 x q.toNat).n x y
 ·rw[h2]at hz;cases hz
 rw[h2,cond_true,List.mem_singleton]at hz;subst hz;unfold gI at h2;simp only[Bool.and_eq_true]at h2;obtain⟨h2,_⟩:=h2;have hxf:=ha x hx;have hyf:=hb y hy;obtain⟨k1,k2,_⟩:=aix h1;obtain⟨k3,k4,_⟩:=aix h2;have hR:zV (cols++K) (x++zn y more):=hxf.app (hm y hy);have hl:=hxf.len;obtain⟨P1,P2⟩:=auM (B:=K) hs.p1 hs.p2;obtain⟨Q1,Q2⟩:=auM (B:=K) hs.q1 hs.q2;have i1:=hxf.inB hs.p1 k1;have i2:=hxf.inB hs.q1 k2;have i3:=hyf.inB hs2.p1 k3;have i4:=hyf.inB hs2.q1 k4;unfold agt;have hp1:=hs.p1;have hq1:=hs.q1;obtain⟨s1,s2⟩:=hR.setN P1 P2 (by rw[aoC (by omega),k1];omega) (ahJ (b:=true) i1 i3);exact(s1.setN Q1 Q2 (by rw[s2,aoC (by omega),k2];omega) (ahJ (b:=false) i2 i4)).1
theorem ao0 {p p2:Int}{left right:List Int}{x:List Val}: ∀{ys:List (List Val)}{b:Option (List Val)}{P:List Val ->Prop},(∀z,b=some z ->P z) ->(∀y∈ys,P y) -> ∀z,ys.foldl (λb y=>bif acp (at0 x p.toNat) (at0 y p2.toNat) (Yl (zn x left) (zn y right))then ahV p2 y b else b) b=some z ->P z
 | [],b,P,h,_,z,hz=>h z hz
 |y::r,b,P,h,hy,z,hz=>by
  rw[List.foldl_cons]at hz;refine ao0 (P:=P) (ys:=r) ?_ (λw hw=>hy w (by simp[hw])) z hz;intro w hw;cases hb:acp (at0 x p.toNat) (at0 y p2.toNat) (Yl (zn x left) (zn y right))
  ·rw[hb]at hw;exact h w hw
  ·rw[hb,cond_true]at hw;cases b with
   |none=>cases hw;exact hy y (by simp)
   |some u=>
    simp only[ahV]at hw;cases hd:decide ((at0 y p2.toNat).n>=(at0 u p2.toNat).n)
    ·rw[hd,cond_false]at hw;exact h w hw
    ·rw[hd,cond_true]at hw;rw[<- Option.some.inj hw];exact hy y (by simp)
theorem ar4 {cols K:List Col}{p p2:Int}{left right more:List Int}{br:List (List Val)}(hK:more.length=K.length)(hm: ∀r∈br,zV K (zn r more)){x:List Val}(hx:zV cols x):zV (cols++K) (wg p p2 left right more br x):=by
 unfold wg;refine hx.app ?_;unfold K4;cases h:br.foldl (λb y=>bif acp (at0 x p.toNat) (at0 y p2.toNat) (Yl (zn x left) (zn y right))then ahV p2 y b else b) none with
 |none=>
  show zV K (List.replicate more.length yp);rw[hK];exact zV.nulls K
 |some z=>exact ao0 (P:=λr=>zV K (zn r more)) (λz hz=>by cases hz) hm z h
def PcF (K:List Col)(x:Pc):Prop:=zV K x.key /\inB x.a=true /\inB x.b=true
theorem asc {cols K:List Col}{at_:List Int}{p q:Int}{rows:List (List Val)}(hs:Spn cols p q)(hr: ∀r∈rows,zV cols r /\zV K (zn r at_)): ∀z∈vT at_ p q rows,PcF K z:=by
 intro z hz;unfold vT at hz;obtain⟨x,hx,hz⟩:=List.mem_flatMap.1 hz;unfold aeH at hz;cases h1:(qm (at0 x p.toNat) (at0 x q.toNat)&&decide ((at0 x p.toNat).n>=0))
 ·rw[h1]at hz;cases hz
 rw[h1,cond_true,List.mem_singleton]at hz;subst hz;simp only[Bool.and_eq_true]at h1;obtain⟨k1,k2,_⟩:=aix h1.1;obtain⟨hf,hk⟩:=hr x hx;exact⟨hk,hf.inB hs.p1 k1,hf.inB hs.q1 k2⟩
theorem atP {K:List Col}{acc:List Pc}{x:Pc}(h: ∀z∈acc,PcF K z)(hx:PcF K x): ∀z∈UA acc x,PcF K z:=by
 have ha: ∀z∈acc++[x],PcF K z:=λz hz=>by
  rcases List.mem_append.1 hz with hz|hz
  ·exact h z hz
  ·rw[List.mem_singleton.1 hz];exact hx
 unfold UA;split
 ·exact ha
 ·rename_i y hy;cases(yz y.key x.key&&_)
  ·exact ha
  ·intro z hz;rcases List.mem_or_eq_of_mem_set hz with hz|rfl
   ·exact h z hz
   ·have:=h y (List.mem_of_getLast? hy);exact⟨this.1,this.2.1,by show inB (yP true y.b x.b)=true;exact ahJ this.2.2 hx.2.2⟩
theorem atN {K:List Col}{l:List Pc}(h: ∀z∈l,PcF K z): ∀z∈jW l,PcF K z:=by
 have gen: ∀(l acc:List Pc),(∀z∈l,PcF K z) ->(∀z∈acc,PcF K z) -> ∀z∈l.foldl UA acc,PcF K z:=by
  intro l;induction l with
  |nil=>intro acc _ h;exact h
  |cons x r ih=>intro acc h1 h2;exact ih _ (λz hz=>h1 z (List.mem_cons_of_mem _ hz)) (atP h2 (h1 x (List.mem_cons_self ..)))
 exact gen l [] h (λz hz=>by cases hz)
theorem alP {α:Type}(c:α ->α ->Int)(l:List α): ∀z∈yK c l,z∈l:=by
 have gen: ∀(l acc:List α),∀z∈l.foldl (λacc x=>Yh c x acc) acc,z∈acc\/z∈l:=by
  intro l;induction l with
  |nil=>intro acc z hz;exact .inl hz
  |cons x r ih=>
   intro acc z hz;rw[List.foldl_cons]at hz;rcases ih _ z hz with h|h
   ·rcases List.mem_cons.1 ((Xd c x acc).mem_iff.1 h)with rfl|h
    ·exact .inr (by simp)
    ·exact .inl h
   ·exact .inr (by simp[h])
 intro z hz;rcases gen l [] z hz with h|h
 ·cases h
 ·exact h
theorem aje {α:Type}(c:α ->α ->Int)(l:List α):(yK c l).length=l.length:=by
 have gen: ∀(l acc:List α),(l.foldl (λacc x=>Yh c x acc) acc).length=acc.length+l.length:=by
  intro l;induction l with
  |nil=>intro acc;simp
  |cons x r ih=>
   intro acc;rw[List.foldl_cons,ih,(Xd c x acc).length_eq];simp only[List.length_cons];omega
 have:=gen l [];rw[List.length_nil,Nat.zero_add]at this;exact this
theorem apM {cols K:List Col}{at_:List Int}{p q:Int}{rows:List (List Val)}(hs:Spn cols p q)(hr: ∀r∈rows,zV cols r /\zV K (zn r at_)): ∀z∈Zr at_ p q rows,zV (K++[⟨sFrom,2⟩,⟨sTo,2⟩]) z:=by
 intro z hz;unfold Zr at hz;obtain⟨x,hx,rfl⟩:=List.mem_map.1 hz;have:=atN (λz hz=>asc hs hr z (alP WU _ z hz)) x hx;unfold Zc;exact this.1.app ⟨uC this.2.1,uC this.2.2,trivial⟩
theorem apN (at_:List Int)(p q:Int)(rows:List (List Val)):(Zr at_ p q rows).length<=rows.length:=by
 unfold Zr;rw[List.length_map];have h1:=aet (yK WU (vT at_ p q rows)) (yK WU (vT at_ p q rows)).length (Nat.le_refl _);rw[List.take_length,aje]at h1;exact Nat.le_trans h1 (abL at_ p q rows)
end Go.Proofs.YtnlbmefhdiabcaaGreat
set_option linter.unusedVariables false
namespace Go.Proofs.YtnlbmefhdiabcaaGreat
open Go Go.Proofs Go.RowKit Go.Lib
section
variable {P:Program}
theorem We (w:World){ops:Array Oper}{rest:List Oper}{o:Oper}{a:Act}{Q:Exit ->Act ->World ->Prop}(hgd:o.guard=none)(d s:Operand)(t t':TypeId)
 (ho:o.op= .call {callee:=.builtin .copy,args:= #[d,s],argTypes:= #[t,t']}) (v u:Value) (hd:a.eval d=v) (hs:a.eval s=u) {v':Value}{w':World}
 (hr:(Builtin.copy_ #[t,t'] o.type #[v,u]).run P w= .ok v' w') (h:wpList P ops Q rest (a.put o.dst v') w'):wpList P ops Q (o::rest) a w:=
 wpList_plain hgd λK hK=>by
  unfold Oper.wp execOp;simp only[ho,resolve,invoke,builtin,Sem.run_bind,Sem.run_pure,Result.andThen_ok,List.map_toArray,List.map_cons,List.map_nil,hd,hs,hr];exact hK _ _ h
theorem ab4 {ops:Array Oper}{o:Oper}{a:Act}{w:World}{K:Act ->World ->Prop}{Q:Exit ->Act ->World ->Prop}{E:Prop}
 (hg:o.guard=none) (d x:Operand) (dT sT:TypeId) (hop:o.op=Op.call {callee:=Callee.builtin Builtin.copy,args:= #[d,x],argTypes:= #[dT,sT]})
 (v u:Value) (hd:a.eval d=v) (hx:a.eval x=u) {v':Value}{w':World}(hr:(Builtin.copy_ #[dT,sT] o.type #[v,u]).run P w= .ok v' w') (hK:K (a.put o.dst v') w'):
 if Region.wanted o (yielded ops a.tmps)=true then Oper.wp P o a w K Q else E:=by
 have hw:Region.wanted o (yielded ops a.tmps)=true:=by simp[Region.wanted,hg]
 rw[if_pos hw];unfold Oper.wp;simp[execOp,hop,resolve,invoke,builtin,hd,hx,hr,Result.andThen];exact hK
end
theorem ZE (g:Nat)(t:TypeId): ∀(vs:List Value) (o:Nat) (w:World) (cur:Array Value),w.heap[g]? =some (.cells cur t (0,0)) ->o+vs.length<=cur.size ->
 (∃cur',(w.setCells g o vs).heap[g]? =some (.cells cur' t (0,0))/\cur'.size=cur.size /\cur'.toList=cur.toList.take o++vs++cur.toList.drop (o+vs.length))/\w.grownBy (w.setCells g o vs) (some g)/\(w.setCells g o vs).drawn=w.drawn
 | [],o,w,cur,h,_=>⟨⟨cur,h,rfl,by simp⟩,⟨rfl,rfl,rfl,Nat.le_refl _,λ_ _ _=>rfl⟩,rfl⟩
 |v::r,o,w,cur,h,hl=>by
  simp only[List.length_cons]at hl;have h1:=heap_setCell_same w g o cur t v h;obtain⟨⟨cur',h2,h3,h4⟩,h5,h6⟩:=ZE g t r (o+1) (w.setCell ⟨g,o,none⟩ v) (cur.setIfInBounds o v) h1 (by simp;omega);refine⟨⟨cur',h2,by rw[h3];simp,?_⟩,?_,h6⟩
  ·rw[h4,Array.toList_setIfInBounds];have hol:o<cur.toList.length:=by simp;omega
   rw[List.set_eq_take_append_cons_drop,if_pos hol];have hlt:(cur.toList.take o).length=o:=by rw[List.length_take];omega
   rw[List.take_append,hlt,show o+1 - o=1 by omega,List.take_of_length_le (by omega)];rw[List.drop_append,hlt,List.drop_eq_nil_of_le (by omega:(cur.toList.take o).length<=o+1+r.length)];rw[show o+1+r.length - o=r.length+1 by omega];simp only[List.take_succ_cons,List.take_zero,List.drop_succ_cons,List.nil_append,List.drop_drop,List.append_assoc,List.cons_append,List.length_cons];rw[show o+1+r.length=o+(r.length+1)by omega]
  ·exact⟨h5.os,h5.tape,h5.output,Nat.le_trans (by simp) h5.size,λk hk hne=>(h5.block k (by simpa using hk) hne).trans (heap_setCell_other w ⟨g,o,none⟩ k v (λe=>hne (by rw[e])))⟩
theorem ai1 {w:World}{yS g n cap:Nat}{xs:List Value}(hown:w.ownsRow yS tG 2 (.slice (some ⟨g,0,none⟩) n cap) n xs): ∃cur,w.heap[g]? =some (.cells cur tG (0,0))/\n<=cap /\cap<=maxLen /\cur.size=cap*2 /\cur.toList.take (n*2)=xs /\yS<=g:=by
 rcases hown.2 with⟨h',_⟩|⟨g',cap',cur,h',hb,hg,hnc,hcm,hcs,htake⟩
 ·simp at h'
 ·simp only[Value.slice.injEq,Option.some.injEq,Addr.mk.injEq,and_true,true_and]at h';obtain⟨⟨rfl,_⟩,rfl⟩:=h';exact⟨cur,hg,hnc,hcm,hcs,htake,hb⟩
theorem Qd {P:Program}(w:World)(dT sT ty elem:TypeId)(b o dLen dCap:Nat)(a:Addr)(sLen sCap:Nat)(cs:List Value)
 (hu:P.underlying dT=some (.slice elem)) (hs:(P.info? elem).map (·.size)=some 2) (hn:cs.length=Nat.min sLen dLen*2)
 (hsrc: ∀j v,cs[j]? =some v ->w.cell? (a.add j)=some v) (hc: ∀j,j<cs.length ->(w.cell? ⟨b,o+j,none⟩).isSome=true) (hf: ∀j,j<cs.length ->w.frozen? ⟨b,o+j,none⟩=false) (h1: ∀v∈cs,v.oneCell'=true):
 (Builtin.copy_ #[dT,sT] ty #[.slice (some ⟨b,o,none⟩) dLen dCap,.slice (some a) sLen sCap]).run P w= .ok (goInt (Nat.min sLen dLen)) (w.setCells b o cs):=by
 have hl:=run_loadCells_list (P:=P) w a cs hsrc;have hst:=run_storeCells_cells (P:=P) b o cs 0 w (by simpa using hc) (by simpa using hf) h1;cases hq:P.info? elem with
 |none=>simp[hq]at hs
 |some i=>
  have hi:i.size=2:=by simpa[hq]using hs
  simp[Builtin.copy_,run_underlying hu,Builtin.lenOf,Builtin.firstCells,sizeOf,typeInfo,hq,hi,<- hn,hl,hst]
theorem Uu (b:Nat)(vs:List Value)(o:Nat)(w:World)(h: ∀j,j<vs.length ->(w.cell? ⟨b,o+j,none⟩).isSome=true)(k:Nat)(hk:(w.cell? ⟨b,k,none⟩).isSome=true):((w.setCells b o vs).cell? ⟨b,k,none⟩).isSome=true:=by
 by_cases hin:o<=k /\k<o+vs.length
 ·have:=World.cell?_setCells_in b vs o w h (k - o) (by omega);rw[show o+(k - o)=k by omega]at this;rw[this];rfl
 ·rw[World.cell?_setCells_out b vs o w ⟨b,k,none⟩ (λ_ _=>by show k<o\/o+vs.length<=k;omega)];exact hk
theorem atD (L:List Value)(xs:List Value)(n i:Nat)(k r:Value)(hx:L.take (n*2)=xs)(hl:(n+1)*2<=L.length)(hi:i<n):
 let L1:=L.take ((i+1)*2)++xs.drop (i*2)++L.drop ((i+1)*2+(xs.drop (i*2)).length)
 (L1.take (i*2)++[k,r]++L1.drop (i*2+2)).take ((n+1)*2)=xs.take (2*i)++[k,r]++xs.drop (2*i):=by
 intro L1;have hxl:xs.length=n*2:=by rw[<- hx,List.length_take];omega
 have hd:(xs.drop (i*2)).length=n*2 - i*2:=by rw[List.length_drop,hxl]
 have h1:L1.take (i*2)=xs.take (i*2):=by
  show(L.take ((i+1)*2)++xs.drop (i*2)++L.drop ((i+1)*2+(xs.drop (i*2)).length)).take (i*2)=_;rw[List.append_assoc,List.take_append_of_le_length (by rw[List.length_take];omega),List.take_take,<- hx,List.take_take];congr 1;omega
 have h2:L1.drop (i*2+2)=xs.drop (i*2)++L.drop ((i+1)*2+(xs.drop (i*2)).length):=by
  show(L.take ((i+1)*2)++xs.drop (i*2)++L.drop ((i+1)*2+(xs.drop (i*2)).length)).drop (i*2+2)=_;have hlt:(L.take ((i+1)*2)).length=i*2+2:=by rw[List.length_take];omega
  rw[List.append_assoc,<- hlt,List.drop_left]
 rw[h1,h2,show 2*i=i*2 by omega];have hlen:(xs.take (i*2)++[k,r]++xs.drop (i*2)).length=(n+1)*2:=by
  simp only[List.length_append,List.length_cons,List.length_nil,hd,List.length_take,hxl];omega
 rw[<- List.append_assoc,<- hlen,List.take_left]
set_option maxRecDepth 100000 in
set_option maxHeartbeats 4000000 in
theorem alS (w:World)(yS g n cap i:Nat)(xs:List Value)(hown:w.ownsRow yS tG 2 (.slice (some ⟨g,0,none⟩) n cap) n xs)(hn:n<=1000000)(hi:i<n)(hroom:n+1<=cap)
 (vb:Nat) (k r:Value) (hv:w.heap[vb]? =some (.cells #[k,r] tG (0,0))) (hvb:vb≠g) (h2:k.oneCell'=true) (h3:r.oneCell'=true) (hxs1: ∀v∈xs,v.oneCell'=true):
 Calls Tryz.prog 259 #[.slice (some ⟨g,0,none⟩) n cap,.int .i64 i,.slice (some ⟨vb,0,none⟩) 1 1] w λe w'=>e= .returned (.slice (some ⟨g,0,none⟩) (n+1) cap)/\w'=(w.drew.setCells g ((i+1)*2) (xs.drop (i*2))).setCells g (i*2) [k,r]:=by
 obtain⟨cur,hg,hnc,hcm,hcs,htake,hbg⟩:=ai1 hown;have hz2: ¬((i:Int)=(n:Int)):=by omega
 have hxl:xs.length=n*2:=hown.1;have hsz:(Tryz.prog.info? tG).map (·.size)=some 2:=by
  obtain⟨i0,hi0,h0,h1,h2⟩:=info_parts ap4;rw[hi0];simp[h1]
 have hov:(callFunc 294 #[.slice (some ⟨vb,0,none⟩) 1 1,.slice (some ⟨g,(i+1)*2,none⟩) (n - i) (cap -(i+1))]).run Tryz.prog w= .ok (.value (.bool false)) w:=by
  rw[run_callFunc_extern Tryz.func294 (by kernel_rfl) (by kernel_rfl) (by kernel_rfl) (e:=Extern.SlicesOverlaps.overlaps #[228,228] #[4]) (by kernel_rfl),
   Lib.run_overlaps_apart w 228 4 tG Tryz.underlying228 2 Tryz.sizeOf232 ⟨vb,0,none⟩ ⟨g,(i+1)*2,none⟩ 1 1 (n - i) (cap -(i+1)) hvb tG tG 2 (cap*2) (by simp[World.shape?,hv]) (by simp[World.shape?,hg,hcs]) (by omega) (by simp[World.frozen?,hv]) (by simp[World.frozen?,hv])]
  rfl
 have hsp: ∀j,j<cap*2 ->(w.cell? ⟨g,j,none⟩).isSome=true:=λj hj=>by
  simp only[World.cell?,hg];rw[Array.getElem?_eq_getElem (by omega)];rfl
 have hfz: ∀j,w.frozen? ⟨g,j,none⟩=false:=λj=>hown.frozenAt j
 have hcs0: ∀j v,xs[j]? =some v ->w.cell? ⟨g,j,none⟩=some v:=λj v h=>by
  have hlt:=(List.getElem?_eq_some_iff.1 h).1;rw[hown.cellAt j (by omega)];exact h
 have hdl:(xs.drop (i*2)).length=(n - i)*2:=by rw[List.length_drop,hxl,Nat.sub_mul]
 have hcp1: ∀ty dc sc,(Builtin.copy_ #[228,228] ty #[.slice (some ⟨g,(i+1)*2,none⟩) (n - i) dc,.slice (some ⟨g,i*2,none⟩) (n+1 - i) sc]).run Tryz.prog w.drew= .ok (goInt (Nat.min (n+1 - i) (n - i))) (w.drew.setCells g ((i+1)*2) (xs.drop (i*2))):=λty dc sc=>
  Qd w.drew _ _ ty tG g ((i+1)*2) (n - i) dc ⟨g,i*2,none⟩ (n+1 - i) sc (xs.drop (i*2)) Tryz.underlying228 hsz (by rw[hdl];show _=Nat.min _ _*2;simp only[Nat.min_def];split<;>omega)
   (λj v hj=>by rw[Addr.add_lit];exact hcs0 (i*2+j) v (by rwa[List.getElem?_drop]at hj))
   (λj hj=>hsp _ (by rw[hdl]at hj;have:n - i+i=n:=(by omega);omega)) (λj hj=>hfz _) (λv hv=>hxs1 v (List.mem_of_mem_drop hv))
 obtain⟨W1,hW1⟩: ∃W1,W1=w.drew.setCells g ((i+1)*2) (xs.drop (i*2)):=⟨_,rfl⟩;have hsp1: ∀k,k<cap*2 ->(W1.cell? ⟨g,k,none⟩).isSome=true:=λk hk=>by
  rw[hW1];exact Uu g _ ((i+1)*2) w.drew (λj hj=>hsp _ (by rw[hdl]at hj;have:n - i+i=n:=(by omega);omega)) _ (hsp k hk)
 have hcp2: ∀(W:World),(∀x,W.cell? x=W1.cell? x) ->(∀x,W.frozen? x=W1.frozen? x) -> ∀ty dc,(Builtin.copy_ #[228,228] ty #[.slice (some ⟨g,i*2,none⟩) (n+1 - i) dc,.slice (some ⟨vb,0,none⟩) 1 1]).run Tryz.prog W= .ok (goInt (Nat.min 1 (n+1 - i))) (W.setCells g (i*2) [k,r]):=λW hWc hWf ty dc=>
  Qd W _ _ ty tG g (i*2) (n+1 - i) dc ⟨vb,0,none⟩ 1 1 [k,r] Tryz.underlying228 hsz (by show 2=Nat.min _ _*2;simp only[Nat.min_def];split<;>omega)
   (λj v hj=>by
    rw[Addr.add_lit,hWc,hW1,World.cell?_setCells_out g _ _ _ _ (λh _=>absurd h hvb)]
    match j,hj with
    |0,hj=>exact(congrArg some (Option.some.inj hj))▸(show w.cell? ⟨vb,0,none⟩=some k by simp[World.cell?,hv])
    |1,hj=>exact(congrArg some (Option.some.inj hj))▸(show w.cell? ⟨vb,1,none⟩=some r by simp[World.cell?,hv])
    |(j+2),hj=>cases hj)
   (λj hj=>by rw[hWc];exact hsp1 _ (by have:j<2:=hj;omega)) (λj hj=>by rw[hWf,hW1,World.frozen?_setCells];exact hfz _) (acs h2 h3)
 rw[<- hW1]at hcp1;have hw1:IntKind.i64.wrap ((i:Int)+1)=(i:Int)+1:=by rw[IntKind.wrap_i64];omega
 have hb1:(0:Int)<=(i:Int)+1:=by omega
 have hin:i<=n:=by omega
 have htn:((i:Int)+1).toNat=i+1:=by omega
 have hb2: ¬(cap=i+1):=by omega
 have hb3:(i:Int)<=(n:Int)+1:=by omega
 have hb4: ¬(cap=i):=by omega
 have mixed:Tryz.prog.follows .mixedOrders=true:=by kernel_rfl
 go_enter Tryz.func259,Tryz.ntmps259
 go_wp2_with (simp only[hov])
 go_region_law_o (refine ab4 rfl _ _ 228 228 rfl _ _ (by simp[Act.eval,Act.put]) (by simp[Act.eval,Act.put]) (hcp1 _ _ _) ?_)
 go_wp2_with (at_builtin;refine We _ rfl _ _ 228 228 rfl _ _ rfl rfl (hcp2 _ (λ_=>rfl) (λ_=>rfl) _ _) ?_)
 go_ret
 first|exact⟨rfl,rfl⟩|exact⟨rfl,by rw[hW1]⟩
def zG:Value:=.agg #[.slice none 0 0,.slice none 0 0]
def Qb (xs:List Value)(n i G:Nat):Array Value:=(xs.take (i*2)).toArray++Builtin.zeroCells zG.cells (n+1 - i)++Builtin.zeroCells zG.cells (G -(n+1))
theorem ZY (k:Nat):(Builtin.zeroCells zG.cells k).size=2*k:=by
 simp[Builtin.zeroCells,Value.cells,zG];omega
set_option maxRecDepth 100000 in
set_option maxHeartbeats 4000000 in
theorem anQ (w:World)(yS g n cap i:Nat)(xs:List Value)(hown:w.ownsRow yS tG 2 (.slice (some ⟨g,0,none⟩) n cap) n xs)(hn:n<=1000000)(hi:i<n)(hroom:cap<n+1)
 (vb:Nat) (k r:Value) (hv:w.heap[vb]? =some (.cells #[k,r] tG (0,0))) (h2:k.oneCell'=true) (h3:r.oneCell'=true) (hxs1: ∀v∈xs,v.oneCell'=true):
 Calls Tryz.prog 259 #[.slice (some ⟨g,0,none⟩) n cap,.int .i64 i,.slice (some ⟨vb,0,none⟩) 1 1] w λe w'=>e= .returned (.slice (some ⟨w.heap.size,0,none⟩) (n+1) (grownCap w (n+1) cap tG))/\
  w'=(((w.alloc (.cells (Qb xs n i (grownCap w (n+1) cap tG)) tG)).drew.setCells w.heap.size (i*2) [k,r]).drew).setCells w.heap.size ((i+1)*2) (xs.drop (i*2)):=by
 obtain⟨cur,hg,hnc,hcm,hcs,htake,hbg⟩:=ai1 hown;obtain⟨i0,hi0,hz0,hzs,hzb⟩:=info_parts ap4;have hz2: ¬((i:Int)=(n:Int)):=by omega
 have hz3:(cap:Int)<(n:Int)+1:=by omega
 have hxl:xs.length=n*2:=hown.1;have hsz:(Tryz.prog.info? tG).map (·.size)=some 2:=by rw[hi0];simp[hzs]
 have hbw:g<w.heap.size:=(Array.getElem?_eq_some_iff.1 hg).1;have hvw:vb<w.heap.size:=(Array.getElem?_eq_some_iff.1 hv).1;have hkk:(n:Int)+1 -(i:Int)=((n+1 - i:Nat):Int):=by omega
 have hik:i+(n+1 - i)=n+1:=by omega
 have hcs0: ∀j v,xs[j]? =some v ->w.cell? ⟨g,j,none⟩=some v:=λj v h=>by
  have hlt:=(List.getElem?_eq_some_iff.1 h).1;rw[hown.cellAt j (by omega)];exact h
 have hold:(Builtin.firstCells i0.size i (.slice (some ⟨g,0,none⟩) i cap)).run Tryz.prog w.drew= .ok (xs.take (i*2)).toArray w.drew:=by
  rw[hzs];exact run_firstCells_some w.drew 2 i ⟨g,0,none⟩ i cap (xs.take (i*2)) (by rw[List.length_take];omega) (λj v hj=>by
   rw[Addr.add_lit,Nat.zero_add];rw[List.getElem?_take]at hj;split at hj
   ·exact hcs0 j v hj
   ·cases hj)
 have hrz: ∀ty,(Builtin.append_ #[228,3] ty #[.slice (some ⟨g,0,none⟩) i cap,.int .i64 ((n:Int)+1 -(i:Int))]).run Tryz.prog w=
  .ok (.slice (some ⟨w.heap.size,0,none⟩) (n+1) (grownCap w (n+1) cap tG)) (w.drew.alloc (.cells (Qb xs n i (grownCap w (n+1) cap tG)) tG)):=λty=>by
  have h:=Lib.run_append_grow_zeros w 228 3 ty tG i0 _ .i64 .i64 Tryz.underlying228 Tryz.underlying3 hi0 hz0 (some ⟨g,0,none⟩) i cap (xs.take (i*2)) hold (n+1 - i) (by omega) (by omega) (by omega) (by omega) (by rw[hzb];omega) (by rw[hzb,hik];exact growslice_fits hroom (by omega));rw[hik]at h;rw[hkk];exact h
 obtain⟨G,hG⟩: ∃G,G=grownCap w (n+1) cap tG:=⟨_,rfl⟩;obtain⟨ROW,hROW⟩: ∃ROW:Array Value,ROW=Qb xs n i G:=⟨_,rfl⟩;rw[<- hG]at hrz⊢;rw[<- hROW]at hrz⊢;have hGn:n+1<=G:=by rw[hG];exact grownCap_ge w _ _ _
 have hRl:(n+1)*2<=ROW.size:=by
  rw[hROW];unfold Qb;rw[Array.size_append,Array.size_append,ZY,ZY,List.size_toArray,List.length_take];omega
 obtain⟨W1,hW1⟩: ∃W1,W1=w.drew.alloc (.cells ROW tG):=⟨_,rfl⟩;rw[<- hW1]at hrz;have hN: ∀j,j<(n+1)*2 ->(W1.cell? ⟨w.heap.size,j,none⟩).isSome=true:=λj hj=>by
  rw[hW1,World.cell?_alloc_at (w:=w.drew) ROW _ w.heap.size j rfl,Array.getElem?_eq_getElem (by omega)];rfl
 have hNf: ∀j,W1.frozen? ⟨w.heap.size,j,none⟩=false:=λj=>by rw[hW1];exact World.frozen?_alloc_at (w:=w.drew) ROW _ w.heap.size j rfl
 have hOb: ∀j v,w.cell? ⟨g,j,none⟩=some v ->W1.cell? ⟨g,j,none⟩=some v:=λj v h=>by rw[hW1,World.cell?_alloc_past (w:=w.drew) _ g j hbw];exact h
 have hOv: ∀j v,w.cell? ⟨vb,j,none⟩=some v ->W1.cell? ⟨vb,j,none⟩=some v:=λj v h=>by rw[hW1,World.cell?_alloc_past (w:=w.drew) _ vb j hvw];exact h
 have hcpA: ∀(W:World),(∀x,W.cell? x=W1.cell? x) ->(∀x,W.frozen? x=W1.frozen? x) -> ∀ty dc,(Builtin.copy_ #[228,228] ty #[.slice (some ⟨w.heap.size,i*2,none⟩) (n+1 - i) dc,.slice (some ⟨vb,0,none⟩) 1 1]).run Tryz.prog W= .ok (goInt (Nat.min 1 (n+1 - i))) (W.setCells w.heap.size (i*2) [k,r]):=λW hWc hWf ty dc=>
  Qd W _ _ ty tG w.heap.size (i*2) (n+1 - i) dc ⟨vb,0,none⟩ 1 1 [k,r] Tryz.underlying228 hsz (by show 2=Nat.min _ _*2;simp only[Nat.min_def];split<;>omega)
   (λj v hj=>by
    rw[Addr.add_lit,hWc]
    match j,hj with
    |0,hj=>exact hOv _ _ ((congrArg some (Option.some.inj hj))▸(show w.cell? ⟨vb,0,none⟩=some k by simp[World.cell?,hv]))
    |1,hj=>exact hOv _ _ ((congrArg some (Option.some.inj hj))▸(show w.cell? ⟨vb,1,none⟩=some r by simp[World.cell?,hv]))
    |(j+2),hj=>cases hj)
   (λj hj=>by rw[hWc];exact hN _ (by have:j<2:=hj;omega)) (λj hj=>by rw[hWf];exact hNf _) (acs h2 h3)
 have hG63:G<=9223372036854775807:=by
  have:=grownCap_le_maxLen w (n+1) cap tG (by unfold maxLen;omega);rw[<- hG]at this;unfold maxLen at this;omega
 have hGi: ¬(G=i):=by omega
 have hGim: ¬(G=i+1):=by omega
 have hci: ¬(cap=i):=by omega
 have hbN:g≠w.heap.size:=by omega
 have hdl:(xs.drop (i*2)).length=(n - i)*2:=by rw[List.length_drop,hxl,Nat.sub_mul]
 have hcpB: ∀(W:World),(∀x,W.cell? x=(W1.setCells w.heap.size (i*2) [k,r]).cell? x) ->(∀x,W.frozen? x=(W1.setCells w.heap.size (i*2) [k,r]).frozen? x) -> ∀ty dc sc,(Builtin.copy_ #[228,228] ty #[.slice (some ⟨w.heap.size,(i+1)*2,none⟩) (n - i) dc,.slice (some ⟨g,i*2,none⟩) (n - i) sc]).run Tryz.prog W= .ok (goInt (Nat.min (n - i) (n - i))) (W.setCells w.heap.size ((i+1)*2) (xs.drop (i*2))):=λW hWc hWf ty dc sc=>
  Qd W _ _ ty tG w.heap.size ((i+1)*2) (n - i) dc ⟨g,i*2,none⟩ (n - i) sc (xs.drop (i*2)) Tryz.underlying228 hsz (by rw[hdl];show _=Nat.min _ _*2;simp only[Nat.min_def];split<;>omega)
   (λj v hj=>by
    rw[Addr.add_lit,hWc,World.cell?_setCells_out _ _ _ _ _ (λh _=>absurd h hbN)];exact hOb _ v (hcs0 (i*2+j) v (by rwa[List.getElem?_drop]at hj)))
   (λj hj=>by rw[hWc];exact Uu _ _ _ _ (λt ht=>hN _ (by have:t<2:=ht;omega)) _ (hN _ (by rw[hdl]at hj;have:n - i+i=n:=(by omega);omega)))
   (λj hj=>by rw[hWf,World.frozen?_setCells];exact hNf _) (λv hv=>hxs1 v (List.mem_of_mem_drop hv))
 subst hW1;have hE1: ∀x,((w.alloc (.cells ROW tG)).drew).cell? x=(w.drew.alloc (.cells ROW tG)).cell? x:=λx=>rfl
 have hE2: ∀x,((w.alloc (.cells ROW tG)).drew).frozen? x=(w.drew.alloc (.cells ROW tG)).frozen? x:=λx=>rfl
 have hF1: ∀x,(((w.alloc (.cells ROW tG)).drew.setCells w.heap.size (i*2) [k,r]).drew).cell? x=((w.drew.alloc (.cells ROW tG)).setCells w.heap.size (i*2) [k,r]).cell? x:=λx=>rfl
 have hF2: ∀x,(((w.alloc (.cells ROW tG)).drew.setCells w.heap.size (i*2) [k,r]).drew).frozen? x=((w.drew.alloc (.cells ROW tG)).setCells w.heap.size (i*2) [k,r]).frozen? x:=λx=>rfl
 have hw1:IntKind.i64.wrap ((i:Int)+1)=(i:Int)+1:=by rw[IntKind.wrap_i64];omega
 have hb1:(0:Int)<=(i:Int)+1:=by omega
 have hin:i<=n:=by omega
 have htn:((i:Int)+1).toNat=i+1:=by omega
 have hb3:(i:Int)<=(n:Int):=by omega
 clear hkk hik hold hROW hG hRl;have mixed:Tryz.prog.follows .mixedOrders=true:=by kernel_rfl
 go_enter Tryz.func259,Tryz.ntmps259
 go_wp2_with (first
  |(at_builtin;refine Lib.wpList_append_run _ rfl _ _ _ _ rfl _ _ rfl rfl _ _ (hrz _) ?_)
  |(at_builtin;refine We _ rfl _ _ 228 228 rfl _ _ rfl rfl (hcpA _ hE1 hE2 _ _) ?_)
  |(at_builtin;refine We _ rfl _ _ 228 228 rfl _ _ rfl rfl (hcpB _ (λ_=>rfl) (λ_=>rfl) _ _ _) ?_))
 go_region_law_o (refine ab4 rfl _ _ 228 228 rfl (.slice (some ⟨w.heap.size,(i+1)*2,none⟩) (n - i) (G -(i+1))) (.slice (some ⟨g,i*2,none⟩) (n - i) (cap - i)) (by simp[Act.eval,Act.put]) (by simp[Act.eval,Act.put]) (hcpB _ hF1 hF2 3 (G -(i+1)) (cap - i)) ?_)
 go_wp2
 go_ret
 exact⟨rfl,rfl⟩
theorem arR (L:List Value)(xs:List Value)(n i G:Nat)(k r:Value)(hL:L=(xs.take (i*2))++(Builtin.zeroCells zG.cells (n+1 - i)).toList++(Builtin.zeroCells zG.cells (G -(n+1))).toList)(hxl:xs.length=n*2)(hi:i<n)(hG:n+1<=G):
 let L1:=L.take (i*2)++[k,r]++L.drop (i*2+2)
 (L1.take ((i+1)*2)++xs.drop (i*2)++L1.drop ((i+1)*2+(xs.drop (i*2)).length)).take ((n+1)*2)=xs.take (2*i)++[k,r]++xs.drop (2*i):=by
 intro L1;have hd:(xs.drop (i*2)).length=n*2 - i*2:=by rw[List.length_drop,hxl]
 have ht:(xs.take (i*2)).length=i*2:=by rw[List.length_take];omega
 have h0:L.take (i*2)=xs.take (i*2):=by
  rw[hL,List.append_assoc,List.take_append_of_le_length (by omega),List.take_of_length_le (by omega)]
 have h1:L1.take ((i+1)*2)=xs.take (i*2)++[k,r]:=by
  show(L.take (i*2)++[k,r]++L.drop (i*2+2)).take ((i+1)*2)=_;rw[h0];have:(xs.take (i*2)++[k,r]).length=(i+1)*2:=by rw[List.length_append,ht];simp;omega
  rw[<- this,List.take_left]
 rw[h1,show 2*i=i*2 by omega];have:(xs.take (i*2)++[k,r]++xs.drop (i*2)).length=(n+1)*2:=by rw[List.length_append,List.length_append,ht,hd];simp;omega
 rw[<- this,List.take_left]
theorem Jk {w w1 w2:World}{g:Option Nat}(h1:w.grownBy w1 g){b:Nat}(h2:w1.grownBy w2 (some b))(hb:w.heap.size<=b\/some b=g):w.grownBy w2 g:=
 ⟨h2.os.trans h1.os,h2.tape.trans h1.tape,h2.output.trans h1.output,Nat.le_trans h1.size h2.size,λk hk hne=>(h2.block k (Nat.lt_of_lt_of_le hk h1.size) (λe=>by
  rcases hb with hb|hb
  ·have:=Option.some.inj e;omega
  ·exact hne (e.trans hb))).trans (h1.block k hk hne)⟩
theorem avo: ∀n p,p<=n ->n<=100000 ->ae0 n p:=by
 intro n p hp hn;by_cases hpn:p=n
 ·subst hpn;exact ahK (by omega)
 intro w yS v xs hown hb h1 vb k r hv hvb hk hr;have hi:p<n:=by omega
 have hxl:xs.length=n*2:=hown.1;have hown0:=hown;rcases hown.2 with⟨_,h0⟩|⟨g,cap,cur,rfl,hbg,hg,hnc,hcm,hcs,htake⟩
 ·omega
 have hd:(xs.drop (p*2)).length=n*2 - p*2:=by rw[List.length_drop,hxl]
 have hXl:(xs.take (2*p)++[k,r]++xs.drop (2*p)).length=(n+1)*2:=by
  simp only[List.length_append,List.length_take,List.length_drop,List.length_cons,List.length_nil,hxl];omega
 have hgb:vb≠g:=λe=>hvb (by rw[e];rfl)
 have hgw:g<w.heap.size:=(Array.getElem?_eq_some_iff.1 hg).1;by_cases hroom:n+1<=cap
 ·refine(alS w yS g n cap p xs hown (by omega) hi hroom vb k r hv hgb hk hr h1).mono ?_;rintro e w' ⟨rfl,rfl⟩;obtain⟨⟨c1,a1,a2,a3⟩,a4,a5⟩:=ZE g tG (xs.drop (p*2)) ((p+1)*2) w.drew cur hg (by omega);obtain⟨⟨c2,b1,b2,b3⟩,b4,b5⟩:=ZE g tG [k,r] (p*2) _ c1 a1 (by simp;omega);have h0:w.grownBy w.drew (some g):=⟨rfl,rfl,rfl,Nat.le_refl _,λ_ _ _=>rfl⟩;refine⟨_,rfl,⟨hXl,.inr ⟨g,cap,c2,rfl,hbg,b1,hroom,hcm,by rw[b2,a2,hcs],?_⟩⟩,Jk (Jk h0 a4 (.inr rfl)) b4 (.inr rfl),?_,λb hb'=>.inl hb'⟩
  ·rw[b3,a3];exact atD cur.toList xs n p k r htake (by simp;omega) hi
  ·rw[b5,a5];exact Nat.le_succ _
 ·have hroom:cap<n+1:=by omega
  have hGn:n+1<=grownCap w (n+1) cap tG:=grownCap_ge w _ _ _;have hGm:grownCap w (n+1) cap tG<=maxLen:=grownCap_le_maxLen w (n+1) cap tG (by unfold maxLen;omega);refine(anQ w yS g n cap p xs hown (by omega) hi hroom vb k r hv hk hr h1).mono ?_;rintro e w' ⟨rfl,rfl⟩;generalize grownCap w (n+1) cap tG=G at*;have hRs:(Qb xs n p G).size=G*2:=by
   unfold Qb;rw[Array.size_append,Array.size_append,ZY,ZY,List.size_toArray,List.length_take];omega
  have hRl:(Qb xs n p G).toList=xs.take (p*2)++(Builtin.zeroCells zG.cells (n+1 - p)).toList++(Builtin.zeroCells zG.cells (G -(n+1))).toList:=by simp[Qb]
  generalize Qb xs n p G=R at*;have hgR:(w.alloc (.cells R tG)).drew.heap[w.heap.size]? =some (.cells R tG (0,0)):=heap_alloc_new w _;obtain⟨⟨c1,a1,a2,a3⟩,a4,a5⟩:=ZE w.heap.size tG [k,r] (p*2) _ R hgR (by simp;omega);have a1':((w.alloc (.cells R tG)).drew.setCells w.heap.size (p*2) [k,r]).drew.heap[w.heap.size]? =some (.cells c1 tG (0,0)):=a1;obtain⟨⟨c2,b1,b2,b3⟩,b4,b5⟩:=ZE w.heap.size tG (xs.drop (p*2)) ((p+1)*2) _ c1 a1' (by omega);have h0:w.grownBy (w.alloc (.cells R tG)).drew (some g):=by
   have h:=World.grownBy_alloc w (.cells R tG) (some g);exact⟨h.os,h.tape,h.output,h.size,h.block⟩
  have h00:=Jk h0 a4 (.inl (Nat.le_refl _));have h01:w.grownBy ((w.alloc (.cells R tG)).drew.setCells w.heap.size (p*2) [k,r]).drew (some g):=⟨h00.os,h00.tape,h00.output,h00.size,h00.block⟩;refine⟨_,rfl,⟨hXl,.inr ⟨w.heap.size,G,c2,rfl,hb,b1,hGn,hGm,by rw[b2,a2,hRs],?_⟩⟩,Jk h01 b4 (.inl (Nat.le_refl _)),?_,λb hb'=>.inr ?_⟩
  ·rw[b3,a3];exact arR R.toList xs n p G k r hRl hxl hi hGn
  ·rw[b5];show w.drawn<=((w.alloc (.cells R tG)).drew.setCells w.heap.size (p*2) [k,r]).drawn+1;rw[a5];show w.drawn<=w.drawn+1+1;omega
  ·cases hb';exact Nat.le_refl _
end Go.Proofs.YtnlbmefhdiabcaaGreat
namespace Go.Proofs.YtnlbmefhdiabcaaGreat
open Go Go.AM
attribute [local irreducible] Sat zu zS zl
theorem akA (d:List Nmd)(t:Tbl)(st:Stp)(h1:xm d≠0):Sat Pg vI [.c (.d (.sl (zL d))),t.w,st.w] (λr=>r=rNT (xm d)):=by
 have hc:=vM d;have h1:(xm d !=0)=true:=by simpa using h1
 generalize xm d=e at*;obtain⟨tc,tr⟩:=t;obtain⟨op,⟨eo,nm,⟨vk,vn,vs⟩,ks⟩,items,scs,saggs,sorts,sn,tb⟩:=st;refine zg T8 jY (by kernel_rfl) ?_
 conv=>whnf
 refine Sat.cal (hc) ?_
 conv=>whnf
 rw[h1]
 conv=>whnf
 rfl
structure Stp.Sm (st:Stp):Prop where
 sorts:st.sorts.length<=1000
 cols:st.cols.length<=1000
 aggs:st.aggs.length<=1000
 items:st.items.length<=1000
theorem Stp.Sm.ok {st:Stp}(h:st.Sm):st.OK:=⟨Nat.le_trans h.sorts (by omega),Nat.le_trans h.cols (by omega),Nat.le_trans h.aggs (by omega),Nat.le_trans h.items (by omega)⟩
def ag7 (x:Int×List Col):Prop:=x.1≠0 ->x.2=[]
theorem wD (e:Int):ag7 (e,[]):=λ_=>rfl
theorem UB (l:List Col):ag7 (0,l):=λh=>absurd rfl h
theorem x8 {b:Bool}{x y:Int×List Col}(hx:ag7 x)(hy:ag7 y):ag7 (bif b then x else y):=by cases b<;>assumption
theorem apq {d:List Nmd}{cols:List Col}{st:Stp}:ag7 (yw d cols st):=by
 unfold yw;refine x8 (wD _) (x8 ?_ (x8 ?_ (x8 ?_ (x8 ?_ (x8 (UB _) (x8 ?_ ?_))))))
 ·exact x8 (wD _) (UB _)
 ·rw[am3];exact x8 (wD _) (UB _)
 ·exact x8 (wD _) (x8 (wD _) (UB _))
 ·exact x8 (wD _) (UB _)
 ·exact x8 (wD _) (x8 (wD _) (x8 (wD _) (x8 (wD _) (UB _))))
 ·unfold YU;cases zY st.table d with
  |none=>exact wD _
  |some t=>exact x8 (wD _) (x8 (wD _) (x8 (wD _) (x8 (wD _) (x8 (wD _) (x8 (wD _) (UB _))))))
theorem aq0 {d:List Nmd}{cols:List Col}{st:Stp}(hop:st.op=3)(h:(yw d cols st).1=0):takeErr cols st.cols=false /\(yl cols st.aggs).1=0 /\yw d cols st=(0,takeC cols st.cols++(yl cols st.aggs).2):=by
 have e:yw d cols st=grT cols st.cols st.aggs:=by
  have he:=ub h;unfold yw;rw[he,hop];rfl
 rw[e]at h⊢;unfold grT at h⊢;obtain⟨h1,e1⟩:=xF (by intro _;omega) h;rw[e1]at h⊢;obtain⟨h2,e2⟩:=xF (by simp) h;rw[e2];exact⟨h1,by simpa using h2,rfl⟩
theorem aq1 {d:List Nmd}{cols:List Col}{st:Stp}(hop:st.op=4)(h:(yw d cols st).1=0):qv cols st.sorts=false /\yw d cols st=(0,cols):=by
 have e:yw d cols st=soT cols st.sorts:=by
  have he:=ub h;unfold yw;rw[he,hop];rfl
 rw[e]at h⊢;unfold soT at h⊢;obtain⟨h1,e1⟩:=xF (by intro _;omega) h;exact⟨h1,e1⟩
theorem aw8 {st:Stp}(h:st.err=0)(hop:st.op=5):0<=st.n:=by
 unfold Stp.err at h;have h:=(zW (by omega) h).2;rw[hop]at h;have h:(bif decide (st.n<0)||decide (st.n>20000)then 2 else 0)=(0:Int):=h;have:=(zW (by omega) h).1;simp only[Bool.or_eq_false_iff,decide_eq_false_iff_not]at this;omega
theorem amZ (d:List Nmd)(t:Tbl)(st:Stp)(hk:st.Sm)(h1:xm d=0)(h2:zQ t=0)(h3:(yw d t.cols st).1=0)(hr:t.rows.length<20000)(hmul:st.op=6\/st.op=7 ->t.rows.length*(qh d st).rows.length<=20000):
 Sat Pg qF [.c (.d (.sl (zL d))),t.w,.agg st.cs,.c (.d (.sl (zi (yw d t.cols st).2)))] (λr=>r=wE ⟨(yw d t.cols st).2,stR d t st⟩ 0):=by
 have he:=ub h3;have hop:=abc he;have hop:st.op=1\/st.op=2\/st.op=3\/st.op=4\/st.op=5\/st.op=6\/st.op=7\/st.op=8\/st.op=9:=by omega
 have hw:=Xl h2;have hf:=u6 h2;have k1:=hk.sorts;have k2:=hk.cols;have k3:=hk.aggs;have k4:=hk.items;have hpl:(zm t.cols st.cols).length=st.cols.length:=by simp[zm]
 rcases hop with hop|hop|hop|hop|hop|hop|hop|hop|hop
 ·have e:stR d t st=whereR t.cols t.rows st.cond:=by unfold stR;rw[hop];rfl
  rw[e];refine jz d t st _ _ (by rw[hop];rfl) (by rw[hop];rfl) (by rw[hop];rfl) (by rw[hop];rfl) (Nat.le_trans (ag4 _ _ _) (by omega)) ?_;obtain⟨tc,tr⟩:=t;obtain⟨op,⟨eo,nm,⟨vk,vn,vs⟩,ks⟩,items,scs,saggs,sorts,sn,tb⟩:=st;simp only at hop;subst hop;exact aiu awl (.sl (zL d)) tc tr (by simp only at hr;omega) eo nm ⟨vk,vn,vs⟩ ks (yR items) (zp scs) (qy saggs) (xg sorts) sn tb
 ·have e:stR d t st=selR t.cols t.rows st.items:=by unfold stR;rw[hop];rfl
  rw[e];refine jz d t st _ _ (by rw[hop];rfl) (by rw[hop];rfl) (by rw[hop];rfl) (by rw[hop];rfl) (by unfold selR;rw[List.length_map];omega) ?_;obtain⟨tc,tr⟩:=t;obtain⟨op,⟨eo,nm,⟨vk,vn,vs⟩,ks⟩,items,scs,saggs,sorts,sn,tb⟩:=st;simp only at hop;subst hop;exact agG awl (.sl (zL d)) tc tr (by simp only at hr;omega) eo nm ⟨vk,vn,vs⟩ ks items (zp scs) (qy saggs) (xg sorts) sn tb (by simp only at k4;omega)
 ·have e:stR d t st=(wP (zm t.cols st.cols) t.rows).map (yV t.cols st.aggs):=by unfold stR;rw[hop];rfl
  rw[e];have hin:=apj (aq0 hop h3).1;have hG:=aiU (zm t.cols st.cols) t.rows;have hgr:=gR t.cols t.rows (zm t.cols st.cols) (by omega) (λr hr=>by rw[hw r hr];exact hin) (by omega) (λi hi _=>avo _ _ (act _ _) (by have:=VQ (zm t.cols st.cols) t.rows i;omega));generalize wP (zm t.cols st.cols) t.rows=G at*;have hgd:=Kj t.cols t.rows st G (by omega) (by omega) (by have:=hG.few;omega) (λg hg=>by rw[hG.key g hg];omega) (λg hg=>by have:=hG.cnt g hg;omega) (λg hg r hr=>hw r (hG.mem g hg r hr)) hgr;exact jz d t st _ _ (by rw[hop];rfl) (by rw[hop];rfl) (by rw[hop];rfl) (by rw[hop];rfl) (by rw[List.length_map];have:=hG.few;omega) (Wc d t st hop G hgd)
 ·have e:stR d t st=yK (uX (vj t.cols st.sorts) st.sorts) t.rows:=by unfold stR;rw[hop];rfl
  obtain⟨hb,hty⟩:=aq1 hop h3;rw[e,hty];have hS:=aqA t st.sorts (by omega) (by omega) (by omega);unfold aqN at hS;rw[h2,hb]at hS;exact agH d t st _ hop _ _ hS
 ·have e:stR d t st=t.rows.take (yP false st.n t.rows.length).toNat:=by unfold stR;rw[hop];rfl
  rw[e];exact jz d t st _ _ (by rw[hop];rfl) (by rw[hop];rfl) (by rw[hop];rfl) (by rw[hop];rfl) (by rw[List.length_take];omega) (ait d t st hop (aw8 he hop))
 ·have hj:=ZH (.inl hop) h3;have h3':=h3;rw[hj]at h3';obtain⟨b,hb,ho⟩:=Xf h3';have e:stR d t st=qx (zm t.cols st.cols) (zm b.cols st.cols) (oth st.cols 0 b.cols) t.rows b.rows:=by unfold stR qh;rw[hop,hb];rfl
  have hm:=hmul (.inl hop);rw[show qh d st=b by unfold qh;rw[hb];rfl]at hm;rw[e];have tb:=Wy h1 hb;have wb:=Xl tb;have fb:=u6 tb;have i:=gm ho.jn;have hJ:=ady t.cols t.rows b.cols b.rows st.cols (by omega) (by omega) hm (by omega) hw (by omega) wb i.1 i.2;exact jz d t st _ _ (by rw[hop];rfl) (by rw[hop];rfl) (by rw[hop];rfl) (by rw[hop];rfl) (Nat.le_trans (Jl _ _ _ _ _) hm) (aao d t st hop b hb _ hJ)
 ·have hj:=ZH (.inr (.inl hop)) h3;have h3':=h3;rw[hj]at h3';obtain⟨b,hb,ho⟩:=Xf h3';have tb:=Wy h1 hb;have fb:=u6 tb;have hm:=hmul (.inr hop);have e:stR d t st=qP (zh t.cols sFrom) (zh t.cols sTo) (zh b.cols sFrom) (zh b.cols sTo) (zm t.cols st.cols) (zm b.cols st.cols) (oth (st.cols++[sFrom,sTo]) 0 b.cols) t.rows b.rows:=by unfold stR qh;rw[hop,hb];rfl
  rw[show qh d st=b by unfold qh;rw[hb];rfl]at hm;have hO:=aoi t b st.cols (by omega) (by omega) (by omega) hm;have hc:=apl (.inl hop) h2 tb he hb;rw[hop]at hc;unfold ovQ at hO;rw[hc,h3,<- e]at hO;exact aeW d t st _ hop b hb _ _ hO
 ·have hj:=ZH (.inr (.inr hop)) h3;have h3':=h3;rw[hj]at h3';obtain⟨b,hb,ho⟩:=Xf h3';have tb:=Wy h1 hb;have fb:=u6 tb;have e:stR d t st=t.rows.map (wg (zh t.cols sFrom) (zh b.cols sFrom) (zm t.cols st.cols) (zm b.cols st.cols) (oth (st.cols++[sFrom]) 0 b.cols) b.rows):=by unfold stR qh;rw[hop,hb];rfl
  have hO:=aoh t b st.cols (by omega) (by omega) (by omega);have hc:=apl (.inr hop) h2 tb he hb;rw[hop]at hc;unfold nrQ at hO;rw[hc,h3,<- e]at hO;exact aeV d t st _ hop b hb _ _ hO
 ·have e:stR d t st=Zr (zm t.cols st.cols) (zh t.cols sFrom) (zh t.cols sTo) t.rows:=by unfold stR;rw[hop];rfl
  have hO:=amF t st.cols (by omega) (by omega);have hc:=avN (d:=d) hop h2 he;unfold coQ at hO;rw[hc,h3,<- e]at hO;exact adj d t st _ hop _ _ hO
theorem ahE {d:List Nmd}{nm:ByteArray}{b:Tbl}(h:xm d=0)(hf:zY nm d=some b):b.cols.length<=32:=(u6 (Wy h hf)).1
theorem abV (d:List Nmd)(t:Tbl)(st:Stp)(hk:st.Sm)(hr:t.rows.length<20000)(hmul:st.op=6\/st.op=7 ->st.err=0 ->t.rows.length*(qh d st).rows.length<=20000):
 Sat Pg vI [.c (.d (.sl (zL d))),t.w,st.w] (λr=>r=rTT (nStepT d t st)):=by
 unfold nStepT;by_cases h1:xm d=0
 ·rw[h1];by_cases h2:zQ t=0
  ·rw[h2];have fa:=u6 h2;have hT:=VJ d t.cols st hk.ok (by omega) (λb hb=>by have:=ahE h1 hb;omega);by_cases h3:(yw d t.cols st).1=0
   ·have hT2:Sat Pg yk [.c (.d (.sl (zL d))),.c (.d (.sl (zi t.cols))),st.w] (λr=>r=rCs (yw d t.cols st).2):=hT.mono λr hr=>by
     rw[hr];show Res.mk (.tup [.c (.d (.sl (zi (yw d t.cols st).2))),.c (int (yw d t.cols st).1)]) []=_;rw[h3];rfl
    have:=Wl d t st _ _ h1 h2 hT2 (amZ d t st hk h1 h2 h3 hr λhop=>hmul hop (ub h3));rw[h3];exact this
   ·have h3b:((yw d t.cols st).1 !=0)=true:=by simpa using h3
    have h0:(yw d t.cols st).2=[]:=apq h3;have hT2:Sat Pg yk [.c (.d (.sl (zL d))),.c (.d (.sl (zi t.cols))),st.w] (λr=>r=QF (yw d t.cols st).1):=hT.mono λr hr=>by
     rw[hr];show Res.mk (.tup [.c (.d (.sl (zi (yw d t.cols st).2))),.c (int (yw d t.cols st).1)]) []=_;rw[h0];rfl
    rw[h3b];exact z0 (aqq (amK d t st _ h1 h2 h3 hT2))
  ·have h2b:(zQ t !=0)=true:=by simpa using h2
   rw[h2b];exact z0 (aqq (akB d t st h1 h2))
 ·have h1b:(xm d !=0)=true:=by simpa using h1
  rw[h1b];exact z0 (aqq (akA d t st h1))
theorem afD {cols:List Col}(hc:ColsF cols){nms:List ByteArray}(h:takeErr cols nms=false): ∀c∈takeC cols nms,ColF c:=λc hm=>hc.ok c (asR h c hm)
theorem ajd {n vR:Int}(h:wS n vR=0):n<=16:=by
 unfold wS at h;rw[ud (by omega),ud (by omega)]at h;have:=of_decide_eq_false h.2.1;omega
theorem arx {l:List ByteArray}{m:Int}(h:qd l m=0):(l.length:Int)<=16 /\qC [] l=0:=by
 unfold qd at h;rw[ue]at h;exact⟨ajd h.1,h.2⟩
theorem arF {st:Stp}(h:st.err=0)(hop:st.op=2):(st.items.length:Int)<=16 /\xA [] st.items=0:=by
 unfold Stp.err at h;have h:=(zW (by omega) h).2;rw[hop]at h;have h:(bif wS st.items.length 1 !=0 then wS st.items.length 1 else xA [] st.items)=0:=h;rw[ue]at h;exact⟨ajd h.1,h.2⟩
theorem arG {st:Stp}(h:st.err=0)(hop:st.op=3):(st.cols.length:Int)<=16 /\(st.aggs.length:Int)<=16 /\qC [] st.cols=0 /\qI st.cols st.aggs=0:=by
 unfold Stp.err at h;have h:=(zW (by omega) h).2;rw[hop]at h;have h:Zt st.cols st.aggs=0:=h;unfold Zt at h;rw[ud (by omega),ud (by omega),ue]at h;obtain⟨_,h1,h2,h3⟩:=h;simp only[Bool.or_eq_false_iff,decide_eq_false_iff_not]at h1;exact⟨by omega,by omega,h2,h3⟩
theorem arH {st:Stp}(h:st.err=0)(hop:st.op=9):(st.cols.length:Int)<=16 /\qC [] st.cols=0:=by
 unfold Stp.err at h;have h:=(zW (by omega) h).2;rw[hop]at h;have h:qd st.cols 0=0:=h;exact arx h
theorem au1 {d:List Nmd}{cols:List Col}{st:Stp}(hop:st.op=1)(h:(yw d cols st).1=0):yw d cols st=(0,cols):=by
 have e:yw d cols st=whT cols st.cond:=by
  have he:=ub h;unfold yw;rw[he,hop];rfl
 rw[e]at h⊢;unfold whT at h⊢;exact(xF (by simp) h).2
theorem auY {d:List Nmd}{cols:List Col}{st:Stp}(hop:st.op=2)(h:(yw d cols st).1=0):yw d cols st=vx cols st.items:=by
 have he:=ub h;unfold yw;rw[he,hop];rfl
theorem auZ {d:List Nmd}{cols:List Col}{st:Stp}(hop:st.op=5)(h:(yw d cols st).1=0):yw d cols st=(0,cols):=by
 have he:=ub h;unfold yw;rw[he,hop];rfl
theorem arV {sp cs:List ByteArray}{tc:List Col}: ∀c∈keepS sp cs tc,c∈tc:=λc h=>by
 unfold keepS at h;exact(List.mem_filter.1 h).1
theorem kX {sp:List ByteArray}{cols tc:List Col}{cs:List ByteArray}{R:List Col}(hc:ColsF cols)(ht:ColsF tc)(h:JnOK sp cols tc cs R):ColsF (cols++keepS sp cs tc):=by
 refine⟨h.few,λc hm=>?_,(arC.1 h.dup).2⟩;rcases List.mem_append.1 hm with hm|hm
 ·exact hc.ok c hm
 ·exact ht.ok c (arV c hm)
theorem aqS (d:List Nmd)(t:Tbl)(st:Stp)(h1:xm d=0)(h2:zQ t=0)(h3:(yw d t.cols st).1=0)(hr:(stR d t st).length<=20000):zQ ⟨(yw d t.cols st).2,stR d t st⟩=0:=by
 obtain⟨hc,hrn,hrows⟩:=(ag1 t).1 h2;refine(ag1 _).2 ?_;suffices hs:ColsF (yw d t.cols st).2 /\ ∀r∈stR d t st,zV (yw d t.cols st).2 r from⟨hs.1,hr,hs.2⟩
 clear hr;have he:=ub h3;have hop:=abc he;have hop:st.op=1\/st.op=2\/st.op=3\/st.op=4\/st.op=5\/st.op=6\/st.op=7\/st.op=8\/st.op=9:=by omega
 rcases hop with hop|hop|hop|hop|hop|hop|hop|hop|hop
 ·have e:stR d t st=whereR t.cols t.rows st.cond:=by unfold stR;rw[hop];rfl
  rw[e,au1 hop h3];exact⟨hc,λr hr=>hrows r (List.mem_filter.1 hr).1⟩
 ·have e:stR d t st=selR t.cols t.rows st.items:=by unfold stR;rw[hop];rfl
  obtain⟨hl,hi⟩:=arF he hop;obtain⟨n1,n2,n3⟩:=anR hi;have hx: ∀x∈st.items,x.e.chk=0 /\z7 x.nm=true:=λx hm=>⟨abl _ _ hi x hm,n1 x hm⟩
  have e2:=auY hop h3;rw[e2]at h3⊢;obtain⟨s1,s2⟩:=am4 hc.ok hx h3;rw[e];refine⟨?_,λr hr=>?_⟩
  ·rw[s1];refine⟨by rw[List.length_map];omega,λc hm=>?_,?_⟩
   ·obtain⟨x,hx,rfl⟩:=List.mem_map.1 hm;exact(s2 x hx).2
   ·rw[List.map_map];exact n3
  ·unfold selR at hr;obtain⟨r0,hr0,rfl⟩:=List.mem_map.1 hr;exact auw hc.ok hx h3 (hrows r0 hr0)
 ·have e:stR d t st=(wP (zm t.cols st.cols) t.rows).map (yV t.cols st.aggs):=by unfold stR;rw[hop];rfl
  obtain⟨g1,g2,g3⟩:=aq0 hop h3;obtain⟨m1,m2,m3,m4⟩:=arG he hop;obtain⟨a1,a2,a3⟩:=aiI m3;obtain⟨b1,b2,b3⟩:=apC m4;obtain⟨c1,c2⟩:=adJ g2;have hG:=aiU (zm t.cols st.cols) t.rows;have hgf: ∀(rows:List (List Val)),rows.length<=20000 ->(∀r∈rows,zV t.cols r) -> ∀a∈st.aggs,ColF (ja t.cols a).2 /\yy (ja t.cols a).2.t (XA a.fn (YQ t.cols rows a)):=λrows hn hr a ha=>au3 hc.ok (b1 a ha) (c2 a ha) hn hr
  rw[e,g3];have tl:(takeC t.cols st.cols).length=st.cols.length:=by simp[takeC]
  refine⟨⟨?_,λc hm=>?_,?_⟩,λr hr=>?_⟩
  ·show(takeC t.cols st.cols++(yl t.cols st.aggs).2).length<=32;rw[List.length_append,c1,List.length_map,tl];omega
  ·rcases List.mem_append.1 hm with hm|hm
   ·exact afD hc g1 c hm
   ·rw[c1]at hm;obtain⟨a,ha,rfl⟩:=List.mem_map.1 hm;exact(hgf [] (by simp) (λ_ h=>by cases h) a ha).1
  ·show((takeC t.cols st.cols++(yl t.cols st.aggs).2).map Col.name).Nodup;rw[List.map_append,adE g1,c1,List.map_map,List.nodup_append];have e2:(Col.name∘ λa=>(ja t.cols a).2)=Agg.nm:=by funext a;exact aiG t.cols a
   rw[e2];refine⟨a3,b3,λs hs u hu=>?_⟩;obtain⟨a,ha,rfl⟩:=List.mem_map.1 hu;intro e3;exact b2 a ha (by rw[<- e3];exact hs)
  ·obtain⟨g,hg,rfl⟩:=List.mem_map.1 hr;unfold yV jb;show zV (takeC t.cols st.cols++(yl t.cols st.aggs).2) _;refine zV.app ?_ ?_
   ·rcases anN _ _ g hg with⟨k1,k2⟩|⟨r,k1,k2⟩
    ·rw[k2];have:st.cols=[]:=by simpa[zm]using k1
     rw[this];exact trivial
    ·rw[k2];exact(hrows r k1).pick g1
   ·rw[c1];exact zV.map _ _ λa ha=>(hgf g.rows (Nat.le_trans (hG.cnt g hg) hrn) (λr hr=>hrows r (hG.mem g hg r hr)) a ha).2
 ·have e:stR d t st=yK (uX (vj t.cols st.sorts) st.sorts) t.rows:=by unfold stR;rw[hop];rfl
  rw[e,(aq1 hop h3).2];exact⟨hc,λr hr=>hrows r (alP _ _ r hr)⟩
 ·have e:stR d t st=t.rows.take (yP false st.n t.rows.length).toNat:=by unfold stR;rw[hop];rfl
  rw[e,auZ hop h3];exact⟨hc,λr hr=>hrows r (List.mem_of_mem_take hr)⟩
 ·have hj:=ZH (.inl hop) h3;rw[hj]at h3⊢;obtain⟨b,hb,ho⟩:=Xf h3;have e:stR d t st=qx (zm t.cols st.cols) (zm b.cols st.cols) (oth st.cols 0 b.cols) t.rows b.rows:=by unfold stR qh;rw[hop,hb];rfl
  obtain⟨hbc,hbn,hbr⟩:=(ag1 b).1 (Wy h1 hb);rw[e,ho.eq];refine⟨kX hc hbc ho,λz hz=>?_⟩;obtain⟨x,hx,y,hy,rfl⟩:=arS hz;refine(hrows x hx).app ?_;have:=zV.rest0 (aeY st.op) st.cols (hbr y hy);rw[hop]at this⊢;have e5:st.cols++aeY 6=st.cols:=List.append_nil _;rw[e5]at this;exact this
 ·have hj:=ZH (.inr (.inl hop)) h3;rw[hj]at h3⊢;obtain⟨b,hb,ho⟩:=Xf h3;have e:stR d t st=qP (zh t.cols sFrom) (zh t.cols sTo) (zh b.cols sFrom) (zh b.cols sTo) (zm t.cols st.cols) (zm b.cols st.cols) (oth (st.cols++[sFrom,sTo]) 0 b.cols) t.rows b.rows:=by unfold stR qh;rw[hop,hb];rfl
  obtain⟨hbc,hbn,hbr⟩:=(ag1 b).1 (Wy h1 hb);rw[e,ho.eq];refine⟨kX hc hbc ho,?_⟩;have i1:=ho.i1;have i2:=ho.i2;rw[hop]at i1 i2⊢;exact asa (asJ i1) (asJ i2) hrows hbr λr hr=>zV.rest0 [sFrom,sTo] st.cols (hbr r hr)
 ·have hj:=ZH (.inr (.inr hop)) h3;rw[hj]at h3⊢;obtain⟨b,hb,ho⟩:=Xf h3;have e:stR d t st=t.rows.map (wg (zh t.cols sFrom) (zh b.cols sFrom) (zm t.cols st.cols) (zm b.cols st.cols) (oth (st.cols++[sFrom]) 0 b.cols) b.rows):=by unfold stR qh;rw[hop,hb];rfl
  obtain⟨hbc,hbn,hbr⟩:=(ag1 b).1 (Wy h1 hb);rw[e,ho.eq];refine⟨kX hc hbc ho,λz hz=>?_⟩;obtain⟨x,hx,rfl⟩:=List.mem_map.1 hz;rw[hop];refine ar4 ?_ (λr hr=>zV.rest0 [sFrom] st.cols (hbr r hr)) (hrows x hx);rw[amt];exact congrArg List.length (aiY _ _ _).symm
 ·have e:stR d t st=Zr (zm t.cols st.cols) (zh t.cols sFrom) (zh t.cols sTo) t.rows:=by unfold stR;rw[hop];rfl
  have e2:=anp hop h3;rw[e2]at h3⊢;have ho:=alx h3;obtain⟨m1,m2⟩:=arH he hop;obtain⟨a1,a2,a3⟩:=aiI m2;have tw:=ho.two;simp only[Bool.or_eq_false_iff]at tw;have f1:=alO.1 tw.1;have f2:=alO.1 tw.2;have tl:(takeC t.cols st.cols).length=st.cols.length:=by simp[takeC]
  obtain⟨p1,p2⟩:=Jg ho.i1;obtain⟨q1,q2⟩:=Jg ho.i2;rw[e,ho.eq];have hne:sFrom≠sTo:=by decide+kernel
  refine⟨⟨?_,λc hm=>?_,?_⟩,apM ⟨p1,p2,q1,q2⟩ λr hr=>⟨hrows r hr,(hrows r hr).pick ho.tk⟩⟩
  ·rw[List.length_append,tl];simp only[List.length_cons,List.length_nil];omega
  ·rcases List.mem_append.1 hm with hm|hm
   ·exact afD hc ho.tk c hm
   ·simp only[List.mem_cons,List.not_mem_nil,or_false]at hm;have g1:xZ sFrom=0:=VE (by decide+kernel);have g2:xZ sTo=0:=VE (by decide+kernel);rcases hm with rfl|rfl
    ·exact⟨g1,.inr (.inl rfl)⟩
    ·exact⟨g2,.inr (.inl rfl)⟩
  ·rw[List.map_append,adE ho.tk,List.nodup_append];refine⟨a3,by simp[hne],λs hs u hu=>?_⟩;simp only[List.map_cons,List.map_nil,List.mem_cons,List.not_mem_nil,or_false]at hu;rintro rfl;rcases hu with rfl|rfl
   ·exact f1 hs
   ·exact f2 hs
theorem auA (d:List Nmd)(t:Tbl)(st:Stp)(h:st.err=0):(stR d t st).length<=(bif st.op==6||st.op==7 then t.rows.length*(qh d st).rows.length else max t.rows.length 1):=by
 have hop:=abc h;have hop:st.op=1\/st.op=2\/st.op=3\/st.op=4\/st.op=5\/st.op=6\/st.op=7\/st.op=8\/st.op=9:=by omega
 rcases hop with hop|hop|hop|hop|hop|hop|hop|hop|hop
 ·have e:stR d t st=whereR t.cols t.rows st.cond:=by unfold stR;rw[hop];rfl
  rw[e,hop];have:=ag4 t.cols t.rows st.cond;show _<=max t.rows.length 1;omega
 ·have e:stR d t st=selR t.cols t.rows st.items:=by unfold stR;rw[hop];rfl
  rw[e,hop];unfold selR;rw[List.length_map];show _<=max t.rows.length 1;omega
 ·have e:stR d t st=(wP (zm t.cols st.cols) t.rows).map (yV t.cols st.aggs):=by unfold stR;rw[hop];rfl
  rw[e,hop,List.length_map];show _<=max t.rows.length 1;unfold wP;split
  ·simp;omega
  ·have:=VQ (zm t.cols st.cols) t.rows t.rows.length;rw[List.take_length]at this;omega
 ·have e:stR d t st=yK (uX (vj t.cols st.sorts) st.sorts) t.rows:=by unfold stR;rw[hop];rfl
  rw[e,hop,aje];show _<=max t.rows.length 1;omega
 ·have e:stR d t st=t.rows.take (yP false st.n t.rows.length).toNat:=by unfold stR;rw[hop];rfl
  rw[e,hop,List.length_take];show _<=max t.rows.length 1;omega
 ·rw[hop];have e:stR d t st=qx (zm t.cols st.cols) (zm (qh d st).cols st.cols) (oth st.cols 0 (qh d st).cols) t.rows (qh d st).rows:=by unfold stR;rw[hop];rfl
  rw[e];exact Jl _ _ _ _ _
 ·rw[hop];have e:stR d t st=qP (zh t.cols sFrom) (zh t.cols sTo) (zh (qh d st).cols sFrom) (zh (qh d st).cols sTo) (zm t.cols st.cols) (zm (qh d st).cols st.cols) (oth (st.cols++[sFrom,sTo]) 0 (qh d st).cols) t.rows (qh d st).rows:=by unfold stR;rw[hop];rfl
  rw[e];exact abI _ _ _ _ _ _ _ _ _
 ·have e:stR d t st=t.rows.map (wg (zh t.cols sFrom) (zh (qh d st).cols sFrom) (zm t.cols st.cols) (zm (qh d st).cols st.cols) (oth (st.cols++[sFrom]) 0 (qh d st).cols) (qh d st).rows):=by unfold stR;rw[hop];rfl
  rw[e,hop,List.length_map];show _<=max t.rows.length 1;omega
 ·have e:stR d t st=Zr (zm t.cols st.cols) (zh t.cols sFrom) (zh t.cols sTo) t.rows:=by unfold stR;rw[hop];rfl
  rw[e,hop];have:=apN (zm t.cols st.cols) (zh t.cols sFrom) (zh t.cols sTo) t.rows;show _<=max t.rows.length 1;omega
noncomputable def runT (d:List Nmd)(t:Tbl):List Stp ->Int×Tbl
 | []=>(0,t)
 |s::r=>bif (nStepT d t s).1 !=0 then((nStepT d t s).1,⟨[],[]⟩)else runT d (nStepT d t s).2 r
def Y7 (d:List Nmd)(q:Qry):Tbl:=(zY q.src d).getD ⟨[],[]⟩
noncomputable def runQ (d:List Nmd)(q:Qry):Int×Tbl:=bif (u7 d q).1 !=0 then((u7 d q).1,⟨[],[]⟩)else runT d (Y7 d q) q.steps
def U3 (d:List Nmd):Tbl ->List Stp ->Prop
 |_,[]=>True
 |t,s::r=>t.rows.length<20000 /\(s.op=6\/s.op=7 ->s.err=0 ->t.rows.length*(qh d s).rows.length<=20000)/\s.Sm /\((nStepT d t s).1=0 ->U3 d (nStepT d t s).2 r)
def joins:List Stp ->Nat
 | []=>0
 |s::r=>(bif zl s.table ⟨#[]⟩then 0 else 1)+joins r
theorem atU {d:List Nmd}{t:Tbl}{st:Stp}(h1:xm d=0)(h2:zQ t=0)(h3:(yw d t.cols st).1=0):nStepT d t st=(0,⟨(yw d t.cols st).2,stR d t st⟩):=by
 unfold nStepT;rw[h1,h2,h3];rfl
theorem abd {nm:ByteArray}{b:Tbl}: ∀{d:List Nmd},zY nm d=some b -> ∃x∈d,x.t=b
 | [],h=>by cases h
 |x::r,h=>by
  simp only[zY]at h;cases h3:zl x.nm nm
  ·rw[h3,cond_false]at h;obtain⟨y,hy,e⟩:=abd h;exact⟨y,by simp[hy],e⟩
  ·rw[h3,cond_true]at h;cases h;exact⟨x,by simp,rfl⟩
theorem arL {d:List Nmd}{nm:ByteArray}(hd: ∀x∈d,x.t.rows.length<=14):((zY nm d).getD ⟨[],[]⟩).rows.length<=14:=by
 cases hf:zY nm d with
 |none=>exact Nat.zero_le _
 |some b=>
  obtain⟨x,hx,rfl⟩:=abd hf;exact hd x hx
theorem atg {d:List Nmd}(hd: ∀x∈d,x.t.rows.length<=14)(s:Stp):(qh d s).rows.length<=14:=arL hd
theorem awg {st:Stp}(h:st.err=0)(hop:st.op=6\/st.op=7):zl st.table ⟨#[]⟩=false:=by
 unfold Stp.err at h;have h:=(zW (by omega) h).2;have h:(bif !z7 st.table then 3 else qd st.cols (bif st.op==6 then 1 else 0))=0:=by
  rcases hop with hop|hop<;>(rw[hop]at h;rw[hop];exact h)
 rw[ud (by omega)]at h;have h:=h.1;unfold z7 at h;cases hb:zl st.table ⟨#[]⟩
 ·rfl
 ·rw[hb]at h;simp at h
theorem asl {d:List Nmd}(h1:xm d=0)(hd: ∀x∈d,x.t.rows.length<=14): ∀(l:List Stp) (t:Tbl) (B:Nat),(∀s∈l,s.Sm) ->zQ t=0 ->1<=B ->t.rows.length<=B ->B*14^(joins l)<=2744 ->
 U3 d t l /\((jo d t.cols l).1=0 ->(runT d t l).1=0 /\(runT d t l).2.cols=(jo d t.cols l).2 /\zQ (runT d t l).2=0 /\(runT d t l).2.rows.length<=2744)/\((jo d t.cols l).1≠0 ->runT d t l=((jo d t.cols l).1,⟨[],[]⟩))
 | [],t,B,_,h2,hB,ht,hk=>by
   have hj:joins []=0:=rfl;rw[hj]at hk;refine⟨trivial,λ_=>⟨rfl,rfl,h2,by show t.rows.length<=2744;omega⟩,λh=>absurd rfl h⟩
 |s::r,t,B,hs,h2,hB,ht,hk=>by
  have hb:=atg hd s;have hpos:1<=14^joins r:=Nat.pow_pos (by omega);have hj:joins (s::r)=(bif zl s.table ⟨#[]⟩then 0 else 1)+joins r:=rfl;have hBr:B<=2744:=by
   have:=Nat.le_mul_of_pos_right B (Nat.pow_pos (n:=joins (s::r)) (show 0<14 by omega));omega
  have h20:s.op=6\/s.op=7 ->s.err=0 ->t.rows.length*(qh d s).rows.length<=B*14 /\B*14*14^joins r<=2744:=λhop he=>by
   have e:=awg he hop;rw[e]at hj;rw[hj,cond_false,Nat.pow_add,Nat.pow_one,<- Nat.mul_assoc]at hk;exact⟨Nat.mul_le_mul ht hb,hk⟩
  have hkr:B*14^joins r<=2744:=by
   refine Nat.le_trans (Nat.mul_le_mul_left _ ?_) hk;exact Nat.pow_le_pow_right (by omega) (by rw[hj];omega)
  have hsm:=hs s (by simp);have hmul:s.op=6\/s.op=7 ->s.err=0 ->t.rows.length*(qh d s).rows.length<=20000:=λhop he=>by
   obtain⟨a,b⟩:=h20 hop he;have:=Nat.le_mul_of_pos_right (B*14) (show 0<14^joins r by omega);omega
  by_cases h3:(yw d t.cols s).1=0
  ·have hn:=atU h1 h2 h3;have he:=ub h3;have hl:=auA d t s he;obtain⟨B',hB',hl',hk'⟩: ∃B',1<=B' /\(stR d t s).length<=B' /\B'*14^joins r<=2744:=by
    by_cases hop:s.op=6\/s.op=7
    ·obtain⟨a,b⟩:=h20 hop he;refine⟨B*14,by omega,?_,b⟩;rcases hop with hop|hop<;>(rw[hop]at hl;exact Nat.le_trans hl a)
    ·refine⟨B,hB,?_,hkr⟩;have:(s.op==6||s.op==7)=false:=by
      simp only[not_or]at hop;simp[hop.1,hop.2]
     rw[this,cond_false]at hl;omega
   have hB2:B'<=2744:=by
    have:=Nat.le_mul_of_pos_right B' (show 0<14^joins r by omega);omega
   have hv:=aqS d t s h1 h2 h3 (by omega);obtain⟨i1,i2,i3⟩:=asl h1 hd r ⟨(yw d t.cols s).2,stR d t s⟩ B' (λx hx=>hs x (by simp[hx])) hv hB' hl' hk';have e1:runT d t (s::r)=runT d ⟨(yw d t.cols s).2,stR d t s⟩ r:=by
    simp only[runT];rw[hn];rfl
   have e2:jo d t.cols (s::r)=jo d (yw d t.cols s).2 r:=by
    simp only[jo];rw[h3];rfl
   rw[e1,e2];exact⟨⟨by omega,hmul,hsm,λ_=>by rw[hn];exact i1⟩,i2,i3⟩
  ·have h3b:((yw d t.cols s).1 !=0)=true:=by simpa using h3
   have e2:jo d t.cols (s::r)=((yw d t.cols s).1,[]):=by
    simp only[jo];rw[h3b];rfl
   have hn:nStepT d t s=((yw d t.cols s).1,⟨[],[]⟩):=by
    unfold nStepT;rw[h1,h2,h3b];rfl
   have e1:runT d t (s::r)=((yw d t.cols s).1,⟨[],[]⟩):=by
    simp only[runT];rw[hn,h3b];rfl
   rw[e1,e2];refine⟨⟨by omega,hmul,hsm,λh=>?_⟩,λh=>absurd h h3,λ_=>rfl⟩;rw[hn]at h;exact absurd h h3
theorem amD (d:List Nmd): ∀(l:List Stp) (t:Tbl) (s:Stp),(runT d t l).1=0 ->runT d t (l++[s])=bif (nStepT d (runT d t l).2 s).1 !=0 then((nStepT d (runT d t l).2 s).1,⟨[],[]⟩)else nStepT d (runT d t l).2 s
 | [],t,s,_=>by
   simp only[List.nil_append,runT];cases h:((nStepT d t s).1 !=0)
   ·have:(nStepT d t s).1=0:=by simpa using h
    simp only[cond_false];rw[<- this]
   ·rfl
 |x::r,t,s,h=>by
  simp only[List.cons_append,runT]at h⊢;cases hb:((nStepT d t x).1 !=0)
  ·rw[hb,cond_false]at h;simp only[cond_false];exact amD d r _ s h
  ·rw[hb,cond_true]at h;rw[h]at hb;cases hb
theorem ajv (d:List Nmd): ∀(l:List Stp) (cols:List Col) (s:Stp),(jo d cols (l++[s])).1=0 ->(jo d cols l).1=0
 | [],_,_,_=>rfl
 |x::r,cols,s,h=>by
  simp only[List.cons_append,jo]at h⊢;cases hb:((yw d cols x).1 !=0)
  ·rw[hb,cond_false]at h;exact ajv d r _ s h
  ·rw[hb,cond_true]at h;rw[h]at hb;cases hb
theorem agY: ∀{l:List Stp},jm l=0↔ ∀s∈l,s.err=0
 | []=>⟨λ_ _ h=>(by cases h),λ_=>rfl⟩
 |x::r=>by
  simp only[jm];rw[ue,agY];simp
theorem abm: ∀(a b:List Stp),joins (a++b)=joins a+joins b
 | [],b=>by simp[joins]
 |x::r,b=>by simp only[List.cons_append,joins];rw[abm r b];omega
structure SmallQ (d:List Nmd)(q:Qry):Prop where
 rows: ∀x∈d,x.t.rows.length<=14
 two:joins q.steps<=2
 sm: ∀s∈q.steps,s.Sm
theorem akT {d:List Nmd}{q:Qry}(h:(u7 d q).1=0):xm d=0 /\q.err=0 /\ ∃t,zY q.src d=some t /\u7 d q=jo d t.cols q.steps:=by
 unfold u7 at h⊢;obtain⟨h1,e1⟩:=xF (by simp) h;rw[e1]at h⊢;obtain⟨h2,e2⟩:=xF (by simp) h;rw[e2]at h⊢;cases hf:zY q.src d with
 |none=>rw[hf]at h;cases h
 |some t=>exact⟨by simpa using h1,by simpa using h2,t,rfl,rfl⟩
theorem SmallQ.run {d:List Nmd}{q:Qry}(hs:SmallQ d q)(h:(u7 d q).1=0):zQ (Y7 d q)=0 /\U3 d (Y7 d q) q.steps /\(runQ d q).1=0 /\(runQ d q).2.cols=(u7 d q).2 /\zQ (runQ d q).2=0 /\(runQ d q).2.rows.length<=2744 /\runQ d q=runT d (Y7 d q) q.steps:=by
 obtain⟨h1,h2,t,hf,e⟩:=akT h;have ht:=Wy h1 hf;have es:Y7 d q=t:=by unfold Y7;rw[hf];rfl
 have er:runQ d q=runT d t q.steps:=by unfold runQ;rw[h,es];rfl
 have h14:t.rows.length<=14:=by
  obtain⟨x,hx,rfl⟩:=abd hf;exact hs.rows x hx
 have hpw:14*14^joins q.steps<=2744:=by
  have:14^joins q.steps<=14^2:=Nat.pow_le_pow_right (by omega) hs.two;omega
 obtain⟨i1,i2,_⟩:=asl h1 hs.rows q.steps t 14 hs.sm ht (by omega) h14 hpw;rw[er,es,e];rw[e]at h;obtain⟨j1,j2,j3,j4⟩:=i2 h;exact⟨ht,i1,j1,j2,j3,j4,rfl⟩
end Go.Proofs.YtnlbmefhdiabcaaGreat
namespace Go.Proofs.YtnlbmefhdiabcaaGreat
open Go Go.AM
attribute [local irreducible] Sat zu zS
theorem avQ {d:List Nmd}{cols:List Col}{st:Stp}(hl:cols.length<=1000):(yw d cols st).2.length<=1000:=by
 by_cases h:(yw d cols st).1=0
 ·have he:=ub h;have hop:=abc he;have hop:st.op=1\/st.op=2\/st.op=3\/st.op=4\/st.op=5\/(st.op=6\/st.op=7\/st.op=8)\/st.op=9:=by omega
  rcases hop with hop|hop|hop|hop|hop|hop|hop
  ·rw[au1 hop h];exact hl
  ·obtain⟨hn,hi⟩:=arF he hop;rw[auY hop h];have: ∀l:List Itm,(vx cols l).2.length<=l.length:=by
    intro l;induction l with
    |nil=>exact Nat.le_refl _
    |cons x r ih=>
     simp only[vx];cases((x.e.ty cols).2 !=0)
     ·cases((x.e.ty cols).1==0)
      ·cases((vx cols r).1 !=0)
       ·simp only[cond_false,List.length_cons];omega
       ·exact Nat.zero_le _
      ·exact Nat.zero_le _
     ·exact Nat.zero_le _
   have:=this st.items;omega
  ·obtain⟨g1,g2,g3⟩:=aq0 hop h;obtain⟨m1,m2,_,_⟩:=arG he hop;rw[g3];show(takeC cols st.cols++(yl cols st.aggs).2).length<=1000;rw[List.length_append,(adJ g2).1,List.length_map];have:(takeC cols st.cols).length=st.cols.length:=by simp[takeC]
   omega
  ·rw[(aq1 hop h).2];exact hl
  ·rw[auZ hop h];exact hl
  ·have hj:=ZH hop h;rw[hj]at h⊢;obtain⟨b,_,ho⟩:=Xf h;rw[ho.eq];have:=ho.few;omega
  ·have e2:=anp hop h;rw[e2]at h⊢;have ho:=alx h;obtain⟨m1,_⟩:=arH he hop;rw[ho.eq,List.length_append];have:(takeC cols st.cols).length=st.cols.length:=by simp[takeC]
   simp only[List.length_cons,List.length_nil];omega
 ·rw[apq h];exact Nat.zero_le _
theorem aij {q:Qry}(h:q.err=0):q.steps.length<=16:=by
 unfold Qry.err at h;rw[ud (by omega),ud (by omega)]at h;have:=of_decide_eq_false h.2.1;omega
theorem aiw (d:List Nmd)(src:ByteArray)(l:List Stp)(hs: ∀s∈l,s.Sm)(h1:xm d=0)(h2:Qry.err ⟨src,l⟩=0)(tc:List Col)(tr:List (List Val))(hf:zY src d=some ⟨tc,tr⟩)(y:Int×List Col)(hy:jo d tc l=y):Sat Pg vy [.c (.d (.sl (zL d))),Qry.w ⟨src,l⟩] (λr=>r=qH y):=by
 have hc:=vM d;have hq:=abU ⟨src,l⟩ (λs h=>Nat.le_trans (hs s h).sorts (by omega));have hfd:=xR d src;have hT:=λcols (hl:cols.length<=1000) i (hi:i<l.length)=>VJ d cols l[i] (hs _ (List.getElem_mem hi)).ok (by omega) (λb hb=>by have:=ahE h1 hb;omega)
 have hl16:l.length<=16:=aij h2;have hX:tc.length<=32:=ahE h1 hf;have hcl:=qp tc (by omega);rw[h1]at hc;rw[h2]at hq;rw[hf]at hfd;clear hf h1 h2;refine z0 ?_;refine zg T8 va (by kernel_rfl) ?_
 conv=>whnf
 refine Sat.cal (hc) ?_
 conv=>whnf
 refine Sat.cal (hq) ?_
 conv=>whnf
 refine Sat.cal (hfd) ?_
 conv=>whnf
 refine Sat.cal (hcl) ?_
 conv=>whnf
 refine yv (P:=Pg) (f:=T8.f) (body:=Yf) (λz:Nat×List Col=>⟨[(0,.w (.c (.d (.sl (zL d))))),(10,.w (.c (.d (.sl (zi z.2))))),(38,.w (.c (.d (.sl (qO l))))),(39,zf (qO l).length),(40,zf z.1)],[]⟩) (λz=>l.length - z.1) (λz=>z.1<=l.length /\z.2.length<=1000 /\y=jo d z.2 (l.drop z.1)) ⟨(0,tc),⟨Nat.zero_le _,by show tc.length<=1000;omega,hy.symm⟩,ze ?_⟩ ?_
 ·(conv=>whnf);rfl
 ·rintro⟨i,cols⟩ hz;obtain⟨hi,hcl,hR⟩:i<=l.length /\cols.length<=1000 /\y=jo d cols (l.drop i):=hz;clear hy;(conv=>whnf);refine zd (λh3=>?_) (λh3=>?_)
  ·have hlt:i<l.length:=by have:=of_decide_eq_true h3;rw[xh]at this;omega
   have hT:=hT cols hcl i hlt;have hg:=UK hlt;have wi:IntKind.i64.wrap ((i:Int)+1)=((i+1:Nat):Int):=zx hlt (by omega);rw[zq hlt]at hR;simp only[jo]at hR;have hcl2:=avQ (d:=d) (st:=l[i]) hcl;generalize l[i]=s at*;generalize yw d cols s=x at*;obtain⟨x1,x2⟩:=x;obtain⟨op,⟨eo,nm,⟨vk,vn,vs⟩,ks⟩,items,scs,saggs,sorts,sn,tb⟩:=s;(conv=>whnf);refine⟨by omega,_,hg,rfl,?_⟩;(conv=>whnf);(conv=>whnf);refine Sat.cal (hT) ?_;(conv=>whnf);refine zd (λh4=>?_) (λh4=>?_)
   ·have h4:(x1 !=0)=true:=h4;simp only[h4,cond_true]at hR;subst hR;(conv=>whnf);exact⟨rfl,rfl⟩
   ·have h4:(x1 !=0)=false:=h4;simp only[h4,cond_false]at hR;(conv=>whnf);refine⟨(i+1,x2),⟨⟨hlt,hcl2,hR⟩,by show l.length -(i+1)<l.length - i;omega⟩,ze ?_⟩;(conv=>whnf);rw[wi];rfl
  ·have hge:l.length<=i:=by have:=of_decide_eq_false h3;rw[xh]at this;omega
   rw[List.drop_eq_nil_of_le hge]at hR;subst hR;(conv=>whnf);exact⟨rfl,rfl⟩
theorem Kk (d:List Nmd)(q:Qry)(hs: ∀s∈q.steps,s.Sm):Sat Pg vy [.c (.d (.sl (zL d))),q.w] (λr=>r=qH (u7 d q)):=by
 obtain⟨src,l⟩:=q;have hs: ∀s∈l,s.Sm:=hs;have hc:=vM d;have hq:=abU ⟨src,l⟩ (λs h=>Nat.le_trans (hs s h).sorts (by omega));have hfd:=xR d src;unfold u7;by_cases h1:xm d=0
 ·by_cases h2:Qry.err ⟨src,l⟩=0
  ·cases hf:zY src d with
   |some t=>
    obtain⟨tc,tr⟩:=t;have:=aiw d src l hs h1 h2 tc tr hf _ rfl;rw[h1,h2];simp only[hf];exact this
   |none=>
    rw[h1]at hc;rw[h2]at hq;rw[hf]at hfd;rw[h1,h2];simp only[hf];refine z0 ?_;refine zg T8 va (by kernel_rfl) ?_;(conv=>whnf);refine Sat.cal (hc) ?_;(conv=>whnf);refine Sat.cal (hq) ?_;(conv=>whnf);refine Sat.cal (hfd) ?_;(conv=>whnf);exact⟨rfl,rfl⟩
  ·have h2b:(Qry.err ⟨src,l⟩ !=0)=true:=by simpa using h2
   rw[h1]at hc;rw[h1,h2b];simp only[bne_self_eq_false,cond_true,cond_false];generalize Qry.err ⟨src,l⟩=e2 at*;refine z0 ?_;refine zg T8 va (by kernel_rfl) ?_;(conv=>whnf);refine Sat.cal (hc) ?_;(conv=>whnf);refine Sat.cal (hq) ?_;(conv=>whnf);rw[h2b];(conv=>whnf);exact⟨rfl,rfl⟩
 ·have h1b:(xm d !=0)=true:=by simpa using h1
  rw[h1b];simp only[cond_true];generalize xm d=e1 at*;refine z0 ?_;refine zg T8 va (by kernel_rfl) ?_;(conv=>whnf);refine Sat.cal (hc) ?_;(conv=>whnf);rw[h1b];(conv=>whnf);exact⟨rfl,rfl⟩
theorem aqz (d:List Nmd)(src:ByteArray)(l:List Stp)(y2:List Col)(hl16:l.length<=16)(hQ:Sat Pg vy [.c (.d (.sl (zL d))),Qry.w ⟨src,l⟩] (λr=>r=qH (0,y2)))(tc:List Col)(tr:List (List Val))(hf:zY src d=some ⟨tc,tr⟩)(hrun:U3 d ⟨tc,tr⟩ l)(y:Int×Tbl)(hy:runT d ⟨tc,tr⟩ l=y):
 Sat Pg jP [.c (.d (.sl (zL d))),Qry.w ⟨src,l⟩] (λr=>r=rTT y):=by
 have hfd:=xR d src;rw[hf]at hfd;clear hf;have hSt:=λt s h1 h2 h3=>abV d t s h1 h2 h3
 refine z0 ?_;refine zg T8 QM (by kernel_rfl) ?_
 conv=>whnf
 refine Sat.cal (hQ) ?_
 conv=>whnf
 refine Sat.cal (hfd) ?_
 conv=>whnf
 refine yv (P:=Pg) (f:=T8.f) (body:=QL) (λz:Nat×Tbl=>⟨[(0,.w (.c (.d (.sl (zL d))))),(4,cV (.ptr 4 0)),(8,cV (.ptr 8 0)),(32,.w (.c (.d (.sl (qO l))))),(33,zf (qO l).length),(34,zf z.1)],[(4,.box [.nil,.nil]),(8,.box [.d (.sl (zi z.2.cols)),.d (.sl (zj z.2.rows))])]⟩) (λz=>l.length - z.1) (λz=>z.1<=l.length /\U3 d z.2 (l.drop z.1)/\y=runT d z.2 (l.drop z.1)) ⟨(0,⟨tc,tr⟩),⟨Nat.zero_le _,hrun,hy.symm⟩,ze ?_⟩ ?_
 ·(conv=>whnf);rfl
 ·rintro⟨i,⟨c,rs⟩⟩ hz;obtain⟨hi,hK,hR⟩:i<=l.length /\U3 d ⟨c,rs⟩ (l.drop i)/\y=runT d ⟨c,rs⟩ (l.drop i):=hz;clear hy;(conv=>whnf);refine zd (λh3=>?_) (λh3=>?_)
  ·have hlt:i<l.length:=by have:=of_decide_eq_true h3;rw[xh]at this;omega
   have hg:=UK hlt;have wi:IntKind.i64.wrap ((i:Int)+1)=((i+1:Nat):Int):=zx hlt (by omega);rw[zq hlt]at hR hK;simp only[runT]at hR;obtain⟨k1,k2,k3,k4⟩:=hK;have hSt:=hSt ⟨c,rs⟩ l[i] k3 k1 k2;generalize l[i]=s at*;generalize nStepT d ⟨c,rs⟩ s=x at*;obtain⟨x1,⟨x2,x3⟩⟩:=x;obtain⟨op,⟨eo,nm,⟨vk,vn,vs⟩,ks⟩,items,scs,saggs,sorts,sn,tb⟩:=s;(conv=>whnf);refine⟨by omega,_,hg,rfl,?_⟩;(conv=>whnf);(conv=>whnf);refine Sat.cal (hSt) ?_;(conv=>whnf);refine zd (λh4=>?_) (λh4=>?_)
   ·have h4:(x1 !=0)=true:=h4;simp only[h4,cond_true]at hR;subst hR;(conv=>whnf);exact⟨rfl,rfl⟩
   ·have h4:(x1 !=0)=false:=h4;simp only[h4,cond_false]at hR;(conv=>whnf);refine⟨(i+1,⟨x2,x3⟩),⟨⟨hlt,k4 (by simpa using h4),hR⟩,by show l.length -(i+1)<l.length - i;omega⟩,ze ?_⟩;(conv=>whnf);rw[wi];rfl
  ·have hge:l.length<=i:=by have:=of_decide_eq_false h3;rw[xh]at this;omega
   rw[List.drop_eq_nil_of_le hge]at hR;subst hR;(conv=>whnf);exact⟨rfl,rfl⟩
theorem aoj (d:List Nmd)(src:ByteArray)(l:List Stp)(y1:Int)(y2:List Col)(h1:(y1 !=0)=true)(hQ:Sat Pg vy [.c (.d (.sl (zL d))),Qry.w ⟨src,l⟩] (λr=>r=qH (y1,y2))):Sat Pg jP [.c (.d (.sl (zL d))),Qry.w ⟨src,l⟩] (λr=>r=rTT (y1,⟨[],[]⟩)):=by
 refine z0 ?_;refine zg T8 QM (by kernel_rfl) ?_
 conv=>whnf
 refine Sat.cal (hQ) ?_
 conv=>whnf
 rw[h1]
 conv=>whnf
 exact⟨rfl,rfl⟩
theorem acx (d:List Nmd)(q:Qry)(hs: ∀s∈q.steps,s.Sm)(hrun:(u7 d q).1=0 ->U3 d (Y7 d q) q.steps):Sat Pg jP [.c (.d (.sl (zL d))),q.w] (λr=>r=rTT (runQ d q)):=by
 have hQ:=Kk d q hs;unfold runQ;by_cases h1:(u7 d q).1=0
 ·obtain⟨_,he,t,hf,_⟩:=akT h1;have hsrc:Y7 d q=t:=by unfold Y7;rw[hf];rfl
  have hrun:=hrun h1;rw[h1];rw[show u7 d q=(0,(u7 d q).2)by rw[<- h1]]at hQ;rw[hsrc]at hrun⊢;obtain⟨tc,tr⟩:=t;obtain⟨src,l⟩:=q;exact aqz d src l _ (aij he) hQ tc tr hf hrun _ rfl
 ·have h1b:((u7 d q).1 !=0)=true:=by simpa using h1
  rw[h1b];obtain⟨src,l⟩:=q;exact aoj d src l _ _ h1b hQ
def Qf (d:List Nmd):Bool:=yD (λx=>!decide ((x.t.rows.length:Int)>14)) d
theorem JG (d:List Nmd):Sat Pg aj2 [.c (.d (.sl (zL d)))] (λr=>r=rB (Qf d)):=by
 unfold Qf;refine qe 0 (by kernel_rfl) rfl λhlen=>?_
 rw[vK]at hlen;refine zg T8 adV (by kernel_rfl) ?_
 conv=>whnf
 refine zF (P:=Pg) (f:=T8.f) (body:=V8) d.length (λi=>⟨[(0,.w (.c (.d (.sl (zL d))))),(3,zf i)],[]⟩) (λi=>yD (λx:Nmd=>!decide ((x.t.rows.length:Int)>14)) d=yD (λx:Nmd=>!decide ((x.t.rows.length:Int)>14)) (d.drop i)) ⟨rfl,ze ?_⟩ ?_
 ·(conv=>whnf);rfl
 ·intro i hi hR;(conv=>whnf);rw[vK];refine zd (λh1=>?_) (λh1=>?_)
  ·have hlt:i<d.length:=by have:=of_decide_eq_true h1;omega
   rw[zq hlt]at hR;have hg:=gz hlt;have wi:=zx hlt hlen;simp only[yD]at hR;generalize d[i]=x at*;obtain⟨xn,⟨xc,xr⟩⟩:=x;simp only at hR;(conv=>whnf);refine⟨by omega,_,hg,rfl,?_⟩;(conv=>whnf);(conv=>whnf);rw[zA];refine zd (λh2=>?_) (λh2=>?_)
   ·rw[h2]at hR;(conv=>whnf);exact congrArg rB hR.symm
   ·rw[h2]at hR;(conv=>whnf);refine⟨hlt,hR,ze ?_⟩;(conv=>whnf);rw[wi];rfl
  ·have hge:d.length<=i:=by have:=of_decide_eq_false h1;omega
   rw[List.drop_eq_nil_of_le hge]at hR;(conv=>whnf);exact congrArg rB hR.symm
def afF (x:Nmd):Bool:=!(decide ((x.nm.size:Int)>300)|| !afG x.t)
def KM (d:List Nmd):Bool:=bif decide ((d.length:Int)>10)then false else yD afF d
theorem aof (d:List Nmd):Sat Pg afZ [.c (.d (.sl (zL d)))] (λr=>r=rB (KM d)):=by
 unfold KM;refine qe 0 (by kernel_rfl) rfl λhlen=>?_
 rw[vK]at hlen;refine zg T8 aa0 (by kernel_rfl) ?_
 conv=>whnf
 rw[vK];refine zd (λh0=>?_) (λh0=>?_)
 ·rw[h0];(conv=>whnf);rfl
 ·rw[h0];(conv=>whnf);refine zF (P:=Pg) (f:=T8.f) (body:=Wu) d.length (λi=>⟨[(0,.w (.c (.d (.sl (zL d))))),(3,zf i)],[]⟩) (λi=>yD afF d=yD afF (d.drop i)) ⟨rfl,ze ?_⟩ ?_
  ·(conv=>whnf);rfl
  ·intro i hi hR;(conv=>whnf);rw[vK];refine zd (λh1=>?_) (λh1=>?_)
   ·have hlt:i<d.length:=by have:=of_decide_eq_true h1;omega
    rw[zq hlt]at hR;have hg:=gz hlt;have wi:=zx hlt hlen;simp only[yD]at hR;have hF:=amH d[i].t;unfold afF at hR;generalize d[i]=x at*;obtain⟨xn,⟨xc,xr⟩⟩:=x;simp only at hR;generalize afG ⟨xc,xr⟩=b at*;(conv=>whnf);refine⟨by omega,_,hg,rfl,?_⟩;(conv=>whnf);(conv=>whnf);cases h2:decide ((xn.size:Int)>300)with
    |true=>
     rw[h2]at hR;(conv=>whnf);exact congrArg rB hR.symm
    |false=>
     rw[h2]at hR;(conv=>whnf);refine⟨by omega,_,hg,rfl,?_⟩;(conv=>whnf);(conv=>whnf);refine Sat.cal (hF) ?_;cases b with
     |false=>
      (conv=>whnf);exact congrArg rB hR.symm
     |true=>
      (conv=>whnf);refine⟨hlt,hR,ze ?_⟩;(conv=>whnf);rw[wi];rfl
   ·have hge:d.length<=i:=by have:=of_decide_eq_false h1;omega
    rw[List.drop_eq_nil_of_le hge]at hR;(conv=>whnf);exact congrArg rB hR.symm
theorem ap9 {l:List Stp}{i:Nat}(h:i<l.length):joins (l.take (i+1))=joins (l.take i)+(bif zl l[i].table ⟨#[]⟩then 0 else 1):=by
 have:l.take (i+1)=l.take i++[l[i]]:=(List.take_append_getElem h).symm;rw[this,abm];simp[joins]
theorem atF (l:List Stp):joins l<=l.length:=by
 induction l with
 |nil=>exact Nat.le_refl _
 |cons x r ih=>
  simp only[joins,List.length_cons];cases zl x.table ⟨#[]⟩
  ·simp only[cond_false];omega
  ·simp only[cond_true];omega
def Wi (d:List Nmd)(q:Qry):Bool:=bif !KM d|| !q.few||decide ((q.steps.length:Int)>10)then false else decide ((joins q.steps:Int)<=2)
theorem JD (d:List Nmd)(q:Qry):Sat Pg anY [.c (.d (.sl (zL d))),q.w] (λr=>r=rB (Wi d q)):=by
 have h1:=aof d;have h2:=avA q;unfold Wi;generalize KM d=b1 at*;generalize q.few=b2 at*;obtain⟨src,l⟩:=q;simp only;cases b1 with
 |false=>
  refine zg T8 QO (by kernel_rfl) ?_;(conv=>whnf);refine Sat.cal (h1) ?_;(conv=>whnf);rfl
 |true=>
  cases b2 with
  |false=>
   refine zg T8 QO (by kernel_rfl) ?_;(conv=>whnf);refine Sat.cal (h1) ?_;(conv=>whnf);refine Sat.cal (h2) ?_;(conv=>whnf);rfl
  |true=>
   refine zg T8 QO (by kernel_rfl) ?_;(conv=>whnf);refine Sat.cal (h1) ?_;(conv=>whnf);refine Sat.cal (h2) ?_;(conv=>whnf);rw[xh];cases h3:decide ((l.length:Int)>10)with
   |true=>
    (conv=>whnf);rfl
   |false=>
    have hl:l.length<=10:=by have:=of_decide_eq_false h3;omega
    (conv=>whnf);refine zF (P:=Pg) (f:=T8.f) (body:=QN) l.length (λi=>⟨[(3,cV (.ptr 3 0)),(5,zf (joins (l.take i))),(6,zf i)],[(3,.box [str src,.d (.sl (qO l))])]⟩) (λ_=>True) ⟨trivial,ze ?_⟩ ?_
    ·(conv=>whnf);rfl
    ·intro i hi _;have hj:=λh=>ap9 (l:=l) (i:=i) h
     have hend:i=l.length ->joins (l.take i)=joins l:=λh=>by rw[h,List.take_length]
     have hjl:=atF (l.take i);rw[List.length_take]at hjl;show mwpR Pg T8.f QN _ ⟨[(3,cV (.ptr 3 0)),(5,zf (joins (l.take i))),(6,zf i)],[(3,.box [str src,.d (.sl (qO l))])]⟩;generalize joins (l.take i)=n at*;(conv=>whnf);rw[xh];refine zd (λk1=>?_) (λk1=>?_)
     ·have hlt:i<l.length:=by have:=of_decide_eq_true k1;omega
      have hj:=hj hlt;have hg:=UK hlt;have wi:=zx hlt (by omega);generalize l[i]=s at*;obtain⟨op,⟨eo,nm,⟨vk,vn,vs⟩,ks⟩,items,scs,saggs,sorts,sn,tb⟩:=s;simp only at hj;(conv=>whnf);refine⟨by omega,_,hg,rfl,?_⟩;(conv=>whnf);refine zd (λk2=>?_) (λk2=>?_)
      ·have k2:(!zl tb ⟨#[]⟩)=true:=k2;rw[show zl tb ⟨#[]⟩=false by simpa using k2,cond_false]at hj;have wn:IntKind.i64.wrap ((n:Int)+1)=((n+1:Nat):Int):=zx (show n<n+1 by omega) (by omega);(conv=>whnf);refine⟨hlt,trivial,ze ?_⟩;(conv=>whnf);rw[wi,wn,hj];rfl
      ·have k2:(!zl tb ⟨#[]⟩)=false:=k2;rw[show zl tb ⟨#[]⟩=true by simpa using k2,cond_true]at hj;(conv=>whnf);refine⟨hlt,trivial,ze ?_⟩;(conv=>whnf);rw[wi,hj];rfl
     ·have hge:i=l.length:=by have:=of_decide_eq_false k1;omega
      have e:=hend hge;(conv=>whnf);rw[e];rfl
def akQ (a b:List Col):Bool:=bif (((a.length:Int)) !=b.length)then false else xB KK a b
theorem kr (a b:List Col):Sat Pg al2 [.c (.d (.sl (zi a))),.c (.d (.sl (zi b)))] (λr=>r=rB (akQ a b)):=by
 unfold akQ;refine qe 0 (by kernel_rfl) rfl λhlen=>?_
 rw[zC]at hlen;rw[<- zC,<- zC];refine zg T8 aft (by kernel_rfl) ?_
 conv=>whnf
 refine zd (λh=>?_) (λh=>?_)
 ·have h:(((zi a).length:Int) !=((zi b).length:Int))=true:=h;rw[h];(conv=>whnf);rfl
 ·have h:(((zi a).length:Int) !=((zi b).length:Int))=false:=h;rw[h];simp only[bne_eq_false_iff_eq,zC]at h;(conv=>whnf);refine zF (P:=Pg) (f:=T8.f) (body:=Je) a.length (λi=>⟨[(0,.w (.c (.d (.sl (zi a))))),(1,.w (.c (.d (.sl (zi b))))),(5,zf i)],[]⟩) (λi=>xB KK a b=xB KK (a.drop i) (b.drop i)) ⟨rfl,ze ?_⟩ ?_
  ·(conv=>whnf);rfl
  ·intro i hi hR;(conv=>whnf);rw[zC];refine zd (λh1=>?_) (λh1=>?_)
   ·have hlt:i<a.length:=by have:=of_decide_eq_true h1;omega
    have hlb:i<b.length:=by omega
    rw[kD _ hlt hlb]at hR;have hg:=yW hlt;have hg2:=yW hlb;generalize a[i]=x at*;generalize b[i]=y at*;obtain⟨x1,x2⟩:=x;obtain⟨y1,y2⟩:=y;(conv=>whnf);refine⟨by omega,_,hg,rfl,?_⟩;(conv=>whnf);refine⟨by omega,_,hg2,rfl,?_⟩;(conv=>whnf);refine zd (λh2=>?_) (λh2=>?_)
    ·have h2:(!KK ⟨x1,x2⟩ ⟨y1,y2⟩)=true:=h2;rw[h2,cond_true]at hR;(conv=>whnf);rw[hR];rfl
    ·have h2:(!KK ⟨x1,x2⟩ ⟨y1,y2⟩)=false:=h2;rw[h2,cond_false]at hR;(conv=>whnf);refine⟨hlt,hR,ze ?_⟩;(conv=>whnf);rw[zx hlt hlen];rfl
   ·have hge:a.length<=i:=by have:=of_decide_eq_false h1;omega
    rw[List.drop_eq_nil_of_le hge]at hR;have e:xB KK a b=true:=by rw[hR,List.drop_eq_nil_of_le (by omega)];rfl
    (conv=>whnf);rw[e];rfl
end Go.Proofs.YtnlbmefhdiabcaaGreat
namespace Go.Proofs.YtnlbmefhdiabcaaGreat
open Go Go.AM
attribute [local irreducible] Sat zu zS zl
theorem adK {α:Type}{p:α ->Bool}: ∀{l:List α},yD p l=true -> ∀x∈l,p x=true
 | [],_,x,hx=>by cases hx
 |a::r,h,x,hx=>by
  simp only[yD]at h;cases hb:p a
  ·rw[hb]at h;cases h
  ·rw[hb,cond_true]at h;rcases List.mem_cons.1 hx with rfl|hx
   ·exact hb
   ·exact adK h x hx
theorem awh {s:Stp}(h:s.few=true):s.Sm:=by
 unfold Stp.few at h;cases hb:(((((!s.cond.small||decide ((s.items.length:Int)>30))||decide ((s.cols.length:Int)>30))||decide ((s.aggs.length:Int)>30))||decide ((s.sorts.length:Int)>30))||decide ((s.table.size:Int)>300))
 ·simp only[Bool.or_eq_false_iff,decide_eq_false_iff_not]at hb;obtain⟨⟨⟨⟨⟨_,h1⟩,h2⟩,h3⟩,h4⟩,_⟩:=hb;exact⟨by omega,by omega,by omega,by omega⟩
 ·rw[hb]at h;cases h
theorem avx {q:Qry}(h:q.few=true): ∀s∈q.steps,s.Sm:=by
 unfold Qry.few at h;cases hb:(decide ((q.steps.length:Int)>30)||decide ((q.src.size:Int)>300))
 ·rw[hb,cond_false]at h;exact λs hs=>awh (adK h s hs)
 ·rw[hb]at h;cases h
theorem J2 {d:List Nmd}{q:Qry}(h:Wi d q=true)(hs:Qf d=true):SmallQ d q:=by
 unfold Wi at h;cases hb:(!KM d|| !q.few||decide ((q.steps.length:Int)>10))
 ·rw[hb,cond_false]at h;simp only[Bool.or_eq_false_iff,Bool.not_eq_false']at hb;refine⟨λx hx=>?_,by have:=of_decide_eq_true h;omega,avx hb.1.2⟩;have:=adK hs x hx;simp only[Bool.not_eq_true',decide_eq_false_iff_not]at this;omega
 ·rw[hb]at h;cases h
theorem agE (l:List Col):akQ l l=true:=by
 unfold akQ;simp[XC alE]
theorem SmallQ.init {d:List Nmd}{src:ByteArray}{l:List Stp}{s:Stp}(h:SmallQ d ⟨src,l++[s]⟩):SmallQ d ⟨src,l⟩:=by
 refine⟨h.rows,?_,λx hx=>h.sm x (by simp[hx])⟩;have:=h.two;simp only[abm]at this⊢;omega
theorem auH {d:List Nmd}{src:ByteArray}{l:List Stp}{s:Stp}(h:(u7 d ⟨src,l++[s]⟩).1=0):(u7 d ⟨src,l⟩).1=0:=by
 obtain⟨h1,h2,t,hf,e⟩:=akT h;rw[e]at h;have h3:=ajv d l t.cols s h;have hf:zY src d=some t:=hf;have h4:Qry.err ⟨src,l⟩=0:=by
  unfold Qry.err at h2⊢;simp only at h2⊢;rw[ud (by omega),ud (by omega),agY]at h2⊢;refine⟨h2.1,?_,λx hx=>h2.2.2 x (by simp[hx])⟩;have:=of_decide_eq_false h2.2.1;rw[List.length_append]at this;exact decide_eq_false (by omega)
 unfold u7;rw[h1,h4];simp only[hf];exact h3
theorem atp {d:List Nmd}{src:ByteArray}{l:List Stp}{s:Stp}(hs:SmallQ d ⟨src,l++[s]⟩)(h:(u7 d ⟨src,l++[s]⟩).1=0):
 (runQ d ⟨src,l⟩).1=0 /\nStepT d (runQ d ⟨src,l⟩).2 s=runQ d ⟨src,l++[s]⟩/\(runQ d ⟨src,l⟩).2.rows.length<20000 /\(s.op=6\/s.op=7 ->s.err=0 ->(runQ d ⟨src,l⟩).2.rows.length*(qh d s).rows.length<=20000):=by
 have hi:=auH h;obtain⟨a1,a2,a3,a4,a5,a6,a7⟩:=hs.run h;obtain⟨b1,b2,b3,b4,b5,b6,b7⟩:=hs.init.run hi;have a7:runQ d ⟨src,l++[s]⟩=runT d (Y7 d ⟨src,l++[s]⟩) (l++[s]):=a7;have b7:runQ d ⟨src,l⟩=runT d (Y7 d ⟨src,l⟩) l:=b7;have hsr:Y7 d ⟨src,l++[s]⟩=Y7 d ⟨src,l⟩:=rfl;rw[hsr]at a7;have e:=amD d l (Y7 d ⟨src,l⟩) s (by rw[<- b7];exact b3);rw[<- a7,<- b7]at e;have hmul: ∀(m:List Stp) (t:Tbl),U3 d t (m++[s]) ->(runT d t m).1=0 ->(s.op=6\/s.op=7 ->s.err=0 ->(runT d t m).2.rows.length*(qh d s).rows.length<=20000):=by
  intro m;induction m with
  |nil=>intro t h _;exact h.2.1
  |cons x r ih=>
   intro t h hz;simp only[runT]at hz⊢;cases hb:((nStepT d t x).1 !=0)
   ·rw[hb,cond_false]at hz;simp only[cond_false];exact ih _ (h.2.2.2 (by simpa using hb)) hz
   ·rw[hb,cond_true]at hz;rw[hz]at hb;cases hb
 refine⟨b3,?_,by omega,?_⟩
 ·cases hb:((nStepT d (runQ d ⟨src,l⟩).2 s).1 !=0)
  ·rw[hb,cond_false]at e;exact e.symm
  ·rw[hb,cond_true]at e;rw[e]at a3;simp only at a3;rw[a3]at hb;cases hb
 ·have:=hmul l (Y7 d ⟨src,l⟩) a2 (by rw[<- b7];exact b3);rw[<- b7]at this;exact this
theorem ani (a b:List Stp):qO (a++b)=qO a++qO b:=by simp[qO]
theorem adv (d:List Nmd)(q:Qry)(h:Wi d q=false\/Qf d=false):Sat Pg qE [.c (.d (.sl (zL d))),q.w] (λr=>r=rB true):=by
 have haw:=JC;have h1:=JD d q;have h2:=JG d;generalize Wi d q=b1 at*;generalize Qf d=b2 at*;obtain⟨src,l⟩:=q;cases b1 with
 |false=>
  clear h2;refine zg T8 xX (by kernel_rfl) ?_;(conv=>whnf);refine Sat.cal (haw) ?_;(conv=>whnf);refine Sat.cal (h1) ?_;(conv=>whnf);refine Sat.cal (haw) ?_;(conv=>whnf);rfl
 |true=>
  have hb:b2=false:=h.resolve_left (by simp);subst hb;refine zg T8 xX (by kernel_rfl) ?_;(conv=>whnf);refine Sat.cal (haw) ?_;(conv=>whnf);refine Sat.cal (h1) ?_;(conv=>whnf);refine Sat.cal (h2) ?_;(conv=>whnf);refine Sat.cal (haw) ?_;(conv=>whnf);rfl
theorem amM (d:List Nmd)(q:Qry)(h1:Wi d q=true)(h2:Qf d=true)(h3:(runQ d q).1≠0):Sat Pg qE [.c (.d (.sl (zL d))),q.w] (λr=>r=rB true):=by
 have haw:=JC;have hS:=J2 h1 h2;have f1:=JD d q;have f2:=JG d;have hR:=acx d q hS.sm (λh=>(hS.run h).2.1);rw[h1]at f1;rw[h2]at f2;have h3b:((runQ d q).1 !=0)=true:=by simpa using h3
 clear h1 h2 h3 hS;generalize runQ d q=y at*;obtain⟨y1,⟨y2,y3⟩⟩:=y;obtain⟨src,l⟩:=q;refine zg T8 xX (by kernel_rfl) ?_
 conv=>whnf
 refine Sat.cal (haw) ?_
 conv=>whnf
 refine Sat.cal (f1) ?_
 conv=>whnf
 refine Sat.cal (f2) ?_
 conv=>whnf
 refine Sat.cal (hR) ?_
 conv=>whnf
 rw[show(y1 !=0)=true from h3b]
 conv=>whnf
 rfl
theorem aqB (d:List Nmd)(src:ByteArray)(h1:Wi d ⟨src,[]⟩=true)(h2:Qf d=true)(h3:(u7 d ⟨src,[]⟩).1=0):Sat Pg qE [.c (.d (.sl (zL d))),Qry.w ⟨src,[]⟩] (λr=>r=rB true):=by
 have haw:=JC;have hS:=J2 h1 h2;have f1:=JD d ⟨src,[]⟩;have f2:=JG d;obtain⟨_,b2,b3,b4,b5,_,_⟩:=hS.run h3;have hR:=acx d ⟨src,[]⟩ hS.sm (λ_=>b2);have hT:=Kk d ⟨src,[]⟩ hS.sm;rw[h1]at f1;rw[h2]at f2;have hC:=kr (runQ d ⟨src,[]⟩).2.cols (u7 d ⟨src,[]⟩).2;rw[b4,agE]at hC;have hK:=y8 (runQ d ⟨src,[]⟩).2;rw[b5]at hK;clear h1 h2 hS b2 b5;generalize runQ d ⟨src,[]⟩=y at*;generalize u7 d ⟨src,[]⟩=z at*;obtain⟨y1,⟨y2,y3⟩⟩:=y;obtain⟨z1,z2⟩:=z;simp only at b3 b4 h3;subst b3 b4 h3;refine zg T8 xX (by kernel_rfl) ?_
 conv=>whnf
 refine Sat.cal (haw) ?_
 conv=>whnf
 refine Sat.cal (f1) ?_
 conv=>whnf
 refine Sat.cal (f2) ?_
 conv=>whnf
 refine Sat.cal (hR) ?_
 conv=>whnf
 refine Sat.cal (hT) ?_
 conv=>whnf
 refine Sat.cal (hC) ?_
 conv=>whnf
 refine Sat.cal (hK) ?_
 conv=>whnf
 rfl
theorem aqC (d:List Nmd)(src:ByteArray)(l:List Stp)(s:Stp)(h1:Wi d ⟨src,l++[s]⟩=true)(h2:Qf d=true)(h3:(u7 d ⟨src,l++[s]⟩).1=0):Sat Pg qE [.c (.d (.sl (zL d))),Qry.w ⟨src,l++[s]⟩] (λr=>r=rB true):=by
 have haw:=JC;have hS:=J2 h1 h2;have f1:=JD d ⟨src,l++[s]⟩;have f2:=JG d;obtain⟨_,b2,b3,b4,b5,_,_⟩:=hS.run h3;have hR:=acx d ⟨src,l++[s]⟩ hS.sm (λ_=>b2);have hT:=Kk d ⟨src,l++[s]⟩ hS.sm;rw[h1]at f1;rw[h2]at f2;have hC:=kr (runQ d ⟨src,l++[s]⟩).2.cols (u7 d ⟨src,l++[s]⟩).2;rw[b4,agE]at hC;have hK:=y8 (runQ d ⟨src,l++[s]⟩).2;rw[b5]at hK;obtain⟨c1,c2,c3,c4⟩:=atp hS h3;have hI:=hS.init;have hR2:=acx d ⟨src,l⟩ hI.sm (λh=>(hI.run h).2.1);have hSt:=abV d (runQ d ⟨src,l⟩).2 s (hS.sm s (by simp)) c3 c4;rw[c2]at hSt;have hEq:=ais (runQ d ⟨src,l++[s]⟩).2 (runQ d ⟨src,l++[s]⟩).2;rw[aqx]at hEq;have hl:(l++[s]).length<=16:=aij (akT h3).2.1;clear h1 h2 hS b2 b5 hI c2 c3 c4;generalize runQ d ⟨src,l++[s]⟩=y at*;generalize u7 d ⟨src,l++[s]⟩=z at*;generalize runQ d ⟨src,l⟩=x at*;obtain⟨y1,⟨y2,y3⟩⟩:=y;obtain⟨z1,z2⟩:=z;obtain⟨x1,⟨x2,x3⟩⟩:=x;simp only at b3 b4 h3 c1;subst b3 b4 h3 c1;have hsl:(qO (l++[s])).length=l.length+1:=by rw[xh,List.length_append];rfl
 have htk:(qO (l++[s])).take l.length=qO l:=by
  rw[ani,List.take_append_of_le_length (by rw[xh];omega),List.take_of_length_le (by rw[xh];omega)]
 have hgt:(qO (l++[s]))[l.length]? =some s.ds:=by
  rw[ani,List.getElem?_append_right (by rw[xh];omega),xh,Nat.sub_self];rfl
 have hl2:l.length<=15:=by rw[List.length_append]at hl;simp only[List.length_cons,List.length_nil]at hl;omega
 clear hl;have wm:IntKind.i64.wrap (((l.length+1:Nat):Int) - 1)=(l.length:Int):=by rw[IntKind.wrap_i64];omega
 have hne:(((l.length+1:Nat):Int)==0)=false:=by simp;omega
 have e:Qry.w ⟨src,l++[s]⟩= .agg [str src,.d (.sl (qO (l++[s])))]:=rfl;rw[e]at f1 hR hT⊢;clear e;obtain⟨op,⟨eo,nm,⟨vk,vn,vs⟩,ks⟩,items,scs,saggs,sorts,sn,tb⟩:=s;generalize qO (l++[Stp.mk op ⟨eo,nm,⟨vk,vn,vs⟩,ks⟩ items scs saggs sorts sn tb])=L at*;refine zg T8 xX (by kernel_rfl) ?_
 conv=>whnf
 refine Sat.cal (haw) ?_
 conv=>whnf
 refine Sat.cal (f1) ?_
 conv=>whnf
 refine Sat.cal (f2) ?_
 conv=>whnf
 refine Sat.cal (hR) ?_
 conv=>whnf
 refine Sat.cal (hT) ?_
 conv=>whnf
 refine Sat.cal (hC) ?_
 conv=>whnf
 refine Sat.cal (hK) ?_
 conv=>whnf
 rw[hsl];rw[hne]
 conv=>whnf
 rw[wm];refine⟨by show(0:Int)<=(l.length:Int);omega,by show(l.length:Int)<=(L.length:Int);rw[hsl];omega,?_⟩
 conv=>whnf
 rw[show(zT (some (l.length:Int)) (L.length:Int)).toNat=l.length from rfl,htk];refine Sat.cal (hR2) ?_
 conv=>whnf
 rw[wm];refine⟨by show(0:Int)<=(l.length:Int);omega,_,hgt,rfl,?_⟩
 conv=>whnf
 refine Sat.cal (hSt) ?_
 conv=>whnf
 refine Sat.cal (hEq) ?_
 conv=>whnf
 rfl
theorem aeN (d:List Nmd)(q:Qry):Sat Pg qE [.c (.d (.sl (zL d))),q.w] (λr=>r=rB true):=by
 cases h1:Wi d q with
 |false=>exact adv d q (.inl h1)
 |true=>
  cases h2:Qf d with
  |false=>exact adv d q (.inr h2)
  |true=>
   by_cases h3:(u7 d q).1=0
   ·obtain⟨src,l⟩:=q;rcases List.eq_nil_or_concat l with rfl|⟨l',s,rfl⟩
    ·exact aqB d src h1 h2 h3
    ·rw[List.concat_eq_append]at*;exact aqC d src l' s h1 h2 h3
   ·refine amM d q h1 h2 ?_;unfold runQ;rw[show((u7 d q).1 !=0)=true by simpa using h3];exact h3
end Go.Proofs.YtnlbmefhdiabcaaGreat
