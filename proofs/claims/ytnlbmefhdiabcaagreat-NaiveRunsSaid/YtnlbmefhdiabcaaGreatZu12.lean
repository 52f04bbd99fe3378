import Derived.Shelf.RegionOpenPlain
import Derived.Test.YtnlbmefhdiabcaaGreatZu11
set_option linter.unusedSimpArgs false
set_option linter.unusedVariables false
set_option maxRecDepth 100000
set_option maxHeartbeats 4000000
namespace Go.Proofs.YtnlbmefhdiabcaaGreat
open Go Go.AM
section
attribute [local irreducible] Sat zQ yv zl
theorem akz {α:Type}(p:α ->Bool): ∀(l:List α) (i:Nat),z6 p (i:Int) l<0\/ ∃k,∃h:k<l.length,z6 p (i:Int) l=((i+k:Nat):Int)/\p l[k]=true
 | [],i=>.inl (by simp[z6])
 |x::r,i=>by
  simp only[z6];cases g:p x
  ·have:=akz p r (i+1);simp only[cond_false];rcases this with h|⟨k,hk,e,j⟩
   ·grind
   ·right
    refine⟨k+1,by grind,?_,j⟩;have:z6 p ((i:Int)+1) r=((i+1+k:Nat):Int):=e;omega
  ·right
   exact⟨0,by simp,by simp,g⟩
theorem Yx {cols:List Col}{s:ByteArray}(h: ¬ze cols s<0): ∃h:(ze cols s).toNat<cols.length,xz cols (ze cols s)=cols[(ze cols s).toNat]/\(xz cols (ze cols s)).name=s:=by
 have:=akz (λx:Col=>zl x.name s) cols 0
 grind[ze,xz,AM.beqS_iff]
theorem adC {cols:List Col}{g:List ByteArray}(h:takeErr cols g=false): ∀s∈g,¬ze cols s<0:=λs hs=>by
 grind[takeErr]
theorem afm {cols:List Col}{g:List ByteArray}(h:takeErr cols g=false):(takeC cols g).map Col.name=g:=by
 unfold takeC;rw[List.map_map];conv=>rhs;rw[<- List.map_id' g]
 exact List.map_congr_left λs hs=>(Yx (adC h s hs)).2.2
theorem awc {cols:List Col}{g:List ByteArray}(h:takeErr cols g=false): ∀c∈takeC cols g,c∈cols:=λc i=>by
 unfold takeC at i;obtain⟨s,hs,rfl⟩:=List.mem_map.1 i;obtain⟨j,l,_⟩:=Yx (adC h s hs)
 grind
theorem zU.pick {cols:List Col}{r:List Val}(hr:zU cols r){g:List ByteArray}(h:takeErr cols g=false):zU (takeC cols g) (pickL r (zg cols g)):=by
 unfold pickL zg takeC;rw[List.map_map];refine zU.map _ _ λs hs=>?_
 obtain⟨i,j,_⟩:=Yx (adC h s hs);rw[j];exact hr.get i
theorem avx (r:List Val)(a b:List Int):pickL r (a++b)=pickL r a++pickL r b:=by simp[pickL]
theorem auH {vs:List Val}{i:Nat}{v:Val}{r:List Val}(h:vs.drop i=v::r):at0 vs i=v /\vs.drop (i+1)=r:=by
 grind[List.length_cons,zo,at0]
theorem zU.rest (on:List ByteArray){y:List Val}: ∀{tc:List Col}{i:Nat},zU tc (y.drop i) ->zU (tc.filter λc=>!hasB on c.name) (pickL y (oth on i tc))
 | [],i,_=>trivial
 |c::r,i,h=>by
  cases g:y.drop i with
  |nil=>rw[g]at h;exact False.elim h
  |cons v vs=>
   rw[g]at h;obtain⟨j,l⟩:=auH g;have p:=zU.rest on (y:=y) (tc:=r) (i:=i+1) (by rw[l];exact h.2);simp only[Go.Proofs.YtnlbmefhdiabcaaGreat.oth];cases o:(!hasB on c.name)
   ·grind
   ·rw[List.filter_cons,o,if_pos rfl,avx];refine zU.app (cs:=[c]) ?_ p;show zU [c] [at0 y ((i:Int)).toNat];rw[show((i:Int)).toNat=i by omega,j];exact⟨h.1,trivial⟩
theorem aoM (on:List ByteArray): ∀(l:List Col) (i:Nat),(oth on i l).length=(l.filter λc=>!hasB on c.name).length
 | [],_=>rfl
 |c::r,i=>by
  simp only[oth,List.length_append];rw[aoM on r (i+1)];cases g:(!hasB on c.name)
  ·rw[List.filter_cons,g];simp
  ·rw[List.filter_cons,g];simp;omega
theorem akK (g cs:List ByteArray)(tc:List Col):keepS g cs tc=tc.filter λc=>!hasB (cs++g) c.name:=by
 unfold keepS;congr 1
 funext c
 grind[afI]
theorem zU.nulls: ∀(l:List Col),zU l (List.replicate l.length zB)
 | []=>trivial
 |c::r=>⟨auW _,zU.nulls r⟩
theorem aBm {l:List Int}{w:Int}(h:xg l w=true): ∀x∈l,x=w\/x=0:=λx i=>by
 cases g:xR x w
 ·grind[xg]
 simp_all[xR]
theorem auX {l:List Int}{i:Nat}{P:Int ->Prop}(h: ∀x∈l,P x)(h0:P 0):P (l.getD i 0):=by
 grind
theorem azs {cols:List Col}(hc: ∀c∈cols,ColF c){e:Ex}(he:e.err=0)(J:(e.ty cols).2=0):0<=(e.ty cols).1 /\(e.ty cols).1<=3:=by
 obtain⟨op,j,v,r⟩:=e;have p:yE op j v r.length=0:=by
  grind[Ex.err]
 obtain⟨ac,g⟩:=aem J;have hT:(Ex.ty cols (.mk op j v r))=uw cols op j v (tyL cols r).2:=by
  grind[Ex.ty]
 rw[hT];obtain⟨_,aa,ab⟩:=ZJ p;generalize(tyL cols r).2=l at*;have ho:op=1\/op=2\/op=3\/op=4\/op=5\/op=6\/op=7\/op=8\/op=9\/op=10\/op=11\/op=12\/op=13\/op=14\/op=15\/op=16:=by omega
 rcases ho with rfl|rfl|rfl|rfl|rfl|rfl|rfl|rfl|rfl|rfl|rfl|rfl|rfl|rfl|rfl|rfl
 ·show 0<=v.k /\v.k<=3;have o:=kz (by rfl) p;unfold Zr at o;have:=adT (Vp.1 o).1;rcases this with rfl|⟨h,_⟩|⟨h,_⟩|⟨h,_⟩
  ·exact⟨Int.le_refl _,by show(0:Int)<=3;omega⟩
  all_goals omega
 ·have g:(bif decide (ze cols j<0)then((0:Int),(16:Int))else(v0 cols (ze cols j),0)).2=0:=g;have I: ¬ze cols j<0:=λh=>by
   grind
  show 0<=(bif decide (ze cols j<0)then((0:Int),(16:Int))else(v0 cols (ze cols j),0)).1 /\(bif decide (ze cols j<0)then((0:Int),(16:Int))else(v0 cols (ze cols j),0)).1<=3;rw[decide_eq_false I];obtain⟨T,_,_⟩:=Yx I;have h7:v0 cols (ze cols j)=cols[(ze cols j).toNat].t:=by grind[v0]
  simp only[cond_false];rw[h7];have:=(hc _ (List.getElem_mem T)).2;omega
 ·grind[uw,yP]
 ·grind[uw,yP]
 ·grind[uw,yP]
 ·grind[uw,yP]
 ·grind[uw,yP]
 ·grind[uw,yP]
 ·grind[uw,yP]
 ·grind[uw,yP]
 ·grind[uw,yP]
 ·grind[uw,yP]
 ·grind[uw,yP]
 ·grind[uw,yP]
 ·grind[uw,yP]
 have g:(Zd j l).2=0:=g;show 0<=(Zd j l).1 /\(Zd j l).1<=3;unfold Zd at g⊢;generalize(zl j ⟨#[109,105,110]⟩||zl j ⟨#[109,97,120]⟩)=q1 at*;generalize zl j ⟨#[97,98,115]⟩=q2 at*;generalize zl j ⟨#[108,101,110]⟩=q3 at*;cases q1 with
 |true=>
  simp only[cond_true]at g⊢;obtain⟨U,h2⟩:=yP g;rw[h2,KI];have R: ∀x∈l,0<=x /\x<=3:=λx hx=>by
   simp only[Bool.or_eq_true]at U
   grind[aBm]
  have I:=auX (i:=0) (P:=λx=>0<=x /\x<=3) R (by omega);have T:=auX (i:=1) (P:=λx=>0<=x /\x<=3) R (by omega);omega
 |false=>
  simp only[cond_false]at g⊢;cases q2 with
  |true=>simp_all[yP]
  |false=>
   simp only[cond_false]at g⊢;cases q3<;>simp_all[yP]
theorem apt {cols:List Col}(p: ∀c∈cols,ColF c): ∀{l:List Itm},(∀x∈l,x.e.chk=0 /\zT x.nm=true) ->(qi cols l).1=0 ->(qi cols l).2=l.map (λx=>(⟨x.nm,(x.e.ty cols).1⟩:Col))/\ ∀x∈l,(x.e.ty cols).2=0 /\ColF ⟨x.nm,(x.e.ty cols).1⟩
 | [],_,_=>⟨rfl,λ_ h=>by(cases h)⟩
 |x::r,I,h=>by
  simp only[qi]at h⊢;cases i:((x.e.ty cols).2 !=0)
  ·rw[i]at h;cases o:((x.e.ty cols).1==0)
   ·rw[o]at h;cases J:((qi cols r).1 !=0)
    ·rw[J]at h;obtain⟨P,R⟩:=apt p (λy j=>I y (by simp[j])) (l:=r) (by grind);simp only[cond_false,List.map_cons];have i:(x.e.ty cols).2=0:=by grind
     have o:(x.e.ty cols).1≠0:=by grind
     have g:=I x (by simp);have hr:=azs p (WO g.1) i;refine⟨by rw[P],λy j=>?_⟩;rcases List.mem_cons.1 j with rfl|j
     ·exact⟨i,UP g.2,by grind⟩
     grind
    simp_all
   grind
  simp_all
theorem ay6 {cols:List Col}(g: ∀c∈cols,ColF c){l:List Itm}(i: ∀x∈l,x.e.chk=0 /\zT x.nm=true)(h:(qi cols l).1=0){row:List Val}(hr:zU cols row):zU (qi cols l).2 (itR cols row l):=by
 grind[apt,itR,zU.map,Ex.tyE,auS,aAl]
theorem axi (l:List Val):yz 2 (Yd l):=by
 grind[Yd,yz,akc,Kn]
theorem aoH: ∀{l:List Val}{m:Val}{P:Val ->Prop},P m ->(∀v∈l,P v) ->P (vH m l)
 | [],_,_,h,_=>h
 |v::r,m,P,h,g=>by
  simp only[vH];refine aoH ?_ λx i=>g x (by simp[i])
  grind
theorem aoE: ∀{l:List Val}{m:Val}{P:Val ->Prop},P m ->(∀v∈l,P v) ->P (Zy m l)
 | [],_,_,h,_=>h
 |v::r,m,P,h,g=>by
  simp only[Zy];refine aoE ?_ λx i=>g x (by simp[i])
  grind
theorem ar8 {l:List Val}{i:Nat}{P:Val ->Prop}(h: ∀v∈l,P v)(h0:P zB):P (at0 l i):=by
 grind[at0]
theorem am8 {fn:ByteArray}{l:List Val}{t:Int}(J:l.length<=20000)(g:zl fn qI=false -> ∀v∈l,yz t v)(hs:zl fn Wk=true ->zl fn qI=false ->t=2)(j:zl fn qI=true ->t=2):yz t (w6 fn l):=by
 unfold w6;cases p:zl fn qI
 ·have g:=g p;have i: ∀v∈zD l,yz t v:=λv o=>g v (List.mem_filter.1 o).1
  cases I:zl fn Wk
  ·simp only[cond_false];cases(zl fn aig&&decide ((l.length:Int)>0))
   ·simp only[cond_false];have r: ∀v∈(zD l).drop 1,yz t v:=λv o=>i v (List.mem_of_mem_drop o)
    cases(zl fn ajR&&decide (((zD l).length:Int)>0))
    ·simp only[cond_false];cases(zl fn ajQ&&decide (((zD l).length:Int)>0))
     ·exact .inl rfl
     ·exact aoE (ar8 i (.inl rfl)) r
    ·exact aoH (ar8 i (.inl rfl)) r
   ·exact ar8 g (.inl rfl)
  grind[axi]
 ·rw[j p];simp only[cond_true];exact jV (gh (by omega) (by omega))
theorem afv {cols:List Col}: ∀{l:List Agg},(z7 cols l).1=0 ->(z7 cols l).2=l.map (λa=>(uz cols a).2)/\ ∀a∈l,(uz cols a).1=0
 | [],_=>⟨rfl,λ_ h=>by(cases h)⟩
 |a::r,h=>by
  simp only[z7]at h⊢;cases i:((uz cols a).1 !=0)
  ·rw[i]at h;simp only[cond_false]at h⊢;obtain⟨j,o⟩:=afv h;refine⟨by rw[j,List.map_cons],λy g=>?_⟩;rcases List.mem_cons.1 g with rfl|g
   ·simpa using i
   ·exact o y g
  simp_all
theorem akm (cols:List Col)(a:Agg):(uz cols a).2.name=a.nm:=by
 unfold uz;cases(!zl a.fn qI)
 ·rfl
 ·simp only[cond_true];cases decide (ze cols a.col<0)
  ·simp only[cond_false]
   grind
  ·rfl
theorem azZ {cols:List Col}(R: ∀c∈cols,ColF c){a:Agg}(hid:zT a.nm=true)(h:(uz cols a).1=0){rows:List (List Val)}(T:rows.length<=20000)(hr: ∀r∈rows,zU cols r):ColF (uz cols a).2 /\yz (uz cols a).2.t (w6 a.fn (w8 cols rows a)):=by
 have g:qy (uz cols a).2.name=0:=by grind[akm,UP]
 have j:(w8 cols rows a).length<=20000:=by grind[anL]
 unfold ColF;refine⟨⟨g,?_⟩,?_⟩;all_goals clear g
 all_goals unfold uz at h⊢
 all_goals cases o:zl a.fn qI
 ·rw[o]at h;simp only[Bool.not_false,cond_true]at h⊢;cases i:decide (ze cols a.col<0)
  ·rw[i]at h;simp only[cond_false]at h⊢;cases P:(zl a.fn Wk&&(xz cols (ze cols a.col)).t !=2)
   ·obtain⟨p,I,_⟩:=Yx (of_decide_eq_false i);simp only[cond_false];rw[I];exact(R _ (List.getElem_mem p)).2
   grind
  grind
 ·grind
 ·rw[o]at h;simp only[Bool.not_false,cond_true]at h⊢;cases i:decide (ze cols a.col<0)
  ·rw[i]at h;simp only[cond_false]at h⊢;cases P:(zl a.fn Wk&&(xz cols (ze cols a.col)).t !=2)
   ·obtain⟨p,I,_⟩:=Yx (of_decide_eq_false i);simp only[cond_false];refine am8 j (λ_ v l=>?_) (λhs _=>?_) (λh=>by grind)
    ·unfold w8 at l;rw[o,show decide (ze cols a.col>=0)=true by grind]at l;simp only[Bool.not_false,Bool.and_true,cond_true]at l;obtain⟨r,J,rfl⟩:=List.mem_map.1 l;rw[I];exact(hr r J).get p
    grind
   grind
  grind
 grind[am8]
theorem asF {at_:List Int}{P:Gr ->Prop}{gs:List Gr}{row:List Val}(h: ∀g∈gs,P g)(o: ∀g j:Gr,g.key=j.key ->P g ->P j)(hk: ∀r,P ⟨pickL row at_,r⟩): ∀g∈vd at_ gs row,P g:=by
 have p: ∀g∈wO gs (pickL row at_),P g:=by
  unfold wO;cases wL gs (pickL row at_)
  ·intro g i;simp only[cond_false,List.mem_append,List.mem_singleton]at i
   grind
  ·exact h
 unfold vd Ye;intro g i;cases l:(wO gs (pickL row at_))[yM gs (pickL row at_)]? with
 |none=>grind
 |some x=>
  rw[l]at i;rcases List.mem_or_eq_of_mem_set i with i|rfl
  ·grind
  ·exact o x _ rfl (p x (List.mem_of_getElem? l))
theorem an3 (at_:List Int){P:Gr ->Prop}(o: ∀g l:Gr,g.key=l.key ->P g ->P l): ∀(rows:List (List Val)) (i:List Gr),(∀g∈i,P g) ->(∀r∈rows,∀j,P ⟨pickL r at_,j⟩) -> ∀g∈rows.foldl (vd at_) i,P g
 | [],i,h,_=>h
 |r::j,i,h,hk=>by
  rw[List.foldl_cons];exact an3 at_ o j _ (asF h o (hk r (by simp))) λx p=>hk x (by simp[p])
theorem aqd (at_:List Int)(rows:List (List Val)): ∀g∈qX at_ rows,(at_=[]/\g.key=[])\/ ∃r∈rows,g.key=pickL r at_:=by
 unfold qX;split
 ·grind
 ·intro g i;exact .inr (an3 at_ (P:=λg=> ∃r∈rows,g.key=pickL r at_) (λg j e h=>by grind) rows [] (λ_ h=>by cases h) (λr hr _=>⟨r,hr,rfl⟩) g i)
end
section
attribute [local irreducible] zl
def Xt (n:Nat)(T:List (List Val))(y:List Val):List (List Val):=match T.getLast? with
 |none=>T++[y]
 |some r=>bif adP n r y then T.set (T.length - 1) (JU r (n+1) (yH true (at0 r (n+1)).n (at0 y (n+1)).n))else T++[y]
def XW (n:Nat)(l:List (List Val)):List (List Val):=l.foldl (Xt n) []
theorem aoA {K:List Col}: ∀{a b:List Val},zU K a ->zU K b ->(keyC a b==0)=xT yB a b:=by
 induction K with
 |nil=>
  intro a b g i;cases a with
  |nil=>
   cases b with
   |nil=>rfl
   |cons _ _=>exact i.elim
  |cons _ _=>exact g.elim
 |cons c K j=>
  intro a b g i;cases a with
  |nil=>exact g.elim
  |cons u a=>cases b with
   |nil=>exact i.elim
   |cons v b=>
    have j:=j g.2 i.2;have l:=arb g.1 i.1;show((bif zX u v !=0 then zX u v else keyC a b)==0)=bif !yB u v then false else xT yB a b
    rw[<- l];cases h:(zX u v==0)<;>simp_all[zX,bne]
theorem aBy {u v:Val}(h:yB u v=true):u=v:=by
 obtain⟨a,b,c⟩:=u<;>simp_all[yB,AM.beqS_iff]
theorem anb: ∀{a b:List Val},xT yB a b=true ->a=b
 | [],[],_=>rfl
 |u::a,v::b,h=>by
  simp only[xT]at h;cases g:yB u v
  ·rw[g]at h;cases h
  ·rw[g]at h;rw[aBy g,anb h]
theorem aa3 {x:Pc}{n:Nat}(h:x.key.length=n):(xq x).take n=x.key /\at0 (xq x) n=⟨2,x.a,⟨#[]⟩⟩/\at0 (xq x) (n+1)=⟨2,x.b,⟨#[]⟩⟩:=by
 grind[xq,at0]
theorem aAQ {x:Pc}{n:Nat}(h:x.key.length=n)(m:Int):JU (xq x) (n+1) m=xq ⟨x.key,x.a,m⟩:=by
 unfold JU;rw[(aa3 h).2.2];simp_all[xq]
def KF (K:List Col)(n:Nat)(x:Pc):Prop:=zU K x.key /\x.key.length=n
theorem aw8 {K:List Col}{n:Nat}{x y:Pc}(g:KF K n x)(i:KF K n y):adP n (xq x) (xq y)=(yO x.key y.key&&decide (y.a<=x.b)):=by
 unfold adP;rw[(aa3 g.2).1,(aa3 g.2).2.2,(aa3 i.2).1,(aa3 i.2).2.1,ajK (g.2.trans i.2.symm),aoA (K:=K) g.1 i.1,af8 (g.2.trans i.2.symm)]
theorem aAH {K:List Col}{n:Nat}{T:List Pc}{y:Pc}(i: ∀x∈T,KF K n x)(g:KF K n y):Xt n (T.map xq) (xq y)=(vg T y).map xq:=by
 unfold Xt vg;rw[List.getLast?_map];cases j:T.getLast? with
 |none=>simp
 |some r=>
  have hr:=i r (List.mem_of_getLast? j);simp only[Option.map_some];rw[aw8 hr g,aAQ hr.2,(aa3 hr.2).2.2,(aa3 g.2).2.2];cases(yO r.key y.key&&decide (y.a<=r.b))<;>simp
theorem aAA {K:List Col}{n:Nat}{T:List Pc}{y:Pc}(l: ∀x∈T,KF K n x)(o:KF K n y): ∀x∈vg T y,KF K n x:=by
 intro x g;unfold vg at g;cases j:T.getLast? with
 |none=>
  grind
 |some r=>
  rw[j]at g;have hr:=l r (List.mem_of_getLast? j);simp only at g;cases i:(yO r.key y.key&&decide (y.a<=r.b))
  ·rw[i,cond_false]at g
   grind
  ·rw[i,cond_true]at g;rcases List.mem_or_eq_of_mem_set g with g|rfl
   ·grind
   ·exact hr
theorem aoY {K:List Col}{n:Nat}: ∀{l T:List Pc},(∀x∈l,KF K n x) ->(∀x∈T,KF K n x) ->(l.map xq).foldl (Xt n) (T.map xq)=(l.foldl vg T).map xq
 | [],_,_,_=>rfl
 |y::r,T,i,g=>by
  have j:=i y (List.mem_cons_self ..);show(r.map xq).foldl (Xt n) (Xt n (T.map xq) (xq y))=_;rw[aAH g j];exact aoY (λx o=>i x (List.mem_cons_of_mem _ o)) (aAA g j)
theorem an7 {α β:Type}(c:β ->β ->Int)(f:α ->β)(x:α): ∀l:List α,wZ c (f x) (l.map f)=(wZ (λa b=>c (f a) (f b)) x l).map f
 | []=>rfl
 |y::r=>by
  have g:=an7 c f x r;simp only[List.map_cons,wZ];split
  ·simp
  ·rw[g];simp
theorem avZ {α β:Type}(c:β ->β ->Int)(f:α ->β)(l:List α):yy c (l.map f)=(yy (λa b=>c (f a) (f b)) l).map f:=by
 have gen: ∀(l g:List α),(l.map f).foldl (λg x=>wZ c x g) (g.map f)=(l.foldl (λg x=>wZ (λa b=>c (f a) (f b)) x g) g).map f:=by
  intro l;induction l<;>grind[an7]
 exact gen l []
theorem aoz: ∀{a b r s:List Val},a.length=b.length ->keyC (a++r) (b++s)=bif keyC a b !=0 then keyC a b else keyC r s
 | [],[],_,_,_=>rfl
 |u::a,v::b,r,s,h=>by
  have g:=aoz (a:=a) (b:=b) (r:=r) (s:=s) (by simpa using h);show(bif zX u v !=0 then zX u v else keyC (a++r) (b++s))=bif (bif zX u v !=0 then zX u v else keyC a b) !=0 then(bif zX u v !=0 then zX u v else keyC a b)else keyC r s
  rw[g];cases i:(zX u v !=0)
  ·rfl
  ·simp only[cond_true]
   grind
theorem aBN {n:Nat}{x y:Pc}(i:x.key.length=n)(j:y.key.length=n)(h:keyC (xq x) (xq y)<=0):X8 x y<=0:=by
 unfold xq at h;rw[aoz (i.trans j.symm)]at h;unfold X8;cases g:(keyC x.key y.key !=0)
 ·rw[g,cond_false]at h;rw[cond_false];have l:(bif xZ x.a y.a !=0 then xZ x.a y.a else(bif xZ x.b y.b !=0 then xZ x.b y.b else 0))<=0:=h
  grind
 grind
theorem aAD {cols:List Col}{on:List ByteArray}{rows:List (List Val)}(j: ∀r∈rows,zU cols r)(o:colInt cols sFrom=0)(p:colInt cols sTo=0):
 rows.flatMap (adb cols on)=(vz (zg cols on) (ze cols sFrom) (ze cols sTo) rows).map xq:=by
 induction rows with
 |nil=>rfl
 |cons x r g=>
  have g:=g λy l=>j y (List.mem_cons_of_mem _ l)
  have i:=j x (List.mem_cons_self ..);unfold vz at g⊢;rw[List.flatMap_cons,List.flatMap_cons,List.map_append,g];unfold adb aa2 KP vV QC;rw[agL (U6 i o).2 (U6 i p).2,Bool.not_not];cases(qA (at0 x (ze cols sFrom).toNat) (at0 x (ze cols sTo).toNat)&&decide ((at0 x (ze cols sFrom).toNat).n>=0))<;>rfl
theorem avw {at_:List Int}{p q:Int}{rows:List (List Val)}{x:Pc}(h:x∈vz at_ p q rows):(∃r∈rows,x.key=pickL r at_)/\x.a<x.b:=by
 obtain⟨r,hr,h⟩:=List.mem_flatMap.1 h;unfold aa2 at h;cases g:(qA (at0 r p.toNat) (at0 r q.toNat)&&decide ((at0 r p.toNat).n>=0))
 ·grind
 ·rw[g,cond_true,List.mem_singleton]at h;subst h;refine⟨⟨r,hr,rfl⟩,?_⟩<;>simp_all[qA]
theorem aBu {cols:List Col}{on:List ByteArray}{rows:List (List Val)}(J: ∀r∈rows,zU cols r)(ht:takeErr cols on=false)(i1:colInt cols sFrom=0)(i2:colInt cols sTo=0):
 XW on.length (jc cols on rows)=jx (zg cols on) (ze cols sFrom) (ze cols sTo) rows:=by
 unfold jc jx ZI;rw[aAD J i1 i2,avZ];obtain⟨L,I⟩: ∃L,vz (zg cols on) (ze cols sFrom) (ze cols sTo) rows=L:=⟨_,rfl⟩;have U: ∀x∈L,KF (takeC cols on) on.length x /\x.a<x.b:=λx g=>by
  obtain⟨⟨r,hr,e⟩,T⟩:=avw (I▸g);refine⟨⟨?_,?_⟩,T⟩
  ·rw[e];exact(J r hr).pick ht
  grind[pickL,zg]
 rw[I];have i:CmpOK (λa b=>keyC (xq a) (xq b)):=CmpOK.onF qj xq;have P:=uD i L;have p2:=uD WQ L;have s1:=Wn i L;have s2:=Wn WQ L;generalize yy (λa b=>keyC (xq a) (xq b)) L=R at*;have m1: ∀x∈R,KF (takeC cols on) on.length x /\x.a<x.b:=λx g=>U x (P.mem_iff.1 g)
 unfold XW;rw[show([]:List (List Val))=([]:List Pc).map xq from rfl,aoY (λx g=>(m1 x g).1) (λx g=>by cases g)];congr 1
 refine acv WQ (P.trans p2.symm) ?_ s2 (λx g y l h j=>?_) []
 ·exact List.Pairwise.imp_of_mem (fun{x y} g l h=>aBN (m1 x g).1.2 (m1 y l).1.2 h) s1
 ·have o:=m1 x g;have p:=m1 y l;unfold X8 at h;have hk:keyC x.key y.key=0:=by
   grind
  rw[hk]at h;have h:xZ x.a y.a=0:=h;refine avi (anb ?_) ?_ o.2 p.2 j
  ·rw[<- aoA (K:=takeC cols on) o.1.1 p.1.1,hk];rfl
  grind[adO]
end
section
open Go Go.AM Go.Proofs Go.RowKit
def coB (n:Nat)(T:List (List Val))(y:List Val):Bool:=match T.getLast? with|none=>false|some r=>adP n r y
def coD (d:Nat):Bool:=Nat.ble 82 d&&Nat.ble d 121
theorem aoX (n:Nat)(T:List (List Val))(y:List Val):coB n T y=false ->Xt n T y=T++[y]:=by
 grind[coB,Xt]
theorem afG {n:Nat}{T:List (List Val)}{y:List Val}(h:coB n T y=true): ∃r,T.getLast?=some r /\Xt n T y=T.set (T.length - 1) (JU r (n+1) (yH true (at0 r (n+1)).n (at0 y (n+1)).n)):=by
 unfold coB at h;cases g:T.getLast?<;>simp_all[Xt]
theorem ayG {n m:Nat}{T:List (List Val)}{y:List Val}(g: ∀r∈T,r.length=m)(j:y.length=m): ∀r∈Xt n T y,r.length=m:=by
 intro r hr;cases i:coB n T y<;>grind[aoX,afG,apu]
theorem avE {n m:Nat}{l:List (List Val)}(j: ∀r∈l,r.length=m): ∀r∈XW n l,r.length=m:=by
 have gen: ∀(l T:List (List Val)),(∀r∈l,r.length=m) ->(∀r∈T,r.length=m) -> ∀r∈l.foldl (Xt n) T,r.length=m:=by
  intro l;induction l with
  |nil=>grind
  |cons y l o=>intro T g i;exact o _ (λr hr=>g r (List.mem_cons_of_mem _ hr)) (ayG i (g y (List.mem_cons_self ..)))
 exact gen l [] j λr hr=>by cases hr
theorem atk (n:Nat)(T:List (List Val))(y:List Val):(Xt n T y).length<=T.length+1:=by
 cases g:coB n T y<;>grind[aoX,afG]
theorem aqB (n:Nat)(l:List (List Val)):(XW n l).length<=l.length:=by
 have gen: ∀(l T:List (List Val)),(l.foldl (Xt n) T).length<=T.length+l.length:=by
  intro l;induction l with
  |nil=>simp_all
  |cons y l g=>
   grind[atk]
 grind[XW]
theorem atl (n:Nat){l:List (List Val)}{k:Nat}(h:k<l.length):XW n (l.take (k+1))=Xt n (XW n (l.take k)) l[k]:=by
 grind[XW,zA]
theorem aAf (R:List Col)(T l:List (List Val))(n k:Nat)(hk:k<l.length)(o:n<=1000)(i: ∀r∈T,r.length=n+2)(j:l[k].length=n+2):mwpR Pg T9.f (.reg coC) (aw6 (coB n T l[k])) (ajb R T l n k ((T.length:Int) - 1)):=by
 unfold coB;cases g:T.getLast? with
 |none=>
  simp_all[aw4]
 |some r=>
  grind[aw5]
theorem auC {A:Nat ->Prop}{w:World}{b4 b12:Nat}{te:TypeId}{x6 ov:Value}{rvs:List Value}{T:List (List Val)}{W:World}{E:Nat ->Prop}(hC:CI A w b4 b12 te x6 ov rvs T W E){R:List Col}{l:List (List Val)}{v8:Value}(I:RD W E (.sl (zi R)) x6)(h8:RD W E (.sl (zd l)) v8)
 {n k:Nat}(hk:k<l.length) (hn:n<=1000) (hT: ∀r∈T,r.length=n+2) (hl:l[k].length=n+2) {a:Act}(an:a.tmps.size=163) (hd:a.defers=[]) (t8:a.tmps[8]? =some v8) (ai:a.tmps[12]? =some (.pointer (some ⟨b12,0,none⟩))) (aj:a.tmps[13]? =some (.int .i64 n)) (ak:a.tmps[14]? =some (.int .i64 k)) (al:a.tmps[15]? =some (.int .i64 ((T.length:Int) - 1)))
 {id:Nat}{ops:Array Oper}(hc:Yu Pg 163 vC.o id ops true=some (.reg (coC.map AI.erase))) (hD:ahl coD ops=true) {Q:Exit ->Act ->World ->Prop}
 (h: ∀U W',U.tmps.size=163 ->U.defers=[] ->YY coD a U ->U.tmps[121]? =some (.bool (coB n T l[k])) ->CI A w b4 b12 te x6 ov rvs T W' E ->zR W W' E E ->Q .normal U W'):(Code.region id ops true).wp Pg Q a W:=by
 have hm:=aAf R T l n k hk hn hT hl;rw[jl]at hm;have hm:=YK _ _ _ hm
 let F:Fr:=⟨W,λb=>b<W.heap.size,λ_=>False,λp=>if p=599999 then some ⟨none,163⟩else none⟩
 have aa: ∀b,b<W.heap.size ->F.ok (λ_=>⟨none,0⟩) [] W b:=λb J=>⟨.inl J,J,λ⟨p,x,I,_⟩=>by cases I⟩
 have ab:zR W W E (F.ok (λ_=>⟨none,0⟩) [] W):=λb J=>⟨aa b (hC.dlt b J),rfl⟩
 have af:=RD.keep ab _ _ h8;have ae:=RD.keep ab _ _ I;have ag:RD W (F.ok (λ_=>⟨none,0⟩) [] W) (.sl (zd T)) ov:=RD.keep (λb J=>⟨aa b J.2.1,rfl⟩) _ _ hC.data;have k0:W.cell? ⟨b12,0,none⟩=some x6:=by rw[cell_of_row _ _ _ _ _ _ hC.c12];rfl
 have k1:W.cell? ⟨b12,1,none⟩=some ov:=by rw[cell_of_row _ _ _ _ _ _ hC.c12];rfl
 have hrel:Rel F 163 (λ_=>⟨none,0⟩) (ajb R T l n k ((T.length:Int) - 1)) a W:=by
  refine⟨⟨by omega,λg hg=>?_⟩,λi v j=>?_,λp x I=>(by cases I),λp q x y b I=>(by cases I),λb ⟨p,x,I,_⟩=>(by cases I),hd,Grows.refl _ _,λb J=>⟨J,λh=>h⟩,⟨λb J=>J.elim,λk hk=>?_⟩,by omega,λp g hg=>?_,λp x g I=>(by cases I)⟩
  ·simp only[F,if_true,Option.some.injEq]at hg
   grind
  ·trace_state
   have ac: ∀{k:Nat}{u:V}{r:List (Nat×V)},aget ((k,u)::r) i=some v ->(k=i /\u=v)\/aget r i=some v:=fun{k u r} h=>by
    grind[aget,Nat.eq_of_beq_eq_true]
   rcases ac j with⟨rfl,rfl⟩|j
   ·exact⟨_,t8,af⟩
   rcases ac j with⟨rfl,rfl⟩|j
   ·exact⟨_,ai,b12,0,rfl,aa _ (vp hC.c12),⟨x6,k0,ae⟩,⟨ov,k1,ag⟩,trivial⟩
   rcases ac j with⟨rfl,rfl⟩|j
   ·exact⟨_,aj,rfl,rfl⟩
   rcases ac j with⟨rfl,rfl⟩|j
   ·exact⟨_,ak,rfl,rfl⟩
   rcases ac j with⟨rfl,rfl⟩|j
   ·exact⟨_,al,rfl,rfl⟩
   cases j
  ·obtain⟨h1,m,h2⟩:=hC.glb k hk;exact⟨hC.dlt _ h1,m,h2⟩
  grind
 refine wp_mono (asv hc hD hrel hm) ?_;rintro e U W' ⟨hu,hS⟩;cases e with
 |normal=>
  obtain⟨ι1,s1,P,_,hq⟩:=hu;obtain⟨x,ah,ad⟩:=P.slots 121 _ hq;have ad:x= .bool (coB n T l[k]):=by
   grind[yd,cV,VR,WR,CR,RD]
  subst ad;obtain⟨c1,c2⟩:=hC.call P.grows;exact h U W' (P.room.2 ⟨none,163⟩ (by simp[F])) P.defers hS ah c1 c2
 |exit i=>obtain⟨_,_,_,hq,_⟩:=hu;cases hq
 |ret=>obtain⟨_,_,_,hq,_⟩:=hu;cases hq
 |_=>exact hu.elim
end
theorem aBQ (f:Nat ->Value):(List.range 163).map f=[f 0,f 1,f 2,f 3,f 4,f 5,f 6,f 7,f 8,f 9,f 10,f 11,f 12,f 13,f 14,f 15,f 16,f 17,f 18,f 19,f 20,f 21,f 22,f 23,f 24,f 25,f 26,f 27,f 28,f 29,f 30,f 31,f 32,f 33,f 34,f 35,f 36,f 37,f 38,f 39,f 40,f 41,f 42,f 43,f 44,f 45,f 46,f 47,f 48,f 49,f 50,f 51,f 52,f 53,f 54,f 55,f 56,f 57,f 58,f 59,f 60,f 61,f 62,f 63,f 64,f 65,f 66,f 67,f 68,f 69,f 70,f 71,f 72,f 73,f 74,f 75,f 76,f 77,f 78,f 79,f 80,f 81,f 82,f 83,f 84,f 85,f 86,f 87,f 88,f 89,f 90,f 91,f 92,f 93,f 94,f 95,f 96,f 97,f 98,f 99,f 100,f 101,f 102,f 103,f 104,f 105,f 106,f 107,f 108,f 109,f 110,f 111,f 112,f 113,f 114,f 115,f 116,f 117,f 118,f 119,f 120,f 121,f 122,f 123,f 124,f 125,f 126,f 127,f 128,f 129,f 130,f 131,f 132,f 133,f 134,f 135,f 136,f 137,f 138,f 139,f 140,f 141,f 142,f 143,f 144,f 145,f 146,f 147,f 148,f 149,f 150,f 151,f 152,f 153,f 154,f 155,f 156,f 157,f 158,f 159,f 160,f 161,f 162]:=rfl
theorem U2 (t:Array Value)(h:t.size=163): ∃f:Nat ->Value,t= #[f 0,f 1,f 2,f 3,f 4,f 5,f 6,f 7,f 8,f 9,f 10,f 11,f 12,f 13,f 14,f 15,f 16,f 17,f 18,f 19,f 20,f 21,f 22,f 23,f 24,f 25,f 26,f 27,f 28,f 29,f 30,f 31,f 32,f 33,f 34,f 35,f 36,f 37,f 38,f 39,f 40,f 41,f 42,f 43,f 44,f 45,f 46,f 47,f 48,f 49,f 50,f 51,f 52,f 53,f 54,f 55,f 56,f 57,f 58,f 59,f 60,f 61,f 62,f 63,f 64,f 65,f 66,f 67,f 68,f 69,f 70,f 71,f 72,f 73,f 74,f 75,f 76,f 77,f 78,f 79,f 80,f 81,f 82,f 83,f 84,f 85,f 86,f 87,f 88,f 89,f 90,f 91,f 92,f 93,f 94,f 95,f 96,f 97,f 98,f 99,f 100,f 101,f 102,f 103,f 104,f 105,f 106,f 107,f 108,f 109,f 110,f 111,f 112,f 113,f 114,f 115,f 116,f 117,f 118,f 119,f 120,f 121,f 122,f 123,f 124,f 125,f 126,f 127,f 128,f 129,f 130,f 131,f 132,f 133,f 134,f 135,f 136,f 137,f 138,f 139,f 140,f 141,f 142,f 143,f 144,f 145,f 146,f 147,f 148,f 149,f 150,f 151,f 152,f 153,f 154,f 155,f 156,f 157,f 158,f 159,f 160,f 161,f 162]:=by
 refine⟨λi=>t.getD i undef,?_⟩;have e:t=((List.range 163).map (λi=>t.getD i undef)).toArray:=by
  apply Array.ext
  ·simp[h]
  simp_all
 have g:=aBQ (λi=>t.getD i undef);rw[g]at e;exact e
section
open Go Go.AM Go.Proofs Go.RowKit
theorem JW {P:Program}(w:World){ops:Array Oper}{o:Oper}{a:Act}{K:Act ->World ->Prop}{Q:Exit ->Act ->World ->Prop}{E:Prop}(ac:o.guard=none)(s x:Operand)(t:TypeId)
 (ho:o.op= .call {callee:=.builtin .append,args:= #[s,x],argTypes:= #[t,t]})
 (xi:Nat) (e:TypeId) (i:TypeInfo) (z:Value) (size bytes:Nat) (ht:P.underlying t=some (.slice e)) (hi:P.info? e=some i) (hz:i.zero=some z)
 (r:i.size=size) (U:i.bytes=bytes) (ab:z.cells.size=size) (aa:0<size)
 (v:Value) (n:Nat) (xs:List Value) (hs:a.eval s=v) (I:w.ownsRow xi e size v n xs)
 (ad:Addr) (m c:Nat) (g:List Value) (hx:a.eval x= .slice (some ad) m c) (hl:g.length=m*size) (p: ∀(j:Nat) u,g[j]? =some u ->w.cell? (ad.add j)=some u) (h1: ∀u∈g,u.oneCell'=true)
 (T:n+m<=maxLen) (l:(n+m)*bytes<=140737488355328) (R:xi<=w.heap.size)
 (h: ∀v' w',w'.ownsRow xi e size v' (n+m) (xs++g) ->w.grownBy w' v.ownBlock ->(w.drawn<=w'.drawn /\QJ w v v') ->(v'= .slice none 0 0↔v= .slice none 0 0 /\m=0) ->K (a.put o.dst v') w'):
 if Region.wanted o (yielded ops a.tmps)=true then Oper.wp P o a w K Q else E:=by
 have hw:Region.wanted o (yielded ops a.tmps)=true:=by grind[Region.wanted]
 rw[if_pos hw];obtain⟨v',w',J,r1,r2,r3⟩:=run_append_own (P:=P) w xi t o.type e i z size bytes ht hi hz r U ab aa v n xs I ad m c g hl p h1 T l R;have r4:=ab7 w xi t o.type e i z size bytes ht hi hz r U v n xs I ad m c g hl p h1 T l J;unfold Oper.wp execOp;simp only[ho,resolve,invoke,builtin,Sem.run_bind,Sem.run_pure,Result.andThen_ok,List.map_toArray,List.map_cons,List.map_nil,hs,hx,J];exact h v' w' r1 r2 r4 r3
theorem ak4 {w:World}{ok:Nat ->Prop}{l:List (List Val)}{j:Option Addr}{n J:Nat}(h:RD w ok (.sl (zd l)) (.slice j n J)){k:Nat}(hk:k<l.length): ∃i p u,j=some ⟨i,p,none⟩/\ok i /\w.cell? ⟨i,p+k,none⟩=some u /\RD w ok (.sl (rowD l[k])) u:=by
 simp only[RD]at h;obtain⟨a,R,c,e,_,_,_,h⟩:=h;cases e;rcases h with h|⟨b,o,sz,rfl,P,r⟩
 ·grind[zd]
 ·have I:(zd l)[k]? =some [D.sl (rowD l[k])]:=by grind[zd]
  have g:sz=1:=by
   cases l<;>grind[zd,RDs]
  subst g;have:=RDs.get r I;simp only[RDc,Nat.mul_one]at this
  grind
theorem ahk (W:World):W.grownBy W.drew none:=⟨rfl,rfl,rfl,Nat.le_refl _,λ_ _ _=>rfl⟩
theorem ahj (W:World):W.drawn<=W.drew.drawn:=Nat.le_succ _
def UW (id:Nat):Code ->Option (Array Oper)
 | .region i ops _=>if i=id then some ops else none
 | .seq a b=>(UW id a).orElse λ_=>UW id b
 | .cond _ a b=>(UW id a).orElse λ_=>UW id b
 | .block _ a=>UW id a
 | .loop a=>UW id a
 | .scope a=>UW id a
 |_=>none
abbrev as3 (K:Act ->World ->Prop):Exit ->Act ->World ->Prop:=λe a w=>match e with| .normal=>K a w|_=>False
theorem arE {L g:List Value}(m n:Nat)(p:g.take m=L.take m)(r:g.drop (n+1)=L.drop (n+1)):YY (λd=>Nat.ble m d&&Nat.ble d n) ⟨L.toArray,[]⟩ ⟨g.toArray,[]⟩:=by
 intro t J;show g.toArray[t]? =L.toArray[t]?;rw[List.getElem?_toArray,List.getElem?_toArray];by_cases i:t<m
 ·have j:(g.take m)[t]? =g[t]? :=List.getElem?_take_of_lt i
  grind
 ·have I:n<t:=by
   grind[Nat.ble_eq_true_of_le]
  have l:(g.drop (n+1))[t -(n+1)]? =g[t]? :=by rw[List.getElem?_drop];congr 1;omega
  have o:(L.drop (n+1))[t -(n+1)]? =L[t]? :=by rw[List.getElem?_drop];congr 1;omega
  grind
noncomputable def ops18:Option (Array Oper):=(Tryz.f96.body).bind (UW 18)
set_option maxHeartbeats 4000000 in
theorem aso {w:World}{b12 ob P lb lo yb yo j k n ol oc rl rc ln lc yl yc:Nat}{rn yn:Int}(hk:k<ln)(hj:j<ol)(hr:n+1<rl)(hy:n+1<yl)(hn:n<=1000)
 (c0:w.cell? ⟨b12,1,none⟩=some (.slice (some ⟨ob,0,none⟩) ol oc)) (c1:w.cell? ⟨ob,j,none⟩=some (.slice (some ⟨P,0,none⟩) rl rc)) (c2:w.cell? ⟨P,(n+1)*3+1,none⟩=some (.int .i64 rn)) (f2:w.frozen? ⟨P,(n+1)*3+1,none⟩=false)
 (c3:w.cell? ⟨lb,lo+k,none⟩=some (.slice (some ⟨yb,yo,none⟩) yl yc)) (c4:w.cell? ⟨yb,yo+(n+1)*3+1,none⟩=some (.int .i64 yn))
 {a:Act}(l:a.tmps.size=163) (hd:a.defers=[]) (t8:a.tmps[8]? =some (.slice (some ⟨lb,lo,none⟩) ln lc)) (o:a.tmps[12]? =some (.pointer (some ⟨b12,0,none⟩))) (p:a.tmps[13]? =some (.int .i64 n)) (r:a.tmps[14]? =some (.int .i64 k)) (I:a.tmps[15]? =some (.int .i64 j))
 {ops:Array Oper}(i:ops18=some ops) {K:Act ->World ->Prop}
 (h: ∀J,J.tmps.size=163 ->J.defers=[] ->YY (λd=>Nat.ble 122 d&&Nat.ble d 150) a J ->K J (w.setCell ⟨P,(n+1)*3+1,none⟩ (.int .i64 (max rn yn))).drew):(Code.region 18 ops true).wp Tryz.prog (as3 K) a w:=by
 obtain rfl:=Option.some.inj i;obtain⟨tm,df⟩:=a;simp only at l hd;subst hd;obtain⟨g,rfl⟩:=U2 tm l;have e8:g 8= .slice (some ⟨lb,lo,none⟩) ln lc:=Option.some.inj t8;have R:g 12= .pointer (some ⟨b12,0,none⟩):=Option.some.inj o;have T:g 13= .int .i64 n:=Option.some.inj p;have U:g 14= .int .i64 k:=Option.some.inj r;have aa:g 15= .int .i64 j:=Option.some.inj I;clear t8 o p r I l i;generalize g 8=v8 at*;generalize g 12=ab at*;generalize g 13=ac at*;generalize g 14=ad at*;generalize g 15=ae at*;subst e8 R T U aa;have wn:wrap64 ((n:Int)+1)=((n+1:Nat):Int):=by simp only[wrap64];omega
 have mixed:Tryz.prog.follows .mixedOrders=true:=by kernel_rfl
 dsimp only
 go_big_region_o
 exact h _ rfl rfl (arE 122 150 rfl rfl)
theorem Z7 {w l o:World}{E i j:Nat ->Prop}(h:zR w l E i)(k:zR l o i j):zR w o E j:=λb g=>⟨(k b (h b g).1).1,(k b (h b g).1).2.trans (h b g).2⟩
theorem aBF:(Tryz.prog.info? tV).map (λi=>(i.zero,i.size,i.bytes))=some (some (.agg #[.int .i64 0,.int .i64 0,.string ⟨#[]⟩]),3,32):=by kernel_rfl
abbrev acp (W:World):World:=(W.alloc (.cells #[] tV)).drew
theorem aC4 (W:World){B:Nat}(hB:B<=W.heap.size):(acp W).ownsRow B tV 3 (.slice (some ⟨W.heap.size,0,none⟩) 0 0) 0 []:=by
 refine⟨rfl,.inr ⟨W.heap.size,0, #[],rfl,hB,?_,Nat.le_refl _,Nat.zero_le _,rfl,rfl⟩⟩;exact heap_alloc_new W _
section
variable {A:Nat ->Prop}{w:World}{b4 b12:Nat}{te:TypeId}{x6 ov:Value}{rvs:List Value}{T:List (List Val)}{W:World}{E:Nat ->Prop}
theorem azD (hC:CI A w b4 b12 te x6 ov rvs T W E):CI A w b4 b12 te x6 ov rvs T (acp W) E /\zR W (acp W) E E:=by
 obtain⟨g,j⟩:=hC.alloc (.cells #[] tV);obtain⟨i,l⟩:=g.same (ahk _) (ahj _)
 grind[Z7]
theorem CI.cell (hC:CI A w b4 b12 te x6 ov rvs T W E):W.cell? ⟨b12,1,none⟩=some ov:=by rw[cell_of_row _ _ _ _ _ _ hC.c12];rfl
theorem aw9 (hC:CI A w b4 b12 te x6 ov rvs T W E){y:List Val}(hy:y≠ []){o:World}{v1:Value}(l:o.ownsRow w.heap.size tV 3 v1 y.length (cellsR y))(J:(acp W).grownBy o (some W.heap.size))(p:(acp W).drawn<=o.drawn /\QJ (acp W) (.slice (some ⟨W.heap.size,0,none⟩) 0 0) v1):
 ∃g2 g,v1= .slice (some ⟨g2,0,none⟩) y.length g /\(CI A w b4 b12 te x6 ov rvs T o E /\CI A w b4 b12 te x6 ov rvs T (o.alloc (.cells #[v1] tR)) E)/\zR W (o.alloc (.cells #[v1] tR)) E E /\(o.alloc (.cells #[v1] tR)).ownsRow w.heap.size tV 3 v1 y.length (cellsR y)/\(¬E g2 /\g2≠b4 /\g2≠b12 /\ov.ownBlock≠some g2)/\ ∀r,T.getLast?=some r -> ∀i cap,rvs[T.length - 1]? =some (.slice (some ⟨i,0,none⟩) r.length cap) ->i≠g2:=by
 obtain⟨g2,g,rfl⟩:=Ql l (by grind);obtain⟨h0,k0⟩:=azD hC;have old: ∀b,b<W.heap.size ->b≠g2:=by
  rintro b U rfl;rcases p.2 b rfl with e|e
  ·have e:W.heap.size=b:=Option.some.inj e;omega
  ·have:(acp W).heap.size=W.heap.size+1:=by simp_all
   omega
 have j: ∀r,T.getLast?=some r -> ∀i cap,rvs[T.length - 1]? =some (.slice (some ⟨i,0,none⟩) r.length cap) ->i<W.heap.size:=by
  intro r hr i cap I;obtain⟨g3,c3,e3,e4,_⟩:=hC.last r hr;obtain⟨rfl,rfl⟩:=QA (I.symm.trans e3);exact(e4.lt _ rfl).2
 have P: ∀b,ov.ownBlock=some b ->b<W.heap.size:=λb U=>(hC.own.lt b U).2
 obtain⟨R,k1⟩:=h0.grown J p.1 λb e=>by
  cases e;refine⟨hC.bel.size,λh=>?_,λh=>?_,λh=>?_,λh=>?_,λr hr i cap I h=>?_⟩
  ·have:=hC.dlt _ h;omega
  ·have:=vp hC.c4;omega
  ·have:=vp hC.c12;omega
  ·grind
  grind
 obtain⟨h2,k2⟩:=R.alloc (.cells #[.slice (some ⟨g2,0,none⟩) y.length g] tR);refine⟨g2,g,rfl,⟨R,h2⟩,Z7 (Z7 k0 k1) k2,l.alloc _,⟨λh=>old _ (hC.dlt _ h) rfl,λh=>old _ (vp hC.c4) h.symm,λh=>old _ (vp hC.c12) h.symm,λh=>old _ (P _ h) rfl⟩,λr hr i cap I=>old _ (j r hr i cap I)⟩
end
theorem aAh {k n:Nat}(h:k<n):n -(intOf (.int .i64 ((k:Int)+1))).toNat<n -(intOf (.int .i64 (k:Int))).toNat:=by grind[intOf]
theorem aAg (k:Nat):((k:Int)+1)=((k+1:Nat):Int):=rfl
noncomputable def ops19:Option (Array Oper):=(Tryz.f96.body).bind (UW 19)
set_option maxHeartbeats 4000000 in
theorem asp {A:Nat ->Prop}{w:World}{b4 b12:Nat}{te:TypeId}{x6 ov:Value}{rvs:List Value}{T:List (List Val)}{W:World}{E:Nat ->Prop}(hC:CI A w b4 b12 te x6 ov rvs T W E){R:List Col}{l:List (List Val)}{la:Option Addr}{lc:Nat}(hx:RD W E (.sl (zi R)) x6)(h8:RD W E (.sl (zd l)) (.slice la l.length lc))
 {k:Nat}(hk:k<l.length) (a8:l[k].length<=2000) (ae:l[k]≠ []) (hT:T.length<=20000)
 {a:Act}(U:a.tmps.size=163) (hd:a.defers=[]) (t8:a.tmps[8]? =some (.slice la l.length lc)) (ag:a.tmps[12]? =some (.pointer (some ⟨b12,0,none⟩))) (ah:a.tmps[14]? =some (.int .i64 k))
 {ops:Array Oper}(J:ops19=some ops) {K:Act ->World ->Prop}
 (h: ∀a' W' a7 nv E',a'.tmps.size=163 ->a'.defers=[] ->YY (λd=>Nat.ble 151 d&&Nat.ble d 161) a a' ->CI A w b4 b12 te x6 a7 (rvs++[nv]) (T++[l[k]]) W' E' ->zR W W' E E' ->K a' W'):(Code.region 19 ops true).wp Tryz.prog (as3 K) a W:=by
 obtain rfl:=Option.some.inj J;obtain⟨tm,df⟩:=a;simp only at U hd;subst hd;obtain⟨g,rfl⟩:=U2 tm U;have e8:g 8= .slice la l.length lc:=Option.some.inj t8;have ai:g 12= .pointer (some ⟨b12,0,none⟩):=Option.some.inj ag;have aj:g 14= .int .i64 k:=Option.some.inj ah;clear t8 ag ah U J;generalize g 8=v8 at*;generalize g 12=bi at*;generalize g 14=bj at*;subst e8 ai aj;obtain⟨lb,lo,u,ax,al,c3,hu⟩:=ak4 h8 hk;subst ax;generalize l[k]=y at*;obtain⟨yb,yo,yc,rfl,an,bf,bg,a5⟩:=ao1 hu ae;have c0:=hC.cell;have r:=azD hC;have bc:(W.alloc (.cells #[] tV)).cell? ⟨lb,lo+k,none⟩=some (.slice (some ⟨yb,yo,none⟩) y.length yc):=(qv (r.2 lb al).2 _).trans c3;have a9:(W.alloc (.cells #[] tV)).cell? ⟨b12,1,none⟩=some ov:=r.1.cell;have mixed:Tryz.prog.follows .mixedOrders=true:=by kernel_rfl
 obtain⟨iv,aw,a1,a2,a3⟩:=info_parts aBF;obtain⟨ir,av,ay,az,a0⟩:=info_parts azK;have af: ∀(j:Nat) (u:Value),(cellsR y)[j]? =some u ->(acp W).cell? ((⟨yb,yo,none⟩:Addr).add j)=some u:=λj u h=>by
  rw[wJ];exact(qv (r.2 yb an).2 _).trans (a5 j u h)
 have P:=aC4 W hC.bel.size
 dsimp only
 go_region_law_o (first
  |(refine JW _ rfl (.tmp 153) (.tmp 157) 66 rfl w.heap.size tV iv (.agg #[.int .i64 0,.int .i64 0,.string ⟨#[]⟩]) 3 32 Tryz.underlying66 aw a1 a2 a3 rfl (by decide) _ _ _ rfl P ⟨yb,yo,none⟩ y.length yc (cellsR y) rfl (aaw y) af (ash y) (by simp only[maxLen];omega) (by omega) r.1.bel.size ?_;intro v1 w1 o ac ab _;rw[Nat.zero_add,List.nil_append]at o;obtain⟨g2,aa,rfl,i,aq,a4,ar,au⟩:=aw9 hC ae o ac ab;have ba:=i.1.cell;have bb:=i.2.cell)
  |(refine JW _ rfl (.tmp 152) (.tmp 159) 30 rfl w.heap.size tR ir (.slice none 0 0) 1 24 Tryz.underlying30 av ay az a0 rfl (by decide) ov T.length rvs rfl i.2.own ⟨w1.heap.size,0,none⟩ 1 1 [.slice (some ⟨g2,0,none⟩) y.length aa] rfl rfl af0 (by intro u hu;rw[List.mem_singleton.1 hu];rfl) (by simp only[maxLen];omega) (by omega) i.2.bel.size ?_;intro v2 w2 p ad I _;obtain⟨bh,a6,rfl⟩:=Ql p (by omega);obtain⟨bd,be,ak,ao⟩:=i.2.push rfl a4 ar au p ad I.1 I.2))
 all_goals exact h _ _ _ _ _ rfl rfl (arE 151 161 rfl rfl) ak (Z7 aq ao)
theorem af5 {w:World}{ok:Nat ->Prop}{l:List (List Val)}{v:Value}(h:RD w ok (.sl (zd l)) v): ∃a c,v= .slice a l.length c:=by
 grind[RD,zq]
set_option maxRecDepth 100000 in
set_option maxHeartbeats 4000000 in
theorem ayI (w:World)(A:Nat ->Prop)(on:List ByteArray)(R:List Col)(l:List (List Val))(hl: ∀y∈l,y.length=on.length+2)(cy:l.length<=20000)(b3:on.length<=1000)
 {F:Fr}(a0:F.w0=w) (bp:F.A=A) (a3:F.M= λ_=>False) {ι:Nat ->Gh}{s:S}{a:Act}{W:World}(hr:Rel F 163 ι s a W) (aq:a.tmps.size=163) (hq:anI on R l .normal s) {c:Code}(hc:Tryz.f96.body=some c):
 (apJ 4 c).wp Tryz.prog (bodyPost Tryz.prog Tryz.f96 λe w'=> ∃v r,e= .returned v /\r=qb ⟨R,XW on.length l⟩ 0 /\aal ⟨w,A,λ_=>False,λ_=>none⟩ w' r v /\Grows (λ_=>False) w w') a W:=by
 obtain rfl:=Option.some.inj hc;simp only[apJ];obtain⟨tm,df⟩:=a;have cj:df=[]:=hr.defers;subst cj;simp only at aq;obtain⟨f,rfl⟩:=U2 tm aq;clear aq;obtain⟨t,ht,h2⟩:=hq;rw[Qj]at h2;obtain⟨ι2,b5⟩:=ht F 163 ι _ W hr;have p:=b5.norm [1,4,6,8];rw[h2]at p;clear hr b5 ht h2;obtain⟨y1,e1,d1⟩:=p.slots 1 _ rfl;obtain⟨y4,e4,d4⟩:=p.slots 4 _ rfl;obtain⟨y6,e6,d6⟩:=p.slots 6 _ rfl;obtain⟨y8,e8,d8⟩:=p.slots 8 _ rfl;have p4:=p.places 4 _ rfl;have m4:=p.mine;have hg:=p.grows;have ao:=p.glb;cases e1;cases e4;cases e6;cases e8;simp only[VR,WR,CR,PR]at d1 d4 d6 d8 p4;obtain⟨b4,q4,bg⟩:=d4;obtain⟨cv,bj,b8,⟨te,ad⟩,an⟩:=p4;rw[q4]at b8;cases b8;have bg:f 4= .pointer (some ⟨b4,0,none⟩):=bg;have g1:RD W (F.ok ι2 (adQ on R l).pl W) (.sl (zm on)) (f 1):=d1;have g6:RD W (F.ok ι2 (adQ on R l).pl W) (.sl (zi R)) (f 6):=d6;have g8:RD W (F.ok ι2 (adQ on R l).pl W) (.sl (zd l)) (f 8):=d8;clear d1 d6 d8;have bu:bj= #[.slice none 0 0,.slice none 0 0]:=by
  obtain⟨cl⟩:=bj
  match cl,an with
  | [a,b],an=>
    have h1:a= .slice none 0 0:=an.1;have h2:b= .slice none 0 0:=an.2.1;rw[h1,h2]
 subst bu;clear an;have ab:Owns ι2 (adQ on R l).pl b4:=⟨4,_,rfl,rfl,q4⟩;obtain⟨E,hE⟩: ∃E,F.ok ι2 (adQ on R l).pl W=E:=⟨_,rfl⟩;have ac: ∀b,E b ->b<W.heap.size:=λb I=>by rw[<- hE]at I;exact I.2.1
 have bo: ∀b,E b ->A b\/w.heap.size<=b:=λb I=>by
  rw[<- hE]at I;rcases I.1 with h|h|h
  ·rw[bp]at h;exact .inl h
  ·rw[a3]at h;exact h.elim
  ·rw[a0]at h;exact .inr h
 have bn: ¬E b4:=λI=>by rw[<- hE]at I;exact I.2.2 ab
 have bs:w.heap.size<=b4:=by
  rcases(m4 b4 ab).1 with h|h
  ·rw[a3]at h;exact h.elim
  ·rw[a0]at h;exact h
 rw[hE]at g1 g6 g8 ao;rw[a0,a3]at hg;clear m4 p hE ab q4 a0 bp a3;generalize f 4=v4 at*;subst bg;generalize f 1=v1 at*;generalize f 6=v6 at*;generalize f 8=v8 at*;have bl:=g1;simp only[RD]at bl;obtain⟨oa,n1,oc,rfl,b0,_⟩:=bl;rw[zx]at b0;subst b0;obtain⟨la,lc,rfl⟩:=af5 g8;obtain⟨P,cn,U,rfl⟩:=gR g6;clear hc;have aj:Below w.heap.size w W /\w.drawn<=W.drawn:=⟨⟨hg.os,hg.tape,hg.output.1,hg.size,λk hk=>hg.block k hk λh=>h⟩,hg.output.2⟩;obtain⟨W0,af⟩: ∃W0,W.alloc (.cells #[.slice P cn U,.slice none 0 0] tT)=W0:=⟨_,rfl⟩;obtain⟨b12,al⟩: ∃b12,W.heap.size=b12:=⟨_,rfl⟩;have a4:zR W W0 E E:=λb I=>⟨I,by rw[<- af];exact heap_alloc_old W _ (ac b I)⟩
 have a8:CI A w b4 b12 te (.slice P cn U) (.slice none 0 0) [] [] W0 E:=by
  have bz:W.grownBy W0 none:=by rw[<- af];exact World.grownBy_alloc W _ none
  refine⟨λb I=>Nat.lt_of_lt_of_le (ac b I) bz.size,bo,λk hk=>?_,aj.1.grown bz aj.1.size (λk e=>by cases e),(by rw[<- af];exact aj.2),?_,?_,⟨bs,bn⟩,⟨(by rw[<- al];exact aj.1.size),(λh=>by have:=ac _ h;omega),(λe=>by have:=vp ad;omega)⟩,World.ownsRow_nil _ _ _ _,(λb I=>by cases I),(λj r hj=>by simp at hj),(λr hr=>by cases hr)⟩
  ·obtain⟨h1,m,h2⟩:=ao k hk;exact⟨h1,m,(qv (a4 k h1).2 0).trans h2⟩
  ·rw[<- af,heap_alloc_old W _ (vp ad)];exact ad
  ·rw[<- af,<- al];exact heap_alloc_new W _
 subst al;subst af
 go_wp2
 refine wp_loop (λa wr=> ∃(k:Nat) (E':Nat ->Prop) (ov:Value) (rvs:List Value) (v8:Value),(k<=l.length /\a.tmps.size=163 /\a.defers=[])/\(a.tmps[4]? =some (.pointer (some ⟨b4,0,none⟩))/\a.tmps[8]? =some v8 /\a.tmps[12]? =some (.pointer (some ⟨W.heap.size,0,none⟩))/\a.tmps[13]? =some (.int .i64 on.length)/\a.tmps[14]? =some (.int .i64 k))/\CI A w b4 W.heap.size te (.slice P cn U) ov rvs (XW on.length (l.take k)) wr E' /\RD wr E' (.sl (zd l)) v8 /\RD wr E' (.sl (zi R)) (.slice P cn U)) (λa _=>l.length -(intOf (a.tmps.getD 14 undef)).toNat) ?_ ?_
 ·exact⟨0,E,_,_,_,⟨Nat.zero_le _,rfl,rfl⟩,⟨rfl,rfl,rfl,rfl,rfl⟩,a8,RD.keep a4 _ _ g8,RD.keep a4 _ _ g6⟩
 ·clear g1 g6 g8 a8 a4 hg ad ac bo bn bs ao;rintro⟨tm,df⟩ wr ⟨k,E',ov,rvs,v8,⟨hk,aq,rfl⟩,⟨s4,s8,aw,ax,ay⟩,hC,hL,ae⟩;obtain⟨f,rfl⟩:=U2 tm aq;have e4:f 4= .pointer (some ⟨b4,0,none⟩):=Option.some.inj s4;have e8:f 8=v8:=Option.some.inj s8;have ag:f 12= .pointer (some ⟨W.heap.size,0,none⟩):=Option.some.inj aw;have ah:f 13= .int .i64 on.length:=Option.some.inj ax;have ai:f 14= .int .i64 k:=Option.some.inj ay;clear s4 s8 aw ax ay;obtain⟨la,lc,rfl⟩:=af5 hL;generalize f 4=v4 at*;generalize f 12=b9 at*;generalize f 13=cb at*;generalize f 14=cd at*;subst e4 ag ah ai;rw[e8];clear e8;by_cases J:k<l.length
  ·have k1:wr.cell? ⟨W.heap.size,1,none⟩=some ov:=by rw[cell_of_row _ _ _ _ _ _ hC.c12];rfl
   obtain⟨va,vc,rfl⟩:=af5 hC.data;have au:=hl l[k] (List.getElem_mem J);have bq: ∀r∈XW on.length (l.take k),r.length=on.length+2:=avE λr hr=>hl r (List.mem_of_mem_take hr)
   have b2:=atl on.length J;have bt:=aqB on.length (l.take k);rw[List.length_take,Nat.min_eq_left hk]at bt;generalize XW on.length (l.take k)=T at*;have hw:wrap64 ((T.length:Int) - 1)=(T.length:Int) - 1:=by simp only[wrap64];omega
   go_wp2
   refine auC hC ae hL J b3 bq au rfl rfl rfl rfl rfl rfl (by simp[hw]) (by kernel_rfl) (by kernel_rfl) ?_;rintro⟨cr,cw⟩ w2 ba bv hS a7 aa a5;simp only at ba bv;subst bv;obtain⟨g,rfl⟩:=U2 cr ba;have e4:g 4= .pointer (some ⟨b4,0,none⟩):=Option.some.inj (hS 4 rfl);have e8:g 8= .slice la l.length lc:=Option.some.inj (hS 8 rfl);have ag:g 12= .pointer (some ⟨W.heap.size,0,none⟩):=Option.some.inj (hS 12 rfl);have ah:g 13= .int .i64 on.length:=Option.some.inj (hS 13 rfl);have ai:g 14= .int .i64 k:=Option.some.inj (hS 14 rfl);have cf:g 15= .int .i64 ((T.length:Int) - 1):=Option.some.inj (hS 15 rfl);have bk:g 121= .bool (coB on.length T l[k]):=Option.some.inj a7;clear hS a7;generalize g 4=v4 at*;generalize g 8=v8 at*;generalize g 12=b9 at*;generalize g 13=cb at*;generalize g 14=cd at*;generalize g 15=c7 at*;generalize g 121=cu at*;subst e4 e8 ag ah ai cf bk;simp only[Exit.then]
   go_step
   refine wp_mono (Q:=as3 λa' w'=>(a'.tmps.size=163 /\a'.defers=[])/\(a'.tmps[4]? =some (.pointer (some ⟨b4,0,none⟩))/\a'.tmps[8]? =some (.slice la l.length lc)/\a'.tmps[12]? =some (.pointer (some ⟨W.heap.size,0,none⟩))/\a'.tmps[13]? =some (.int .i64 on.length)/\a'.tmps[14]? =some (.int .i64 k))/\
    ∃E3 bi av,CI A w b4 W.heap.size te (.slice P cn U) bi av (Xt on.length T l[k]) w' E3 /\RD w' E3 (.sl (zd l)) (.slice la l.length lc)/\RD w' E3 (.sl (zi R)) (.slice P cn U)) ?_ ?_
   ·have a6:=RD.keep a5 _ _ hL;have be:=RD.keep a5 _ _ ae;clear hL ae a5 hC;cases I:coB on.length T l[k]with
    |true=>
     obtain⟨r,hr,bh⟩:=afG I;obtain⟨j,hj⟩: ∃j,T.length=j+1:=⟨T.length - 1,by have:=(aoB hr r).2;omega⟩;have cz:r.length=on.length+2:=bq r (List.mem_of_getLast? hr);obtain⟨gb,bm,q1,q2,_⟩:=aa.last r hr;have b7:=aa.write hr q1 (i:=on.length+1) (by omega) (yH true (at0 r (on.length+1)).n (at0 l[k] (on.length+1)).n);rw[<- bh]at b7;obtain⟨c2,f2,az,bd⟩:=b7;obtain⟨ob,ct,cp⟩:=Ql aa.own (by omega);cases cp;have c0:=aa.cell;have c1:w2.cell? ⟨ob,j,none⟩=some (.slice (some ⟨gb,0,none⟩) r.length bm):=by
      have:=aa.own.cellAt j (by omega);rw[this,show j=T.length - 1 by omega];exact q1
     obtain⟨lb,lo,u,cm,_,c3,hu⟩:=ak4 a6 J;cases cm;obtain⟨yb,yo,yc,rfl,_,_,_,cq⟩:=ao1 hu (by intro h;rw[h]at au;simp at au);have c4:=cq _ _ (akr (x:=l[k]) (i:=on.length+1) (by omega)).2.1;rw[show l[k][on.length+1]=at0 l[k] (on.length+1)by simp[at0,List.getD,List.getElem?_eq_getElem (show on.length+1<l[k].length by omega)],<- Nat.add_assoc]at c4;rw[gN]at az bd
     go_wp2
     refine aso J (show j<T.length by omega) (by omega) (by omega) b3 c0 c1 c2 f2 c3 c4 rfl rfl rfl rfl rfl rfl rfl rfl λa' ar bf o=>?_
     obtain⟨bc,ak⟩:=az.same (ahk _) (ahj _);exact⟨⟨ar,bf⟩,⟨o 4 rfl,o 8 rfl,o 12 rfl,o 13 rfl,o 14 rfl⟩,_,_,_,bc,RD.keep (Z7 bd ak) _ _ a6,RD.keep (Z7 bd ak) _ _ be⟩
    |false=>
     have bh:=aoX on.length T l[k] I;rw[bh]
     go_wp2
     refine asp aa be a6 J (by omega) (by intro h;rw[h]at au;simp at au) (by omega) rfl rfl rfl rfl rfl rfl λa' w' c6 nv E' ar bf o bc ak=>?_
     exact⟨⟨ar,bf⟩,⟨o 4 rfl,o 8 rfl,o 12 rfl,o 13 rfl,o 14 rfl⟩,_,_,_,bc,RD.keep ak _ _ a6,RD.keep ak _ _ be⟩
   ·clear hL ae a5 hC aa;intro e a' w' hq;cases e with
    |normal=>
     obtain⟨cs,cx⟩:=a';obtain⟨⟨bb,bw⟩,⟨s4,s8,aw,ax,ay⟩,E3,bi,av,az,cg,ch⟩:=hq;simp only at bb bw;subst bw;obtain⟨g3,rfl⟩:=U2 cs bb;have e4:g3 4= .pointer (some ⟨b4,0,none⟩):=Option.some.inj s4;have e8:g3 8= .slice la l.length lc:=Option.some.inj s8;have ag:g3 12= .pointer (some ⟨W.heap.size,0,none⟩):=Option.some.inj aw;have ah:g3 13= .int .i64 on.length:=Option.some.inj ax;have ai:g3 14= .int .i64 k:=Option.some.inj ay;clear s4 s8 aw ax ay;generalize g3 4=v4 at*;generalize g3 8=v8 at*;generalize g3 12=b9 at*;generalize g3 13=cb at*;generalize g3 14=cd at*;subst e4 e8 ag ah ai;simp only[Exit.then,Exit.inBlock]
     go_step
     have c5:wrap64 ((k:Int)+1)=((k+1:Nat):Int):=by simp only[wrap64];omega
     go_wp2
     refine⟨⟨k+1,J,E3,bi,av,_,⟨rfl,aAg k⟩,?_,cg,ch⟩,aAh J⟩;rw[b2];exact az
    |_=>exact hq.elim
  ·have ck:k=l.length:=by omega
   subst ck;rw[List.take_length]at hC;have k0:wr.cell? ⟨W.heap.size,0,none⟩=some (.slice P cn U):=by rw[cell_of_row _ _ _ _ _ _ hC.c12];rfl
   have k1:wr.cell? ⟨W.heap.size,1,none⟩=some ov:=by rw[cell_of_row _ _ _ _ _ _ hC.c12];rfl
   have k2:wr.cell? ⟨b4,0,none⟩=some (.slice none 0 0):=by rw[cell_of_row _ _ _ _ _ _ hC.c4];rfl
   have k3:wr.cell? ⟨b4,1,none⟩=some (.slice none 0 0):=by rw[cell_of_row _ _ _ _ _ _ hC.c4];rfl
   have k4:wr.frozen? ⟨b4,0,none⟩=false:=by simp[World.frozen?,hC.c4]
   have k5:wr.frozen? ⟨b4,1,none⟩=false:=by simp[World.frozen?,hC.c4]
   obtain⟨va,vn,vc,rfl⟩:=gR hC.data
   go_wp2
   have s2:=JV (j:=1) (JV (j:=0) hC.c4 (.slice P cn U)) (.slice va vn vc);have sg:wr.grownBy ((wr.setCell ⟨b4,0,none⟩ (.slice P cn U)).setCell ⟨b4,1,none⟩ (.slice va vn vc)) (some b4):=by
    have a1:=Ui wr b4 0 (.slice P cn U);have a2:=Ui (wr.setCell ⟨b4,0,none⟩ (.slice P cn U)) b4 1 (.slice va vn vc);exact⟨a2.os.trans a1.os,a2.tape.trans a1.tape,a2.output.trans a1.output,Nat.le_trans a1.size a2.size,λk hk b1=>(a2.block k (Nat.lt_of_lt_of_le hk a1.size) b1).trans (a1.block k hk b1)⟩
   have k6:((wr.setCell ⟨b4,0,none⟩ (.slice P cn U)).setCell ⟨b4,1,none⟩ (.slice va vn vc)).cell? ⟨b4,0,none⟩=some (.slice P cn U):=by rw[cell_of_row _ _ _ _ _ _ s2];rfl
   have k7:((wr.setCell ⟨b4,0,none⟩ (.slice P cn U)).setCell ⟨b4,1,none⟩ (.slice va vn vc)).cell? ⟨b4,1,none⟩=some (.slice va vn vc):=by rw[cell_of_row _ _ _ _ _ _ s2];rfl
   have a9:=hC.fin ae sg (Nat.le_refl _);refine bodyPost_ret (v:=.tuple #[.agg #[.slice P cn U,.slice va vn vc],.int .i64 0]) ?_ rfl ⟨_,rfl,a9⟩;have b6:Tryz.f96.results= #[.cell 4 32,.tmp 5]:=rfl;clear a9 sg hC hL ae aj;simp[results,b6,go_sem,k6,k7]
end
section
attribute [local irreducible] Sat zQ yv zl
theorem Y9 (d:List Nmd)(t:Tbl)(st:Stp)(g:List Col)(R:List (List Val))(p:(st.op==4)=false)(J:(st.op==7)=false)(P:(st.op==8)=false)(T:(st.op==9)=false)(I:(st.op==6)=false)(hl:R.length<=20000)(U:Sat Pg YF [t.w,.agg st.cs] (λr=>r=rC (.d (.sl (zd R))))):
 Sat Pg uu [.c (.d (.sl (zK d))),t.w,.agg st.cs,.c (.d (.sl (zi g)))] (λr=>r=qb ⟨g,R⟩ 0):=by
 have hf:=qC d st.table;obtain⟨tc,tr⟩:=t;obtain⟨op,⟨eo,nm,⟨vk,vn,vs⟩,ks⟩,j,aa,l,o,sn,tb⟩:=st;simp only at*;unfold Stp.cs qU at*;have i:decide (((zd R).length:Int)>20000)=false:=decide_eq_false (by grind[zq]);generalize zO tb d=f at*;cases f with
 |none=>
  refine wG.s T9 ?_;refine Sat.w hf ?_;rw[p];(conv=>whnf);rw[J];(conv=>whnf);rw[P];(conv=>whnf);rw[T];(conv=>whnf);rw[I];refine Sat.w U ?_;rw[i];exact rfl
 |some ft=>
  obtain⟨fc,fr⟩:=ft;refine wG.s T9 ?_;refine Sat.w hf ?_;rw[p];(conv=>whnf);rw[J];(conv=>whnf);rw[P];(conv=>whnf);rw[T];(conv=>whnf);rw[I];refine Sat.w U ?_;rw[i];exact rfl
theorem agh (d:List Nmd)(t:Tbl)(st:Stp)(g:List Col)(i:st.op=4)(R:Tbl)(e:Int)(p:Sat Pg gt [t.w,.c (.d (.sl (yN st.sorts)))] (λr=>r=qb R e)):
 Sat Pg uu [.c (.d (.sl (zK d))),t.w,.agg st.cs,.c (.d (.sl (zi g)))] (λr=>r=qb R e):=by
 have I:=qC d st.table;obtain⟨tc,tr⟩:=t;obtain⟨rc,rr⟩:=R;obtain⟨op,⟨U,nm,⟨vk,vn,vs⟩,ks⟩,j,P,l,o,sn,T⟩:=st;simp only at*;subst i;unfold Stp.cs qU at*;generalize zO T d=f at*;cases f with
 |none=>
  refine wG.s T9 ?_;refine Sat.w I ?_;refine Sat.w p ?_;rfl
 |some J=>
  obtain⟨fc,fr⟩:=J;refine wG.s T9 ?_;refine Sat.w I ?_;refine Sat.w p ?_;rfl
theorem adj (d:List Nmd)(t:Tbl)(st:Stp)(g:List Col)(i:st.op=9)(R:Tbl)(e:Int)(p:Sat Pg JI [t.w,.c (.d (.sl (zm st.cols)))] (λr=>r=qb R e)):
 Sat Pg uu [.c (.d (.sl (zK d))),t.w,.agg st.cs,.c (.d (.sl (zi g)))] (λr=>r=qb R e):=by
 have I:=qC d st.table;obtain⟨tc,tr⟩:=t;obtain⟨rc,rr⟩:=R;obtain⟨op,⟨U,nm,⟨vk,vn,vs⟩,ks⟩,j,P,l,o,sn,T⟩:=st;simp only at*;subst i;unfold Stp.cs qU at*;generalize zO T d=f at*;cases f with
 |none=>
  refine wG.s T9 ?_;refine Sat.w I ?_;refine Sat.w p ?_;rfl
 |some J=>
  obtain⟨fc,fr⟩:=J;refine wG.s T9 ?_;refine Sat.w I ?_;refine Sat.w p ?_;rfl
theorem aeD (d:List Nmd)(t:Tbl)(st:Stp)(g:List Col)(i:st.op=7)(b:Tbl)(J:zO st.table d=some b)(R:Tbl)(e:Int)(I:Sat Pg KC [t.w,b.w,.c (.d (.sl (zm st.cols)))] (λr=>r=qb R e)):
 Sat Pg uu [.c (.d (.sl (zK d))),t.w,.agg st.cs,.c (.d (.sl (zi g)))] (λr=>r=qb R e):=by
 have p:=qC d st.table;rw[J]at p;obtain⟨tc,tr⟩:=t;obtain⟨bc,br⟩:=b;obtain⟨rc,rr⟩:=R;obtain⟨op,⟨T,nm,⟨vk,vn,vs⟩,U⟩,j,P,l,o,sn,tb⟩:=st;simp only at*;subst i;unfold Stp.cs qU at*;refine wG.s T9 ?_;refine Sat.w p ?_;refine Sat.w I ?_;rfl
theorem aeC (d:List Nmd)(t:Tbl)(st:Stp)(g:List Col)(i:st.op=8)(b:Tbl)(J:zO st.table d=some b)(R:Tbl)(e:Int)(I:Sat Pg KB [t.w,b.w,.c (.d (.sl (zm st.cols)))] (λr=>r=qb R e)):
 Sat Pg uu [.c (.d (.sl (zK d))),t.w,.agg st.cs,.c (.d (.sl (zi g)))] (λr=>r=qb R e):=by
 have p:=qC d st.table;rw[J]at p;obtain⟨tc,tr⟩:=t;obtain⟨bc,br⟩:=b;obtain⟨rc,rr⟩:=R;obtain⟨op,⟨T,nm,⟨vk,vn,vs⟩,U⟩,j,P,l,o,sn,tb⟩:=st;simp only at*;subst i;unfold Stp.cs qU at*;refine wG.s T9 ?_;refine Sat.w p ?_;refine Sat.w I ?_;rfl
theorem ajU (d:List Nmd)(t:Tbl)(st:Stp)(g:List Col)(j:st.op=6)(b:Tbl)(P:zO st.table d=some b)(R:List (List Val))(hl:R.length<=20000)(J:Sat Pg gC [t.w,b.w,.c (.d (.sl (zm st.cols)))] (λr=>r=rC (.d (.sl (zd R))))):
 Sat Pg uu [.c (.d (.sl (zK d))),t.w,.agg st.cs,.c (.d (.sl (zi g)))] (λr=>r=qb ⟨g,R⟩ 0):=by
 have I:=qC d st.table;rw[P]at I;obtain⟨tc,tr⟩:=t;obtain⟨bc,br⟩:=b;have i:decide (((zd R).length:Int)>20000)=false:=decide_eq_false (by grind[zq]);obtain⟨op,⟨U,nm,⟨vk,vn,vs⟩,ks⟩,l,T,o,p,sn,tb⟩:=st;simp only at*;subst j;unfold Stp.cs qU at*;refine wG.s T9 ?_;refine Sat.w I ?_;refine Sat.w J ?_;rw[i];exact rfl
theorem ag2 {x y:Int}(h:(bif x !=0 then x else y)=0):x=0 /\y=0:=by
 grind
theorem am9: ∀{l:List Agg}{g:List ByteArray},xD g l=0 -> ∀a∈l,ZT a=false
 |x::r,g,h,a,j=>by
  simp only[xD]at h;obtain⟨i,h⟩:=ag2 h;obtain⟨_,h⟩:=ag2 h;rcases List.mem_cons.1 j with rfl|j
  ·unfold ZU at i;cases o:ZT a
   ·rfl
   ·rw[o]at i;cases i
  ·exact am9 h a j
theorem ana {cols:List Col}: ∀{l:List Agg},(z7 cols l).1=0 -> ∀a∈l,(uz cols a).1=0
 |x::r,h,a,i=>by
  simp only[z7]at h;cases g:((uz cols x).1 !=0)
  ·rw[g]at h;rcases List.mem_cons.1 i with rfl|i
   ·simpa using g
   ·exact ana h a i
  ·rw[g]at h;have h:(uz cols x).1=0:=h;rw[h]at g;cases g
theorem azX {d:List Nmd}{cols:List Col}{st:Stp}(J:st.op=3)(o:st.err=0)(h:(z7 cols st.aggs).1=0):awn cols st.aggs:=by
 have i:jW st.cols st.aggs=0:=by
  unfold Stp.err at o;have o:=(zV (by omega) o).2<;>simp_all
 have l: ∃g,xD g st.aggs=0:=by
  unfold jW at i;obtain⟨_,i⟩:=zV (by omega) i;obtain⟨_,i⟩:=zV (by omega) i
  grind
 obtain⟨g,l⟩:=l;intro a r;have p:=am9 l a r;have j:=ana h a r;unfold ZT at p;unfold uz at j;have hs:qI=Xo:=rfl;rw[hs]at j⊢;cases I:zl a.fn Xo with
 |true=>
  grind
 |false=>
  rw[I]at p j
  right
  have hk:=xx cols a.col<;>grind
theorem axw {st:Stp}(i:st.op=1)(l:st.err=0):st.items=[]:=by
 have j:=anU l;unfold Stp.uses ZP at j;rw[i]at j;have h0:(decide ((1:Int)<1)||decide ((1:Int)>9))=false:=by decide
 rw[h0,cond_false]at j;cases g:((!uB [1] 1&& !st.cond.zero)||((!uB [2] 1&&decide ((st.items.length:Int)>0))||((!uB [3] 1&&decide ((st.aggs.length:Int)>0))||((!uB [4] 1&&decide ((st.sorts.length:Int)>0))||(!uB [5] 1&&st.n !=0)))))
 ·rw[Bool.or_eq_false_iff]at g;have g:=g.2;rw[Bool.or_eq_false_iff]at g;have g:=g.1;have e:(!uB [2] 1)=true:=by decide
  simp_all
 grind
theorem tmR {st:Stp}(h:st.R)(op:Int){g:ByteArray}(l:g.size<=300):(xQ op st.cols g).R:=by
 refine⟨?_,λs hs=>by cases hs⟩;have o:=h.all.2.2.1;have h0:=h.few;unfold Stp.few at h0⊢;have hs:xe Wp st.cols=true:=by
  simp_all
 have i:(Ex.mk 0 ⟨#[]⟩ ⟨0,0,⟨#[]⟩⟩ []).small=true:=by decide+kernel
 have j:(xQ op st.cols g).cond.small=true:=i;rw[j];show(bif ((((!true||decide (((([]:List Itm).length:Nat):Int)>30))||decide ((st.cols.length:Int)>30))||decide (((([]:List Agg).length:Nat):Int)>30))||decide (((([]:List Srt).length:Nat):Int)>30))||decide ((g.size:Int)>300)then false else bif !xe Q7 []then false else bif !xe Wp st.cols then false else xe Vx [])=true;rw[hs,decide_eq_false (show¬((st.cols.length:Int)>30)by omega),decide_eq_false (show¬((g.size:Int)>300)by omega)];rfl
def azx:Prop:= ∀(t:Tbl) (on:List ByteArray) (R:List Col),zJ t=0 ->(xQ 9 on ⟨#[]⟩).R ->yw [] t.cols (xQ 9 on ⟨#[]⟩)=(0,R) ->
 Sat Pg JI [t.w,.c (.d (.sl (zm on)))] (λr=>r=qb ⟨R,jx (zg t.cols on) (ze t.cols sFrom) (ze t.cols sTo) t.rows⟩ 0)
theorem ahC {cols:List Col}(h:intErr cols [sFrom,sTo]=0):colInt cols sFrom=0 /\colInt cols sTo=0:=by
 unfold intErr at h;obtain⟨g,h⟩:=ag2 h;unfold intErr at h;exact⟨g,(ag2 h).1⟩
theorem ahB {cols:List Col}(h:intErr cols [sFrom]=0):colInt cols sFrom=0:=by
 unfold intErr at h;exact(ag2 h).1
theorem amu (ab:azx)(d:List Nmd)(t:Tbl)(st:Stp)(hk:st.R)(h1:xp d=0)(o:zJ t=0)(J:(yw d t.cols st).1=0)(hr:t.rows.length<20000)(T:st.op=6\/st.op=7 ->t.rows.length*(wI d st).rows.length<=20000):
 Sat Pg uu [.c (.d (.sl (zK d))),t.w,.agg st.cs,.c (.d (.sl (zi (yw d t.cols st).2)))] (λr=>r=qb ⟨(yw d t.cols st).2,stR d t st⟩ 0):=by
 have U:=Vl J;have g:=k9 U;have g:st.op=1\/st.op=2\/st.op=3\/st.op=4\/st.op=5\/st.op=6\/st.op=7\/st.op=8\/st.op=9:=by omega
 have hw:=wg o;have hf:=xO o;have hz:=((Wq t).1 o).2.2;obtain⟨q1,q2,q3,q4,q5,q6,q7,q8,q9⟩:=hk.all;rcases g with g|g|g|g|g|g|g|g|g
 ·have e:stR d t st=whereR t.cols t.rows st.cond:=by grind[stR]
  rw[e];exact Y9 d t st _ _ (by grind) (by grind) (by grind) (by grind) (by grind) (Nat.le_trans (abl _ _ _) (by omega)) (agz t st g (axw g U) q1 (by omega))
 ·have e:stR d t st=selR t.cols t.rows st.items:=by grind[stR]
  rw[e];exact Y9 d t st _ _ (by grind) (by grind) (by grind) (by grind) (by grind) (by grind[selR]) (agA t st g (λx hx=>(q7 x hx).1) (by omega) (by omega))
 ·have e:stR d t st=(qX (zg t.cols st.cols) t.rows).map (xP t.cols st.aggs):=by grind[stR]
  rw[e];have aa:=amT g J;have hG:=Kq (zg t.cols st.cols) t.rows
  exact Y9 d t st _ _ (by grind) (by grind) (by grind) (by grind) (by grind) (by rw[List.length_map];have:=hG.few;omega)
   (agB t st g _ (agx t st (by omega) (by omega) (by omega) o (aei aa.1) (azX (d:=d) g U aa.2.1)))
 ·have e:stR d t st=yy (xA (yI t.cols st.sorts) st.sorts) t.rows:=by grind[stR]
  obtain⟨P,ac⟩:=amU g J;rw[e,ac];have hS:=agp t st.sorts o (by omega);simp_all[ao2,agh]
 ·have e:stR d t st=t.rows.take (yH false st.n t.rows.length).toNat:=by grind[stR]
  rw[e];exact Y9 d t st _ _ (by grind) (by grind) (by grind) (by grind) (by grind) (by grind) (agC t st g (azH U g))
 ·have hj:=u0 (.inl g) J;have l:=J;rw[hj]at l;obtain⟨b,P,p⟩:=Zs l;have e:stR d t st=wH (zg t.cols st.cols) (zg b.cols st.cols) (oth st.cols 0 b.cols) t.rows b.rows:=by grind[stR,wI]
  have hm:=T (.inl g);rw[show wI d st=b by grind[wI]]at hm;rw[e];have I:=Yy h1 P;have fb:=xO I;have i:=X9 p.jn;have hJ:=agy t b st.cols (by omega) o I hm i.1 i.2;rw[axV hz ((Wq b).1 I).2.2 p.jn]at hJ
  grind[ajU,VD]
 ·have hj:=u0 (.inr (.inl g)) J;have l:=J;rw[hj]at l;obtain⟨b,P,p⟩:=Zs l;have I:=Yy h1 P;have hm:=T (.inr g);have e:stR d t st=wY (ze t.cols sFrom) (ze t.cols sTo) (ze b.cols sFrom) (ze b.cols sTo) (zg t.cols st.cols) (zg b.cols st.cols) (oth (st.cols++[sFrom,sTo]) 0 b.cols) t.rows b.rows:=by grind[stR,wI]
  rw[show wI d st=b by grind[wI]]at hm;have j:=aej (.inl g) o I U P;rw[g]at j p;unfold YU at j;rw[o,I]at j;have j:yw [⟨uf,b⟩] t.cols (xQ 7 st.cols uf)=yw d t.cols st:=j;have i1:=ahC p.i1;have i2:=ahC p.i2;have i:=X9 p.jn;have hO:=aeK t b st.cols _ o I (tmR hk 7 (by decide)) (j.trans (Prod.ext J rfl)) hm i.1 i.2 (vt i1.1) (vt i1.2) (vt i2.1) (vt i2.2);rw[aBZ hz ((Wq b).1 I).2.2 p.jn i1.1 i1.2 i2.1 i2.2,<- e]at hO;simp_all[aeD]
 ·have hj:=u0 (.inr (.inr g)) J;have l:=J;rw[hj]at l;obtain⟨b,P,p⟩:=Zs l;have I:=Yy h1 P;have e:stR d t st=t.rows.map (vh (ze t.cols sFrom) (ze b.cols sFrom) (zg t.cols st.cols) (zg b.cols st.cols) (oth (st.cols++[sFrom]) 0 b.cols) b.rows):=by grind[stR,wI]
  have j:=aej (.inr g) o I U P;rw[g]at j p;unfold YU at j;rw[o,I]at j;have j:yw [⟨uf,b⟩] t.cols (xQ 8 st.cols uf)=yw d t.cols st:=j;have i1:=ahB p.i1;have i2:=ahB p.i2;have i:=X9 p.jn;have hO:=aeJ t b st.cols _ o I (tmR hk 8 (by decide)) (j.trans (Prod.ext J rfl)) i.1 i.2 (vt i1) (vt i2);rw[aBW hz ((Wq b).1 I).2.2 p.jn,<- e]at hO;simp_all[aeC]
 ·have e:stR d t st=jx (zg t.cols st.cols) (ze t.cols sFrom) (ze t.cols sTo) t.rows:=by grind[stR]
  have j:=arM (d:=d) g o U;unfold Uk at j;rw[o]at j;have j:yw [] t.cols (xQ 9 st.cols ⟨#[]⟩)=yw d t.cols st:=j;have hO:=ab t st.cols _ o (tmR hk 9 (by decide)) (j.trans (Prod.ext J rfl));simp_all[adj]
end
section
open Go Go.AM Go.Proofs Go.RowKit
theorem arU {ι:Nat ->Gh}{w:World}{ok:Nat ->Prop}: ∀{ws:List W}{vs:List Value},qK ι w ok ws vs ->vs.length=ws.length
 | [],[],_=>rfl
 |_::ws,_::vs,h=>by simp[arU (ws:=ws) (vs:=vs) h.2]
theorem aCq:azx:=by
 intro t on R j J r;have T:=ab0 on t j J;rw[r]at T;have i:yw [] t.cols (xQ 9 on ⟨#[]⟩)=coT t.cols on:=aiI (d:=[]) (st:=xQ 9 on ⟨#[]⟩) rfl (by rw[r]);rw[r]at i;have g:=ahh (cols:=t.cols) (on:=on) (by grind);rw[<- i]at g;have i2:=vt g.i1;have i3:=vt g.i2;have wa:=wg j;have fa:=xO j;have ad:on.length<=30:=J.all.2.2.1;have hz:=((Wq t).1 j).2.2;rw[<- aBu hz g.tk g.i1 g.i2];have hl: ∀y∈jc t.cols on t.rows,y.length=on.length+2:=λy hy=>by
  grind[ak0,akY]
 have ab:=akZ t.cols on t.rows;have U:=ayH t on R T (by omega) (by omega) wa (aei g.tk) i2 i3;refine⟨by kernel_rfl,λw A aa hA P=>?_⟩;have ae:=arU P;refine auv (fn:=Tryz.f96) T9 4 rfl rfl vC.ok rfl (by simp_all) hA P (QE:=anI on R (jc t.cols on t.rows)) ?_ ?_ ?_
 ·grind[aBt,xJ]
 ·intro F l o p ι s a w' hr I hq;exact ayI w A on R _ hl (by omega) (by omega) l o p hr I hq rfl
 ·intro e s ac h;cases e with
  |normal=>grind
  |_=>exact h
end
section
attribute [local irreducible] Sat zQ yv zl
theorem zU.rest0 (g cs:List ByteArray){tc:List Col}{y:List Val}(h:zU tc y):zU (keepS g cs tc) (pickL y (oth (cs++g) 0 tc)):=by
 grind[akK,zU.rest]
theorem au6 {left right g:List Int}{xs ys:List (List Val)}{z:List Val}(h:z∈wH left right g xs ys): ∃x∈xs,∃y∈ys,z=x++pickL y g:=by
 unfold wH at h;obtain⟨x,j,h⟩:=List.mem_flatMap.1 h;unfold acE at h;cases i:(pickL x left).any (yB zB)
 ·rw[i,cond_false]at h
  grind[jb]
 grind
theorem zU.setN {cols:List Col}{R:List Val}(h:zU cols R){k n:Int}(hk:k.toNat<cols.length)(o:cols[k.toNat].t=2)(l:(at0 R k.toNat).k≠0)(p:inB n=true):zU cols (setN R k n)/\ ∀j,(at0 (setN R k n) j).k=(at0 R j).k:=by
 have g:=h.get hk;rw[o]at g;obtain⟨m,_,e⟩:=g.num l rfl;have r:=h.len;have i:Go.Proofs.YtnlbmefhdiabcaaGreat.setN R k n=R.set k.toNat (aoK n):=by
  unfold Go.Proofs.YtnlbmefhdiabcaaGreat.setN;rw[e];rfl
 rw[i];refine⟨h.set hk (by grind[jV]),λj=>?_⟩
 grind[at0,aoK]
theorem akb {a b:Val}(h:qA a b=true):a.k=2 /\b.k=2 /\a.n<b.n:=by
 simp_all[qA]
theorem zU.inB {cols:List Col}{R:List Val}(h:zU cols R){k:Nat}(hk:k<cols.length)(i:(at0 R k).k=2):inB (at0 R k).n=true:=by
 obtain⟨e,_⟩:=(h.get hk).kind (by grind);obtain⟨m,j,g⟩:=(h.get hk).num (by grind) (by rw[<- e,i];rfl);rw[g];exact j
theorem ajf {b:Bool}{x y:Int}(g:Go.Proofs.YtnlbmefhdiabcaaGreat.inB x=true)(i:Go.Proofs.YtnlbmefhdiabcaaGreat.inB y=true):Go.Proofs.YtnlbmefhdiabcaaGreat.inB (yH b x y)=true:=by
 grind[yH]
structure Spn (cols:List Col)(p q:Int):Prop where
 p1:p.toNat<cols.length
 p2:cols[p.toNat].t=2
 q1:q.toNat<cols.length
 q2:cols[q.toNat].t=2
theorem Kk {cols:List Col}{s:ByteArray}(h:colInt cols s=0): ∃h:(ze cols s).toNat<cols.length,cols[(ze cols s).toNat].t=2:=by
 unfold colInt at h;rw[YZ (by omega),YZ (by omega)]at h
 grind[Yx]
theorem av9 {cols:List Col}(h:intErr cols [sFrom,sTo]=0):Spn cols (ze cols sFrom) (ze cols sTo):=by
 simp only[intErr]at h;rw[Vp,Vp]at h;obtain⟨g,i⟩:=Kk h.1;obtain⟨j,l⟩:=Kk h.2.1;exact⟨g,i,j,l⟩
theorem azA {A B:List Col}{i:Nat}(h:i<A.length)(g:A[i].t=2): ∃h:i<(A++B).length,(A++B)[i].t=2:=
 ⟨by grind,by grind⟩
theorem avs {cols tc K:List Col}{p q I J:Int}{left right more:List Int}{P br:List (List Val)}(hs:Spn cols p q)(l:Spn tc I J)(ha: ∀r∈P,zU cols r)(hb: ∀r∈br,zU tc r)(hm: ∀r∈br,zU K (pickL r more)): ∀z∈wY p q I J left right more P br,zU (cols++K) z:=by
 intro z g;unfold wY at g;obtain⟨x,hx,g⟩:=List.mem_flatMap.1 g;unfold JQ at g;cases R:qA (at0 x p.toNat) (at0 x q.toNat)
 ·grind
 rw[R,cond_true]at g;unfold ji at g;obtain⟨y,T,g⟩:=List.mem_flatMap.1 g;cases j:UT I J left right (at0 x p.toNat).n (at0 x q.toNat).n x y
 ·grind
 rw[j,cond_true,List.mem_singleton]at g;subst g;unfold UT at j;simp only[Bool.and_eq_true]at j;obtain⟨j,_⟩:=j;have i:=ha x hx;have o:=hb y T;obtain⟨k1,k2,_⟩:=akb R;obtain⟨k3,k4,_⟩:=akb j;have hR:zU (cols++K) (x++pickL y more):=i.app (hm y T);have hl:=i.len;obtain⟨U,P2⟩:=azA (B:=K) hs.p1 hs.p2;obtain⟨Q1,Q2⟩:=azA (B:=K) hs.q1 hs.q2;have i1:=i.inB hs.p1 k1;have i2:=i.inB hs.q1 k2;have i3:=o.inB l.p1 k3;have i4:=o.inB l.q1 k4;unfold aa1;have aa:=hs.p1;have ab:=hs.q1;obtain⟨s1,s2⟩:=hR.setN U P2 (by grind[adL]) (ajf (b:=true) i1 i3);exact(s1.setN Q1 Q2 (by grind[adL]) (ajf (b:=false) i2 i4)).1
theorem arp {p i:Int}{left right:List Int}{x:List Val}: ∀{ys:List (List Val)}{b:Option (List Val)}{P:List Val ->Prop},(∀z,b=some z ->P z) ->(∀y∈ys,P y) -> ∀z,ys.foldl (λb y=>bif Zf (at0 x p.toNat) (at0 y i.toNat) (Zj (pickL x left) (pickL y right))then YM i y b else b) b=some z ->P z
 | [],b,P,h,_,z,j=>h z j
 |y::r,b,P,h,I,z,j=>by
  rw[List.foldl_cons]at j;refine arp (P:=P) (ys:=r) ?_ (λw g=>I w (by simp[g])) z j;intro w g;cases l:Zf (at0 x p.toNat) (at0 y i.toNat) (Zj (pickL x left) (pickL y right))
  ·grind
  ·rw[l,cond_true]at g;cases b with
   |none=>cases g;grind
   |some u=>
    simp only[YM]at g;cases o:decide ((at0 y i.toNat).n>=(at0 u i.toNat).n)
    ·simp_all
    ·rw[o,cond_true]at g;grind
theorem avo {cols K:List Col}{p g:Int}{left right more:List Int}{br:List (List Val)}(o:more.length=K.length)(i: ∀r∈br,zU K (pickL r more)){x:List Val}(j:zU cols x):zU (cols++K) (vh p g left right more br x):=by
 unfold vh;refine j.app ?_;unfold JP;cases h:br.foldl (λb y=>bif Zf (at0 x p.toNat) (at0 y g.toNat) (Zj (pickL x left) (pickL y right))then YM g y b else b) none with
 |none=>
  show zU K (List.replicate more.length zB)
  grind[zU.nulls]
 |some z=>exact arp (P:=λr=>zU K (pickL r more)) (λz l=>by cases l) i z h
def PcF (K:List Col)(x:Pc):Prop:=zU K x.key /\inB x.a=true /\inB x.b=true
theorem avu {cols K:List Col}{at_:List Int}{p q:Int}{rows:List (List Val)}(hs:Spn cols p q)(hr: ∀r∈rows,zU cols r /\zU K (pickL r at_)): ∀z∈vz at_ p q rows,PcF K z:=by
 intro z g;unfold vz at g;obtain⟨x,l,g⟩:=List.mem_flatMap.1 g;unfold aa2 at g;cases i:(qA (at0 x p.toNat) (at0 x q.toNat)&&decide ((at0 x p.toNat).n>=0))
 ·grind
 rw[i,cond_true,List.mem_singleton]at g;subst g;simp only[Bool.and_eq_true]at i;obtain⟨o,I,_⟩:=akb i.1;obtain⟨j,hk⟩:=hr x l;exact⟨hk,j.inB hs.p1 o,j.inB hs.q1 I⟩
theorem aya {K:List Col}{g:List Pc}{x:Pc}(h: ∀z∈g,PcF K z)(l:PcF K x): ∀z∈vg g x,PcF K z:=by
 have j: ∀z∈g++[x],PcF K z:=λz i=>by
  grind
 unfold vg;split
 ·exact j
 ·rename_i y o;cases(yO y.key x.key&&_)
  ·exact j
  ·intro z i;rcases List.mem_or_eq_of_mem_set i with i|rfl
   ·exact h z i
   ·have:=h y (List.mem_of_getLast? o);exact⟨this.1,this.2.1,by show inB (yH true y.b x.b)=true;exact ajf this.2.2 l.2.2⟩
theorem ax8 {K:List Col}{l:List Pc}(h: ∀z∈l,PcF K z): ∀z∈ZI l,PcF K z:=by
 have gen: ∀(l g:List Pc),(∀z∈l,PcF K z) ->(∀z∈g,PcF K z) -> ∀z∈l.foldl vg g,PcF K z:=by
  intro l;induction l<;>grind[aya,List.mem_cons_self]
 exact gen l [] h (λz i=>by cases i)
theorem an8 {α:Type}(c:α ->α ->Int)(l:List α): ∀z∈yy c l,z∈l:=by
 have gen: ∀(l g:List α),∀z∈l.foldl (λg x=>wZ c x g) g,z∈g\/z∈l:=by
  intro l;induction l<;>grind[Qs]
 intro z i;rcases gen l [] z i with h|h<;>grind
theorem ald {α:Type}(c:α ->α ->Int)(l:List α):(yy c l).length=l.length:=by
 have gen: ∀(l g:List α),(l.foldl (λg x=>wZ c x g) g).length=g.length+l.length:=by
  intro l;induction l with
  |nil=>grind
  |cons x r i=>
   intro g;rw[List.foldl_cons,i,(Qs c x g).length_eq]
   grind
 have:=gen l [];rw[List.length_nil,Nat.zero_add]at this;exact this
theorem asj {cols K:List Col}{at_:List Int}{p q:Int}{rows:List (List Val)}(hs:Spn cols p q)(hr: ∀r∈rows,zU cols r /\zU K (pickL r at_)): ∀z∈jx at_ p q rows,zU (K++[⟨sFrom,2⟩,⟨sTo,2⟩]) z:=by
 intro z g;unfold jx at g;obtain⟨x,i,rfl⟩:=List.mem_map.1 g;have:=ax8 (λz g=>avu hs hr z (an8 X8 _ z g)) x i;unfold xq;exact this.1.app ⟨jV this.2.1,jV this.2.2,trivial⟩
theorem ask (at_:List Int)(p q:Int)(rows:List (List Val)):(jx at_ p q rows).length<=rows.length:=by
 unfold jx;rw[List.length_map];have g:=afX (yy X8 (vz at_ p q rows)) (yy X8 (vz at_ p q rows)).length (Nat.le_refl _)
 grind[ald,ac2]
theorem ahi {cols:List Col}(i:ColsF cols){g:List ByteArray}(h:takeErr cols g=false): ∀c∈takeC cols g,ColF c:=λc j=>i.ok c (awc h c j)
theorem alc {n jC:Int}(h:vA n jC=0):n<=16:=by
 simp_all[vA,YZ]
theorem auD {l:List ByteArray}{m:Int}(h:x9 l m=0):(l.length:Int)<=16 /\yG [] l=0:=by
 unfold x9 at h;rw[Vp]at h;exact⟨alc h.1,h.2⟩
theorem auP {st:Stp}(h:st.err=0)(g:st.op=2):(st.items.length:Int)<=16 /\yA [] st.items=0:=by
 unfold Stp.err at h;have h:=(zV (by omega) h).2;rw[g]at h;have h:(bif vA st.items.length 1 !=0 then vA st.items.length 1 else yA [] st.items)=0:=h;rw[Vp]at h;exact⟨alc h.1,h.2⟩
theorem auQ {st:Stp}(h:st.err=0)(g:st.op=3):(st.cols.length:Int)<=16 /\(st.aggs.length:Int)<=16 /\yG [] st.cols=0 /\xD st.cols st.aggs=0:=by
 unfold Stp.err at h;have h:=(zV (by omega) h).2;simp_all[jW,YZ,Vp]
theorem auR {st:Stp}(h:st.err=0)(g:st.op=9):(st.cols.length:Int)<=16 /\yG [] st.cols=0:=by
 unfold Stp.err at h;have h:=(zV (by omega) h).2;rw[g]at h;have h:x9 st.cols 0=0:=h;exact auD h
theorem azV {d:List Nmd}{cols:List Col}{st:Stp}(g:st.op=1)(h:(yw d cols st).1=0):yw d cols st=(0,cols):=by
 have e:yw d cols st=whT cols st.cond:=by
  grind[yw]
 simp_all[whT,qM]
theorem azR {d:List Nmd}{cols:List Col}{st:Stp}(g:st.op=2)(h:(yw d cols st).1=0):yw d cols st=qi cols st.items:=by
 grind[yw]
theorem azS {d:List Nmd}{cols:List Col}{st:Stp}(g:st.op=5)(h:(yw d cols st).1=0):yw d cols st=(0,cols):=by
 grind[yw]
theorem au9 {g cs:List ByteArray}{tc:List Col}: ∀c∈keepS g cs tc,c∈tc:=λc h=>by
 grind[keepS]
theorem aay {i:List ByteArray}{cols tc:List Col}{cs:List ByteArray}{R:List Col}(j:ColsF cols)(l:ColsF tc)(h:JnOK i cols tc cs R):ColsF (cols++keepS i cs tc):=by
 refine⟨h.few,λc g=>?_,(auK.1 h.dup).2⟩;rcases List.mem_append.1 g with g|g
 ·exact j.ok c g
 ·exact l.ok c (au9 c g)
theorem atI (d:List Nmd)(t:Tbl)(st:Stp)(h1:xp d=0)(h2:zJ t=0)(l:(yw d t.cols st).1=0)(hr:(stR d t st).length<=20000):zJ ⟨(yw d t.cols st).2,stR d t st⟩=0:=by
 obtain⟨P,ac,j⟩:=(Wq t).1 h2;refine(Wq _).2 ?_;suffices hs:ColsF (yw d t.cols st).2 /\ ∀r∈stR d t st,zU (yw d t.cols st).2 r from⟨hs.1,hr,hs.2⟩
 clear hr;have he:=Vl l;have i:=k9 he;have i:st.op=1\/st.op=2\/st.op=3\/st.op=4\/st.op=5\/st.op=6\/st.op=7\/st.op=8\/st.op=9:=by omega
 rcases i with i|i|i|i|i|i|i|i|i
 ·grind[stR,whereR,azV]
 ·have e:stR d t st=selR t.cols t.rows st.items:=by grind[stR]
  obtain⟨hl,hi⟩:=auP he i;obtain⟨n1,n2,n3⟩:=aqg hi;have R: ∀x∈st.items,x.e.chk=0 /\zT x.nm=true:=λx J=>⟨acD _ _ hi x J,n1 x J⟩
  have e2:=azR i l;rw[e2]at l⊢;obtain⟨s1,s2⟩:=apt P.ok R l;rw[e];refine⟨?_,λr hr=>?_⟩
  ·rw[s1];refine⟨by grind,λc J=>?_,?_⟩
   ·grind
   grind
  ·unfold selR at hr;obtain⟨r0,ab,rfl⟩:=List.mem_map.1 hr;exact ay6 P.ok R l (j r0 ab)
 ·have e:stR d t st=(qX (zg t.cols st.cols) t.rows).map (xP t.cols st.aggs):=by grind[stR]
  obtain⟨g1,g2,g3⟩:=amT i l;obtain⟨m1,m2,m3,m4⟩:=auQ he i;obtain⟨a1,a2,a3⟩:=ako m3;obtain⟨b1,b2,b3⟩:=ar5 m4;obtain⟨c1,c2⟩:=afv g2;have hG:=Kq (zg t.cols st.cols) t.rows;have aa: ∀(rows:List (List Val)),rows.length<=20000 ->(∀r∈rows,zU t.cols r) -> ∀a∈st.aggs,ColF (uz t.cols a).2 /\yz (uz t.cols a).2.t (w6 a.fn (w8 t.cols rows a)):=λrows hn hr a ha=>azZ P.ok (b1 a ha) (c2 a ha) hn hr
  rw[e,g3];have tl:(takeC t.cols st.cols).length=st.cols.length:=by simp[takeC]
  refine⟨⟨?_,λc J=>?_,?_⟩,λr hr=>?_⟩
  ·grind
  ·grind[ahi]
  ·show((takeC t.cols st.cols++(z7 t.cols st.aggs).2).map Col.name).Nodup;rw[List.map_append,afm g1,c1,List.map_map,List.nodup_append];have e2:(Col.name∘ λa=>(uz t.cols a).2)=Agg.nm:=by funext a;grind[akm]
   grind
  ·obtain⟨g,hg,rfl⟩:=List.mem_map.1 hr;unfold xP jm;show zU (takeC t.cols st.cols++(z7 t.cols st.aggs).2) _;refine zU.app ?_ ?_
   ·rcases aqd _ _ g hg with⟨k1,k2⟩|⟨r,k1,k2⟩
    ·rw[k2];have:st.cols=[]:=by grind[zg]
     rw[this];exact trivial
    ·rw[k2];exact(j r k1).pick g1
   ·rw[c1];exact zU.map _ _ λa ha=>(aa g.rows (Nat.le_trans (hG.cnt g hg) ac) (λr hr=>j r (hG.mem g hg r hr)) a ha).2
 ·have e:stR d t st=yy (xA (yI t.cols st.sorts) st.sorts) t.rows:=by grind[stR]
  rw[e,(amU i l).2]
  grind[an8]
 ·grind[stR,azS]
 ·have hj:=u0 (.inl i) l;rw[hj]at l⊢;obtain⟨b,T,o⟩:=Zs l;have e:stR d t st=wH (zg t.cols st.cols) (zg b.cols st.cols) (oth st.cols 0 b.cols) t.rows b.rows:=by grind[stR,wI]
  obtain⟨I,U,p⟩:=(Wq b).1 (Yy h1 T);rw[e,o.eq];refine⟨aay P I o,λz hz=>?_⟩;obtain⟨x,R,y,hy,rfl⟩:=au6 hz;refine(j x R).app ?_;have:=zU.rest0 (Vk st.op) st.cols (p y hy)
  grind[Vk]
 ·have hj:=u0 (.inr (.inl i)) l;rw[hj]at l⊢;obtain⟨b,T,o⟩:=Zs l;have e:stR d t st=wY (ze t.cols sFrom) (ze t.cols sTo) (ze b.cols sFrom) (ze b.cols sTo) (zg t.cols st.cols) (zg b.cols st.cols) (oth (st.cols++[sFrom,sTo]) 0 b.cols) t.rows b.rows:=by grind[stR,wI]
  obtain⟨I,U,p⟩:=(Wq b).1 (Yy h1 T);rw[e,o.eq];refine⟨aay P I o,?_⟩;have i1:=o.i1;have i2:=o.i2;rw[i]at i1 i2⊢;exact avs (av9 i1) (av9 i2) j p λr hr=>zU.rest0 [sFrom,sTo] st.cols (p r hr)
 ·have hj:=u0 (.inr (.inr i)) l;rw[hj]at l⊢;obtain⟨b,T,o⟩:=Zs l;have e:stR d t st=t.rows.map (vh (ze t.cols sFrom) (ze b.cols sFrom) (zg t.cols st.cols) (zg b.cols st.cols) (oth (st.cols++[sFrom]) 0 b.cols) b.rows):=by grind[stR,wI]
  obtain⟨I,U,p⟩:=(Wq b).1 (Yy h1 T);rw[e,o.eq];refine⟨aay P I o,λz hz=>?_⟩;obtain⟨x,R,rfl⟩:=List.mem_map.1 hz;rw[i];refine avo ?_ (λr hr=>zU.rest0 [sFrom] st.cols (p r hr)) (j x R)
  grind[aoM,akK]
 ·have e:stR d t st=jx (zg t.cols st.cols) (ze t.cols sFrom) (ze t.cols sTo) t.rows:=by grind[stR]
  have e2:=aiI i l;rw[e2]at l⊢;have o:=ahh l;obtain⟨m1,m2⟩:=auR he i;obtain⟨a1,a2,a3⟩:=ako m2;have tw:=o.two;simp only[Bool.or_eq_false_iff]at tw;have f1:=an6.1 tw.1;have f2:=an6.1 tw.2;have tl:(takeC t.cols st.cols).length=st.cols.length:=by simp[takeC]
  obtain⟨p1,p2⟩:=Kk o.i1;obtain⟨q1,q2⟩:=Kk o.i2;rw[e,o.eq];have ad:sFrom≠sTo:=by decide+kernel
  refine⟨⟨?_,λc J=>?_,?_⟩,asj ⟨p1,p2,q1,q2⟩ λr hr=>⟨j r hr,(j r hr).pick o.tk⟩⟩
  ·grind
  ·rcases List.mem_append.1 J with J|J
   ·exact ahi P o.tk c J
   ·simp only[List.mem_cons,List.not_mem_nil,or_false]at J;have g1:qy sFrom=0:=UP (by decide+kernel);have g2:qy sTo=0:=UP (by decide+kernel);rcases J with rfl|rfl
    ·exact⟨g1,.inr (.inl rfl)⟩
    ·exact⟨g2,.inr (.inl rfl)⟩
  ·rw[List.map_append,afm o.tk,List.nodup_append];refine⟨a3,by grind,λs hs u hu=>?_⟩;simp only[List.map_cons,List.map_nil,List.mem_cons,List.not_mem_nil,or_false]at hu
   grind
theorem azf (d:List Nmd)(t:Tbl)(st:Stp)(h:st.err=0):(stR d t st).length<=(bif st.op==6||st.op==7 then t.rows.length*(wI d st).rows.length else max t.rows.length 1):=by
 grind[stR,abl,selR,qX,U5,List.take_length,ald,VD,acZ,ask]
noncomputable def runT (d:List Nmd)(t:Tbl):List Stp ->Int×Tbl
 | []=>(0,t)
 |s::r=>bif (nStepT d t s).1 !=0 then((nStepT d t s).1,⟨[],[]⟩)else runT d (nStepT d t s).2 r
def Uj (d:List Nmd)(q:Qry):Tbl:=(zO q.src d).getD ⟨[],[]⟩
noncomputable def runQ (d:List Nmd)(q:Qry):Int×Tbl:=bif (YV d q).1 !=0 then((YV d q).1,⟨[],[]⟩)else runT d (Uj d q) q.steps
def QN (d:List Nmd):Tbl ->List Stp ->Prop
 |_,[]=>True
 |t,s::r=>t.rows.length<20000 /\(s.op=6\/s.op=7 ->s.err=0 ->t.rows.length*(wI d s).rows.length<=20000)/\s.Sm /\((nStepT d t s).1=0 ->QN d (nStepT d t s).2 r)
def joins:List Stp ->Nat
 | []=>0
 |s::r=>(bif zl s.table ⟨#[]⟩then 0 else 1)+joins r
theorem ayg {d:List Nmd}{t:Tbl}{st:Stp}(g:xp d=0)(i:zJ t=0)(j:(yw d t.cols st).1=0):nStepT d t st=(0,⟨(yw d t.cols st).2,stR d t st⟩):=by
 grind[nStepT]
theorem Km {g:ByteArray}{b:Tbl}: ∀{d:List Nmd},zO g d=some b -> ∃x∈d,x.t=b
 | [],h=>by cases h
 |x::r,h=>by
  simp only[zO]at h;cases i:zl x.nm g
  ·rw[i,cond_false]at h;obtain⟨y,j,e⟩:=Km h;exact⟨y,by simp[j],e⟩
  simp_all
theorem auY {d:List Nmd}{g:ByteArray}(i: ∀x∈d,x.t.rows.length<=14):((zO g d).getD ⟨[],[]⟩).rows.length<=14:=by
 cases j:zO g d with
 |none=>simp_all
 |some b=>
  grind[Km]
theorem awN {d:List Nmd}(g: ∀x∈d,x.t.rows.length<=14)(s:Stp):(wI d s).rows.length<=14:=auY g
theorem aBz {st:Stp}(h:st.err=0)(g:st.op=6\/st.op=7):zl st.table ⟨#[]⟩=false:=by
 unfold Stp.err at h;have h:=(zV (by omega) h).2;have h:(bif !zT st.table then 3 else x9 st.cols (bif st.op==6 then 1 else 0))=0:=by
  grind
 simp_all[YZ,zT]
theorem avI {d:List Nmd}(U:xp d=0)(hd: ∀x∈d,x.t.rows.length<=14): ∀(l:List Stp) (t:Tbl) (B:Nat),(∀s∈l,s.Sm) ->zJ t=0 ->1<=B ->t.rows.length<=B ->B*14^(joins l)<=2744 ->
 QN d t l /\((ZC d t.cols l).1=0 ->(runT d t l).1=0 /\(runT d t l).2.cols=(ZC d t.cols l).2 /\zJ (runT d t l).2=0 /\(runT d t l).2.rows.length<=2744)/\((ZC d t.cols l).1≠0 ->runT d t l=((ZC d t.cols l).1,⟨[],[]⟩))
 | [],t,B,_,J,hB,ht,hk=>by
   have hj:joins []=0:=rfl;rw[hj]at hk;refine⟨trivial,λ_=>⟨rfl,rfl,J,by show t.rows.length<=2744;omega⟩,λh=>absurd rfl h⟩
 |s::r,t,B,hs,J,hB,ht,hk=>by
  have hb:=awN hd s;have ae:1<=14^joins r:=Nat.pow_pos (by omega);have hj:joins (s::r)=(bif zl s.table ⟨#[]⟩then 0 else 1)+joins r:=rfl;have ah:B<=2744:=by
   have:=Nat.le_mul_of_pos_right B (Nat.pow_pos (n:=joins (s::r)) (show 0<14 by omega));omega
  have o:s.op=6\/s.op=7 ->s.err=0 ->t.rows.length*(wI d s).rows.length<=B*14 /\B*14*14^joins r<=2744:=λg p=>by
   simp_all[aBz,Nat.pow_add,Nat.mul_assoc,Nat.mul_le_mul]
  have ac:B*14^joins r<=2744:=by
   refine Nat.le_trans (Nat.mul_le_mul_left _ ?_) hk
   grind
  have I:=hs s (by simp);have i:s.op=6\/s.op=7 ->s.err=0 ->t.rows.length*(wI d s).rows.length<=20000:=λg p=>by
   obtain⟨a,b⟩:=o g p;have:=Nat.le_mul_of_pos_right (B*14) (show 0<14^joins r by omega);omega
  by_cases P:(yw d t.cols s).1=0
  ·have hn:=ayg U J P;have p:=Vl P;have hl:=azf d t s p;obtain⟨j,aa,ad,ab⟩: ∃j,1<=j /\(stR d t s).length<=j /\j*14^joins r<=2744:=by
    by_cases g:s.op=6\/s.op=7
    ·obtain⟨a,b⟩:=o g p;refine⟨B*14,by omega,?_,b⟩<;>grind
    ·refine⟨B,hB,?_,ac⟩;have:(s.op==6||s.op==7)=false:=by
      simp_all
     rw[this,cond_false]at hl;omega
   have ag:j<=2744:=by
    have:=Nat.le_mul_of_pos_right j (show 0<14^joins r by omega);omega
   have hv:=atI d t s U J P (by omega);obtain⟨i1,i2,i3⟩:=avI U hd r ⟨(yw d t.cols s).2,stR d t s⟩ j (λx hx=>hs x (by simp[hx])) hv aa ad ab;have R:runT d t (s::r)=runT d ⟨(yw d t.cols s).2,stR d t s⟩ r:=by
    grind[runT]
   have T:ZC d t.cols (s::r)=ZC d (yw d t.cols s).2 r:=by
    grind[ZC]
   rw[R,T];exact⟨⟨by omega,i,I,λ_=>by grind⟩,i2,i3⟩
  ·have af:((yw d t.cols s).1 !=0)=true:=by grind
   have T:ZC d t.cols (s::r)=((yw d t.cols s).1,[]):=by
    grind[ZC]
   have hn:nStepT d t s=((yw d t.cols s).1,⟨[],[]⟩):=by
    grind[nStepT]
   have R:runT d t (s::r)=((yw d t.cols s).1,⟨[],[]⟩):=by
    grind[runT]
   rw[R,T];refine⟨⟨by omega,i,I,λh=>?_⟩,λh=>absurd h P,λ_=>rfl⟩
   grind
theorem akJ: ∀(a b:List Stp),joins (a++b)=joins a+joins b
 | [],b=>by simp[joins]
 |x::r,b=>by simp only[List.cons_append,joins];rw[akJ r b];omega
structure SmallQ (d:List Nmd)(q:Qry):Prop where
 rows: ∀x∈d,x.t.rows.length<=14
 two:joins q.steps<=2
 sm: ∀s∈q.steps,s.Sm
theorem atS {d:List Nmd}{q:Qry}(h:(YV d q).1=0):xp d=0 /\q.err=0 /\ ∃t,zO q.src d=some t /\YV d q=ZC d t.cols q.steps:=by
 unfold YV at h⊢;obtain⟨j,g⟩:=qM (by simp) h;rw[g]at h⊢;obtain⟨l,i⟩:=qM (by simp) h
 grind
theorem SmallQ.run {d:List Nmd}{q:Qry}(hs:SmallQ d q)(h:(YV d q).1=0):zJ (Uj d q)=0 /\QN d (Uj d q) q.steps /\(runQ d q).1=0 /\(runQ d q).2.cols=(YV d q).2 /\zJ (runQ d q).2=0 /\(runQ d q).2.rows.length<=2744 /\runQ d q=runT d (Uj d q) q.steps:=by
 obtain⟨j,J,t,l,e⟩:=atS h;have o:=Yy j l;have I:Uj d q=t:=by grind[Uj]
 have r:runQ d q=runT d t q.steps:=by grind[runQ]
 have g:t.rows.length<=14:=by
  obtain⟨x,p,rfl⟩:=Km l;exact hs.rows x p
 have i:14*14^joins q.steps<=2744:=by
  have:14^joins q.steps<=14^2:=Nat.pow_le_pow_right (by omega) hs.two;omega
 obtain⟨P,R,_⟩:=avI j hs.rows q.steps t 14 hs.sm o (by omega) g i
 grind
end
section
attribute [local irreducible] Sat zQ yv
theorem arP {d:List Nmd}{cols:List Col}{st:Stp}(J:cols.length<=1000):(yw d cols st).2.length<=1000:=by
 by_cases h:(yw d cols st).1=0
 ·have i:=Vl h;have g:=k9 i;have g:st.op=1\/st.op=2\/st.op=3\/st.op=4\/st.op=5\/(st.op=6\/st.op=7\/st.op=8)\/st.op=9:=by omega
  rcases g with g|g|g|g|g|g|g
  ·grind[azV]
  ·obtain⟨P,I⟩:=auP i g;rw[azR g h];have: ∀l:List Itm,(qi cols l).2.length<=l.length:=by
    intro l;induction l with
    |nil=>exact Nat.le_refl _
    |cons x r R=>
     simp only[qi];cases((x.e.ty cols).2 !=0)
     ·cases((x.e.ty cols).1==0)
      ·cases((qi cols r).1 !=0)<;>simp_all
      simp_all
     simp_all
   grind
  ·obtain⟨g1,g2,g3⟩:=amT g h;obtain⟨m1,T,_,_⟩:=auQ i g<;>grind[takeC,afv]
  ·simp_all[amU]
  ·grind[azS]
  ·have p:=u0 g h;rw[p]at h⊢;obtain⟨b,_,j⟩:=Zs h;rw[j.eq];have:=j.few;omega
  ·have o:=aiI g h;rw[o]at h⊢;have j:=ahh h;obtain⟨m1,_⟩:=auR i g;rw[j.eq,List.length_append]
   grind[takeC]
 ·rw[arQ h];simp_all
theorem aea {q:Qry}(h:q.err=0):q.steps.length<=16:=by
 unfold Qry.err at h;rw[YZ (by omega),YZ (by omega)]at h
 grind
theorem aj7 (d:List Nmd)(j:ByteArray)(l:List Stp)(hs: ∀s∈l,s.Sm)(R:xp d=0)(T:Qry.err ⟨j,l⟩=0)(tc:List Col)(tr:List (List Val))(hf:zO j d=some ⟨tc,tr⟩)(y:Int×List Col)(hy:ZC d tc l=y):Sat Pg uK [.c (.d (.sl (zK d))),Qry.w ⟨j,l⟩] (λr=>r=xK y):=by
 have hc:=uY d;have hq:=adh ⟨j,l⟩ (λs h=>Nat.le_trans (hs s h).sorts (by omega));have J:=qT d j;have hT:=λcols (hl:cols.length<=1000) i (hi:i<l.length)=>UX d cols l[i] (hs _ (List.getElem_mem hi)).ok (by omega) (λb hb=>by grind[U4])
 have ae:l.length<=16:=aea T;have hX:tc.length<=32:=U4 R hf;have o:=wQ tc (by omega);rw[R]at hc;rw[T]at hq;rw[hf]at J;clear hf R T;refine zE ?_;refine vF.s T8 ?_;refine Sat.w hc ?_;refine Sat.w hq ?_;refine Sat.w J ?_;refine Sat.w o ?_;refine yQ (P:=Pg) (f:=T8.f) (body:=(vF.l 0)) (λz:Nat×List Col=>⟨[(0,.w (.c (.d (.sl (zK d))))),(10,.w (.c (.d (.sl (zi z.2))))),(38,.w (.c (.d (.sl (ZO l))))),(39,zj (ZO l).length),(40,zj z.1)],[]⟩) (λz=>l.length - z.1) (λz=>z.1<=l.length /\z.2.length<=1000 /\y=ZC d z.2 (l.drop z.1)) ⟨(0,tc),⟨Nat.zero_le _,by grind,hy.symm⟩,zf ?_⟩ ?_
 ·exact rfl
 ·rintro⟨i,cols⟩ hz;obtain⟨hi,o,p⟩:i<=l.length /\cols.length<=1000 /\y=ZC d cols (l.drop i):=hz;clear hy;refine zh (λh3=>?_) (λh3=>?_)
  ·have g:i<l.length:=by simp_all[qh]
   have hT:=hT cols o i g;have hg:=YT g;have wi:IntKind.i64.wrap ((i:Int)+1)=((i+1:Nat):Int):=zt g (by omega);rw[zo g]at p;simp only[ZC]at p;have I:=arP (d:=d) (st:=l[i]) o;generalize l[i]=s at*;generalize yw d cols s=x at*;obtain⟨x1,x2⟩:=x;obtain⟨op,⟨eo,nm,⟨vk,vn,vs⟩,ks⟩,ab,af,ac,ad,sn,tb⟩:=s;(conv=>whnf);refine⟨by omega,_,hg,rfl,?_⟩;refine Sat.w hT ?_;refine zp (b:=x1 !=0) (λU=>?_) (λU=>?_)
   ·simp only[U,cond_true]at p;subst p;exact⟨rfl,rfl⟩
   ·simp only[U,cond_false]at p;(conv=>whnf);refine⟨(i+1,x2),⟨⟨g,I,p⟩,by grind⟩,zf ?_⟩;(conv=>whnf);rw[wi];rfl
  ·have aa:l.length<=i:=by grind[qh]
   rw[List.drop_eq_nil_of_le aa]at p;subst p;exact⟨rfl,rfl⟩
theorem aqI (d:List Nmd)(q:Qry)(hs: ∀s∈q.steps,s.Sm):Sat Pg uK [.c (.d (.sl (zK d))),q.w] (λr=>r=xK (YV d q)):=by
 obtain⟨g,l⟩:=q;have hs: ∀s∈l,s.Sm:=hs;have p:=uY d;have R:=adh ⟨g,l⟩ (λs h=>Nat.le_trans (hs s h).sorts (by omega));have I:=qT d g;unfold YV;by_cases i:xp d=0
 ·by_cases J:Qry.err ⟨g,l⟩=0
  ·cases P:zO g d with
   |some t=>
    obtain⟨tc,T⟩:=t;have:=aj7 d g l hs i J tc T P _ rfl
    grind
   |none=>
    rw[i]at p;rw[J]at R;rw[P]at I;rw[i,J];simp only[P];refine zE ?_;refine vF.s T8 ?_;refine Sat.w p ?_;refine Sat.w R ?_;refine Sat.w I ?_;exact⟨rfl,rfl⟩
  ·have o:(Qry.err ⟨g,l⟩ !=0)=true:=by grind
   rw[i]at p;rw[i,o];simp only[bne_self_eq_false,cond_true,cond_false];generalize Qry.err ⟨g,l⟩=e2 at*;refine zE ?_;refine vF.s T8 ?_;refine Sat.w p ?_;refine Sat.w R ?_;rw[o];exact⟨rfl,rfl⟩
 ·have j:(xp d !=0)=true:=by grind
  rw[j];simp only[cond_true];generalize xp d=U at*;refine zE ?_;refine vF.s T8 ?_;refine Sat.w p ?_;rw[j];exact⟨rfl,rfl⟩
theorem atp (d:List Nmd)(j:ByteArray)(l:List Stp)(y2:List Col)(ae:l.length<=16)(hQ:Sat Pg uK [.c (.d (.sl (zK d))),Qry.w ⟨j,l⟩] (λr=>r=xK (0,y2)))(tc:List Col)(U:List (List Val))(hf:zO j d=some ⟨tc,U⟩)(J:QN d ⟨tc,U⟩ l)(y:Int×Tbl)(hy:runT d ⟨tc,U⟩ l=y):
 Sat Pg Z6 [.c (.d (.sl (zK d))),Qry.w ⟨j,l⟩] (λr=>r=rTT y):=by
 have I:=qT d j;rw[hf]at I;clear hf;have p:=λt s h1 h2 R=>adi d t s h1 h2 R
 refine zE ?_;refine Xz.s T8 ?_;refine Sat.w hQ ?_;refine Sat.w I ?_;refine yQ (P:=Pg) (f:=T8.f) (body:=(Xz.l 0)) (λz:Nat×Tbl=>⟨[(0,.w (.c (.d (.sl (zK d))))),(4,cV (.ptr 4 0)),(8,cV (.ptr 8 0)),(32,.w (.c (.d (.sl (ZO l))))),(33,zj (ZO l).length),(34,zj z.1)],[(4,.box [.nil,.nil]),(8,.box [.d (.sl (zi z.2.cols)),.d (.sl (zd z.2.rows))])]⟩) (λz=>l.length - z.1) (λz=>z.1<=l.length /\QN d z.2 (l.drop z.1)/\y=runT d z.2 (l.drop z.1)) ⟨(0,⟨tc,U⟩),⟨Nat.zero_le _,J,hy.symm⟩,zf ?_⟩ ?_
 ·exact rfl
 ·rintro⟨i,⟨c,T⟩⟩ hz;obtain⟨hi,hK,o⟩:i<=l.length /\QN d ⟨c,T⟩ (l.drop i)/\y=runT d ⟨c,T⟩ (l.drop i):=hz;clear hy;refine zh (λR=>?_) (λR=>?_)
  ·have g:i<l.length:=by have:=of_decide_eq_true R;grind[qh]
   have hg:=YT g;have wi:IntKind.i64.wrap ((i:Int)+1)=((i+1:Nat):Int):=zt g (by omega);rw[zo g]at o hK;simp only[runT]at o;obtain⟨k1,k2,k3,k4⟩:=hK;have p:=p ⟨c,T⟩ l[i] k3 k1 k2;generalize l[i]=s at*;generalize nStepT d ⟨c,T⟩ s=x at*;obtain⟨x1,⟨x2,x3⟩⟩:=x;obtain⟨op,⟨eo,nm,⟨vk,vn,vs⟩,ks⟩,ab,af,ac,ad,sn,tb⟩:=s;(conv=>whnf);refine⟨by omega,_,hg,rfl,?_⟩;refine Sat.w p ?_;refine zp (b:=x1 !=0) (λh4=>?_) (λh4=>?_)
   ·simp only[h4,cond_true]at o;subst o;exact⟨rfl,rfl⟩
   ·simp only[h4,cond_false]at o;(conv=>whnf);refine⟨(i+1,⟨x2,x3⟩),⟨⟨g,k4 (by grind),o⟩,by grind⟩,zf ?_⟩;(conv=>whnf);rw[wi];rfl
  ·have aa:l.length<=i:=by grind[qh]
   rw[List.drop_eq_nil_of_le aa]at o;subst o;exact⟨rfl,rfl⟩
theorem aqF (d:List Nmd)(g:ByteArray)(l:List Stp)(i:Int)(p:List Col)(j:(i !=0)=true)(o:Sat Pg uK [.c (.d (.sl (zK d))),Qry.w ⟨g,l⟩] (λr=>r=xK (i,p))):Sat Pg Z6 [.c (.d (.sl (zK d))),Qry.w ⟨g,l⟩] (λr=>r=rTT (i,⟨[],[]⟩)):=by
 refine zE ?_;refine Xz.s T8 ?_;refine Sat.w o ?_;rw[j];exact⟨rfl,rfl⟩
theorem aAN (d:List Nmd)(q:Qry)(hs: ∀s∈q.steps,s.Sm)(g:(YV d q).1=0 ->QN d (Uj d q) q.steps):Sat Pg Z6 [.c (.d (.sl (zK d))),q.w] (λr=>r=rTT (runQ d q)):=by
 have I:=aqI d q hs;unfold runQ;by_cases p:(YV d q).1=0
 ·obtain⟨_,J,t,P,_⟩:=atS p;have o:Uj d q=t:=by grind[Uj]
  have g:=g p;rw[p];rw[show YV d q=(0,(YV d q).2)by grind]at I;rw[o]at g⊢;obtain⟨tc,R⟩:=t;obtain⟨i,l⟩:=q;exact atp d i l _ (aea J) I tc R P g _ rfl
 ·have j:((YV d q).1 !=0)=true:=by grind
  rw[j];obtain⟨i,l⟩:=q;exact aqF d i l _ _ j I
def aiv (d:List Nmd):Bool:=xe (λx=>!decide ((x.t.rows.length:Int)>14)) d
theorem avU (d:List Nmd):Sat Pg al1 [.c (.d (.sl (zK d)))] (λr=>r=rB (aiv d)):=by
 unfold aiv;refine xF 0 (by kernel_rfl) rfl λo=>?_
 rw[wP]at o;refine abp.s T8 ?_;refine vu T8 (abp.l 0) d.length (λi=>⟨[(0,.w (.c (.d (.sl (zK d))))),(3,zj i)],[]⟩) (λi=>xe (λx:Nmd=>!decide ((x.t.rows.length:Int)>14)) d=xe (λx:Nmd=>!decide ((x.t.rows.length:Int)>14)) (d.drop i)) ?_
 ·intro i R g;(conv=>whnf);rw[wP];refine vB (λj=>?_) (λI=>?_)
  ·rw[zo j]at g;have J:=Qi j;have P:=zt j o;simp only[xe]at g;generalize d[i]=x at*;obtain⟨xn,⟨T,U⟩⟩:=x;simp only at g;refine zI J ?_;rw[zq];refine zp (λp=>?_) (λp=>?_)
   ·rw[p]at g;(conv=>whnf);exact congrArg rB g.symm
   ·rw[p]at g;refine yt j g ?_;rw[P];rfl
  ·rw[List.drop_eq_nil_of_le I]at g;(conv=>whnf);exact congrArg rB g.symm
def acs (x:Nmd):Bool:=!(decide ((x.nm.size:Int)>300)|| !JC x.t)
def Y4 (d:List Nmd):Bool:=bif decide ((d.length:Int)>10)then false else xe acs d
theorem afc (d:List Nmd):Sat Pg ahL [.c (.d (.sl (zK d)))] (λr=>r=rB (Y4 d)):=by
 unfold Y4;refine xF 0 (by kernel_rfl) rfl λo=>?_
 rw[wP]at o;refine Kd.s T8 ?_;rw[wP];refine zp (λh0=>?_) (λh0=>?_)
 ·rw[h0];exact rfl
 ·rw[h0];refine vu T8 (Kd.l 0) d.length (λi=>⟨[(0,.w (.c (.d (.sl (zK d))))),(3,zj i)],[]⟩) (λi=>xe acs d=xe acs (d.drop i)) ?_
  ·intro i hi g;(conv=>whnf);rw[wP];refine vB (λj=>?_) (λp=>?_)
   ·rw[zo j]at g;have J:=Qi j;have R:=zt j o;simp only[xe]at g;have P:=adg d[i].t;unfold acs at g;generalize d[i]=x at*;obtain⟨xn,⟨T,U⟩⟩:=x;simp only at g;generalize JC ⟨T,U⟩=b at*;refine zI J ?_;cases I:decide ((xn.size:Int)>300)with
    |true=>
     rw[I]at g;(conv=>whnf);exact congrArg rB g.symm
    |false=>
     rw[I]at g;refine zI J ?_;refine Sat.cal (P) ?_;cases b with
     |false=>
      (conv=>whnf);exact congrArg rB g.symm
     |true=>
      refine yt j g ?_;rw[R];rfl
   ·rw[List.drop_eq_nil_of_le p]at g;(conv=>whnf);exact congrArg rB g.symm
theorem asQ {l:List Stp}{i:Nat}(h:i<l.length):joins (l.take (i+1))=joins (l.take i)+(bif zl l[i].table ⟨#[]⟩then 0 else 1):=by
 grind[List.take_append_getElem,akJ,joins]
theorem axW (l:List Stp):joins l<=l.length:=by
 induction l with
 |nil=>exact Nat.le_refl _
 |cons x r g=>
  simp only[joins,List.length_cons];cases zl x.table ⟨#[]⟩
  ·simp only[cond_false];omega
  ·simp only[cond_true];omega
def aaC (d:List Nmd)(q:Qry):Bool:=bif !Y4 d|| !q.few||decide ((q.steps.length:Int)>10)then false else decide ((joins q.steps:Int)<=2)
theorem avQ (d:List Nmd)(q:Qry):Sat Pg aqv [.c (.d (.sl (zK d))),q.w] (λr=>r=rB (aaC d q)):=by
 have I:=afc d;have h2:=aAJ q;unfold aaC;generalize Y4 d=b1 at*;generalize q.few=b2 at*;obtain⟨p,l⟩:=q;simp only;cases b1 with
 |false=>
  refine XB.s T8 ?_;refine Sat.w I ?_;rfl
 |true=>
  cases b2 with
  |false=>
   refine XB.s T8 ?_;refine Sat.w I ?_;refine Sat.w h2 ?_;rfl
  |true=>
   refine XB.s T8 ?_;refine Sat.w I ?_;refine Sat.w h2 ?_;rw[qh];cases h3:decide ((l.length:Int)>10)with
   |true=>
    exact rfl
   |false=>
    have hl:l.length<=10:=by grind
    refine vu T8 (XB.l 0) l.length (λi=>⟨[(3,cV (.ptr 3 0)),(5,zj (joins (l.take i))),(6,zj i)],[(3,.box [str p,.d (.sl (ZO l))])]⟩) (λ_=>True) ?_
    ·intro i hi _;have j:=λh=>asQ (l:=l) (i:=i) h
     have o:i=l.length ->joins (l.take i)=joins l:=λh=>by grind
     have P:=axW (l.take i);rw[List.length_take]at P;show mwpR Pg T8.f (XB.l 0) _ ⟨[(3,cV (.ptr 3 0)),(5,zj (joins (l.take i))),(6,zj i)],[(3,.box [str p,.d (.sl (ZO l))])]⟩;generalize joins (l.take i)=n at*;(conv=>whnf);rw[qh];refine KO (λg=>?_) (λJ=>?_)
     ·have j:=j g;have hg:=YT g;have wi:=zt g (by omega);generalize l[i]=s at*;obtain⟨op,⟨eo,nm,⟨vk,vn,vs⟩,ks⟩,R,aa,T,U,sn,tb⟩:=s;simp only at j;refine zI hg ?_;refine zh (b:=!zl tb ⟨#[]⟩) (λk2=>?_) (λk2=>?_)
      ·rw[show zl tb ⟨#[]⟩=false by grind,cond_false]at j;have wn:IntKind.i64.wrap ((n:Int)+1)=((n+1:Nat):Int):=zt (show n<n+1 by omega) (by omega);refine yt g trivial ?_;rw[wi,wn,j];rfl
      ·rw[show zl tb ⟨#[]⟩=true by grind,cond_true]at j;refine yt g trivial ?_;rw[wi,j];rfl
     ·have e:=o J;(conv=>whnf);rw[e];rfl
end
section
attribute [local irreducible] Sat zQ yv zl
theorem aab (d:List Nmd)(t:Tbl)(st:Stp)(hk:st.R)(hr:t.rows.length<20000)(g:st.op=6\/st.op=7 ->st.err=0 ->t.rows.length*(wI d st).rows.length<=20000):
 Sat Pg YE [.c (.d (.sl (zK d))),t.w,.agg st.cs] (λr=>r=rTT (nStepT d t st)):=by
 have T:=YO d;have ht:=ug t;unfold nStepT;by_cases o:xp d=0
 ·by_cases I:zJ t=0
  ·have fa:=xO I;have hT:=Xc d t.cols st hk (by omega) (λb hb=>by grind[U4]);unfold ux at hT;rw[o]at T;rw[I]at ht;rw[o,I];by_cases P:(yw d t.cols st).1=0
   ·have hA:=amu aCq d t st hk o I P hr (λac=>g ac (Vl P));rw[P];rw[show yw d t.cols st=(0,(yw d t.cols st).2)from Prod.ext P rfl]at hT;show Sat Pg YE _ (λr=>r=qb ⟨(yw d t.cols st).2,stR d t st⟩ 0);generalize(yw d t.cols st).2=R at*;generalize stR d t st=rows at*;clear hk hr g o I P fa;refine zE ?_;obtain⟨tc,tr⟩:=t;obtain⟨op,⟨eo,nm,⟨vk,vn,vs⟩,ks⟩,i,J,j,l,sn,tb⟩:=st;refine QZ.s T9 ?_;refine Sat.w T ?_;refine Sat.w ht ?_;refine Sat.w hT ?_;refine Sat.w hA ?_;exact⟨rfl,rfl⟩
   ·have p:((yw d t.cols st).1 !=0)=true:=by grind
    rw[p];show Sat Pg YE _ (λr=>r=qb ⟨[],[]⟩ (yw d t.cols st).1);generalize yw d t.cols st=x at*;obtain⟨x1,x2⟩:=x;have p:(x1 !=0)=true:=p;clear hk hr g o I P fa;refine zE ?_;obtain⟨tc,tr⟩:=t;obtain⟨op,⟨eo,nm,⟨vk,vn,vs⟩,ks⟩,i,J,j,l,sn,tb⟩:=st;refine QZ.s T9 ?_;refine Sat.w T ?_;refine Sat.w ht ?_;refine Sat.w hT ?_;rw[p];exact⟨rfl,rfl⟩
  ·have aa:(zJ t !=0)=true:=by grind
   rw[o]at T;rw[o,aa];show Sat Pg YE _ (λr=>r=qb ⟨[],[]⟩ (zJ t));generalize zJ t=e at*;clear hk hr g o I;refine zE ?_;obtain⟨tc,tr⟩:=t;obtain⟨op,⟨eo,nm,⟨vk,vn,vs⟩,ks⟩,i,J,j,l,sn,tb⟩:=st;refine QZ.s T9 ?_;refine Sat.w T ?_;refine Sat.w ht ?_;rw[aa];exact⟨rfl,rfl⟩
 ·have U:(xp d !=0)=true:=by grind
  have ab:(xp d==0)=false:=by grind
  rw[U];show Sat Pg YE _ (λr=>r=qb ⟨[],[]⟩ (xp d));generalize xp d=e at*;clear hk hr g o ht;refine zE ?_;obtain⟨tc,tr⟩:=t;obtain⟨op,⟨eo,nm,⟨vk,vn,vs⟩,ks⟩,i,J,j,l,sn,tb⟩:=st;refine QZ.s T9 ?_;refine Sat.w T ?_;rw[ab];(conv=>whnf);rw[U];exact⟨rfl,rfl⟩
theorem adn (d:List Nmd)(g:ByteArray)(l:List Stp)(hs: ∀s∈l,s.R)(T:g.size<=9223372036854775807)(h1:xp d=0)(h2:Qry.err ⟨g,l⟩=0)(tc:List Col)(tr:List (List Val))(hf:zO g d=some ⟨tc,tr⟩)(y:Int×List Col)(hy:ZC d tc l=y):Sat Pg ZX [.c (.d (.sl (zK d))),Qry.w ⟨g,l⟩] (λr=>r=xK y):=by
 have hc:=YO d;have hq:=KX ⟨g,l⟩ hs T;have J:=qC d g;have U:=λcols (hl:cols.length<=1000) i (hi:i<l.length)=>Xc d cols l[i] (hs _ (List.getElem_mem hi)) (by omega) (λb hb=>by grind[U4])
 have ae:l.length<=16:=aea h2;have hX:tc.length<=32:=U4 h1 hf;unfold ux at U;rw[h1]at hc;rw[h2]at hq;rw[hf]at J;clear hf h1 h2 T;refine zE ?_;refine ZV.s T9 ?_;refine Sat.w hc ?_;refine Sat.w hq ?_;refine Sat.w J ?_;refine yQ (P:=Pg) (f:=T9.f) (body:=(ZV.l 0)) (λz:Nat×List Col=>⟨[(0,.w (.c (.d (.sl (zK d))))),(3,cV (.ptr 3 0)),(9,.w (.c (.d (.sl (zi z.2))))),(10,zj z.1)],[(3,.box [.d (.lit (.string g)),.d (.sl (ZO l))])]⟩) (λz=>l.length - z.1) (λz=>z.1<=l.length /\z.2.length<=1000 /\y=ZC d z.2 (l.drop z.1)) ⟨(0,tc),⟨Nat.zero_le _,by grind,hy.symm⟩,zf ?_⟩ ?_
 ·exact rfl
 ·rintro⟨i,cols⟩ hz;obtain⟨hi,p,o⟩:i<=l.length /\cols.length<=1000 /\y=ZC d cols (l.drop i):=hz;clear hy;refine zh (λh3=>?_) (λh3=>?_)
  ·have j:i<l.length:=by simp_all[qh]
   have U:=U cols p i j;have hg:=YT j;have wi:IntKind.i64.wrap ((i:Int)+1)=((i+1:Nat):Int):=zt j (by omega);rw[zo j]at o;simp only[ZC]at o;have I:=arP (d:=d) (st:=l[i]) p;generalize yw d cols l[i]=x at*;generalize l[i]=s at*;obtain⟨x1,x2⟩:=x;obtain⟨op,⟨eo,nm,⟨vk,vn,vs⟩,ks⟩,ab,af,ac,ad,sn,tb⟩:=s;(conv=>whnf);refine⟨by omega,_,hg,rfl,?_⟩;refine Sat.w U ?_;refine zp (b:=x1 !=0) (λh4=>?_) (λh4=>?_)
   ·simp only[h4,cond_true]at o;subst o;exact⟨rfl,rfl⟩
   ·simp only[h4,cond_false]at o;(conv=>whnf);refine⟨(i+1,x2),⟨⟨j,I,o⟩,by grind⟩,zf ?_⟩;(conv=>whnf);rw[wi];rfl
  ·have aa:l.length<=i:=by grind[qh]
   rw[List.drop_eq_nil_of_le aa]at o;subst o;exact⟨rfl,rfl⟩
theorem ain (d:List Nmd)(q:Qry)(hs: ∀s∈q.steps,s.R)(i:q.src.size<=9223372036854775807):Sat Pg ZX [.c (.d (.sl (zK d))),q.w] (λr=>r=xK (YV d q)):=by
 obtain⟨g,l⟩:=q;have hs: ∀s∈l,s.R:=hs;have i:g.size<=9223372036854775807:=i;have I:=YO d;have hq:=KX ⟨g,l⟩ hs i;have J:=qC d g;unfold YV;by_cases j:xp d=0
 ·by_cases T:Qry.err ⟨g,l⟩=0
  ·cases U:zO g d with
   |some t=>
    obtain⟨tc,tr⟩:=t;have:=adn d g l hs i j T tc tr U _ rfl
    grind
   |none=>
    rw[j]at I;rw[T]at hq;rw[U]at J;rw[j,T];simp only[U];refine zE ?_;refine ZV.s T9 ?_;refine Sat.w I ?_;refine Sat.w hq ?_;refine Sat.w J ?_;exact⟨rfl,rfl⟩
  ·have p:(Qry.err ⟨g,l⟩ !=0)=true:=by grind
   rw[j]at I;rw[j,p];simp only[bne_self_eq_false,cond_true,cond_false];generalize Qry.err ⟨g,l⟩=e2 at*;refine zE ?_;refine ZV.s T9 ?_;refine Sat.w I ?_;refine Sat.w hq ?_;rw[p];exact⟨rfl,rfl⟩
 ·have o:(xp d !=0)=true:=by grind
  have P:(xp d==0)=false:=by grind
  rw[o];simp only[cond_true];generalize xp d=e1 at*;refine zE ?_;refine ZV.s T9 ?_;refine Sat.w I ?_;rw[P];(conv=>whnf);rw[o];exact⟨rfl,rfl⟩
theorem agw (d:List Nmd)(j:ByteArray)(l:List Stp)(y2:List Col)(ae:l.length<=16)(hQ:Sat Pg ZX [.c (.d (.sl (zK d))),Qry.w ⟨j,l⟩] (λr=>r=xK (0,y2)))(tc:List Col)(U:List (List Val))(hf:zO j d=some ⟨tc,U⟩)(J:QN d ⟨tc,U⟩ l)(hs: ∀s∈l,s.R)(y:Int×Tbl)(hy:runT d ⟨tc,U⟩ l=y):
 Sat Pg ko [.c (.d (.sl (zK d))),Qry.w ⟨j,l⟩] (λr=>r=rTT y):=by
 have I:=qC d j;rw[hf]at I;clear hf;have p:=λt i (hi:i<l.length) h1 h2=>aab d t (l[i]'hi) (hs _ (List.getElem_mem hi)) h1 h2
 refine zE ?_;refine kj.s T9 ?_;refine Sat.w hQ ?_;refine Sat.w I ?_;refine yQ (P:=Pg) (f:=T9.f) (body:=(kj.l 0)) (λz:Nat×Tbl=>⟨[(0,.w (.c (.d (.sl (zK d))))),(3,cV (.ptr 3 0)),(4,cV (.ptr 4 0)),(8,cV (.ptr 8 0)),(10,zj z.1)],[(3,.box [.d (.lit (.string j)),.d (.sl (ZO l))]),(4,.box [.nil,.nil]),(8,.box [.d (.sl (zi z.2.cols)),.d (.sl (zd z.2.rows))])]⟩) (λz=>l.length - z.1) (λz=>z.1<=l.length /\QN d z.2 (l.drop z.1)/\y=runT d z.2 (l.drop z.1)) ⟨(0,⟨tc,U⟩),⟨Nat.zero_le _,J,hy.symm⟩,zf ?_⟩ ?_
 ·exact rfl
 ·rintro⟨i,⟨c,T⟩⟩ hz;obtain⟨hi,hK,o⟩:i<=l.length /\QN d ⟨c,T⟩ (l.drop i)/\y=runT d ⟨c,T⟩ (l.drop i):=hz;clear hy;refine zh (λh3=>?_) (λh3=>?_)
  ·have g:i<l.length:=by have:=of_decide_eq_true h3;grind[qh]
   have hg:=YT g;have wi:IntKind.i64.wrap ((i:Int)+1)=((i+1:Nat):Int):=zt g (by omega);rw[zo g]at o hK;simp only[runT]at o;obtain⟨k1,k2,k3,k4⟩:=hK;have p:=p ⟨c,T⟩ i g k1 k2;generalize nStepT d ⟨c,T⟩ l[i]=x at*;generalize l[i]=s at*;obtain⟨x1,⟨x2,x3⟩⟩:=x;obtain⟨op,⟨eo,nm,⟨vk,vn,vs⟩,ks⟩,ab,af,ac,ad,sn,tb⟩:=s;(conv=>whnf);refine⟨by omega,_,hg,rfl,?_⟩;refine Sat.w p ?_;refine zp (b:=x1 !=0) (λh4=>?_) (λh4=>?_)
   ·simp only[h4,cond_true]at o;subst o;exact⟨rfl,rfl⟩
   ·simp only[h4,cond_false]at o;(conv=>whnf);refine⟨(i+1,⟨x2,x3⟩),⟨⟨g,k4 (by grind),o⟩,by grind⟩,zf ?_⟩;(conv=>whnf);rw[wi];rfl
  ·have aa:l.length<=i:=by grind[qh]
   rw[List.drop_eq_nil_of_le aa]at o;subst o;exact⟨rfl,rfl⟩
theorem aeM (d:List Nmd)(g:ByteArray)(l:List Stp)(i:Int)(p:List Col)(j:(i !=0)=true)(o:Sat Pg ZX [.c (.d (.sl (zK d))),Qry.w ⟨g,l⟩] (λr=>r=xK (i,p))):Sat Pg ko [.c (.d (.sl (zK d))),Qry.w ⟨g,l⟩] (λr=>r=rTT (i,⟨[],[]⟩)):=by
 refine zE ?_;refine kj.s T9 ?_;refine Sat.w o ?_;rw[j];exact⟨rfl,rfl⟩
theorem amF (d:List Nmd)(q:Qry)(hs: ∀s∈q.steps,s.R)(o:q.src.size<=9223372036854775807)(g:(YV d q).1=0 ->QN d (Uj d q) q.steps):Sat Pg ko [.c (.d (.sl (zK d))),q.w] (λr=>r=rTT (runQ d q)):=by
 have j:=ain d q hs o;unfold runQ;by_cases l:(YV d q).1=0
 ·obtain⟨P,J,⟨tc,p⟩,z3,z4⟩:=atS l;have g:=g l;rw[l];have I:Uj d q=⟨tc,p⟩:=by grind[Uj]
  rw[I]at g⊢;have j:Sat Pg ZX [.c (.d (.sl (zK d))),Qry.w ⟨q.src,q.steps⟩] (λr=>r=xK (0,(YV d q).2)):=by
   rw[show YV d q=(0,(YV d q).2)from Prod.ext l rfl]at j;exact j
  exact agw d q.src q.steps _ (aea J) j tc p z3 g hs _ rfl
 ·have i:((YV d q).1 !=0)=true:=by grind
  rw[i];exact aeM d q.src q.steps _ (YV d q).2 i j
theorem ab4 {α:Type}{p:α ->Bool}: ∀{l:List α},xe p l=true -> ∀x∈l,p x=true
 | [],_,x,g=>by cases g
 |a::r,h,x,g=>by
  simp only[xe]at h;cases i:p a
  ·grind
  ·rw[i,cond_true]at h;rcases List.mem_cons.1 g with rfl|g
   ·exact i
   ·exact ab4 h x g
theorem auU {s:Stp}(h:s.few=true):s.Sm:=by
 unfold Stp.few at h;cases g:(((((!s.cond.small||decide ((s.items.length:Int)>30))||decide ((s.cols.length:Int)>30))||decide ((s.aggs.length:Int)>30))||decide ((s.sorts.length:Int)>30))||decide ((s.table.size:Int)>300))
 ·simp only[Bool.or_eq_false_iff,decide_eq_false_iff_not]at g;obtain⟨⟨⟨⟨⟨_,i⟩,j⟩,l⟩,o⟩,_⟩:=g;exact⟨by omega,by omega,by omega,by omega⟩
 grind
theorem aAE {q:Qry}(h:q.few=true): ∀s∈q.steps,s.Sm:=by
 unfold Qry.few at h;cases g:(decide ((q.steps.length:Int)>30)||decide ((q.src.size:Int)>300))
 ·rw[g,cond_false]at h
  grind[auU,ab4]
 grind
theorem aqc {d:List Nmd}{q:Qry}(h:aaC d q=true)(hs:aiv d=true):SmallQ d q:=by
 unfold aaC at h;cases g:(!Y4 d|| !q.few||decide ((q.steps.length:Int)>10))
 ·rw[g,cond_false]at h;simp only[Bool.or_eq_false_iff,Bool.not_eq_false']at g;refine⟨λx i=>?_,by have:=of_decide_eq_true h;omega,aAE g.1.2⟩;have:=ab4 hs x i<;>grind
 grind
theorem aeY {t:Tbl}(h:JC t=true):t.rows.length<=40:=by
 grind[JC]
theorem anW {d:List Nmd}(h:Y4 d=true): ∀x∈d,x.t.rows.length<=40:=by
 intro x i;unfold Y4 at h;cases g:decide ((d.length:Int)>10)
 ·rw[g,cond_false]at h
  grind[aao,acs,aeY]
 grind
theorem asa {d:List Nmd}(g: ∀x∈d,x.t.rows.length<=40)(s:Stp):(wI d s).rows.length<=40:=by
 unfold wI;cases i:zO s.table d with
 |none=>simp_all
 |some b=>
  grind[Km]
theorem amx (d:List Nmd)(t:Tbl)(st:Stp)(aa: ∀s∈st.sorts,s.col.size<=9223372036854775807):Sat Pg acH [.c (.d (.sl (zK d))),t.w,st.w] (λr=>r=rB true):=by
 have g:=ak8;have o:=afc d;have I:=adg t;have U:=afd st;cases J:Y4 d with
 |false=>
  rw[J]at o;obtain⟨op,⟨eo,nm,⟨vk,vn,vs⟩,ks⟩,i,p,j,l,sn,tb⟩:=st;refine jr.s T8 ?_;refine Sat.w g ?_;refine Sat.w o ?_;refine Sat.w g ?_;rfl
 |true=>
  cases P:JC t with
  |false=>
   rw[J]at o;rw[P]at I;obtain⟨op,⟨eo,nm,⟨vk,vn,vs⟩,ks⟩,i,p,j,l,sn,tb⟩:=st;refine jr.s T8 ?_;refine Sat.w g ?_;refine Sat.w o ?_;refine Sat.w I ?_;refine Sat.w g ?_;rfl
  |true=>
   cases T:st.few with
   |false=>
    rw[J]at o;rw[P]at I;rw[T]at U;obtain⟨op,⟨eo,nm,⟨vk,vn,vs⟩,ks⟩,i,p,j,l,sn,tb⟩:=st;refine jr.s T8 ?_;refine Sat.w g ?_;refine Sat.w o ?_;refine Sat.w I ?_;refine Sat.w U ?_;refine Sat.w g ?_;rfl
   |true=>
    have hR:st.R:=⟨T,aa⟩;have r1:=aeY P;have hm:t.rows.length*(wI d st).rows.length<=20000:=by
     have r2:=asa (anW J) st;have:t.rows.length*(wI d st).rows.length<=40*40:=Nat.mul_le_mul r1 r2;omega
    have hA:=adi d t st (auU T) (by omega) (λ_ _=>hm);have hB:=aab d t st hR (by omega) (λ_ _=>hm);have hE:=gZ (nStepT d t st).2 (nStepT d t st).2;rw[aih]at hE;rw[J]at o;rw[P]at I;rw[T]at U;obtain⟨op,⟨eo,nm,⟨vk,vn,vs⟩,ks⟩,i,p,j,l,sn,tb⟩:=st;refine jr.s T8 ?_;refine Sat.w g ?_;refine Sat.w o ?_;refine Sat.w I ?_;refine Sat.w U ?_;refine Sat.w hA ?_;refine Sat.w hB ?_;rw[beq_self_eq_true];refine Sat.w hE ?_;rfl
theorem auT {d:List Nmd}{q:Qry}(h:aaC d q=true): ∀s∈q.steps,s.few=true:=by
 unfold aaC at h;cases i:(!Y4 d|| !q.few||decide ((q.steps.length:Int)>10))
 ·simp only[Bool.or_eq_false_iff,Bool.not_eq_false']at i;have g:=i.1.2;unfold Qry.few at g;cases j:(decide ((q.steps.length:Int)>30)||decide ((q.src.size:Int)>300))
  ·rw[j,cond_false]at g
   grind[aao]
  grind
 grind
theorem aph (d:List Nmd)(q:Qry)(J:q.src.size<=9223372036854775807)(I: ∀s∈q.steps,∀r∈s.sorts,r.col.size<=9223372036854775807):Sat Pg aet [.c (.d (.sl (zK d))),q.w] (λr=>r=rB true):=by
 have g:=ak8;have i:=avQ d q;have l:=avU d;cases j:aaC d q with
 |false=>
  rw[j]at i;refine Xl.s T8 ?_;refine Sat.w g ?_;refine Sat.w i ?_;refine Sat.w g ?_;rfl
 |true=>
  cases o:aiv d with
  |false=>
   rw[j]at i;rw[o]at l;refine Xl.s T8 ?_;refine Sat.w g ?_;refine Sat.w i ?_;refine Sat.w l ?_;refine Sat.w g ?_;rfl
  |true=>
   have p:=aqc j o;have R:=auT j;have hA:=aAN d q p.sm (λh=>(p.run h).2.1);have hB:=amF d q (λs hs=>⟨R s hs,I s hs⟩) J (λh=>(p.run h).2.1);have P:=gZ (runQ d q).2 (runQ d q).2;rw[aih]at P;rw[j]at i;rw[o]at l;refine Xl.s T8 ?_;refine Sat.w g ?_;refine Sat.w i ?_;refine Sat.w l ?_;refine Sat.w hA ?_;refine Sat.w hB ?_;rw[beq_self_eq_true];refine Sat.w P ?_;rfl
end
end Go.Proofs.YtnlbmefhdiabcaaGreat
