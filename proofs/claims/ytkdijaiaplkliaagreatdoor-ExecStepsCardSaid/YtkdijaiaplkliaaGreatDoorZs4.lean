import Derived.Test.YtkdijaiaplkliaaGreatDoorZs3
set_option linter.unusedSimpArgs false
set_option linter.unusedVariables false
set_option maxRecDepth 100000
set_option maxHeartbeats 4000000
open _root_ renaming List->am,cond_false->aC,cond_true->aD,if_pos->aE,if_neg->aF,Option->aI
open List renaming cons_append->aA
open Nat renaming ble_eq_true_of_le->aB,blt->aG,beq->aH
namespace Go.AM
section
variable {α:Type}
theorem Z3 {x:Nat×α}{r:am (Nat×α)}(h:sortedB (x::r)=true):sortedB r=true:=by
 obtain⟨k,v⟩:=x;cases r<;>grind[sortedB]
theorem Yu: ∀{r:am (Nat×α)}{k:Nat}{v:α},sortedB ((k,v)::r)=true -> ∀m,m<=k ->aget r m=none
 | [],_,_,_,_,_=>rfl
 |(j,u)::r,k,v,h,m,l=>by
  have i:k<j:=by
   simp only[sortedB]at h;cases g:aG k j<;>rw[g]at h
   ·cases h
   simp_all
  rw[yb];rw[aF (by omega)];exact Yu (Z3 h) m (by omega)
theorem Qz {k:Nat}{v:α}{r:am (Nat×α)}(h:sortedB r=true)(l: ∀m,m<=k ->aget r m=none):sortedB ((k,v)::r)=true:=by
 cases r with
 |nil=>rfl
 |cons y r=>
  obtain⟨j,u⟩:=y;simp only[sortedB];have i:k<j:=by
   rcases Nat.lt_or_ge k j with g|g
   ·exact g
   have:=l j g<;>simp_all[yb]
  have o:aG k j=true:=aB i;rw[o];exact h
theorem amA {l:am (Nat×α)}(h:sortedB l=true)(n:Nat)(v:α):sortedB (yD n v l)=true:=by
 induction l with
 |nil=>rfl
 |cons x r p=>
  obtain⟨k,u⟩:=x;have o:=Z3 h;have I:=Yu h;unfold yD;by_cases hk:k=n
  ·simp_all[Qz]
  rw[y4 hk];cases i:aG n k
  ·simp only[aC];have g: ¬n<k:=λh=>by grind[aG,aB]
   refine Qz (p o) λm j=>?_
   rw[yA,aF (by omega)]
   grind
  simp only[aC,aD];have g:n<k:=Nat.le_of_ble_eq_true i;refine Qz h λm j=>?_
  rw[yb,aF (by omega)]
  grind
theorem agu {l:am (Nat×α)}(h:sortedB l=true)(f:Nat ->Bool):sortedB (y8 f l)=true:=by
 induction l<;>grind[Z3,Yu,y8,Qz,uO]
theorem agv: ∀{l m:am (Nat×α)},sortedB l=true ->sortedB m=true ->(∀k,aget l k=aget m k) ->l=m
 | [],[],_,_,_=>rfl
 | [],(k,v)::r,_,_,h=>by have:=h k;rw[yb,aE rfl]at this;cases this
 |(k,v)::r,[],_,_,h=>by have:=h k;rw[yb,aE rfl]at this;cases this
 |(k,v)::r,(j,u)::q,i,o,h=>by
  have g:k=j:=by
   have a:=h k;have b:=h j;rw[yb,aE rfl,yb]at a;rw[yb,yb,aE rfl]at b;by_cases e:k=j
   ·exact e
   rw[aF (Ne.symm e)]at a;rw[aF e]at b
   grind[Yu]
  subst g;have p:=h k;rw[yb,aE rfl,yb,aE rfl]at p;cases p;refine congrArg _ (agv (Z3 i) (Z3 o) λm=>?_);have I:=h m;rw[yb,yb]at I;by_cases e:k=m
  ·subst e;rw[Yu i k (Nat.le_refl _),Yu o k (Nat.le_refl _)]
  simp_all
end
theorem S.ext' {s t:S}(g:s.pl=t.pl)(i:sortedB s.sl=true)(j:sortedB t.sl=true)(l: ∀k,aget s.sl k=aget t.sl k):s=t:=by
 obtain⟨a,b⟩:=s;obtain⟨c,d⟩:=t<;>grind[agv]
theorem S.put_get (s:S)(d:aI Nat)(v:V)(k:Nat)(h:d≠some k):aget (s.put d v).sl k=aget s.sl k:=by
 cases d with
 |none=>rfl
 |some d=>
  show aget (yD d v s.sl) k=_;simp_all[yA]
theorem S.put_same (s:S)(d:Nat)(v:V):aget (s.put (some d) v).sl d=some v:=by
 show aget (yD d v s.sl) d=_;simp_all[yA]
theorem S.drop_get (s:S)(l:am Nat)(k:Nat):aget (s.drop l).sl k=if isin k l=false then aget s.sl k else none:=by
 show aget (y8 _ s.sl) k=_
 grind[uO]
theorem S.put_sorted {s:S}(h:sortedB s.sl=true)(d:aI Nat)(v:V):sortedB (s.put d v).sl=true:=by
 cases d with
 |none=>exact h
 |some d=>exact amA h d v
theorem S.drop_sorted {s:S}(h:sortedB s.sl=true)(l:am Nat):sortedB (s.drop l).sl=true:=agu h _
theorem S.tmp_of {s t:S}{k:Nat}(h:aget s.sl k=aget t.sl k):s.tmp k=t.tmp k:=by grind[S.tmp]
theorem aiu {v:V}{w:Bool}(h:ZO v w=true):v=ya w:=by
 unfold ZO at h;split at h
 ·rename_i x;cases w<;>cases x<;>first|rfl|cases h
 cases h
theorem awj {k:Nat}{l:am Nat}(h: ¬isin k l=true):isin k l=false:=by grind
structure Same (l:am Nat)(s t:S):Prop where
 pl:t.pl=s.pl
 sorted:sortedB s.sl=true ->sortedB t.sl=true
 get: ∀k,isin k l=false ->aget t.sl k=aget s.sl k
theorem Same.refl (l:am Nat)(s:S):Same l s s:=⟨rfl,id,λ_ _=>rfl⟩
theorem Same.trans {l:am Nat}{s t u:S}(h:Same l s t)(k:Same l t u):Same l s u:=
 ⟨k.pl.trans h.pl,λx=>k.sorted (h.sorted x),λi hi=>(k.get i hi).trans (h.get i hi)⟩
theorem Same.put {l:am Nat}{s:S}{d:Nat}(h:isin d l=true)(v:V):Same l s (s.put (some d) v):=
 ⟨rfl,λx=>S.put_sorted x _ _,λk hk=>S.put_get s _ v k (λe=>by grind)⟩
theorem Same.drop {l:am Nat}{s:S}{m:am Nat}(h:Zj (λk=>isin k l) m=true):Same l s (s.drop m):=
 ⟨rfl,λx=>S.drop_sorted x _,λk hk=>by
  rw[S.drop_get];have:isin k m=false:=awj λe=>by
   have:=vO.1 h k ((yd k m).1 e)
   grind
  simp_all⟩
theorem KR {l:am Nat}: ∀{a b:am AI},w9 l (a++b)=true ->w9 l a=true /\w9 l b=true
 | [],_,h=>⟨rfl,h⟩
 | .mk dst g j op drop::a,b,h=>by
   simp only[aA,w9]at h⊢;split at h
   ·rename_i x;cases i:(isin x l&&Zj (λk=>isin k l) drop)<;>rw[i]at h
    ·cases h
    exact KR h
   cases h
theorem QF {l:am Nat}{dst:aI Nat}{g:aI (Nat×Bool)}{i:Bool}{op:AOp}{drop:am Nat}{r:am AI}(h:w9 l (.mk dst g i op drop::r)=true):
 ∃d,dst=some d /\isin d l=true /\Zj (λk=>isin k l) drop=true /\w9 l r=true:=by
 simp only[w9]at h
 grind
theorem afz {l:am Nat}: ∀{i:am AI}{s:S},w9 l i=true ->Same l s (Xc i s)
 | [],s,_=>Same.refl l s
 | .mk dst g I op drop::r,s,h=>by
   obtain⟨d,rfl,j,o,p⟩:=QF h;exact((Same.put j qz).trans (Same.drop o)).trans (afz p)
theorem ak7 {P:Program}{K:S ->Prop}{rest:am AI}{d:Nat}{w:Bool}: ∀{p:am AI}{U:am Nat}{s:S},VP d w U p=true ->s.tmp d=ya (!w) ->(∀e,isin e U=true ->s.tmp e=qz) ->
 (Xc p s).tmp d=ya (!w)/\(z7 P rest (Xc p s) K ->z7 P (p++rest) s K)
 | [],U,s,_,h2,_=>⟨h2,id⟩
 | .mk dst g R op drop::r,U,s,i,h2,h3=>by
   simp only[VP]at i;cases g with
   |none=>cases i
   |some x=>
    obtain⟨e,w'⟩:=x;simp only at i;have hc:(bif aH e d then w==w' else isin e U)=true:=by
     grind
    rw[hc]at i;simp only[aD]at i;have ac:isin d drop=false:=by
     grind
    rw[ac]at i;simp only[aC]at i;have o:z7 P (r++rest) ((s.put dst qz).drop drop) K ->z7 P (.mk dst (some (e,w')) R op drop::r++rest) s K:=by
     intro hk;show z7 P (.mk dst (some (e,w')) R op drop::(r++rest)) s K;unfold z7;cases I:aH e d with
     |true=>
      have I:=Nat.eq_of_beq_eq_true I;subst I;rw[qB,aD]at hc;have hw:w=w':=eq_of_beq hc;simp_all[ya,cV,xy]
     |false=>
      simp_all[qz,xy]
    have l: ∀(J:am Nat),VP d w J r=true ->(dst≠some d) ->(∀k,isin k J=true ->(dst=some k\/isin k U=true)/\isin k drop=false) ->
     (Xc r ((s.put dst qz).drop drop)).tmp d=ya (!w)/\(z7 P rest (Xc r ((s.put dst qz).drop drop)) K ->z7 P (r++rest) ((s.put dst qz).drop drop) K):=by
     intro J aa ae ab;refine ak7 aa ?_ ?_
     ·rw[<- h2];refine S.tmp_of ?_<;>simp_all[S.drop_get,S.put_get]
     intro k hk;obtain⟨h4,h5⟩:=ab k hk;by_cases af:dst=some k<;>simp_all[S.tmp,S.drop_get,S.put_same,S.put_get]
    have j: ∀{J:am Nat},∀k,isin k (J.filter λk=>!isin k drop)=true ->isin k J=true /\isin k drop=false:=by
     grind[yd]
    cases dst with
    |none=>
     have:=l _ i (by grind) (λk hk=>⟨.inr (j k hk).1,(j k hk).2⟩);exact⟨this.1,λhk=>o (this.2 hk)⟩
    |some x=>
     simp only at i;cases ad:aH x d with
     |true=>grind
     |false=>
      rw[ad]at i;simp only[aC]at i;have ag:x≠d:=λh=>by grind[qB]
      have:=l _ i (by grind) (λk hk=>⟨(by
       grind[yd]),(j k hk).2⟩)
      exact⟨this.1,λhk=>o (this.2 hk)⟩
theorem act (d:Nat): ∀(U:am Nat) (ops:am AI) (a b:am AI),xK d U ops=(a,b) ->ops=a++b
 |_,[],a,b,h=>by cases h;rfl
 |U,.mk dst g j op drop::r,a,b,h=>by
  unfold xK at h;cases g with
  |none=>grind
  |some x=>
   obtain⟨e,w⟩:=x;simp only at h;cases i:(aH e d||isin e U)<;>rw[i]at h
   ·grind
   simp only[aD]at h;cases dst with
   |none=>cases h;simp only[aA];rw[<- act d U r _ _ rfl]
   |some x=>cases h;simp only[aA];rw[<- act d (x::U) r _ _ rfl]
end Go.AM
