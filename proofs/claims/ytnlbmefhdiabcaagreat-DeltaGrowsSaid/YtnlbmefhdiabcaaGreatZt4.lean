import Derived.Test.YtnlbmefhdiabcaaGreatZt3
set_option linter.unusedSimpArgs false
set_option linter.unusedVariables false
set_option maxRecDepth 100000
set_option maxHeartbeats 4000000
open _root_ renaming List->am,cond_false->aC,cond_true->aD,if_pos->aE,if_neg->aF,Option->aI
open List renaming cons_append->aA
open Nat renaming ble_eq_true_of_le->aB,blt->aG,beq->aH
namespace Go.AM
section
variable {α:Type}
theorem XD{x}{r:am (Nat×α)}(h:sortedB (x::r)=true):sortedB r=true:=by obtain⟨k,v⟩:=x;cases r<;>grind[sortedB]
theorem X5:∀{r:am (Nat×α)}{k:Nat}{v:α},sortedB ((k,v)::r)=true->∀m,m<=k->aget r m=none
 |[],_,_,_,_,_=>rfl
 |(j,u)::r,k,v,h,m,l=>by
  have i:k<j:=by
   simp only[sortedB]at h;cases g:aG k j<;>rw[g]at h
   .cases h
   simp_all
  rw[yY];rw[aF ej];exact X5 (XD h) m ej
theorem Vw{k}{v}{r:am (Nat×α)}(h:sortedB r=true)(l:∀m,m<=k->aget r m=none):sortedB ((k,v)::r)=true:=by
 cases r with
 |nil=>rfl
 |cons y r=>
  obtain⟨j,u⟩:=y;simp only[sortedB];have i:k<j:=by
   rcases Nat.lt_or_ge k j with g|g
   .exact g
   have:=l j g<;>simp_all[yY]
  have o:aG k j=true:=aB i;rw[o];exact h
theorem atv{l}(h:sortedB l=true)(n)(v:α):sortedB (xf n v l)=true:=by
 induction l with
 |nil=>rfl
 |cons x r p=>
  obtain⟨k,u⟩:=x;have o:=XD h;have I:=X5 h;unfold xf;by_cases hk:k=n
  .simp_all[Vw]
  rw[qO hk];cases i:aG n k
  .simp only[aC];have g:¬n<k:=λh=>by grind[aG,aB]
   refine Vw (p o) λm j=>?_
   rw[yR,aF ej]
   grind
  simp only[aC,aD];have g:n<k:=Nat.le_of_ble_eq_true i;refine Vw h λm j=>?_
  rw[yY,aF ej]
  grind
theorem als{l:am (Nat×α)}(h:sortedB l=true)(f:Nat->Bool):sortedB (wo f l)=true:=by induction l<;>grind[XD,X5,wo,Vw,YT]
theorem alt:∀{l m:am (Nat×α)},sortedB l=true->sortedB m=true->(∀k,aget l k=aget m k)->l=m
 |[],[],_,_,_=>rfl
 |[],(k,v)::r,_,_,h=>by have:=h k;rw[yY,aE rfl]at this;cases this
 |(k,v)::r,[],_,_,h=>by have:=h k;rw[yY,aE rfl]at this;cases this
 |(k,v)::r,(j,u)::q,i,o,h=>by
  have g:k=j:=by
   have a:=h k;have b:=h j;rw[yY,aE rfl,yY]at a;rw[yY,yY,aE rfl]at b;by_cases e:k=j
   .exact e
   rw[aF (Ne.symm e)]at a;rw[aF e]at b
   grind[X5]
  subst g;have p:=h k;rw[yY,aE rfl,yY,aE rfl]at p;cases p;refine congrArg _ (alt (XD i) (XD o) λm=>?_);have I:=h m;rw[yY,yY]at I;by_cases e:k=m
  .subst e;rw[X5 i k (Nat.le_refl _),X5 o k (Nat.le_refl _)]
  simp_all
end
theorem S.ext'{s t:S}(g:s.pl=t.pl)(i:sortedB s.sl=true)(j:sortedB t.sl=true)(l:∀k,aget s.sl k=aget t.sl k):s=t:=by obtain⟨a,b⟩:=s;obtain⟨c,d⟩:=t<;>grind[alt]
theorem S.put_get(s:S)(d)(v)(k:Nat)(h:d≠some k):aget (s.put d v).sl k=aget s.sl k:=by
 cases d with
 |none=>rfl
 |some d=>
  show aget (xf d v s.sl) k=_;simp_all[yR]
theorem S.put_same(s:S)(d:Nat)(v):aget (s.put (some d) v).sl d=some v:=by show aget (xf d v s.sl) d=_;simp_all[yR]
theorem S.drop_get(s:S)(l)(k):aget (s.drop l).sl k=if isin k l=false then aget s.sl k else none:=by
 show aget (wo _ s.sl) k=_
 grind[YT]
theorem S.put_sorted{s:S}(h:sortedB s.sl=true)(d:aI Nat)(v):sortedB (s.put d v).sl=true:=by
 cases d with
 |none=>exact h
 |some d=>exact atv h d v
theorem S.drop_sorted{s:S}(h:sortedB s.sl=true)(l):sortedB (s.drop l).sl=true:=als h _
theorem S.tmp_of{s t:S}{k}(h:aget s.sl k=aget t.sl k):s.tmp k=t.tmp k:=by grind[S.tmp]
theorem an7{v}{w}(h:Xk v w=true):v=yf w:=by
 unfold Xk at h;split at h
 .rename_i x;cases w<;>cases x<;>first|rfl|cases h
 cases h
theorem aFc{k}{l}(h:¬isin k l=true):isin k l=false:=ek
structure Same(l:am Nat)(s t:S):Prop where
 pl:t.pl=s.pl
 sorted:sortedB s.sl=true->sortedB t.sl=true
 get:∀k,isin k l=false->aget t.sl k=aget s.sl k
theorem Same.refl(l)(s):Same l s s:=⟨rfl,id,λ_ _=>rfl⟩
theorem Same.trans{l}{s t u}(h:Same l s t)(k:Same l t u):Same l s u:=
 ⟨k.pl.trans h.pl,λx=>k.sorted (h.sorted x),λi g=>(k.get i g).trans (h.get i g)⟩
theorem Same.put{l}{s}{d}(h:isin d l=true)(v):Same l s (s.put (some d) v):=
 ⟨rfl,λx=>S.put_sorted x _ _,λk hk=>S.put_get s _ v k (λe=>ek)⟩
theorem Same.drop{l}{s}{m}(h:YQ (λk=>isin k l) m=true):Same l s (s.drop m):=
 ⟨rfl,λx=>S.drop_sorted x _,λk hk=>by
  rw[S.drop_get];have:isin k m=false:=aFc λe=>by
   have:=uJ.1 h k ((yw k m).1 e)
   grind
  simp_all⟩
theorem aa9{l}:∀{a b:am AI},vZ l (a++b)=true->vZ l a=true/\vZ l b=true
 |[],_,h=>⟨rfl,h⟩
 |.mk dst g j op drop::a,b,h=>by
   simp only[aA,vZ]at h⊢;split at h
   .rename_i x;cases i:(isin x l&&YQ (λk=>isin k l) drop)<;>rw[i]at h
    .cases h
    exact aa9 h
   cases h
theorem VC{l}{dst}{g}{i}{op}{drop}{r}(h:vZ l (.mk dst g i op drop::r)=true):
 ∃d,dst=some d/\isin d l=true/\YQ (λk=>isin k l) drop=true/\vZ l r=true:=by
 simp only[vZ]at h
 grind
theorem aka{l}:∀{i:am AI}{s:S},vZ l i=true->Same l s (QK i s)
 |[],s,_=>Same.refl l s
 |.mk dst g I op drop::r,s,h=>by obtain⟨d,rfl,j,o,p⟩:=VC h;exact((Same.put j wQ).trans (Same.drop o)).trans (aka p)
theorem arx{P}{K:S->Prop}{rest}{d}{w}:∀{p:am AI}{U:am Nat}{s:S},J9 d w U p=true->s.tmp d=yf (!w)->(∀e,isin e U=true->s.tmp e=wQ)->
 (QK p s).tmp d=yf (!w)/\(yp P rest (QK p s) K->yp P (p++rest) s K)
 |[],U,s,_,T,_=>⟨T,id⟩
 |.mk dst g R op drop::r,U,s,i,T,h3=>by
   simp only[J9]at i;cases g with
   |none=>cases i
   |some x=>
    obtain⟨e,w'⟩:=x;simp only at i;have hc:(bif aH e d then w==w' else isin e U)=true:=ek
    rw[hc]at i;simp only[aD]at i;have ac:isin d drop=false:=ek
    rw[ac]at i;simp only[aC]at i;have o:yp P (r++rest) ((s.put dst wQ).drop drop) K->yp P (.mk dst (some (e,w')) R op drop::r++rest) s K:=by
     intro hk;show yp P (.mk dst (some (e,w')) R op drop::(r++rest)) s K;unfold yp;cases I:aH e d with
     |true=>
      have I:=Nat.eq_of_beq_eq_true I;subst I;rw[uL,aD]at hc;have hw:w=w':=eq_of_beq hc;simp_all[yf,cV,xY]
     |false=>
      simp_all[wQ,xY]
    have l:∀(J:am Nat),J9 d w J r=true->(dst≠some d)->(∀k,isin k J=true->(dst=some k\/isin k U=true)/\isin k drop=false)->
     (QK r ((s.put dst wQ).drop drop)).tmp d=yf (!w)/\(yp P rest (QK r ((s.put dst wQ).drop drop)) K->yp P (r++rest) ((s.put dst wQ).drop drop) K):=by
     intro J aa ae ab;refine arx aa ?_ ?_
     .rw[<-T];refine S.tmp_of ?_<;>simp_all[S.drop_get,S.put_get]
     intro k hk;obtain⟨h4,h5⟩:=ab k hk;by_cases af:dst=some k<;>simp_all[S.tmp,S.drop_get,S.put_same,S.put_get]
    have j:∀{J:am Nat},∀k,isin k (J.filter λk=>!isin k drop)=true->isin k J=true/\isin k drop=false:=by grind[yw]
    cases dst with
    |none=>
     have:=l _ i ek (λk hk=>⟨.inr (j k hk).1,(j k hk).2⟩);exact⟨this.1,λhk=>o (this.2 hk)⟩
    |some x=>
     simp only at i;cases ad:aH x d with
     |true=>grind
     |false=>
      rw[ad]at i;simp only[aC]at i;have ag:x≠d:=λh=>by grind[uL]
      have:=l _ i ek (λk hk=>⟨(by grind[yw]),(j k hk).2⟩)
      exact⟨this.1,λhk=>o (this.2 hk)⟩
theorem af4(d):∀(U) (ops:am AI) (a b:am AI),qK d U ops=(a,b)->ops=a++b
 |_,[],a,b,h=>by cases h;rfl
 |U,.mk dst g j op drop::r,a,b,h=>by
  unfold qK at h;cases g with
  |none=>grind
  |some x=>
   obtain⟨e,w⟩:=x;simp only at h;cases i:(aH e d||isin e U)<;>rw[i]at h
   .grind
   simp only[aD]at h;cases dst with
   |none=>cases h;simp only[aA];rw[<-af4 d U r _ _ rfl]
   |some x=>cases h;simp only[aA];rw[<-af4 d (x::U) r _ _ rfl]
end Go.AM
