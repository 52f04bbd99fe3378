import Derived.Test.YtkdijaiaplkliaaGreatDoorZp3
set_option linter.unusedSimpArgs false
set_option linter.unusedVariables false
set_option maxRecDepth 100000
set_option maxHeartbeats 4000000
open _root_ renaming List->am,cond_false->aC,cond_true->aD,if_pos->aE,if_neg->aF,Option->aI
open List renaming cons_append->aA
open Nat renaming ble_eq_true_of_le->aB,blt->aG,beq->aH
namespace Go.AM
section
variable {α:Type}
theorem YO{x:Nat×α}{r:am (Nat×α)}(h:sortedB (x::r)=true):sortedB r=true:=by obtain⟨k,v⟩:=x;cases r<;>grind[sortedB]
theorem Xh:∀{r:am (Nat×α)}{k:Nat}{v:α},sortedB ((k,v)::r)=true->∀m,m<=k->aget r m=none
 |[],_,_,_,_,_=>rfl
 |(j,u)::r,k,v,h,m,l=>by
  have i:k<j:=by
   simp only[sortedB]at h;cases g:aG k j<;>rw[g]at h
   .cases h
   simp_all
  rw[yg];rw[aF d8];exact Xh (YO h) m d8
theorem WB{k:Nat}{v:α}{r:am (Nat×α)}(h:sortedB r=true)(l:∀m,m<=k->aget r m=none):sortedB ((k,v)::r)=true:=by
 cases r with
 |nil=>rfl
 |cons y r=>
  obtain⟨j,u⟩:=y;simp only[sortedB];have i:k<j:=by
   rcases Nat.lt_or_ge k j with g|g
   .exact g
   have:=l j g<;>simp_all[yg]
  have o:aG k j=true:=aB i;rw[o];exact h
theorem ape{l:am (Nat×α)}(h:sortedB l=true)(n:Nat)(v:α):sortedB (yN n v l)=true:=by
 induction l with
 |nil=>rfl
 |cons x r p=>
  obtain⟨k,u⟩:=x;have o:=YO h;have I:=Xh h;unfold yN;by_cases hk:k=n
  .simp_all[WB]
  rw[xD hk];cases i:aG n k
  .simp only[aC];have g:¬n<k:=λh=>by grind[aG,aB]
   refine WB (p o) λm j=>?_
   rw[yG,aF d8]
   grind
  simp only[aC,aD];have g:n<k:=Nat.le_of_ble_eq_true i;refine WB h λm j=>?_
  rw[yg,aF d8]
  grind
theorem aiC{l:am (Nat×α)}(h:sortedB l=true)(f:Nat->Bool):sortedB (xl f l)=true:=by induction l<;>grind[YO,Xh,xl,WB,jr]
theorem aiD:∀{l m:am (Nat×α)},sortedB l=true->sortedB m=true->(∀k,aget l k=aget m k)->l=m
 |[],[],_,_,_=>rfl
 |[],(k,v)::r,_,_,h=>by have:=h k;rw[yg,aE rfl]at this;cases this
 |(k,v)::r,[],_,_,h=>by have:=h k;rw[yg,aE rfl]at this;cases this
 |(k,v)::r,(j,u)::q,i,o,h=>by
  have g:k=j:=by
   have a:=h k;have b:=h j;rw[yg,aE rfl,yg]at a;rw[yg,yg,aE rfl]at b;by_cases e:k=j
   .exact e
   rw[aF (Ne.symm e)]at a;rw[aF e]at b
   grind[Xh]
  subst g;have hv:=h k;rw[yg,aE rfl,yg,aE rfl]at hv;cases hv;refine congrArg _ (aiD (YO i) (YO o) λm=>?_);have p:=h m;rw[yg,yg]at p;by_cases e:k=m
  .subst e;rw[Xh i k (Nat.le_refl _),Xh o k (Nat.le_refl _)]
  simp_all
end
theorem S.ext'{s t:S}(g:s.pl=t.pl)(i:sortedB s.sl=true)(j:sortedB t.sl=true)(l:∀k,aget s.sl k=aget t.sl k):s=t:=by obtain⟨a,b⟩:=s;obtain⟨c,d⟩:=t<;>grind[aiD]
theorem S.put_get(s:S)(d:aI Nat)(v:V)(k:Nat)(h:d≠some k):aget (s.put d v).sl k=aget s.sl k:=by
 cases d with
 |none=>rfl
 |some d=>
  show aget (yN d v s.sl) k=_;simp_all[yG]
theorem S.put_same(s:S)(d:Nat)(v:V):aget (s.put (some d) v).sl d=some v:=by show aget (yN d v s.sl) d=_;simp_all[yG]
theorem S.drop_get(s:S)(l:am Nat)(k:Nat):aget (s.drop l).sl k=if isin k l=false then aget s.sl k else none:=by
 show aget (xl _ s.sl) k=_
 grind[jr]
theorem S.put_sorted{s:S}(h:sortedB s.sl=true)(d:aI Nat)(v:V):sortedB (s.put d v).sl=true:=by
 cases d with
 |none=>exact h
 |some d=>exact ape h d v
theorem S.drop_sorted{s:S}(h:sortedB s.sl=true)(l:am Nat):sortedB (s.drop l).sl=true:=aiC h _
theorem S.tmp_of{s t:S}{k:Nat}(h:aget s.sl k=aget t.sl k):s.tmp k=t.tmp k:=by grind[S.tmp]
theorem akF{v:V}{w:Bool}(h:Yv v w=true):v=zZ w:=by
 unfold Yv at h;split at h
 .rename_i x;cases w<;>cases x<;>first|rfl|cases h
 cases h
theorem azZ{k:Nat}{l:am Nat}(h:¬isin k l=true):isin k l=false:=d9
structure Same(l:am Nat)(s t:S):Prop where
 pl:t.pl=s.pl
 sorted:sortedB s.sl=true->sortedB t.sl=true
 get:∀k,isin k l=false->aget t.sl k=aget s.sl k
theorem Same.refl(l:am Nat)(s:S):Same l s s:=⟨rfl,id,λ_ _=>rfl⟩
theorem Same.trans{l:am Nat}{s t u:S}(h:Same l s t)(k:Same l t u):Same l s u:=
 ⟨k.pl.trans h.pl,λx=>k.sorted (h.sorted x),λi hi=>(k.get i hi).trans (h.get i hi)⟩
theorem Same.put{l:am Nat}{s:S}{d:Nat}(h:isin d l=true)(v:V):Same l s (s.put (some d) v):=
 ⟨rfl,λx=>S.put_sorted x _ _,λk hk=>S.put_get s _ v k (λe=>d9)⟩
theorem Same.drop{l:am Nat}{s:S}{m:am Nat}(h:ZX (λk=>isin k l) m=true):Same l s (s.drop m):=
 ⟨rfl,λx=>S.drop_sorted x _,λk hk=>by
  rw[S.drop_get];have:isin k m=false:=azZ λe=>by
   have:=ul.1 h k ((yl k m).1 e)
   grind
  simp_all⟩
theorem gD{l:am Nat}:∀{a b:am AI},vJ l (a++b)=true->vJ l a=true/\vJ l b=true
 |[],_,h=>⟨rfl,h⟩
 |.mk dst g j op drop::a,b,h=>by
   simp only[aA,vJ]at h⊢;split at h
   .rename_i x;cases i:(isin x l&&ZX (λk=>isin k l) drop)<;>rw[i]at h
    .cases h
    exact gD h
   cases h
theorem WF{l:am Nat}{dst:aI Nat}{g:aI (Nat×Bool)}{i:Bool}{op:AOp}{drop:am Nat}{r:am AI}(h:vJ l (.mk dst g i op drop::r)=true):
 ∃d,dst=some d/\isin d l=true/\ZX (λk=>isin k l) drop=true/\vJ l r=true:=by
 simp only[vJ]at h
 grind
theorem ahH{l:am Nat}:∀{i:am AI}{s:S},vJ l i=true->Same l s (XY i s)
 |[],s,_=>Same.refl l s
 |.mk dst g I op drop::r,s,h=>by obtain⟨d,rfl,j,o,p⟩:=WF h;exact((Same.put j qO).trans (Same.drop o)).trans (ahH p)
theorem anB{P:Program}{K:S->Prop}{rest:am AI}{d:Nat}{w:Bool}:∀{p:am AI}{U:am Nat}{s:S},U8 d w U p=true->s.tmp d=zZ (!w)->(∀e,isin e U=true->s.tmp e=qO)->
 (XY p s).tmp d=zZ (!w)/\(yd P rest (XY p s) K->yd P (p++rest) s K)
 |[],U,s,_,h2,_=>⟨h2,id⟩
 |.mk dst g R op drop::r,U,s,i,h2,h3=>by
   simp only[U8]at i;cases g with
   |none=>cases i
   |some x=>
    obtain⟨e,w'⟩:=x;simp only at i;have hc:(bif aH e d then w==w' else isin e U)=true:=d9
    rw[hc]at i;simp only[aD]at i;have ac:isin d drop=false:=d9
    rw[ac]at i;simp only[aC]at i;have o:yd P (r++rest) ((s.put dst qO).drop drop) K->yd P (.mk dst (some (e,w')) R op drop::r++rest) s K:=by
     intro hk;show yd P (.mk dst (some (e,w')) R op drop::(r++rest)) s K;unfold yd;cases I:aH e d with
     |true=>
      have I:=Nat.eq_of_beq_eq_true I;subst I;rw[vz,aD]at hc;have hw:w=w':=eq_of_beq hc;simp_all[zZ,cV,xu]
     |false=>
      simp_all[qO,xu]
    have l:∀(J:am Nat),U8 d w J r=true->(dst≠some d)->(∀k,isin k J=true->(dst=some k\/isin k U=true)/\isin k drop=false)->
     (XY r ((s.put dst qO).drop drop)).tmp d=zZ (!w)/\(yd P rest (XY r ((s.put dst qO).drop drop)) K->yd P (r++rest) ((s.put dst qO).drop drop) K):=by
     intro J aa ae ab;refine anB aa ?_ ?_
     .rw[<-h2];refine S.tmp_of ?_<;>simp_all[S.drop_get,S.put_get]
     intro k hk;obtain⟨h4,h5⟩:=ab k hk;by_cases af:dst=some k<;>simp_all[S.tmp,S.drop_get,S.put_same,S.put_get]
    have j:∀{J:am Nat},∀k,isin k (J.filter λk=>!isin k drop)=true->isin k J=true/\isin k drop=false:=by grind[yl]
    cases dst with
    |none=>
     have:=l _ i d9 (λk hk=>⟨.inr (j k hk).1,(j k hk).2⟩);exact⟨this.1,λhk=>o (this.2 hk)⟩
    |some x=>
     simp only at i;cases ad:aH x d with
     |true=>grind
     |false=>
      rw[ad]at i;simp only[aC]at i;have ag:x≠d:=λh=>by grind[vz]
      have:=l _ i d9 (λk hk=>⟨(by grind[yl]),(j k hk).2⟩)
      exact⟨this.1,λhk=>o (this.2 hk)⟩
theorem ael(d:Nat):∀(U:am Nat) (ops:am AI) (a b:am AI),xx d U ops=(a,b)->ops=a++b
 |_,[],a,b,h=>by cases h;rfl
 |U,.mk dst g j op drop::r,a,b,h=>by
  unfold xx at h;cases g with
  |none=>grind
  |some x=>
   obtain⟨e,w⟩:=x;simp only at h;cases i:(aH e d||isin e U)<;>rw[i]at h
   .grind
   simp only[aD]at h;cases dst with
   |none=>cases h;simp only[aA];rw[<-ael d U r _ _ rfl]
   |some x=>cases h;simp only[aA];rw[<-ael d (x::U) r _ _ rfl]
end Go.AM
