import Derived.Test.YtkdijaiaplkliaaGreatDoorZx3
set_option linter.unusedSimpArgs false
set_option linter.unusedVariables false
set_option maxRecDepth 100000
set_option maxHeartbeats 4000000
namespace Go.AM
section
variable {α:Type}
theorem jH {x:Nat×α}{r:List (Nat×α)}(h:sortedB (x::r)=true):sortedB r=true:=by
 obtain⟨k,v⟩:=x;cases r<;>grind[sortedB]
theorem jX: ∀{r:List (Nat×α)}{k:Nat}{v:α},sortedB ((k,v)::r)=true -> ∀m,m<=k ->aget r m=none
 | [],_,_,_,_,_=>rfl
 |(j,u)::r,k,v,h,m,l=>by
  have i:k<j:=by
   simp only[sortedB]at h;cases g:Nat.blt k j<;>rw[g]at h
   ·cases h
   simp_all
  rw[yg];rw[if_neg (by omega)];exact jX (jH h) m (by omega)
theorem YQ {k:Nat}{v:α}{r:List (Nat×α)}(h:sortedB r=true)(l: ∀m,m<=k ->aget r m=none):sortedB ((k,v)::r)=true:=by
 cases r with
 |nil=>rfl
 |cons y r=>
  obtain⟨j,u⟩:=y;simp only[sortedB];have i:k<j:=by
   rcases Nat.lt_or_ge k j with g|g
   ·exact g
   ·have:=l j g<;>simp_all[yg]
  have o:Nat.blt k j=true:=Nat.ble_eq_true_of_le i;rw[o];exact h
theorem agX {l:List (Nat×α)}(h:sortedB l=true)(n:Nat)(v:α):sortedB (yj n v l)=true:=by
 induction l with
 |nil=>rfl
 |cons x r p=>
  obtain⟨k,u⟩:=x;have o:=jH h;have I:=jX h;unfold yj;by_cases hk:k=n
  ·simp_all[YQ]
  ·rw[y7 hk];cases i:Nat.blt n k
   ·simp only[cond_false];have g: ¬n<k:=λh=>by grind[Nat.blt,Nat.ble_eq_true_of_le]
    refine YQ (p o) λm j=>?_
    rw[yf,if_neg (by omega)]
    grind
   ·simp only[cond_false,cond_true];have g:n<k:=Nat.le_of_ble_eq_true i;refine YQ h λm j=>?_
    rw[yg,if_neg (by omega)]
    grind
theorem abO {l:List (Nat×α)}(h:sortedB l=true)(f:Nat ->Bool):sortedB (xx f l)=true:=by
 induction l<;>grind[jH,jX,xx,YQ,u6]
theorem abP: ∀{l m:List (Nat×α)},sortedB l=true ->sortedB m=true ->(∀k,aget l k=aget m k) ->l=m
 | [],[],_,_,_=>rfl
 | [],(k,v)::r,_,_,h=>by have:=h k;rw[yg,if_pos rfl]at this;cases this
 |(k,v)::r,[],_,_,h=>by have:=h k;rw[yg,if_pos rfl]at this;cases this
 |(k,v)::r,(j,u)::q,i,o,h=>by
  have g:k=j:=by
   have a:=h k;have b:=h j;rw[yg,if_pos rfl,yg]at a;rw[yg,yg,if_pos rfl]at b;by_cases e:k=j
   ·exact e
   ·rw[if_neg (Ne.symm e)]at a;rw[if_neg e]at b
    grind[jX]
  subst g;have p:=h k;rw[yg,if_pos rfl,yg,if_pos rfl]at p;cases p;refine congrArg _ (abP (jH i) (jH o) λm=>?_);have I:=h m;rw[yg,yg]at I;by_cases e:k=m
  ·subst e;rw[jX i k (Nat.le_refl _),jX o k (Nat.le_refl _)]
  simp_all
end
theorem S.ext' {s t:S}(g:s.pl=t.pl)(i:sortedB s.sl=true)(j:sortedB t.sl=true)(l: ∀k,aget s.sl k=aget t.sl k):s=t:=by
 obtain⟨a,b⟩:=s;obtain⟨c,d⟩:=t<;>grind[abP]
theorem S.put_get (s:S)(d:Option Nat)(v:V)(k:Nat)(h:d≠some k):aget (s.put d v).sl k=aget s.sl k:=by
 cases d with
 |none=>rfl
 |some d=>
  show aget (yj d v s.sl) k=_;simp_all[yf]
theorem S.put_same (s:S)(d:Nat)(v:V):aget (s.put (some d) v).sl d=some v:=by
 show aget (yj d v s.sl) d=_;simp_all[yf]
theorem S.drop_get (s:S)(l:List Nat)(k:Nat):aget (s.drop l).sl k=if isin k l=false then aget s.sl k else none:=by
 show aget (xx _ s.sl) k=_
 grind[u6]
theorem S.put_sorted {s:S}(h:sortedB s.sl=true)(d:Option Nat)(v:V):sortedB (s.put d v).sl=true:=by
 cases d with
 |none=>exact h
 |some d=>exact agX h d v
theorem S.drop_sorted {s:S}(h:sortedB s.sl=true)(l:List Nat):sortedB (s.drop l).sl=true:=abO h _
theorem S.tmp_of {s t:S}{k:Nat}(h:aget s.sl k=aget t.sl k):s.tmp k=t.tmp k:=by grind[S.tmp]
theorem adz {v:V}{w:Bool}(h:jm v w=true):v=zZ w:=by
 unfold jm at h;split at h
 ·rename_i x;cases w<;>cases x<;>first|rfl|cases h
 ·cases h
theorem aoW {k:Nat}{l:List Nat}(h: ¬isin k l=true):isin k l=false:=by grind
structure Same (l:List Nat)(s t:S):Prop where
 pl:t.pl=s.pl
 sorted:sortedB s.sl=true ->sortedB t.sl=true
 get: ∀k,isin k l=false ->aget t.sl k=aget s.sl k
theorem Same.refl (l:List Nat)(s:S):Same l s s:=⟨rfl,id,λ_ _=>rfl⟩
theorem Same.trans {l:List Nat}{s t u:S}(h:Same l s t)(k:Same l t u):Same l s u:=
 ⟨k.pl.trans h.pl,λx=>k.sorted (h.sorted x),λi hi=>(k.get i hi).trans (h.get i hi)⟩
theorem Same.put {l:List Nat}{s:S}{d:Nat}(h:isin d l=true)(v:V):Same l s (s.put (some d) v):=
 ⟨rfl,λx=>S.put_sorted x _ _,λk hk=>S.put_get s _ v k (λe=>by grind)⟩
theorem Same.drop {l:List Nat}{s:S}{m:List Nat}(h:u0 (λk=>isin k l) m=true):Same l s (s.drop m):=
 ⟨rfl,λx=>S.drop_sorted x _,λk hk=>by
  rw[S.drop_get];have:isin k m=false:=aoW λe=>by
   have:=wt.1 h k ((zV k m).1 e)
   grind
  simp_all⟩
theorem VU {l:List Nat}: ∀{a b:List AI},qG l (a++b)=true ->qG l a=true /\qG l b=true
 | [],_,h=>⟨rfl,h⟩
 | .mk dst g j op drop::a,b,h=>by
   simp only[List.cons_append,qG]at h⊢;split at h
   ·rename_i x;cases i:(isin x l&&u0 (λk=>isin k l) drop)<;>rw[i]at h
    ·cases h
    ·exact VU h
   ·cases h
theorem YU {l:List Nat}{dst:Option Nat}{g:Option (Nat×Bool)}{i:Bool}{op:AOp}{drop:List Nat}{r:List AI}(h:qG l (.mk dst g i op drop::r)=true):
 ∃d,dst=some d /\isin d l=true /\u0 (λk=>isin k l) drop=true /\qG l r=true:=by
 simp only[qG]at h
 grind
theorem aa4 {l:List Nat}: ∀{i:List AI}{s:S},qG l i=true ->Same l s (Zx i s)
 | [],s,_=>Same.refl l s
 | .mk dst g I op drop::r,s,h=>by
   obtain⟨d,rfl,j,o,p⟩:=YU h;exact((Same.put j xS).trans (Same.drop o)).trans (aa4 p)
theorem afL {P:Program}{K:S ->Prop}{rest:List AI}{d:Nat}{w:Bool}: ∀{p:List AI}{U:List Nat}{s:S},Qz d w U p=true ->s.tmp d=zZ (!w) ->(∀e,isin e U=true ->s.tmp e=xS) ->
 (Zx p s).tmp d=zZ (!w)/\(zN P rest (Zx p s) K ->zN P (p++rest) s K)
 | [],U,s,_,T,_=>⟨T,id⟩
 | .mk dst g R op drop::r,U,s,i,T,h3=>by
   simp only[Qz]at i;cases g with
   |none=>cases i
   |some x=>
    obtain⟨e,w'⟩:=x;simp only at i;have hc:(bif Nat.beq e d then w==w' else isin e U)=true:=by
     grind
    rw[hc]at i;simp only[cond_true]at i;have ac:isin d drop=false:=by
     grind
    rw[ac]at i;simp only[cond_false]at i;have o:zN P (r++rest) ((s.put dst xS).drop drop) K ->zN P (.mk dst (some (e,w')) R op drop::r++rest) s K:=by
     intro hk;show zN P (.mk dst (some (e,w')) R op drop::(r++rest)) s K;unfold zN;cases I:Nat.beq e d with
     |true=>
      have I:=Nat.eq_of_beq_eq_true I;subst I;rw[qC,cond_true]at hc;have hw:w=w':=eq_of_beq hc;simp_all[zZ,cV,yU]
     |false=>
      simp_all[xS,yU]
    have l: ∀(J:List Nat),Qz d w J r=true ->(dst≠some d) ->(∀k,isin k J=true ->(dst=some k\/isin k U=true)/\isin k drop=false) ->
     (Zx r ((s.put dst xS).drop drop)).tmp d=zZ (!w)/\(zN P rest (Zx r ((s.put dst xS).drop drop)) K ->zN P (r++rest) ((s.put dst xS).drop drop) K):=by
     intro J aa ae ab;refine afL aa ?_ ?_
     ·rw[<- T];refine S.tmp_of ?_<;>simp_all[S.drop_get,S.put_get]
     ·intro k hk;obtain⟨h4,h5⟩:=ab k hk;by_cases af:dst=some k<;>simp_all[S.tmp,S.drop_get,S.put_same,S.put_get]
    have j: ∀{J:List Nat},∀k,isin k (J.filter λk=>!isin k drop)=true ->isin k J=true /\isin k drop=false:=by
     grind[zV]
    cases dst with
    |none=>
     have:=l _ i (by grind) (λk hk=>⟨.inr (j k hk).1,(j k hk).2⟩);exact⟨this.1,λhk=>o (this.2 hk)⟩
    |some x=>
     simp only at i;cases ad:Nat.beq x d with
     |true=>grind
     |false=>
      rw[ad]at i;simp only[cond_false]at i;have ag:x≠d:=λh=>by grind[qC]
      have:=l _ i (by grind) (λk hk=>⟨(by
       grind[zV]),(j k hk).2⟩)
      exact⟨this.1,λhk=>o (this.2 hk)⟩
theorem K6 (d:Nat): ∀(U:List Nat) (ops:List AI) (a b:List AI),wm d U ops=(a,b) ->ops=a++b
 |_,[],a,b,h=>by cases h;rfl
 |U,.mk dst g j op drop::r,a,b,h=>by
  unfold wm at h;cases g with
  |none=>grind
  |some x=>
   obtain⟨e,w⟩:=x;simp only at h;cases i:(Nat.beq e d||isin e U)<;>rw[i]at h
   ·grind
   ·simp only[cond_true]at h;cases dst with
    |none=>cases h;simp only[List.cons_append];rw[<- K6 d U r _ _ rfl]
    |some x=>cases h;simp only[List.cons_append];rw[<- K6 d (x::U) r _ _ rfl]
end Go.AM
