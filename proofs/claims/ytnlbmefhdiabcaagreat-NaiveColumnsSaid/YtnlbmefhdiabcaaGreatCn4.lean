import Derived.Test.YtnlbmefhdiabcaaGreatCn3
set_option linter.unusedSimpArgs false
set_option linter.unusedVariables false
set_option maxRecDepth 100000
set_option maxHeartbeats 4000000
namespace Go.AM
section
variable {α:Type}
theorem ZF {x:Nat×α}{r:List (Nat×α)}(h:sortedB (x::r)=true):sortedB r=true:=by
 obtain⟨k,v⟩:=x;cases r with
 |nil=>rfl
 |cons y r=>
  obtain⟨j,u⟩:=y;simp only[sortedB]at h;cases hb:Nat.blt k j<;>rw[hb]at h
  ·cases h
  ·exact h
theorem jl: ∀{r:List (Nat×α)}{k:Nat}{v:α},sortedB ((k,v)::r)=true -> ∀m,m<=k ->aget r m=none
 | [],_,_,_,_,_=>rfl
 |(j,u)::r,k,v,h,m,hm=>by
  have h1:k<j:=by
   simp only[sortedB]at h;cases hb:Nat.blt k j<;>rw[hb]at h
   ·cases h
   ·exact Nat.le_of_ble_eq_true hb
  rw[yj];rw[if_neg (by omega)];exact jl (ZF h) m (by omega)
theorem Qg {k:Nat}{v:α}{r:List (Nat×α)}(h:sortedB r=true)(h2: ∀m,m<=k ->aget r m=none):sortedB ((k,v)::r)=true:=by
 cases r with
 |nil=>rfl
 |cons y r=>
  obtain⟨j,u⟩:=y;simp only[sortedB];have h1:k<j:=by
   rcases Nat.lt_or_ge k j with h3|h3
   ·exact h3
   ·have:=h2 j h3;rw[yj,if_pos rfl]at this;cases this
  have h4:Nat.blt k j=true:=Nat.ble_eq_true_of_le h1;rw[h4];exact h
theorem am8 {l:List (Nat×α)}(h:sortedB l=true)(n:Nat)(v:α):sortedB (yq n v l)=true:=by
 induction l with
 |nil=>rfl
 |cons x r ih=>
  obtain⟨k,u⟩:=x;have ht:=ZF h;have hl:=jl h;unfold yq;by_cases hk:k=n
  ·subst hk;simp only[xK,cond_true];exact Qg ht hl
  ·rw[yC hk];cases hb:Nat.blt n k
   ·simp only[cond_false];have h1: ¬n<k:=λh=>by have:Nat.blt n k=true:=Nat.ble_eq_true_of_le h;rw[hb]at this;cases this
    refine Qg (ih ht) λm hm=>?_
    rw[yi,if_neg (by omega)];exact hl m hm
   ·simp only[cond_false,cond_true];have h1:n<k:=Nat.le_of_ble_eq_true hb;refine Qg h λm hm=>?_
    rw[yj,if_neg (by omega)];exact hl m (by omega)
theorem agO {l:List (Nat×α)}(h:sortedB l=true)(f:Nat ->Bool):sortedB (xp f l)=true:=by
 induction l with
 |nil=>rfl
 |cons x r ih=>
  obtain⟨k,u⟩:=x;have ht:=ZF h;have hl:=jl h;unfold xp;cases f k
  ·exact ih ht
  ·refine Qg (ih ht) λm hm=>?_
   rw[jX,hl m hm];split<;>rfl
theorem agP: ∀{l m:List (Nat×α)},sortedB l=true ->sortedB m=true ->(∀k,aget l k=aget m k) ->l=m
 | [],[],_,_,_=>rfl
 | [],(k,v)::r,_,_,h=>by have:=h k;rw[yj,if_pos rfl]at this;cases this
 |(k,v)::r,[],_,_,h=>by have:=h k;rw[yj,if_pos rfl]at this;cases this
 |(k,v)::r,(j,u)::q,h1,h2,h=>by
  have hkj:k=j:=by
   have a:=h k;have b:=h j;rw[yj,if_pos rfl,yj]at a;rw[yj,yj,if_pos rfl]at b;by_cases e:k=j
   ·exact e
   ·rw[if_neg (Ne.symm e)]at a;rw[if_neg e]at b;rcases Nat.le_total k j with hle|hle
    ·rw[jl h2 k hle]at a;cases a
    ·rw[jl h1 j hle]at b;cases b
  subst hkj;have hv:=h k;rw[yj,if_pos rfl,yj,if_pos rfl]at hv;cases hv;refine congrArg _ (agP (ZF h1) (ZF h2) λm=>?_);have hm:=h m;rw[yj,yj]at hm;by_cases e:k=m
  ·subst e;rw[jl h1 k (Nat.le_refl _),jl h2 k (Nat.le_refl _)]
  ·rw[if_neg e,if_neg e]at hm;exact hm
end
theorem S.ext' {s t:S}(h1:s.pl=t.pl)(h2:sortedB s.sl=true)(h3:sortedB t.sl=true)(h4: ∀k,aget s.sl k=aget t.sl k):s=t:=by
 obtain⟨a,b⟩:=s;obtain⟨c,d⟩:=t;have h1:b=d:=h1;subst h1;have:=agP h2 h3 h4;have this:a=c:=this;rw[this]
theorem S.put_get (s:S)(d:Option Nat)(v:V)(k:Nat)(h:d≠some k):aget (s.put d v).sl k=aget s.sl k:=by
 cases d with
 |none=>rfl
 |some d=>
  show aget (yq d v s.sl) k=_;rw[yi,if_neg (λe=>h (by rw[e]))]
theorem S.put_same (s:S)(d:Nat)(v:V):aget (s.put (some d) v).sl d=some v:=by
 show aget (yq d v s.sl) d=_;rw[yi,if_pos rfl]
theorem S.drop_get (s:S)(l:List Nat)(k:Nat):aget (s.drop l).sl k=if isin k l=false then aget s.sl k else none:=by
 show aget (xp _ s.sl) k=_;rw[jX];cases isin k l<;>simp
theorem S.put_sorted {s:S}(h:sortedB s.sl=true)(d:Option Nat)(v:V):sortedB (s.put d v).sl=true:=by
 cases d with
 |none=>exact h
 |some d=>exact am8 h d v
theorem S.drop_sorted {s:S}(h:sortedB s.sl=true)(l:List Nat):sortedB (s.drop l).sl=true:=agO h _
theorem S.tmp_of {s t:S}{k:Nat}(h:aget s.sl k=aget t.sl k):s.tmp k=t.tmp k:=by unfold S.tmp;rw[h]
theorem aiX {v:V}{w:Bool}(h:jv v w=true):v=zD w:=by
 unfold jv at h;split at h
 ·rename_i x;cases w<;>cases x<;>first|rfl|cases h
 ·cases h
theorem avp {k:Nat}{l:List Nat}(h: ¬isin k l=true):isin k l=false:=by cases e:isin k l;rfl;exact absurd e h
structure Same (l:List Nat)(s t:S):Prop where
 pl:t.pl=s.pl
 sorted:sortedB s.sl=true ->sortedB t.sl=true
 get: ∀k,isin k l=false ->aget t.sl k=aget s.sl k
theorem Same.refl (l:List Nat)(s:S):Same l s s:=⟨rfl,id,λ_ _=>rfl⟩
theorem Same.trans {l:List Nat}{s t u:S}(h:Same l s t)(k:Same l t u):Same l s u:=
 ⟨k.pl.trans h.pl,λx=>k.sorted (h.sorted x),λi hi=>(k.get i hi).trans (h.get i hi)⟩
theorem Same.put {l:List Nat}{s:S}{d:Nat}(h:isin d l=true)(v:V):Same l s (s.put (some d) v):=
 ⟨rfl,λx=>S.put_sorted x _ _,λk hk=>S.put_get s _ v k (λe=>by cases e;rw[h]at hk;cases hk)⟩
theorem Same.drop {l:List Nat}{s:S}{m:List Nat}(h:jc (λk=>isin k l) m=true):Same l s (s.drop m):=
 ⟨rfl,λx=>S.drop_sorted x _,λk hk=>by
  rw[S.drop_get];have:isin k m=false:=avp λe=>by
   have:=wX.1 h k ((zN k m).1 e);rw[hk]at this;cases this
  rw[if_pos this]⟩
theorem Kq {l:List Nat}: ∀{a b:List AI},q7 l (a++b)=true ->q7 l a=true /\q7 l b=true
 | [],_,h=>⟨rfl,h⟩
 | .mk dst g isG op drop::a,b,h=>by
   simp only[List.cons_append,q7]at h⊢;split at h
   ·rename_i x;cases hx:(isin x l&&jc (λk=>isin k l) drop)<;>rw[hx]at h
    ·cases h
    ·exact Kq h
   ·cases h
theorem Qm {l:List Nat}{dst:Option Nat}{g:Option (Nat×Bool)}{isG:Bool}{op:AOp}{drop:List Nat}{r:List AI}(h:q7 l (.mk dst g isG op drop::r)=true):
 ∃d,dst=some d /\isin d l=true /\jc (λk=>isin k l) drop=true /\q7 l r=true:=by
 simp only[q7]at h;cases dst with
 |none=>cases h
 |some d=>
  simp only at h;cases h1:isin d l<;>rw[h1]at h
  ·cases h
  cases h2:jc (λk=>isin k l) drop<;>rw[h2]at h
  ·cases h
  exact⟨d,rfl,h1,rfl,h⟩
theorem afE {l:List Nat}: ∀{blk:List AI}{s:S},q7 l blk=true ->Same l s (YB blk s)
 | [],s,_=>Same.refl l s
 | .mk dst g isG op drop::r,s,h=>by
   obtain⟨d,rfl,h1,h2,h3⟩:=Qm h;exact((Same.put h1 x9).trans (Same.drop h2)).trans (afE h3)
theorem alH {P:Program}{K:S ->Prop}{rest:List AI}{d:Nat}{w:Bool}: ∀{blk:List AI}{U:List Nat}{s:S},VA d w U blk=true ->s.tmp d=zD (!w) ->(∀e,isin e U=true ->s.tmp e=x9) ->
 (YB blk s).tmp d=zD (!w)/\(zR P rest (YB blk s) K ->zR P (blk++rest) s K)
 | [],U,s,_,h2,_=>⟨h2,id⟩
 | .mk dst g isG op drop::r,U,s,h1,h2,h3=>by
   simp only[VA]at h1;cases g with
   |none=>cases h1
   |some x=>
    obtain⟨e,w'⟩:=x;simp only at h1;have hc:(bif Nat.beq e d then w==w' else isin e U)=true:=by
     cases hc:(bif Nat.beq e d then w==w' else isin e U)with
     |true=>rfl
     |false=>rw[hc]at h1;cases h1
    rw[hc]at h1;simp only[cond_true]at h1;have hdd:isin d drop=false:=by
     cases hx:isin d drop with
     |false=>rfl
     |true=>rw[hx]at h1;cases h1
    rw[hdd]at h1;simp only[cond_false]at h1;have hstep:zR P (r++rest) ((s.put dst x9).drop drop) K ->zR P (.mk dst (some (e,w')) isG op drop::r++rest) s K:=by
     intro hk;show zR P (.mk dst (some (e,w')) isG op drop::(r++rest)) s K;unfold zR;cases hed:Nat.beq e d with
     |true=>
      have hed:=Nat.eq_of_beq_eq_true hed;subst hed;rw[xK,cond_true]at hc;have hw:w=w':=eq_of_beq hc;subst hw;simp only[h2];cases w
      ·simpa only[zD,cV,Bool.not_false,cond_true,cond_false,yM]using hk
      ·simpa only[zD,cV,Bool.not_true,cond_true,cond_false,yM]using hk
     |false=>
      rw[hed]at hc;simp only[cond_false]at hc;simp only[h3 e hc,x9];rw[yM];exact hk
    have hnext: ∀(U':List Nat),VA d w U' r=true ->(dst≠some d) ->(∀k,isin k U'=true ->(dst=some k\/isin k U=true)/\isin k drop=false) ->
     (YB r ((s.put dst x9).drop drop)).tmp d=zD (!w)/\(zR P rest (YB r ((s.put dst x9).drop drop)) K ->zR P (r++rest) ((s.put dst x9).drop drop) K):=by
     intro U' hU' hdst hUU;refine alH hU' ?_ ?_
     ·rw[<- h2];refine S.tmp_of ?_;rw[S.drop_get,if_pos hdd,S.put_get _ _ _ _ hdst]
     ·intro k hk;obtain⟨h4,h5⟩:=hUU k hk;by_cases hke:dst=some k
      ·subst hke;unfold S.tmp;rw[S.drop_get,if_pos h5,S.put_same]
      ·rcases h4 with h4|h4
       ·exact absurd h4 hke
       ·rw[<- h3 k h4];refine S.tmp_of ?_;rw[S.drop_get,if_pos h5,S.put_get _ _ _ _ hke]
    have hfin: ∀{U':List Nat},∀k,isin k (U'.filter λk=>!isin k drop)=true ->isin k U'=true /\isin k drop=false:=by
     intro U' k hk;have:=(zN _ _).1 hk;rw[List.mem_filter]at this;refine⟨(zN _ _).2 this.1,?_⟩;have:=this.2;cases hx:isin k drop
     ·rfl
     ·rw[hx]at this;cases this
    cases dst with
    |none=>
     have:=hnext _ h1 (by intro h;cases h) (λk hk=>⟨.inr (hfin k hk).1,(hfin k hk).2⟩);exact⟨this.1,λhk=>hstep (this.2 hk)⟩
    |some x=>
     simp only at h1;cases hxd:Nat.beq x d with
     |true=>rw[hxd]at h1;cases h1
     |false=>
      rw[hxd]at h1;simp only[cond_false]at h1;have hne:x≠d:=λh=>by subst h;rw[xK]at hxd;cases hxd
      have:=hnext _ h1 (by intro h;cases h;exact hne rfl) (λk hk=>⟨(by
       have:=(zN _ _).1 (hfin k hk).1;rcases List.mem_cons.1 this with rfl|h
       ·exact .inl rfl
       ·exact .inr ((zN _ _).2 h)),(hfin k hk).2⟩)
      exact⟨this.1,λhk=>hstep (this.2 hk)⟩
theorem ab3 (d:Nat): ∀(U:List Nat) (ops:List AI) (a b:List AI),qm d U ops=(a,b) ->ops=a++b
 |_,[],a,b,h=>by cases h;rfl
 |U,.mk dst g isG op drop::r,a,b,h=>by
  unfold qm at h;cases g with
  |none=>cases h;rfl
  |some x=>
   obtain⟨e,w⟩:=x;simp only at h;cases hc:(Nat.beq e d||isin e U)<;>rw[hc]at h
   ·cases h;rfl
   ·simp only[cond_true]at h;cases dst with
    |none=>cases h;simp only[List.cons_append];rw[<- ab3 d U r _ _ rfl]
    |some x=>cases h;simp only[List.cons_append];rw[<- ab3 d (x::U) r _ _ rfl]
end Go.AM
