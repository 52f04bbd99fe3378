import Derived.Test.YtnlbmefhdiabcaaGreatZu4
set_option linter.unusedSimpArgs false
set_option linter.unusedVariables false
set_option maxRecDepth 100000
set_option maxHeartbeats 4000000
namespace Go.AM
theorem ahy {a b:Option (Nat×Bool)}(h:Z5 a b=true):a=b:=by
 cases a with
 |none=>cases b with
  |none=>rfl
  |some x=>cases h
 |some x=>cases b with
  |none=>cases h
  |some y=>
   obtain⟨i,j⟩:=x;obtain⟨l,o⟩:=y;simp only[Z5]at h;cases g:Nat.beq i l<;>rw[g]at h
   ·cases h
   ·have:=Nat.eq_of_beq_eq_true g;subst this;have:j=o:=eq_of_beq h;rw[this]
theorem ke {P:Program}{dst:Option Nat}{g:Option (Nat×Bool)}{i:Bool}{op:AOp}{drop:List Nat}{r:List AI}{s:S}{K:S ->Prop}(j:WV s g=true)
 (h:z8 P dst op s λl=>split i dst l λo=>yh P r (o.drop drop) K):yh P (.mk dst g i op drop::r) s K:=by
 unfold yh;simp only[xJ];cases g with
 |none=>exact h
 |some x=>
  obtain⟨d,w⟩:=x;have:=akI j<;>grind[yd,cV]
theorem Jh {P:Program}{dst:Option Nat}{g:Option (Nat×Bool)}{op:AOp}{drop:List Nat}{r:List AI}{s:S}{K:S ->Prop}(i:WV s g=true)
 (h:z8 P dst op s λj=>yh P r (j.drop drop) K):yh P (.mk dst g false op drop::r) s K:=ke i h
def amI (P:Program)(T:Tab P)(n:Nat):Prop:= ∀d g ops s j i,kr T.f n d g ops s=some (j,i) ->
 (∀l,vJ l ops=true ->Same l s i)/\ ∀rest K,jQ j True ->yh P rest i K ->yh P (ops++rest) s K
def awr (P:Program)(T:Tab P)(n:Nat):Prop:= ∀p dst g ops s o j i,scB T.f n p dst g ops s=some (o,j,i) ->
 (∀l d,dst=some d ->vJ l ops=true ->isin d l=true ->Yb (λk=>isin k l) g=true ->Same l s j)/\(∃pre,ops=pre++i)/\
  ∀rest K,jQ o True ->yh P (i++rest) j K ->split true dst s λr=>yh P (ops++rest) (r.drop g) K
theorem ax6 {P:Program}{T:Tab P}{n:Nat}(hm:amI P T n)(hs:awr P T n):amI P T (n+1):=by
 intro d j ops s ps s' h;unfold kr at h;cases ops with
 |nil=>grind[Same.refl]
 |cons i r=>
  obtain⟨dst,g,aa,op,drop⟩:=i;simp only at h;cases hc:(Z5 g (some (d,j))&&YB (s.tmp d) j&&isSome dst)<;>rw[hc]at h
  ·cases h
  simp only[cond_true]at h;rw[Bool.and_eq_true,Bool.and_eq_true]at hc;obtain⟨⟨hg,hd⟩,J⟩:=hc;have hg:=ahy hg;subst hg;cases dst with
  |none=>cases J
  |some x=>
  cases ha:aiV T.f op s with
  |none=>grind
  |some y=>
   obtain⟨p1,v⟩:=y;rw[ha]at h;simp only at h;cases aa with
   |false=>
    simp only[cond_false]at h;cases I:kr T.f n d j r ((s.put (some x) v).drop drop)with
    |none=>grind
    |some z=>
     obtain⟨p3,s3⟩:=z;rw[I]at h;cases h;obtain⟨a,b⟩:=hm _ _ _ _ _ _ I;refine⟨λl hl=>?_,λrest K hp hk=>?_⟩
     ·obtain⟨y,e,h1,R,U⟩:=Wu hl;cases e;exact((Same.put h1 v).trans (Same.drop R)).trans (a l U)
     ·obtain⟨p,o⟩:=afx hp;refine Jh (g:=some (d,j)) hd ?_;exact kP ha p (b rest K o hk) rfl
   |true=>
    simp only[cond_true]at h;cases R:scB T.f n (some (d,j)) (some x) drop r (s.put (some x) v)with
    |none=>grind
    |some z=>
     obtain⟨p2,s2,r2⟩:=z;rw[R]at h;simp only at h;cases I:kr T.f n d j r2 s2 with
     |none=>grind
     |some z=>
      obtain⟨p3,s3⟩:=z;rw[I]at h;cases h;obtain⟨a,b⟩:=hm _ _ _ _ _ _ I;obtain⟨c,⟨pre,rfl⟩,e⟩:=hs _ _ _ _ _ _ _ _ R;refine⟨λl hl=>?_,λrest K hp hk=>?_⟩
      ·obtain⟨y,e1,U,h5,h6⟩:=Wu hl;cases e1;exact((Same.put U v).trans (c l x rfl h6 U h5)).trans (a l (kM h6).2)
      ·obtain⟨p,o⟩:=afx hp;obtain⟨o,ab⟩:=afx o;refine ke (g:=some (d,j)) hd ?_;refine kP ha p ?_ rfl<;>simp_all
theorem aAP {P:Program}{T:Tab P}{n:Nat}(hm:amI P T n):awr P T (n+1):=by
 intro gd dst i ops s ps s' r2 h;unfold scB at h;cases dst with
 |none=>cases h
 |some d=>
 simp only at h;cases hb:yY (s.tmp d)with
 |none=>grind
 |some b=>
 rw[hb]at h;simp only at h;split at h
 ·rename_i ah e w ao az ab ag J g2 c x y drop a6 ay;have an:=adx _ _ _ _ _ ay;generalize a0:AI.mk ah (some (e,w)) ao az ab::ag=g at*;subst an;cases hc:(Nat.beq c d&&Z5 g2 gd&&JE drop gd&&WV (s.drop i) gd&&UM d w [] g&&vJ drop g&&isin d drop&& !isin d i&&sortedB s.sl)<;>rw[hc]at h
  ·cases h
  simp only[cond_true]at h;simp only[Bool.and_eq_true,Bool.not_eq_true']at hc;obtain⟨⟨⟨⟨⟨⟨⟨⟨h1,h2⟩,h3⟩,h4⟩,h5⟩,h6⟩,h7⟩,h8⟩,h9⟩:=hc;have h1:=Nat.eq_of_beq_eq_true h1;subst h1;have h2:=ahy h2;subst h2;cases al:kr T.f n c w g ((s.put (some c) (yd w)).drop i)with
  |none=>grind
  |some z=>
  obtain⟨p1,sb⟩:=z;rw[al]at h;simp only at h;split at h
  ·rename_i bi v au I;split at h
   ·rename_i bo ac;cases hl:YB (sb.tmp c) w<;>rw[hl]at h
    ·cases h
    cases h;have ac:=UQ ac;subst ac;rw[aB2];obtain⟨ma,mb⟩:=hm _ _ _ _ _ _ al;have p:=ma drop h6;have a3:=UQ hb;have a2:=UQ au;have r: ∀t:S,(∀k,isin k drop=false ->aget t.sl k=aget (s.drop i).sl k) ->WV t g2=true:=by
     intro t ht;cases g2 with
     |none=>rfl
     |some z=>
      obtain⟨e2,w2⟩:=z;have ho:isin e2 drop=false:=by
       grind[JE]
      show YB (t.tmp e2) w2=true;rw[S.tmp_of (ht e2 ho)];exact h4
    have aa: ∀(u:V) (k:Nat),isin k drop=false ->aget ((s.put (some c) u).drop i).sl k=aget (s.drop i).sl k:=by
     grind[S.drop_get,S.put_get]
    have a1: ∀(t:S) (u:V),t.pl=s.pl ->sortedB t.sl=true ->(∀k,isin k drop=false ->aget t.sl k=aget (s.drop i).sl k) ->
     (t.put (some J) u).drop drop=((s.drop i).put (some J) u).drop drop:=by
     intro t u R U ht;refine S.ext' R (S.drop_sorted (S.put_sorted U _ _) _) (S.drop_sorted (S.put_sorted (S.drop_sorted h9 _) _ _) _) λk=>?_
     rw[S.drop_get,S.drop_get];split
     ·rename_i hk;by_cases e:J=k<;>simp_all[S.put_same,S.put_get]
     ·rfl
    refine⟨λl d' a4 av a5 aw=>?_,⟨g++[.mk (some J) g2 false (.pick (.t c) x y) drop],by simp⟩,λrest K hp hk=>?_⟩
    ·obtain⟨_,hw⟩:=kM av;obtain⟨d2,e2,aq,aj,_⟩:=Wu hw;cases e2;exact((Same.drop aw).trans (Same.put aq _)).trans (Same.drop aj)
    ·show split true (some c) s _;unfold split;simp only[cond_true,hb];have ai:g++AI.mk (some J) g2 false (.pick (.t c) x y) drop::r2++rest=g++AI.mk (some J) g2 false (.pick (.t c) x y) drop::(r2++rest):=by simp
     rw[ai];have ax:b=w ->yh P (g++AI.mk (some J) g2 false (.pick (.t c) x y) drop::(r2++rest)) ((s.put (some c) (yd w)).drop i) K:=by
      rintro rfl;refine mb _ K ?_ ?_
      ·cases p1<;>simp_all[asJ,jQ]
      ·have j: ∀k,isin k drop=false ->aget sb.sl k=aget (s.drop i).sl k:=λk hk=>(p.get k hk).trans (aa _ k hk)
       refine Jh (r sb j) ?_;simp only[z8];have ad:sb.o (.t c)=yd b:=akI hl;rw[ad];have af:yY (yd b)=some b:=rfl;rw[af];have U:sortedB sb.sl=true:=p.sorted (S.drop_sorted (S.put_sorted h9 _ _) _);have R:sb.pl=s.pl:=p.pl;cases b<;>simp_all
     have ar:b= !w ->yh P (g++AI.mk (some J) g2 false (.pick (.t c) x y) drop::(r2++rest)) ((s.put (some c) (yd (!w))).drop i) K:=by
      rintro rfl;have hq:((s.put (some c) (yd (!w))).drop i).tmp c=yd (!w):=by
       simp_all[S.tmp,S.drop_get,S.put_same]
      have ak:=anV (P:=P) (K:=K) (rest:=AI.mk (some J) g2 false (.pick (.t c) x y) drop::(r2++rest)) h5 hq (by intro e he;cases he);refine ak.2 ?_;have ae:=ahn (s:=(s.put (some c) (yd (!w))).drop i) h6;have j: ∀k,isin k drop=false ->aget (XS g ((s.put (some c) (yd (!w))).drop i)).sl k=aget (s.drop i).sl k:=λk hk=>(ae.get k hk).trans (aa _ k hk)
      refine Jh (r _ j) ?_;simp only[z8];have ad:(XS g ((s.put (some c) (yd (!w))).drop i)).o (.t c)=yd (!w):=ak.1;rw[ad];have af:yY (yd (!w))=some (!w):=rfl;rw[af];have U:sortedB (XS g ((s.put (some c) (yd (!w))).drop i)).sl=true:=ae.sorted (S.drop_sorted (S.put_sorted h9 _ _) _);have R:(XS g ((s.put (some c) (yd (!w))).drop i)).pl=s.pl:=ae.pl;cases w
      ·simp only[cond_false,Bool.not_false,cond_true]at I hk j U R⊢;subst I;show yh P _ (((XS g _).put (some J) (yd bo)).drop drop) K
       grind
      ·simp only[cond_false,Bool.not_true,cond_true]at I hk j U R⊢;subst I;show yh P _ (((XS g _).put (some J) (yd bo)).drop drop) K
       grind
     grind
   ·cases h
  ·cases h
 ·cases h
theorem ah0 (P:Program)(T:Tab P): ∀n,amI P T n /\awr P T n
 |0=>⟨(by intro d g ops s i j h;grind[kr]),(by intro o dst l ops s i j p h;grind[scB])⟩
 |n+1=>⟨ax6 (ah0 P T n).1 (ah0 P T n).2,aAP (ah0 P T n).1⟩
end Go.AM
