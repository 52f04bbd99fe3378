import Derived.Test.YtkdijaiaplkliaaGreatDoorZx4
set_option linter.unusedSimpArgs false
set_option linter.unusedVariables false
set_option maxRecDepth 100000
set_option maxHeartbeats 4000000
namespace Go.AM
theorem abb {a b:Option (Nat×Bool)}(h:uV a b=true):a=b:=by
 cases a with
 |none=>cases b with
  |none=>rfl
  |some x=>cases h
 |some x=>cases b with
  |none=>cases h
  |some y=>
   obtain⟨i,j⟩:=x;obtain⟨l,o⟩:=y;simp only[uV]at h;cases g:Nat.beq i l<;>rw[g]at h
   ·cases h
   ·have:=Nat.eq_of_beq_eq_true g;subst this;have:j=o:=eq_of_beq h;rw[this]
theorem Vq {P:Program}{dst:Option Nat}{g:Option (Nat×Bool)}{i:Bool}{op:AOp}{drop:List Nat}{r:List AI}{s:S}{K:S ->Prop}(j:Xg s g=true)
 (h:zF P dst op s λl=>split i dst l λo=>zN P r (o.drop drop) K):zN P (.mk dst g i op drop::r) s K:=by
 unfold zN;simp only[yU];cases g with
 |none=>exact h
 |some x=>
  obtain⟨d,w⟩:=x;have:=adz j<;>grind[zZ,cV]
theorem QW {P:Program}{dst:Option Nat}{g:Option (Nat×Bool)}{op:AOp}{drop:List Nat}{r:List AI}{s:S}{K:S ->Prop}(i:Xg s g=true)
 (h:zF P dst op s λj=>zN P r (j.drop drop) K):zN P (.mk dst g false op drop::r) s K:=Vq i h
def aeW (P:Program)(T:Tab P)(n:Nat):Prop:= ∀d g ops s j i,VD T.f n d g ops s=some (j,i) ->
 (∀l,qG l ops=true ->Same l s i)/\ ∀rest K,vO j True ->zN P rest i K ->zN P (ops++rest) s K
def amt (P:Program)(T:Tab P)(n:Nat):Prop:= ∀p dst g ops s o j i,scB T.f n p dst g ops s=some (o,j,i) ->
 (∀l d,dst=some d ->qG l ops=true ->isin d l=true ->u0 (λk=>isin k l) g=true ->Same l s j)/\(∃pre,ops=pre++i)/\
  ∀rest K,vO o True ->zN P (i++rest) j K ->split true dst s λr=>zN P (ops++rest) (r.drop g) K
theorem ana {P:Program}{T:Tab P}{n:Nat}(hm:aeW P T n)(hs:amt P T n):aeW P T (n+1):=by
 intro d j ops s ps s' h;unfold VD at h;cases ops with
 |nil=>grind[Same.refl]
 |cons i r=>
  obtain⟨dst,g,aa,op,drop⟩:=i;simp only at h;cases hc:(uV g (some (d,j))&&jm (s.tmp d) j&&isSome dst)<;>rw[hc]at h
  ·cases h
  simp only[cond_true]at h;rw[Bool.and_eq_true,Bool.and_eq_true]at hc;obtain⟨⟨hg,hd⟩,J⟩:=hc;have hg:=abb hg;subst hg;cases dst with
  |none=>cases J
  |some x=>
  cases ha:ace T.f op s with
  |none=>grind
  |some y=>
   obtain⟨p1,v⟩:=y;rw[ha]at h;simp only at h;cases aa with
   |false=>
    simp only[cond_false]at h;cases I:VD T.f n d j r ((s.put (some x) v).drop drop)with
    |none=>grind
    |some z=>
     obtain⟨p3,s3⟩:=z;rw[I]at h;cases h;obtain⟨a,b⟩:=hm _ _ _ _ _ _ I;refine⟨λl hl=>?_,λrest K hp hk=>?_⟩
     ·obtain⟨y,e,h1,R,U⟩:=YU hl;cases e;exact((Same.put h1 v).trans (Same.drop R)).trans (a l U)
     ·obtain⟨p,o⟩:=gN hp;refine QW (g:=some (d,j)) hd ?_;exact VX ha p (b rest K o hk) rfl
   |true=>
    simp only[cond_true]at h;cases R:scB T.f n (some (d,j)) (some x) drop r (s.put (some x) v)with
    |none=>grind
    |some z=>
     obtain⟨p2,s2,r2⟩:=z;rw[R]at h;simp only at h;cases I:VD T.f n d j r2 s2 with
     |none=>grind
     |some z=>
      obtain⟨p3,s3⟩:=z;rw[I]at h;cases h;obtain⟨a,b⟩:=hm _ _ _ _ _ _ I;obtain⟨c,⟨pre,rfl⟩,e⟩:=hs _ _ _ _ _ _ _ _ R;refine⟨λl hl=>?_,λrest K hp hk=>?_⟩
      ·obtain⟨y,e1,U,h5,h6⟩:=YU hl;cases e1;exact((Same.put U v).trans (c l x rfl h6 U h5)).trans (a l (VU h6).2)
      ·obtain⟨p,o⟩:=gN hp;obtain⟨o,ab⟩:=gN o;refine Vq (g:=some (d,j)) hd ?_;refine VX ha p ?_ rfl<;>simp_all
theorem apb {P:Program}{T:Tab P}{n:Nat}(hm:aeW P T n):amt P T (n+1):=by
 intro gd dst i ops s ps s' r2 h;unfold scB at h;cases dst with
 |none=>cases h
 |some d=>
 simp only at h;cases hb:yi (s.tmp d)with
 |none=>grind
 |some b=>
 rw[hb]at h;simp only at h;split at h
 ·rename_i ah e w ao az ab ag J g2 c x y drop a6 ay;have an:=K6 _ _ _ _ _ ay;generalize a0:AI.mk ah (some (e,w)) ao az ab::ag=g at*;subst an;cases hc:(Nat.beq c d&&uV g2 gd&&Wd drop gd&&Xg (s.drop i) gd&&Qz d w [] g&&qG drop g&&isin d drop&& !isin d i&&sortedB s.sl)<;>rw[hc]at h
  ·cases h
  simp only[cond_true]at h;simp only[Bool.and_eq_true,Bool.not_eq_true']at hc;obtain⟨⟨⟨⟨⟨⟨⟨⟨h1,h2⟩,h3⟩,h4⟩,h5⟩,h6⟩,h7⟩,h8⟩,h9⟩:=hc;have h1:=Nat.eq_of_beq_eq_true h1;subst h1;have h2:=abb h2;subst h2;cases al:VD T.f n c w g ((s.put (some c) (zZ w)).drop i)with
  |none=>grind
  |some z=>
  obtain⟨p1,sb⟩:=z;rw[al]at h;simp only at h;split at h
  ·rename_i bi v au I;split at h
   ·rename_i bo ac;cases hl:jm (sb.tmp c) w<;>rw[hl]at h
    ·cases h
    cases h;have ac:=QC ac;subst ac;rw[aqd];obtain⟨ma,mb⟩:=hm _ _ _ _ _ _ al;have p:=ma drop h6;have a3:=QC hb;have a2:=QC au;have r: ∀t:S,(∀k,isin k drop=false ->aget t.sl k=aget (s.drop i).sl k) ->Xg t g2=true:=by
     intro t ht;cases g2 with
     |none=>rfl
     |some z=>
      obtain⟨e2,w2⟩:=z;have ho:isin e2 drop=false:=by
       grind[Wd]
      show jm (t.tmp e2) w2=true;rw[S.tmp_of (ht e2 ho)];exact h4
    have aa: ∀(u:V) (k:Nat),isin k drop=false ->aget ((s.put (some c) u).drop i).sl k=aget (s.drop i).sl k:=by
     grind[S.drop_get,S.put_get]
    have a1: ∀(t:S) (u:V),t.pl=s.pl ->sortedB t.sl=true ->(∀k,isin k drop=false ->aget t.sl k=aget (s.drop i).sl k) ->
     (t.put (some J) u).drop drop=((s.drop i).put (some J) u).drop drop:=by
     intro t u R U ht;refine S.ext' R (S.drop_sorted (S.put_sorted U _ _) _) (S.drop_sorted (S.put_sorted (S.drop_sorted h9 _) _ _) _) λk=>?_
     rw[S.drop_get,S.drop_get];split
     ·rename_i hk;by_cases e:J=k<;>simp_all[S.put_same,S.put_get]
     ·rfl
    refine⟨λl d' a4 av a5 aw=>?_,⟨g++[.mk (some J) g2 false (.pick (.t c) x y) drop],by simp⟩,λrest K hp hk=>?_⟩
    ·obtain⟨_,hw⟩:=VU av;obtain⟨d2,e2,aq,aj,_⟩:=YU hw;cases e2;exact((Same.drop aw).trans (Same.put aq _)).trans (Same.drop aj)
    ·show split true (some c) s _;unfold split;simp only[cond_true,hb];have ai:g++AI.mk (some J) g2 false (.pick (.t c) x y) drop::r2++rest=g++AI.mk (some J) g2 false (.pick (.t c) x y) drop::(r2++rest):=by simp
     rw[ai];have ax:b=w ->zN P (g++AI.mk (some J) g2 false (.pick (.t c) x y) drop::(r2++rest)) ((s.put (some c) (zZ w)).drop i) K:=by
      rintro rfl;refine mb _ K ?_ ?_
      ·cases p1<;>simp_all[ajC,vO]
      ·have j: ∀k,isin k drop=false ->aget sb.sl k=aget (s.drop i).sl k:=λk hk=>(p.get k hk).trans (aa _ k hk)
       refine QW (r sb j) ?_;simp only[zF];have ad:sb.o (.t c)=zZ b:=adz hl;rw[ad];have af:yi (zZ b)=some b:=rfl;rw[af];have U:sortedB sb.sl=true:=p.sorted (S.drop_sorted (S.put_sorted h9 _ _) _);have R:sb.pl=s.pl:=p.pl;cases b<;>simp_all
     have ar:b= !w ->zN P (g++AI.mk (some J) g2 false (.pick (.t c) x y) drop::(r2++rest)) ((s.put (some c) (zZ (!w))).drop i) K:=by
      rintro rfl;have hq:((s.put (some c) (zZ (!w))).drop i).tmp c=zZ (!w):=by
       simp_all[S.tmp,S.drop_get,S.put_same]
      have ak:=afL (P:=P) (K:=K) (rest:=AI.mk (some J) g2 false (.pick (.t c) x y) drop::(r2++rest)) h5 hq (by intro e he;cases he);refine ak.2 ?_;have ae:=aa4 (s:=(s.put (some c) (zZ (!w))).drop i) h6;have j: ∀k,isin k drop=false ->aget (Zx g ((s.put (some c) (zZ (!w))).drop i)).sl k=aget (s.drop i).sl k:=λk hk=>(ae.get k hk).trans (aa _ k hk)
      refine QW (r _ j) ?_;simp only[zF];have ad:(Zx g ((s.put (some c) (zZ (!w))).drop i)).o (.t c)=zZ (!w):=ak.1;rw[ad];have af:yi (zZ (!w))=some (!w):=rfl;rw[af];have U:sortedB (Zx g ((s.put (some c) (zZ (!w))).drop i)).sl=true:=ae.sorted (S.drop_sorted (S.put_sorted h9 _ _) _);have R:(Zx g ((s.put (some c) (zZ (!w))).drop i)).pl=s.pl:=ae.pl;cases w
      ·simp only[cond_false,Bool.not_false,cond_true]at I hk j U R⊢;subst I;show zN P _ (((Zx g _).put (some J) (zZ bo)).drop drop) K
       grind
      ·simp only[cond_false,Bool.not_true,cond_true]at I hk j U R⊢;subst I;show zN P _ (((Zx g _).put (some J) (zZ bo)).drop drop) K
       grind
     grind
   ·cases h
  ·cases h
 ·cases h
theorem abr (P:Program)(T:Tab P): ∀n,aeW P T n /\amt P T n
 |0=>⟨(by intro d g ops s i j h;grind[VD]),(by intro o dst l ops s i j p h;grind[scB])⟩
 |n+1=>⟨ana (abr P T n).1 (abr P T n).2,apb (abr P T n).1⟩
end Go.AM
