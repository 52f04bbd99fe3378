import Derived.Test.YtkdijaiaplkliaaGreatDoorZp4
set_option linter.unusedSimpArgs false
set_option linter.unusedVariables false
set_option maxRecDepth 100000
set_option maxHeartbeats 4000000
open _root_ renaming cond_true->am,cond_false->aC,Option->aD
open Bool renaming and_eq_true->aA
open Nat renaming eq_of_beq_eq_true->aB
open Go.AM.Same renaming drop->aE,put->aF
namespace Go.AM
theorem ahP{a b:aD (Nat×Bool)}(h:ZQ a b=true):a=b:=by
 cases a with
 |none=>cases b with
  |none=>rfl
  |some x=>cases h
 |some x=>cases b with
  |none=>cases h
  |some y=>
   obtain⟨i,j⟩:=x;obtain⟨l,o⟩:=y;simp only[ZQ]at h;cases g:Nat.beq i l<;>rw[g]at h
   .cases h
   have:=aB g;subst this;have:j=o:=eq_of_beq h;rw[this]
theorem kM{P:Program}{dst:aD Nat}{g:aD (Nat×Bool)}{i:Bool}{op:AOp}{drop:List Nat}{r:List AI}{s:S}{K:S->Prop}(j:Vd s g=true)
 (h:zK P dst op s λl=>split i dst l λo=>yd P r (o.drop drop) K):yd P (.mk dst g i op drop::r) s K:=by
 unfold yd;simp only[xu];cases g with
 |none=>exact h
 |some x=>
  obtain⟨d,w⟩:=x;have:=akF j<;>grind[zZ,cV]
theorem Jw{P:Program}{dst:aD Nat}{g:aD (Nat×Bool)}{op:AOp}{drop:List Nat}{r:List AI}{s:S}{K:S->Prop}(i:Vd s g=true)
 (h:zK P dst op s λj=>yd P r (j.drop drop) K):yd P (.mk dst g false op drop::r) s K:=kM i h
def amp(P:Program)(T:Tab P)(n:Nat):Prop:=∀d g ops s j i,gg T.f n d g ops s=some (j,i)->
 (∀l,vJ l ops=true->Same l s i)/\∀rest K,jO j True->yd P rest i K->yd P (ops++rest) s K
def awf(P:Program)(T:Tab P)(n:Nat):Prop:=∀p dst g ops s o j i,scB T.f n p dst g ops s=some (o,j,i)->
 (∀l d,dst=some d->vJ l ops=true->isin d l=true->ZX (λk=>isin k l) g=true->Same l s j)/\(∃pre,ops=pre++i)/\
  ∀rest K,jO o True->yd P (i++rest) j K->split true dst s λr=>yd P (ops++rest) (r.drop g) K
theorem axJ{P:Program}{T:Tab P}{n:Nat}(hm:amp P T n)(hs:awf P T n):amp P T (n+1):=by
 intro d j ops s ps s' h;unfold gg at h;cases ops with
 |nil=>grind[Same.refl]
 |cons i r=>
  obtain⟨dst,g,aa,op,drop⟩:=i;simp only at h;cases hc:(ZQ g (some (d,j))&&Yv (s.tmp d) j&&isSome dst)<;>rw[hc]at h
  .cases h
  simp only[am]at h;rw[aA,aA]at hc;obtain⟨⟨hg,hd⟩,J⟩:=hc;have hg:=ahP hg;subst hg;cases dst with
  |none=>cases J
  |some x=>
  cases ha:ai5 T.f op s with
  |none=>grind
  |some y=>
   obtain⟨p1,v⟩:=y;rw[ha]at h;simp only at h;cases aa with
   |false=>
    simp only[aC]at h;cases I:gg T.f n d j r ((s.put (some x) v).drop drop)with
    |none=>grind
    |some z=>
     obtain⟨p3,s3⟩:=z;rw[I]at h;cases h;obtain⟨a,b⟩:=hm _ _ _ _ _ _ I;refine⟨λl hl=>?_,λrest K hp hk=>?_⟩
     .obtain⟨y,e,h1,R,U⟩:=WF hl;cases e;exact((aF h1 v).trans (aE R)).trans (a l U)
     obtain⟨p,o⟩:=af8 hp;refine Jw (g:=some (d,j)) hd ?_;exact gI ha p (b rest K o hk) rfl
   |true=>
    simp only[am]at h;cases R:scB T.f n (some (d,j)) (some x) drop r (s.put (some x) v)with
    |none=>grind
    |some z=>
     obtain⟨p2,s2,r2⟩:=z;rw[R]at h;simp only at h;cases I:gg T.f n d j r2 s2 with
     |none=>grind
     |some z=>
      obtain⟨p3,s3⟩:=z;rw[I]at h;cases h;obtain⟨a,b⟩:=hm _ _ _ _ _ _ I;obtain⟨c,⟨pre,rfl⟩,e⟩:=hs _ _ _ _ _ _ _ _ R;refine⟨λl hl=>?_,λrest K hp hk=>?_⟩
      .obtain⟨y,e1,U,h5,h6⟩:=WF hl;cases e1;exact((aF U v).trans (c l x rfl h6 U h5)).trans (a l (gD h6).2)
      obtain⟨p,o⟩:=af8 hp;obtain⟨o,ab⟩:=af8 o;refine kM (g:=some (d,j)) hd ?_;refine gI ha p ?_ rfl<;>simp_all
theorem aAn{P:Program}{T:Tab P}{n:Nat}(hm:amp P T n):awf P T (n+1):=by
 intro gd dst i ops s ps s' r2 h;unfold scB at h;cases dst with
 |none=>cases h
 |some d=>
 simp only at h;cases hb:yL (s.tmp d)with
 |none=>grind
 |some b=>
 rw[hb]at h;simp only at h;split at h
 .rename_i ah e w ao az ab ag J g2 c x y drop a6 ay;have an:=ael _ _ _ _ _ ay;generalize a0:AI.mk ah (some (e,w)) ao az ab::ag=g at*;subst an;cases hc:(Nat.beq c d&&ZQ g2 gd&&JT drop gd&&Vd (s.drop i) gd&&U8 d w [] g&&vJ drop g&&isin d drop&&!isin d i&&sortedB s.sl)<;>rw[hc]at h
  .cases h
  simp only[am]at h;simp only[aA,Bool.not_eq_true']at hc;obtain⟨⟨⟨⟨⟨⟨⟨⟨h1,h2⟩,h3⟩,h4⟩,h5⟩,h6⟩,h7⟩,h8⟩,h9⟩:=hc;have h1:=aB h1;subst h1;have h2:=ahP h2;subst h2;cases al:gg T.f n c w g ((s.put (some c) (zZ w)).drop i)with
  |none=>grind
  |some z=>
  obtain⟨p1,sb⟩:=z;rw[al]at h;simp only at h;split at h
  .rename_i bi v au I;split at h
   .rename_i bo ac;cases hl:Yv (sb.tmp c) w<;>rw[hl]at h
    .cases h
    cases h;have ac:=Wq ac;subst ac;rw[aBH];obtain⟨ma,mb⟩:=hm _ _ _ _ _ _ al;have p:=ma drop h6;have a3:=Wq hb;have a2:=Wq au;have r:∀t:S,(∀k,isin k drop=false->aget t.sl k=aget (s.drop i).sl k)->Vd t g2=true:=by
     intro t ht;cases g2 with
     |none=>rfl
     |some z=>
      obtain⟨e2,w2⟩:=z;have ho:isin e2 drop=false:=by grind[JT]
      show Yv (t.tmp e2) w2=true;rw[S.tmp_of (ht e2 ho)];exact h4
    have aa:∀(u:V) (k:Nat),isin k drop=false->aget ((s.put (some c) u).drop i).sl k=aget (s.drop i).sl k:=by grind[S.drop_get,S.put_get]
    have a1:∀(t:S) (u:V),t.pl=s.pl->sortedB t.sl=true->(∀k,isin k drop=false->aget t.sl k=aget (s.drop i).sl k)->
     (t.put (some J) u).drop drop=((s.drop i).put (some J) u).drop drop:=by
     intro t u R U ht;refine S.ext' R (S.drop_sorted (S.put_sorted U _ _) _) (S.drop_sorted (S.put_sorted (S.drop_sorted h9 _) _ _) _) λk=>?_
     rw[S.drop_get,S.drop_get];split
     .rename_i hk;by_cases e:J=k<;>simp_all[S.put_same,S.put_get]
     rfl
    refine⟨λl d' a4 av a5 aw=>?_,⟨g++[.mk (some J) g2 false (.pick (.t c) x y) drop],dT⟩,λrest K hp hk=>?_⟩
    .obtain⟨_,hw⟩:=gD av;obtain⟨d2,e2,aq,aj,_⟩:=WF hw;cases e2;exact((aE aw).trans (aF aq _)).trans (aE aj)
    show split true (some c) s _;unfold split;simp only[am,hb];have ai:g++AI.mk (some J) g2 false (.pick (.t c) x y) drop::r2++rest=g++AI.mk (some J) g2 false (.pick (.t c) x y) drop::(r2++rest):=dT
    rw[ai];have ax:b=w->yd P (g++AI.mk (some J) g2 false (.pick (.t c) x y) drop::(r2++rest)) ((s.put (some c) (zZ w)).drop i) K:=by
     rintro rfl;refine mb _ K ?_ ?_
     .cases p1<;>simp_all[asx,jO]
     have j:∀k,isin k drop=false->aget sb.sl k=aget (s.drop i).sl k:=λk hk=>(p.get k hk).trans (aa _ k hk)
     refine Jw (r sb j) ?_;simp only[zK];have ad:sb.o (.t c)=zZ b:=akF hl;rw[ad];have af:yL (zZ b)=some b:=rfl;rw[af];have U:sortedB sb.sl=true:=p.sorted (S.drop_sorted (S.put_sorted h9 _ _) _);have R:sb.pl=s.pl:=p.pl;cases b<;>simp_all
    have ar:b= !w->yd P (g++AI.mk (some J) g2 false (.pick (.t c) x y) drop::(r2++rest)) ((s.put (some c) (zZ (!w))).drop i) K:=by
     rintro rfl;have hq:((s.put (some c) (zZ (!w))).drop i).tmp c=zZ (!w):=by simp_all[S.tmp,S.drop_get,S.put_same]
     have ak:=anB (P:=P) (K:=K) (rest:=AI.mk (some J) g2 false (.pick (.t c) x y) drop::(r2++rest)) h5 hq (by intro e he;cases he);refine ak.2 ?_;have ae:=ahH (s:=(s.put (some c) (zZ (!w))).drop i) h6;have j:∀k,isin k drop=false->aget (XY g ((s.put (some c) (zZ (!w))).drop i)).sl k=aget (s.drop i).sl k:=λk hk=>(ae.get k hk).trans (aa _ k hk)
     refine Jw (r _ j) ?_;simp only[zK];have ad:(XY g ((s.put (some c) (zZ (!w))).drop i)).o (.t c)=zZ (!w):=ak.1;rw[ad];have af:yL (zZ (!w))=some (!w):=rfl;rw[af];have U:sortedB (XY g ((s.put (some c) (zZ (!w))).drop i)).sl=true:=ae.sorted (S.drop_sorted (S.put_sorted h9 _ _) _);have R:(XY g ((s.put (some c) (zZ (!w))).drop i)).pl=s.pl:=ae.pl;cases w
     .simp only[aC,Bool.not_false,am]at I hk j U R⊢;subst I;show yd P _ (((XY g _).put (some J) (zZ bo)).drop drop) K
      grind
     simp only[aC,Bool.not_true,am]at I hk j U R⊢;subst I;show yd P _ (((XY g _).put (some J) (zZ bo)).drop drop) K
     grind
    grind
   cases h
  cases h
 cases h
theorem ah9(P:Program)(T:Tab P):∀n,amp P T n/\awf P T n
 |0=>⟨(by intro d g ops s i j h;grind[gg]),(by intro o dst l ops s i j p h;grind[scB])⟩
 |n+1=>⟨axJ (ah9 P T n).1 (ah9 P T n).2,aAn (ah9 P T n).1⟩
end Go.AM
