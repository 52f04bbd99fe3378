import Derived.Test.YtnlbmefhdiabcaaGreatZt4
set_option linter.unusedSimpArgs false
set_option linter.unusedVariables false
set_option maxRecDepth 100000
set_option maxHeartbeats 4000000
open _root_ renaming cond_true->am,cond_false->aC,Option->aD
open Bool renaming and_eq_true->aA
open Nat renaming eq_of_beq_eq_true->aB
open Go.AM.Same renaming drop->aE,put->aF
namespace Go.AM
theorem akn{a b}(h:YK a b=true):a=b:=by
 cases a with
 |none=>cases b with
  |none=>rfl
  |some x=>cases h
 |some x=>cases b with
  |none=>cases h
  |some y=>
   obtain⟨i,j⟩:=x;obtain⟨l,o⟩:=y;simp only[YK]at h;cases g:Nat.beq i l<;>rw[g]at h
   .cases h
   have:=aB g;subst this;have:j=o:=eq_of_beq h;rw[this]
theorem aax{P}{dst}{g}{i}{op}{drop}{r}{s}{K:S->Prop}(j:Uc s g=true)
 (h:yg P dst op s λl=>split i dst l λo=>yp P r (o.drop drop) K):yp P (.mk dst g i op drop::r) s K:=by
 unfold yp;simp only[xY];cases g with
 |none=>exact h
 |some x=>
  obtain⟨d,w⟩:=x;have:=an7 j<;>grind[yf,cV]
theorem KJ{P}{dst}{g}{op}{drop}{r}{s}{K:S->Prop}(i:Uc s g=true)
 (h:yg P dst op s λj=>yp P r (j.drop drop) K):yp P (.mk dst g false op drop::r) s K:=aax i h
def aqg(P)(T:Tab P)(n):=∀d g ops s j i,aaN T.f n d g ops s=some (j,i)->
 (∀l,vZ l ops=true->Same l s i)/\∀rest K,Zs j True->yp P rest i K->yp P (ops++rest) s K
def aBk(P)(T:Tab P)(n):=∀p dst g ops s o j i,scB T.f n p dst g ops s=some (o,j,i)->
 (∀l d,dst=some d->vZ l ops=true->isin d l=true->YQ (λk=>isin k l) g=true->Same l s j)/\(∃pre,ops=pre++i)/\
  ∀rest K,Zs o True->yp P (i++rest) j K->split true dst s λr=>yp P (ops++rest) (r.drop g) K
theorem aCD{P}{T}{n}(hm:aqg P T n)(hs:aBk P T n):aqg P T (n+1):=by
 intro d j ops s ps s' h;unfold aaN at h;cases ops with
 |nil=>grind[Same.refl]
 |cons i r=>
  obtain⟨dst,g,aa,op,drop⟩:=i;simp only at h;cases hc:(YK g (some (d,j))&&Xk (s.tmp d) j&&isSome dst)<;>rw[hc]at h
  .cases h
  simp only[am]at h;rw[aA,aA]at hc;obtain⟨⟨hg,hd⟩,J⟩:=hc;have hg:=akn hg;subst hg;cases dst with
  |none=>cases J
  |some x=>
  cases ha:alS T.f op s with
  |none=>grind
  |some y=>
   obtain⟨p1,v⟩:=y;rw[ha]at h;simp only at h;cases aa with
   |false=>
    simp only[aC]at h;cases I:aaN T.f n d j r ((s.put (some x) v).drop drop)with
    |none=>grind
    |some z=>
     obtain⟨p3,s3⟩:=z;rw[I]at h;cases h;obtain⟨a,b⟩:=hm _ _ _ _ _ _ I;refine⟨λl hl=>?_,λrest K hp hk=>?_⟩
     .obtain⟨y,e,h1,R,U⟩:=VC hl;cases e;exact((aF h1 v).trans (aE R)).trans (a l U)
     obtain⟨p,o⟩:=ah4 hp;refine KJ (g:=some (d,j)) hd ?_;exact abe ha p (b rest K o hk) rfl
   |true=>
    simp only[am]at h;cases R:scB T.f n (some (d,j)) (some x) drop r (s.put (some x) v)with
    |none=>grind
    |some z=>
     obtain⟨p2,s2,r2⟩:=z;rw[R]at h;simp only at h;cases I:aaN T.f n d j r2 s2 with
     |none=>grind
     |some z=>
      obtain⟨p3,s3⟩:=z;rw[I]at h;cases h;obtain⟨a,b⟩:=hm _ _ _ _ _ _ I;obtain⟨c,⟨pre,rfl⟩,e⟩:=hs _ _ _ _ _ _ _ _ R;refine⟨λl hl=>?_,λrest K hp hk=>?_⟩
      .obtain⟨y,e1,U,h5,h6⟩:=VC hl;cases e1;exact((aF U v).trans (c l x rfl h6 U h5)).trans (a l (aa9 h6).2)
      obtain⟨p,o⟩:=ah4 hp;obtain⟨o,ab⟩:=ah4 o;refine aax (g:=some (d,j)) hd ?_;refine abe ha p ?_ rfl<;>simp_all
theorem aFA{P}{T}{n}(hm:aqg P T n):aBk P T (n+1):=by
 intro gd dst i ops s ps s' r2 h;unfold scB at h;cases dst with
 |none=>cases h
 |some d=>
 simp only at h;cases hb:xe (s.tmp d)with
 |none=>grind
 |some b=>
 rw[hb]at h;simp only at h;split at h
 .rename_i ah e w ao az ab ag J g2 c x y drop a6 ay;have an:=af4 _ _ _ _ _ ay;generalize a0:AI.mk ah (some (e,w)) ao az ab::ag=g at*;subst an;cases hc:(Nat.beq c d&&YK g2 gd&&K9 drop gd&&Uc (s.drop i) gd&&J9 d w [] g&&vZ drop g&&isin d drop&&!isin d i&&sortedB s.sl)<;>rw[hc]at h
  .cases h
  simp only[am]at h;simp only[aA,Bool.not_eq_true']at hc;obtain⟨⟨⟨⟨⟨⟨⟨⟨h1,h2⟩,h3⟩,h4⟩,h5⟩,h6⟩,h7⟩,h8⟩,h9⟩:=hc;have h1:=aB h1;subst h1;have h2:=akn h2;subst h2;cases al:aaN T.f n c w g ((s.put (some c) (yf w)).drop i)with
  |none=>grind
  |some z=>
  obtain⟨p1,sb⟩:=z;rw[al]at h;simp only at h;split at h
  .rename_i bi v au I;split at h
   .rename_i bo ac;cases hl:Xk (sb.tmp c) w<;>rw[hl]at h
    .cases h
    cases h;have ac:=Kg ac;subst ac;rw[aGW];obtain⟨ma,mb⟩:=hm _ _ _ _ _ _ al;have p:=ma drop h6;have a3:=Kg hb;have a2:=Kg au;have r:∀t:S,(∀k,isin k drop=false->aget t.sl k=aget (s.drop i).sl k)->Uc t g2=true:=by
     intro t ht;cases g2 with
     |none=>rfl
     |some z=>
      obtain⟨e2,w2⟩:=z;have ho:isin e2 drop=false:=by grind[K9]
      show Xk (t.tmp e2) w2=true;rw[S.tmp_of (ht e2 ho)];exact h4
    have aa:∀(u:V) (k:Nat),isin k drop=false->aget ((s.put (some c) u).drop i).sl k=aget (s.drop i).sl k:=by grind[S.drop_get,S.put_get]
    have a1:∀(t:S) (u:V),t.pl=s.pl->sortedB t.sl=true->(∀k,isin k drop=false->aget t.sl k=aget (s.drop i).sl k)->
     (t.put (some J) u).drop drop=((s.drop i).put (some J) u).drop drop:=by
     intro t u R U ht;refine S.ext' R (S.drop_sorted (S.put_sorted U _ _) _) (S.drop_sorted (S.put_sorted (S.drop_sorted h9 _) _ _) _) λk=>?_
     rw[S.drop_get,S.drop_get];split
     .rename_i hk;by_cases e:J=k<;>simp_all[S.put_same,S.put_get]
     rfl
    refine⟨λl d' a4 av a5 aw=>?_,⟨g++[.mk (some J) g2 false (.pick (.t c) x y) drop],ep⟩,λrest K hp hk=>?_⟩
    .obtain⟨_,hw⟩:=aa9 av;obtain⟨d2,e2,aq,aj,_⟩:=VC hw;cases e2;exact((aE aw).trans (aF aq _)).trans (aE aj)
    show split true (some c) s _;unfold split;simp only[am,hb];have ai:g++AI.mk (some J) g2 false (.pick (.t c) x y) drop::r2++rest=g++AI.mk (some J) g2 false (.pick (.t c) x y) drop::(r2++rest):=ep
    rw[ai];have ax:b=w->yp P (g++AI.mk (some J) g2 false (.pick (.t c) x y) drop::(r2++rest)) ((s.put (some c) (yf w)).drop i) K:=by
     rintro rfl;refine mb _ K ?_ ?_
     .cases p1<;>simp_all[axl,Zs]
     have j:∀k,isin k drop=false->aget sb.sl k=aget (s.drop i).sl k:=λk hk=>(p.get k hk).trans (aa _ k hk)
     refine KJ (r sb j) ?_;simp only[yg];have ad:sb.o (.t c)=yf b:=an7 hl;rw[ad];have af:xe (yf b)=some b:=rfl;rw[af];have U:sortedB sb.sl=true:=p.sorted (S.drop_sorted (S.put_sorted h9 _ _) _);have R:sb.pl=s.pl:=p.pl;cases b<;>simp_all
    have ar:b= !w->yp P (g++AI.mk (some J) g2 false (.pick (.t c) x y) drop::(r2++rest)) ((s.put (some c) (yf (!w))).drop i) K:=by
     rintro rfl;have hq:((s.put (some c) (yf (!w))).drop i).tmp c=yf (!w):=by simp_all[S.tmp,S.drop_get,S.put_same]
     have ak:=arx (P:=P) (K:=K) (rest:=AI.mk (some J) g2 false (.pick (.t c) x y) drop::(r2++rest)) h5 hq (by intro e he;cases he);refine ak.2 ?_;have ae:=aka (s:=(s.put (some c) (yf (!w))).drop i) h6;have j:∀k,isin k drop=false->aget (QK g ((s.put (some c) (yf (!w))).drop i)).sl k=aget (s.drop i).sl k:=λk hk=>(ae.get k hk).trans (aa _ k hk)
     refine KJ (r _ j) ?_;simp only[yg];have ad:(QK g ((s.put (some c) (yf (!w))).drop i)).o (.t c)=yf (!w):=ak.1;rw[ad];have af:xe (yf (!w))=some (!w):=rfl;rw[af];have U:sortedB (QK g ((s.put (some c) (yf (!w))).drop i)).sl=true:=ae.sorted (S.drop_sorted (S.put_sorted h9 _ _) _);have R:(QK g ((s.put (some c) (yf (!w))).drop i)).pl=s.pl:=ae.pl;cases w
     .simp only[aC,Bool.not_false,am]at I hk j U R⊢;subst I;show yp P _ (((QK g _).put (some J) (yf bo)).drop drop) K
      grind
     simp only[aC,Bool.not_true,am]at I hk j U R⊢;subst I;show yp P _ (((QK g _).put (some J) (yf bo)).drop drop) K
     grind
    grind
   cases h
  cases h
 cases h
theorem akS(P)(T):∀n,aqg P T n/\aBk P T n
 |0=>⟨(by intro d g ops s i j h;grind[aaN]),(by intro o dst l ops s i j p h;grind[scB])⟩
 |n+1=>⟨aCD (akS P T n).1 (akS P T n).2,aFA (akS P T n).1⟩
end Go.AM
