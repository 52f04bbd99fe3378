import Derived.Test.YtnlbmefhdiabcaaGreatCn4
set_option linter.unusedSimpArgs false
set_option linter.unusedVariables false
set_option maxRecDepth 100000
set_option maxHeartbeats 4000000
namespace Go.AM
theorem afP {a b:Option (Nat×Bool)}(h:jO a b=true):a=b:=by
 cases a with
 |none=>cases b with
  |none=>rfl
  |some x=>cases h
 |some x=>cases b with
  |none=>cases h
  |some y=>
   obtain⟨x1,x2⟩:=x;obtain⟨y1,y2⟩:=y;simp only[jO]at h;cases h1:Nat.beq x1 y1<;>rw[h1]at h
   ·cases h
   ·have:=Nat.eq_of_beq_eq_true h1;subst this;have:x2=y2:=eq_of_beq h;rw[this]
theorem JQ {P:Program}{dst:Option Nat}{g:Option (Nat×Bool)}{isG:Bool}{op:AOp}{drop:List Nat}{r:List AI}{s:S}{K:S ->Prop}(hg:QV s g=true)
 (h:zJ P dst op s λs1=>split isG dst s1 λs2=>zR P r (s2.drop drop) K):zR P (.mk dst g isG op drop::r) s K:=by
 unfold zR;simp only[yM];cases g with
 |none=>exact h
 |some x=>
  obtain⟨d,w⟩:=x;have:=aiX hg;simp only[this,zD,cV];cases w<;>exact h
theorem V3 {P:Program}{dst:Option Nat}{g:Option (Nat×Bool)}{op:AOp}{drop:List Nat}{r:List AI}{s:S}{K:S ->Prop}(hg:QV s g=true)
 (h:zJ P dst op s λs1=>zR P r (s1.drop drop) K):zR P (.mk dst g false op drop::r) s K:=JQ hg h
def akJ (P:Program)(T:Tab P)(n:Nat):Prop:= ∀d want ops s ps s',J6 T.f n d want ops s=some (ps,s') ->
 (∀l,q7 l ops=true ->Same l s s')/\ ∀rest K,uB ps True ->zR P rest s' K ->zR P (ops++rest) s K
def asX (P:Program)(T:Tab P)(n:Nat):Prop:= ∀gd dst dr ops s ps s' r2,scB T.f n gd dst dr ops s=some (ps,s',r2) ->
 (∀l d,dst=some d ->q7 l ops=true ->isin d l=true ->jc (λk=>isin k l) dr=true ->Same l s s')/\(∃pre,ops=pre++r2)/\
  ∀rest K,uB ps True ->zR P (r2++rest) s' K ->split true dst s λs2=>zR P (ops++rest) (s2.drop dr) K
theorem atL {P:Program}{T:Tab P}{n:Nat}(hm:akJ P T n)(hs:asX P T n):akJ P T (n+1):=by
 intro d want ops s ps s' h;unfold J6 at h;cases ops with
 |nil=>cases h;exact⟨λl _=>Same.refl l _,λrest K _ hk=>hk⟩
 |cons i r=>
  obtain⟨dst,g,isG,op,drop⟩:=i;simp only at h;cases hc:(jO g (some (d,want))&&jv (s.tmp d) want&&isSome dst)<;>rw[hc]at h
  ·cases h
  simp only[cond_true]at h;rw[Bool.and_eq_true,Bool.and_eq_true]at hc;obtain⟨⟨hg,hd⟩,hdst⟩:=hc;have hg:=afP hg;subst hg;cases dst with
  |none=>cases hdst
  |some x=>
  cases ha:ahd T.f op s with
  |none=>rw[ha]at h;cases h
  |some y=>
   obtain⟨p1,v⟩:=y;rw[ha]at h;simp only at h;cases isG with
   |false=>
    simp only[cond_false]at h;cases h3:J6 T.f n d want r ((s.put (some x) v).drop drop)with
    |none=>rw[h3]at h;cases h
    |some z=>
     obtain⟨p3,s3⟩:=z;rw[h3]at h;cases h;obtain⟨a,b⟩:=hm _ _ _ _ _ _ h3;refine⟨λl hl=>?_,λrest K hp hk=>?_⟩
     ·obtain⟨y,e,h1,h2,h4⟩:=Qm hl;cases e;exact((Same.put h1 v).trans (Same.drop h2)).trans (a l h4)
     ·obtain⟨hp1,hp2⟩:=adN hp;refine V3 (g:=some (d,want)) hd ?_;exact Kt ha hp1 (b rest K hp2 hk) rfl
   |true=>
    simp only[cond_true]at h;cases h2:scB T.f n (some (d,want)) (some x) drop r (s.put (some x) v)with
    |none=>rw[h2]at h;cases h
    |some z=>
     obtain⟨p2,s2,r2⟩:=z;rw[h2]at h;simp only at h;cases h3:J6 T.f n d want r2 s2 with
     |none=>rw[h3]at h;cases h
     |some z=>
      obtain⟨p3,s3⟩:=z;rw[h3]at h;cases h;obtain⟨a,b⟩:=hm _ _ _ _ _ _ h3;obtain⟨c,⟨pre,rfl⟩,e⟩:=hs _ _ _ _ _ _ _ _ h2;refine⟨λl hl=>?_,λrest K hp hk=>?_⟩
      ·obtain⟨y,e1,h4,h5,h6⟩:=Qm hl;cases e1;exact((Same.put h4 v).trans (c l x rfl h6 h4 h5)).trans (a l (Kq h6).2)
      ·obtain⟨hp1,hp2⟩:=adN hp;obtain⟨hp2,hp3⟩:=adN hp2;refine JQ (g:=some (d,want)) hd ?_;refine Kt ha hp1 ?_ rfl;exact e rest K hp2 (b rest K hp3 hk)
theorem avF {P:Program}{T:Tab P}{n:Nat}(hm:akJ P T n):asX P T (n+1):=by
 intro gd dst dr ops s ps s' r2 h;unfold scB at h;cases dst with
 |none=>cases h
 |some d=>
 simp only at h;cases hb:yo (s.tmp d)with
 |none=>rw[hb]at h;cases h
 |some b=>
 rw[hb]at h;simp only at h;split at h
 ·rename_i dst1 e w isG1 op1 drop1 blk' dp g2 c x y drop r2' hsp;have hops:=ab3 _ _ _ _ _ hsp;generalize hblk:AI.mk dst1 (some (e,w)) isG1 op1 drop1::blk'=blk at*;subst hops;cases hc:(Nat.beq c d&&jO g2 gd&&Us drop gd&&QV (s.drop dr) gd&&VA d w [] blk&&q7 drop blk&&isin d drop&& !isin d dr&&sortedB s.sl)<;>rw[hc]at h
  ·cases h
  simp only[cond_true]at h;simp only[Bool.and_eq_true,Bool.not_eq_true']at hc;obtain⟨⟨⟨⟨⟨⟨⟨⟨h1,h2⟩,h3⟩,h4⟩,h5⟩,h6⟩,h7⟩,h8⟩,h9⟩:=hc;have h1:=Nat.eq_of_beq_eq_true h1;subst h1;have h2:=afP h2;subst h2;cases hmv:J6 T.f n c w blk ((s.put (some c) (zD w)).drop dr)with
  |none=>rw[hmv]at h;cases h
  |some z=>
  obtain⟨p1,sb⟩:=z;rw[hmv]at h;simp only at h;split at h
  ·rename_i bi v hin hout;split at h
   ·rename_i bo hbo;cases hl:jv (sb.tmp c) w<;>rw[hl]at h
    ·cases h
    cases h;have hbo:=X1 hbo;subst hbo;rw[awy];obtain⟨ma,mb⟩:=hm _ _ _ _ _ _ hmv;have hsame:=ma drop h6;have hbv:=X1 hb;have hinv:=X1 hin;have hguard: ∀t:S,(∀k,isin k drop=false ->aget t.sl k=aget (s.drop dr).sl k) ->QV t g2=true:=by
     intro t ht;cases g2 with
     |none=>rfl
     |some z=>
      obtain⟨e2,w2⟩:=z;have ho:isin e2 drop=false:=by
       simp only[Us]at h3;cases hx:isin e2 drop
       ·rfl
       ·rw[hx]at h3;cases h3
      show jv (t.tmp e2) w2=true;rw[S.tmp_of (ht e2 ho)];exact h4
    have hput: ∀(u:V) (k:Nat),isin k drop=false ->aget ((s.put (some c) u).drop dr).sl k=aget (s.drop dr).sl k:=by
     intro u k hk;rw[S.drop_get,S.drop_get,S.put_get];intro e;cases e;rw[h7]at hk;cases hk
    have hfin: ∀(t:S) (u:V),t.pl=s.pl ->sortedB t.sl=true ->(∀k,isin k drop=false ->aget t.sl k=aget (s.drop dr).sl k) ->
     (t.put (some dp) u).drop drop=((s.drop dr).put (some dp) u).drop drop:=by
     intro t u hpl hso ht;refine S.ext' hpl (S.drop_sorted (S.put_sorted hso _ _) _) (S.drop_sorted (S.put_sorted (S.drop_sorted h9 _) _ _) _) λk=>?_
     rw[S.drop_get,S.drop_get];split
     ·rename_i hk;by_cases e:dp=k
      ·subst e;rw[S.put_same,S.put_same]
      ·rw[S.put_get _ _ _ _ (λh=>by cases h;exact e rfl),S.put_get _ _ _ _ (λh=>by cases h;exact e rfl)];exact ht k hk
     ·rfl
    refine⟨λl d' hd' hl1 hl2 hl3=>?_,⟨blk++[.mk (some dp) g2 false (.pick (.t c) x y) drop],by simp⟩,λrest K hp hk=>?_⟩
    ·obtain⟨_,hw⟩:=Kq hl1;obtain⟨d2,e2,hd2,hdr2,_⟩:=Qm hw;cases e2;exact((Same.drop hl3).trans (Same.put hd2 _)).trans (Same.drop hdr2)
    ·show split true (some c) s _;unfold split;simp only[cond_true,hb];have happ:blk++AI.mk (some dp) g2 false (.pick (.t c) x y) drop::r2++rest=blk++AI.mk (some dp) g2 false (.pick (.t c) x y) drop::(r2++rest):=by simp
     rw[happ];have hpass:b=w ->zR P (blk++AI.mk (some dp) g2 false (.pick (.t c) x y) drop::(r2++rest)) ((s.put (some c) (zD w)).drop dr) K:=by
      rintro rfl;refine mb _ K ?_ ?_
      ·cases p1 with
       |nil=>trivial
       |cons q qs=>
        simp only[ap3,uB,and_true]at hp;exact hp (by cases b<;>rfl)
      ·have hget: ∀k,isin k drop=false ->aget sb.sl k=aget (s.drop dr).sl k:=λk hk=>(hsame.get k hk).trans (hput _ k hk)
       refine V3 (hguard sb hget) ?_;simp only[zJ];have hcb:sb.o (.t c)=zD b:=aiX hl;rw[hcb];have hlb:yo (zD b)=some b:=rfl;rw[hlb];have hso:sortedB sb.sl=true:=hsame.sorted (S.drop_sorted (S.put_sorted h9 _ _) _);have hpl:sb.pl=s.pl:=hsame.pl;cases b
       ·simp only[cond_false]at hinv hk⊢;rw[hinv,hfin sb _ hpl hso hget];exact hk
       ·simp only[cond_true]at hinv hk⊢;rw[hinv,hfin sb _ hpl hso hget];exact hk
     have hfail:b= !w ->zR P (blk++AI.mk (some dp) g2 false (.pick (.t c) x y) drop::(r2++rest)) ((s.put (some c) (zD (!w))).drop dr) K:=by
      rintro rfl;have hq:((s.put (some c) (zD (!w))).drop dr).tmp c=zD (!w):=by
       unfold S.tmp;rw[S.drop_get,if_pos h8,S.put_same]
      have hfo:=alH (P:=P) (K:=K) (rest:=AI.mk (some dp) g2 false (.pick (.t c) x y) drop::(r2++rest)) h5 hq (by intro e he;cases he);refine hfo.2 ?_;have hfs:=afE (s:=(s.put (some c) (zD (!w))).drop dr) h6;have hget: ∀k,isin k drop=false ->aget (YB blk ((s.put (some c) (zD (!w))).drop dr)).sl k=aget (s.drop dr).sl k:=λk hk=>(hfs.get k hk).trans (hput _ k hk)
      refine V3 (hguard _ hget) ?_;simp only[zJ];have hcb:(YB blk ((s.put (some c) (zD (!w))).drop dr)).o (.t c)=zD (!w):=hfo.1;rw[hcb];have hlb:yo (zD (!w))=some (!w):=rfl;rw[hlb];have hso:sortedB (YB blk ((s.put (some c) (zD (!w))).drop dr)).sl=true:=hfs.sorted (S.drop_sorted (S.put_sorted h9 _ _) _);have hpl:(YB blk ((s.put (some c) (zD (!w))).drop dr)).pl=s.pl:=hfs.pl;cases w
      ·simp only[cond_false,Bool.not_false,cond_true]at hout hk hget hso hpl⊢;subst hout;show zR P _ (((YB blk _).put (some dp) (zD bo)).drop drop) K;rw[hfin _ _ hpl hso hget];exact hk
      ·simp only[cond_false,Bool.not_true,cond_true]at hout hk hget hso hpl⊢;subst hout;show zR P _ (((YB blk _).put (some dp) (zD bo)).drop drop) K;rw[hfin _ _ hpl hso hget];exact hk
     cases b<;>cases w
     ·exact hpass rfl
     ·exact hfail rfl
     ·exact hfail rfl
     ·exact hpass rfl
   ·cases h
  ·cases h
 ·cases h
theorem af7 (P:Program)(T:Tab P): ∀n,akJ P T n /\asX P T n
 |0=>⟨(by intro d want ops s ps s' h;unfold J6 at h;cases h),(by intro gd dst dr ops s ps s' r2 h;unfold scB at h;cases h)⟩
 |n+1=>⟨atL (af7 P T n).1 (af7 P T n).2,avF (af7 P T n).1⟩
end Go.AM
