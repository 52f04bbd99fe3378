import Derived.Orders
import Derived.Scope
import Derived.Test.YtnlbmefhdiabcaaGreatCn1
set_option linter.unusedSimpArgs false
set_option linter.unusedVariables false
set_option maxRecDepth 100000
set_option maxHeartbeats 4000000
namespace Go.AM
theorem wu: ∀(n i q:Nat),(zO i n)[q]? =if q<n then some (i+q)else none
 |0,i,q=>by simp[zO]
 |n+1,i,0=>by simp[zO]
 |n+1,i,q+1=>by
  simp only[zO,List.getElem?_cons_succ,wu n (i+1) q];by_cases h:q<n
  ·rw[if_pos h,if_pos (by omega)];congr 1;omega
  ·rw[if_neg h,if_neg (by omega)]
theorem ag3: ∀(n i:Nat),(zO i n).length=n
 |0,_=>rfl
 |n+1,i=>by simp[zO,ag3 n]
def Pl.isGone:Pl ->Bool| .gone=>true|_=>false
theorem adr (n:Nat)(ns:List Nat)(x:Pl)(xs:List Pl):Zy (n::ns) (x::xs)=(if x.isGone=true then none else some n)::Zy ns xs:=by
 cases x<;>simp[Zy,Pl.isGone]
theorem uA (n:Nat)(ns:List Nat)(x:Pl)(xs:List Pl):yE (n::ns) (x::xs)=if x.isGone=true then yE ns xs else(n,x)::yE ns xs:=by
 cases x<;>simp[yE,Pl.isGone]
theorem arY (m n:Nat)(ns:List Nat)(x:Pl)(xs:List Pl):Q0 (m+1) (n::ns) (x::xs)=if x.isGone=true then n::Q0 m ns xs else Q0 m ns xs:=by
 cases x<;>simp[Q0,Pl.isGone]
theorem afT (x:Pl)(l:List (Option Nat)):(x.ren l).isGone=x.isGone:=by cases x<;>rfl
theorem atJ (x:Pl)(l:List (Option Nat)):(x.ren l).live=x.live:=by cases x<;>rfl
theorem Yw: ∀(L:List Nat) (pls:List Pl) (q p:Nat),q0 (Zy L pls) q=some p↔ ∃x,L[q]? =some p /\pls[q]? =some x /\x.isGone=false
 | [],pls,q,p=>by simp[Zy,q0]
 |n::ns,[],q,p=>by simp[Zy,q0]
 |n::ns,x::xs,0,p=>by
  rw[adr];cases h:x.isGone<;>simp[q0,h]
 |n::ns,x::xs,q+1,p=>by
  rw[adr];simp only[q0,Yw ns xs q p,List.getElem?_cons_succ]
theorem Xm: ∀(L:List Nat) (pls:List Pl) (p:Nat) (y:Pl),aget (yE L pls) p=some y -> ∃q:Nat,L[q]? =some p /\pls[q]? =some y /\y.isGone=false
 | [],pls,p,y,h=>by simp[yE,aget]at h
 |n::ns,[],p,y,h=>by simp[yE,aget]at h
 |n::ns,x::xs,p,y,h=>by
  rw[uA]at h;cases hg:x.isGone
  ·simp only[hg,Bool.false_eq_true,if_false,yj]at h;split at h
   ·rename_i e;subst e;cases h;exact⟨0,rfl,rfl,hg⟩
   ·obtain⟨q,h1,h2,h3⟩:=Xm ns xs p y h;exact⟨q+1,by simpa using h1,by simpa using h2,h3⟩
  ·simp only[hg,if_true]at h;obtain⟨q,h1,h2,h3⟩:=Xm ns xs p y h;exact⟨q+1,by simpa using h1,by simpa using h2,h3⟩
theorem aiB: ∀(L:List Nat) (pls:List Pl) (q p:Nat) (y:Pl),L[q]? =some p ->pls[q]? =some y ->y.isGone=false ->isin p (uq (yE L pls))=true
 | [],_,q,p,y,h,_,_=>by simp at h
 |_::_,[],q,p,y,_,h,_=>by simp at h
 |n::ns,x::xs,0,p,y,h1,h2,h3=>by
  simp at h1 h2;subst h1;subst h2;rw[uA,h3];simp[uq,isin]
 |n::ns,x::xs,q+1,p,y,h1,h2,h3=>by
  have ih:=aiB ns xs q p y (by simpa using h1) (by simpa using h2) h3;rw[uA];cases hg:x.isGone
  ·rw[zN]at ih⊢;simp[uq,ih]
  ·simpa using ih
theorem ans: ∀(L:List Nat) (pls:List Pl),vH (uq (yE L pls))=true -> ∀(q q' p:Nat) (y y':Pl),L[q]? =some p ->pls[q]? =some y ->y.isGone=false ->L[q']? =some p ->pls[q']? =some y' ->y'.isGone=false ->q=q'
 | [],_,_,q,_,_,_,_,h,_,_,_,_,_=>by simp at h
 |_::_,[],_,q,_,_,_,_,_,h,_,_,_,_=>by simp at h
 |n::ns,x::xs,hd,q,q',p,y,y',h1,h2,h3,h4,h5,h6=>by
  have hd':vH (uq (yE ns xs))=true:=by
   rw[uA]at hd;cases hg:x.isGone
   ·rw[hg]at hd;simp only[Bool.false_eq_true,if_false,uq,vH,Bool.and_eq_true]at hd;exact hd.2
   ·rw[hg]at hd;simpa using hd
  have hnot:x.isGone=false ->isin n (uq (yE ns xs))=false:=λhg=>by
   rw[uA,hg]at hd;simp only[Bool.false_eq_true,if_false,uq,vH,Bool.and_eq_true,Bool.not_eq_true']at hd;exact hd.1
  cases q with
  |zero=>cases q' with
   |zero=>rfl
   |succ q'=>
    simp at h1 h2;subst h1;subst h2;have:=aiB ns xs q' _ y' (by simpa using h4) (by simpa using h5) h6;rw[hnot h3]at this;cases this
  |succ q=>cases q' with
   |zero=>
    simp at h4 h5;subst h4;subst h5;have:=aiB ns xs q _ y (by simpa using h1) (by simpa using h2) h3;rw[hnot h6]at this;cases this
   |succ q'=>rw[ans ns xs hd' q q' p y y' (by simpa using h1) (by simpa using h2) h3 (by simpa using h4) (by simpa using h5) h6]
theorem JN: ∀(L:List Nat) (pls:List Pl) (q p:Nat) (y:Pl),L[q]? =some p ->pls[q]? =some y ->y.isGone=false ->aget (yE L pls) p≠none
 | [],_,q,p,y,h,_,_=>by simp at h
 |_::_,[],q,p,y,_,h,_=>by simp at h
 |n::ns,x::xs,0,p,y,h1,h2,h3=>by
  simp at h1 h2;subst h1;subst h2;rw[uA,h3];simp[yj]
 |n::ns,x::xs,q+1,p,y,h1,h2,h3=>by
  have ih:=JN ns xs q p y (by simpa using h1) (by simpa using h2) h3;rw[uA];cases hg:x.isGone
  ·simp only[Bool.false_eq_true,if_false,yj];by_cases e:n=p
   ·simp[e]
   ·simpa[e]using ih
  ·simpa using ih
theorem acl: ∀(L:List Nat) (pls:List Pl) (m p:Nat),isin p (Q0 m L pls)=true↔ ∃q x,L[q]? =some p /\pls[q]? =some x /\(q<m ->x.isGone=true)
 | [],pls,m,p=>by cases m<;>simp[Q0,isin]
 |n::ns,[],m,p=>by cases m<;>simp[Q0,isin]
 |n::ns,x::xs,0,p=>by
  simp only[Q0,zN,List.mem_cons];rw[<- zN,acl ns xs 0 p];constructor
  ·rintro(h|⟨q,y,h1,h2,h3⟩)
   ·exact⟨0,x,by simp[h],rfl,λh=>by omega⟩
   ·exact⟨q+1,y,by simpa using h1,by simpa using h2,λh=>by omega⟩
  ·rintro⟨q,y,h1,h2,h3⟩;cases q with
   |zero=>simp at h1;exact .inl h1.symm
   |succ q=>exact .inr ⟨q,y,by simpa using h1,by simpa using h2,λh=>by omega⟩
 |n::ns,x::xs,m+1,p=>by
  rw[arY];have ih:=acl ns xs m p;cases hg:x.isGone
  ·simp only[Bool.false_eq_true,if_false,ih];constructor
   ·rintro⟨q,y,h1,h2,h3⟩;exact⟨q+1,y,by simpa using h1,by simpa using h2,λh=>h3 (by omega)⟩
   ·rintro⟨q,y,h1,h2,h3⟩;cases q with
    |zero=>simp at h2;subst h2;have:=h3 (by omega);rw[hg]at this;cases this
    |succ q=>exact⟨q,y,by simpa using h1,by simpa using h2,λh=>h3 (by omega)⟩
  ·simp only[if_true,zN,List.mem_cons];rw[<- zN,ih];constructor
   ·rintro(h|⟨q,y,h1,h2,h3⟩)
    ·exact⟨0,x,by simp[h],rfl,λ_=>hg⟩
    ·exact⟨q+1,y,by simpa using h1,by simpa using h2,λh=>h3 (by omega)⟩
   ·rintro⟨q,y,h1,h2,h3⟩;cases q with
    |zero=>simp at h1;exact .inl h1.symm
    |succ q=>exact .inr ⟨q,y,by simpa using h1,by simpa using h2,λh=>h3 (by omega)⟩
theorem adk: ∀(n i:Nat) (pls:List Pl),(∀p,isin p (uq (yE (zO i n) pls))=true ->i<=p)/\vH (uq (yE (zO i n) pls))=true
 |0,i,pls=>by simp[zO,yE,uq,isin,vH]
 |n+1,i,[]=>by simp[zO,yE,uq,isin,vH]
 |n+1,i,x::xs=>by
  obtain⟨h1,h2⟩:=adk n (i+1) xs;simp only[zO,uA];cases x.isGone
  ·simp only[Bool.false_eq_true,if_false,uq,vH,h2,Bool.and_true,Bool.not_eq_true'];refine⟨λp hp=>?_,?_⟩
   ·rw[zN,List.mem_cons]at hp;rcases hp with rfl|hp
    ·exact Nat.le_refl _
    ·have:=h1 p ((zN _ _).2 hp);omega
   ·cases hc:isin i (uq (yE (zO (i+1) n) xs))
    ·rfl
    ·have:=h1 i hc;omega
  ·simp only[if_true];exact⟨λp hp=>by have:=h1 p hp;omega,h2⟩
theorem ajB (l:List Pl): ∀(n p:Nat),aget (ji n l) p=if n<=p then l[p - n]? else none:=by
 induction l with
 |nil=>intro n p;simp[ji,aget]
 |cons x r ih=>
  intro n p;simp only[ji,yj,ih];by_cases h:n=p
  ·subst h;simp
  ·by_cases h2:n<=p
   ·rw[if_neg h,if_pos (by omega),if_pos h2,show p - n=(p -(n+1))+1 by omega];simp
   ·rw[if_neg h,if_neg (by omega),if_neg h2]
section
variable {P:Program}{F:Fr}{N:Nat}{ι:Nat ->Gh}{s:S}{a:Act}{w:World}{o:Oper}{K:S ->Prop}
theorem Qc {f:FuncId}(h:qc P f=true)(args:Array Value)(w:World):(callFunc f args).run P w= .ok (.enter f args) w:=by
 unfold qc at h;cases hf:P.funcs[f]? with
 |none=>rw[hf]at h;cases h
 |some fn=>
  simp only[hf,Bool.and_eq_true,Bool.not_eq_true']at h;obtain⟨h1,h2⟩:=h;have h3: ¬fn.body=none:=by intro hb;rw[hb]at h1;cases h1
  have h4: ¬fn.name= "runtime.NumGoroutine" :=by intro hb;rw[hb]at h2;cases h2
  simp[callFunc,hf,h4,h3]
theorem zX.of_grows {w w':World}(h:Grows (λ_=>False) w w'):zX w w':=by
 intro b t m hb;have hlt:b<w.heap.size:=by
  rcases Nat.lt_or_ge b w.heap.size with h'|h'
  ·exact h'
  ·simp[World.shape?,Array.getElem?_eq_none h']at hb
 simp only[World.shape?,h.block b hlt (λh=>h)]at hb⊢;exact hb
theorem Rel.grown (hr:Rel F N ι s a w){w':World}(hg:Grows (λ_=>False) w w'):Rel F N ι s a w':=by
 have hkeep:zZ w w' (F.ok ι s.pl w) (F.ok ι s.pl w'):=λb hb=>⟨⟨hb.1,Nat.lt_of_lt_of_le hb.2.1 hg.size,hb.2.2⟩,hg.block b hb.2.1 (λh=>h)⟩
 have hsh:=zX.of_grows hg;refine⟨hr.room,λk v hv=>?_,λp x hx=>?_,hr.inj,λb hb=>⟨(hr.mine b hb).1,Nat.lt_of_lt_of_le (hr.mine b hb).2 hg.size⟩,hr.defers,?_,hr.foreign,hr.handed,hr.few,hr.hdom,hr.hkeep⟩
 ·obtain⟨x,e1,e2⟩:=hr.slots k v hv;exact⟨x,e1,VR.keep hkeep hsh v x e2⟩
 ·have h:=hr.places p x hx;cases x with
  |fbox ds=>obtain⟨b,e1,e2,e3⟩:=h;exact⟨b,e1,(hkeep b e2).1,RDc.keep hkeep b e2 _ _ e3⟩
  |gone=>exact h.elim
  |box cs=>obtain⟨b,cur,e1,⟨t,e2⟩,e3⟩:=h;exact⟨b,cur,e1,⟨t,by rw[hg.block b (RowAt.lt ⟨t,e2⟩) (λh=>h)];exact e2⟩,CRs.keep hkeep hsh _ _ e3⟩
  |arr sz els fz=>
   obtain⟨h0,hn,h|⟨b,e1,e2,e3,e4⟩⟩:=h
   ·exact⟨h0,hn,.inl h⟩
   ·have hlt:b<w.heap.size:=by
     cases fz
     ·obtain⟨cur,e5,_⟩:=e4 rfl;exact e5.lt
     ·exact(e3 rfl).2.1
    refine⟨h0,hn,.inr ⟨b,e1,RDs.keep' hkeep b sz els 0 (λj _ _=>uW (hg.block b hlt (λh=>h)) j) e2,λhf=>(hkeep b (e3 hf)).1,λhf=>?_⟩⟩;obtain⟨cur,⟨t,e5⟩,e6⟩:=e4 hf;exact⟨cur,⟨t,by rw[hg.block b hlt (λh=>h)];exact e5⟩,e6⟩
 ·refine⟨hg.os.trans hr.grows.os,hg.tape.trans hr.grows.tape,hg.output.trans hr.grows.output,Nat.le_trans hr.grows.size hg.size,λb hb hm=>?_,λb t m h=>hg.shapes b t m (hr.grows.shapes b t m h)⟩;rw[hg.block b (Nat.lt_of_lt_of_le hb hr.grows.size) (λh=>h)];exact hr.grows.block b hb hm
theorem aiD {ι ι':Nat ->Gh}{w w':World}{ok ok':Nat ->Prop}{c:C}{v:Value}(hs:c.scalar=true)(h:CR ι w ok c v):CR ι' w' ok' c v:=by
 cases c with
 |d x=>cases x with
  |lit u=>simp only[CR,RD]at h⊢;exact h
  |sl l=>cases hs
  |fn f l=>cases hs
 |_=>cases hs
theorem aiF {ι ι':Nat ->Gh}{w w':World}{ok ok':Nat ->Prop}{x:W}{v:Value}(hs:x.scalar=true)(h:WR ι w ok x v):WR ι' w' ok' x v:=by
 cases x with
 |c c=>exact aiD hs h
 |agg cs=>
  obtain⟨vs,h1,h2⟩:=h;refine⟨vs,h1,?_⟩;clear h1;simp only[W.scalar]at hs;induction cs generalizing vs with
  |nil=>cases vs with|nil=>trivial|cons _ _=>exact h2.elim
  |cons c cs ih=>cases vs with
   |nil=>exact h2.elim
   |cons v vs=>
    simp only[List.all_cons,Bool.and_eq_true]at hs;exact⟨aiD hs.1 h2.1,ih hs.2 vs h2.2⟩
theorem arc {ι ι':Nat ->Gh}{w w':World}{ok ok':Nat ->Prop}{x:V}{v:Value}(hs:x.scalar=true)(h:VR ι w ok x v):VR ι' w' ok' x v:=by
 cases x with
 |w x=>exact aiF hs h
 |tup cs=>
  obtain⟨vs,h1,h2⟩:=h;refine⟨vs,h1,?_⟩;clear h1;simp only[V.scalar]at hs;induction cs generalizing vs with
  |nil=>cases vs with|nil=>trivial|cons _ _=>exact h2.elim
  |cons c cs ih=>cases vs with
   |nil=>exact h2.elim
   |cons v vs=>
    simp only[List.all_cons,Bool.and_eq_true]at hs;exact⟨aiF hs.1 h2.1,ih hs.2 vs h2.2⟩
section ren
variable {ι ι':Nat ->Gh}{w w':World}{ok ok':Nat ->Prop}{l:List (Option Nat)}
theorem aq8 (hk:zZ w w ok ok')(hι: ∀q p,q0 l q=some p ->ι' p=ι q){c:C}{v:Value}(h:CR ι w ok c v):CR ι' w ok' (c.ren l) v:=by
 cases c with
 |d x=>exact RD.keep hk _ _ h
 |nil=>exact h
 |own q sz k=>
  simp only[C.ren];split
  ·rename_i p hp;simp only[CR,hι q p hp];exact h
  ·trivial
 |ptr q o=>
  simp only[C.ren];split
  ·rename_i p hp;simp only[CR,hι q p hp];exact h
  ·trivial
 |eptr q z i k=>
  simp only[C.ren];split
  ·rename_i p hp;simp only[CR,hι q p hp];exact h
  ·trivial
 |fp l=>exact CR.keep hk (zX.refl w) (.fp l) v h
 |clo f caps=>cases caps with
  |nil=>exact h
  |cons _ _=>trivial
 |dead=>trivial
 |sub _ _ _ _=>trivial
theorem ag6 (hk:zZ w w ok ok')(hι: ∀q p,q0 l q=some p ->ι' p=ι q): ∀{cs:List C}{vs:List Value},CRs ι w ok cs vs ->CRs ι' w ok' (cs.map (C.ren l)) vs
 | [],[],_=>trivial
 | [],_::_,h=>h.elim
 |_::_,[],h=>h.elim
 |_::_,_::_,h=>⟨aq8 hk hι h.1,ag6 hk hι h.2⟩
theorem are (hk:zZ w w ok ok')(hι: ∀q p,q0 l q=some p ->ι' p=ι q){x:W}{v:Value}(h:WR ι w ok x v):WR ι' w ok' (x.ren l) v:=by
 cases x with
 |c x=>exact aq8 hk hι h
 |agg cs=>obtain⟨vs,h1,h2⟩:=h;exact⟨vs,h1,ag6 hk hι h2⟩
theorem ag8 (hk:zZ w w ok ok')(hι: ∀q p,q0 l q=some p ->ι' p=ι q): ∀{cs:List W}{vs:List Value},xW ι w ok cs vs ->xW ι' w ok' (cs.map (W.ren l)) vs
 | [],[],_=>trivial
 | [],_::_,h=>h.elim
 |_::_,[],h=>h.elim
 |_::_,_::_,h=>⟨are hk hι h.1,ag8 hk hι h.2⟩
theorem av5 (hk:zZ w w ok ok')(hι: ∀q p,q0 l q=some p ->ι' p=ι q){x:V}{v:Value}(h:VR ι w ok x v):VR ι' w ok' (x.ren l) v:=by
 cases x with
 |w x=>exact are hk hι h
 |tup cs=>obtain⟨vs,h1,h2⟩:=h;exact⟨vs,h1,ag8 hk hι h2⟩
theorem aq9 (hk:zZ w w ok ok')(hι: ∀q p,q0 l q=some p ->ι' p=ι q){q p:Nat}(hp:ι' p=ι q){x:Pl}(h:PR ι w ok q x):PR ι' w ok' p (x.ren l):=by
 cases x with
 |box cs=>obtain⟨b,cur,e1,e2,e3⟩:=h;exact⟨b,cur,by rw[hp];exact e1,e2,ag6 hk hι e3⟩
 |arr sz els fz=>
  obtain⟨h0,hn,h|⟨b,e1,e2,e3,e4⟩⟩:=h
  ·exact⟨h0,by rw[hp];exact hn,.inl (by rw[hp];exact h)⟩
  ·exact⟨h0,by rw[hp];exact hn,.inr ⟨b,by rw[hp];exact e1,RDs.keep' hk b sz els 0 (λ_ _ _=>rfl) e2,λhf=>(hk b (e3 hf)).1,e4⟩⟩
 |fbox ds=>obtain⟨b,e1,e2,e3⟩:=h;exact⟨b,by rw[hp];exact e1,(hk b e2).1,RDc.keep hk b e2 _ _ e3⟩
 |gone=>exact h.elim
end ren
theorem PR.lt {ι:Nat ->Gh}{w:World}{ok:Nat ->Prop}{p:Nat}{x:Pl}(h:PR ι w ok p x)(hl:x.live=true){b:Nat}(hb:(ι p).b=some b):b<w.heap.size:=by
 cases x with
 |box cs=>obtain⟨b',cur,e1,e2,e3⟩:=h;rw[hb]at e1;cases e1;exact e2.lt
 |arr sz els fz=>
  cases fz with
  |true=>cases hl
  |false=>
   obtain⟨h0,hn,h|⟨b',e1,e2,e3,e4⟩⟩:=h
   ·rw[hb]at h;cases h.1
   ·rw[hb]at e1;cases e1;obtain⟨cur,e5,_⟩:=e4 rfl;exact e5.lt
 |fbox ds=>cases hl
 |gone=>cases hl
theorem adu (hr:Rel F N ι s a w){dst:Option Tmp}(hd: ∀k,dst=some k ->k<N){U:List Nat}(hU: ∀p∈U,∃x,aget s.pl p=some x /\x.live=true){nb:Nat}(hnb: ∀i,F.h (nb+i)=none){M:Nat ->Prop}(hM: ∀b,M b↔ ∃p∈U,(ι p).b=some b)
 {h0:Nat ->Option Gh}{w':World}{v:Value}{r:Res}(hres:akX ⟨w,F.ok ι s.pl w,M,h0⟩ (λi=>ι (U.getD i 0)) U.length w' r v) (hg:Grows M w w') (hok:VS U nb r=true):
 ∃ι',Rel F N ι' (acv s U nb dst r) (a.put dst v) w':=by
 obtain⟨hm,ιr,h1,h2,h3,h4,h5,h6⟩:=hres
 let L:List Nat:=U++zO nb (r.pl.length - U.length)
 let ls:=Zy L r.pl
 let NP:=yE L (r.pl.map (Pl.ren ls))
 let KL:=Q0 U.length L r.pl
 have hdis:vH (uq (yE L r.pl))=true:=hok;have hLlo: ∀q,q<U.length ->L[q]? =U[q]? :=λq hq=>List.getElem?_append_left hq
 have hLhi: ∀q p,U.length<=q ->L[q]? =some p ->p=nb+(q - U.length):=λq p hq hp=>by
  have hp:(U++zO nb (r.pl.length - U.length))[q]? =some p:=hp;rw[List.getElem?_append_right hq,wu]at hp;split at hp
  ·cases hp;rfl
  ·cases hp
 have hz0: ∀q x,aget (yE (zO 0 r.pl.length) r.pl) q=some x↔r.pl[q]? =some x /\x.isGone=false:=λq x=>by
  constructor
  ·intro h;obtain⟨q',g1,g2,g3⟩:=Xm _ _ _ _ h;rw[wu]at g1;split at g1
   ·cases g1;rw[Nat.zero_add];exact⟨g2,g3⟩
   ·cases g1
  ·rintro⟨g1,g2⟩;have hlt:q<r.pl.length:=(List.getElem?_eq_some_iff.1 g1).1;have hup:(zO 0 r.pl.length)[q]? =some q:=by rw[wu,if_pos hlt,Nat.zero_add]
   have:=JN _ _ q q x hup g1 g2;cases hz:aget (yE (zO 0 r.pl.length) r.pl) q with
   |none=>exact absurd hz this
   |some y=>
    obtain⟨q',g3,g4,g5⟩:=Xm _ _ _ _ hz;rw[wu]at g3;split at g3
    ·cases g3;rw[Nat.zero_add]at g1;rw[g1]at g4;cases g4;rfl
    ·cases g3
 let ι':Nat ->Gh:=λp=>open Classical in if h:isin p KL=true /\ ∃q,q0 ls q=some p then ιr h.2.choose else ι p
 have huniq: ∀q q' p,q0 ls q=some p ->q0 ls q'=some p ->q=q':=λq q' p g1 g2=>by
  obtain⟨x,e1,e2,e3⟩:=(Yw L r.pl q p).1 g1;obtain⟨y,e4,e5,e6⟩:=(Yw L r.pl q' p).1 g2;exact ans L r.pl hdis q q' p x y e1 e2 e3 e4 e5 e6
 have hι: ∀p,isin p KL=false ->ι' p=ι p:=λp hp=>by
  simp only[ι'];rw[dif_neg];rintro⟨h,_⟩;rw[hp]at h;cases h
 have hin: ∀q p,q0 ls q=some p ->ι' p=ιr q:=λq p hq=>by
  by_cases hk:isin p KL=true
  ·have hex:isin p KL=true /\ ∃q,q0 ls q=some p:=⟨hk,q,hq⟩;simp only[ι'];rw[dif_pos hex];congr 1
   exact huniq _ _ p hex.2.choose_spec hq
  ·have hk:isin p KL=false:=by simpa using hk
   rw[hι p hk];obtain⟨x,e1,e2,e3⟩:=(Yw L r.pl q p).1 hq;have hqm:q<U.length:=by
    rcases Nat.lt_or_ge q U.length with h|h
    ·exact h
    ·have:=(acl L r.pl U.length p).2 ⟨q,x,e1,e2,λh'=>by omega⟩;rw[hk]at this;cases this
   have:=h6 q x hqm ((hz0 q x).2 ⟨e2,e3⟩);rw[this];have e1':U[q]? =some p:=by rw[<- hLlo q hqm];exact e1
   simp[List.getD,e1']
 have hNP: ∀p y,aget NP p=some y -> ∃q x,q0 ls q=some p /\r.pl[q]? =some x /\x.isGone=false /\y=x.ren ls /\L[q]? =some p:=λp y hy=>by
  obtain⟨q,e1,e2,e3⟩:=Xm _ _ _ _ hy;rw[List.getElem?_map]at e2;cases hx:r.pl[q]? with
  |none=>rw[hx]at e2;cases e2
  |some x=>
   rw[hx]at e2;simp at e2;subst e2;rw[afT]at e3;exact⟨q,x,(Yw L r.pl q p).2 ⟨x,e1,hx,e3⟩,hx,e3,rfl,e1⟩
 have hrep: ∀p,p∈U ->isin p KL=true\/aget NP p≠none:=λp hp=>by
  obtain⟨i,hi,hpi⟩:=List.getElem_of_mem hp;have hUi:U[i]? =some p:=by rw[List.getElem?_eq_getElem hi,hpi]
  have hLi:L[i]? =some p:=by rw[hLlo i hi];exact hUi
  have hlt:i<r.pl.length:=by omega
  cases hg':(r.pl[i]).isGone
  ·right
   refine JN L _ i p ((r.pl[i]).ren ls) hLi (by rw[List.getElem?_map,List.getElem?_eq_getElem hlt];rfl) (by rw[afT];exact hg')
  ·left
   exact(acl L r.pl U.length p).2 ⟨i,r.pl[i],hLi,List.getElem?_eq_getElem hlt,λ_=>hg'⟩
 have hMown: ∀b,M b -> ∃q y,(isin q KL=true\/aget NP q≠none)/\aget s.pl q=some y /\y.live=true /\(ι q).b=some b:=λb hb=>by
  obtain⟨p,hp,e⟩:=(hM b).1 hb;obtain⟨x,e1,e2⟩:=hU p hp;exact⟨p,x,hrep p hp,e1,e2,e⟩
 have hsame: ∀b,b<w.heap.size ->(∀q y,(isin q KL=true\/aget NP q≠none) ->aget s.pl q=some y ->y.live=true ->(ι q).b≠some b) ->w'.heap[b]? =w.heap[b]? :=λb hb h=>hg.block b hb λhm'=>by
  obtain⟨q,y,e1,e2,e3,e4⟩:=hMown b hm';exact h q y e1 e2 e3 e4
 have hokk:zZ w' w' (Fr.ok ⟨w,F.ok ι s.pl w,M,h0⟩ ιr (yE (zO 0 r.pl.length) r.pl) w') (F.ok ι' (s.redo KL NP).pl w'):=by
  intro b hb;obtain⟨b1,b2,b3⟩:=hb;refine⟨⟨?_,b2,?_⟩,rfl⟩
  ·rcases b1 with b1|b1|b1
   ·exact b1.1
   ·obtain⟨q,y,_,e2,e3,e4⟩:=hMown b b1;rcases(hr.mine b ⟨q,y,e2,e3,e4⟩).1 with h|h
    ·exact .inr (.inl h)
    ·exact .inr (.inr h)
   ·exact .inr (.inr (Nat.le_trans hr.grows.size b1))
  ·rintro⟨p,x,q1,q2,q3⟩;rw[S.redo_pl]at q1;cases hn:aget NP p with
   |some y=>
    simp only[hn]at q1;cases q1;obtain⟨q,z,e1,e2,e3,rfl,_⟩:=hNP p _ hn;rw[hin q p e1]at q3;rw[atJ]at q2;exact b3 ⟨q,z,(hz0 q z).2 ⟨e2,e3⟩,q2,q3⟩
   |none=>
    simp only[hn]at q1;split at q1
    ·rename_i hk;cases hp:aget s.pl p with
     |none=>rw[hp]at q1;cases q1
     |some y=>
      rw[hp]at q1;simp at q1;subst q1;rw[hι p hk]at q3;rw[Pl.live_kill]at q2;have ho:Owns ι s.pl b:=⟨p,y,hp,q2,q3⟩;rcases b1 with b1|b1|b1
      ·exact b1.2.2 ho
      ·obtain⟨q,z,e1,e2,e3,e4⟩:=hMown b b1
       have hpq:p≠q:=λe=>by subst e;rcases e1 with e1|e1;·rw[hk]at e1;cases e1
                            ·exact e1 hn
       exact hr.inj p q y z b hp e2 hpq q2 q3 e4
      ·have h7:=(hr.mine b ho).2;have h8:w.heap.size<=b:=b1;omega
    ·cases q1
 have hrel:=hr.redoG KL NP ι' w' hι hsame hg.shapes hg.os hg.tape hg.output hg.size (by
  intro p y hy;obtain⟨q,x,e1,e2,e3,rfl,_⟩:=hNP p y hy;exact aq9 hokk hin (hin q p e1) (h2 q x ((hz0 q x).2 ⟨e2,e3⟩))) (by
  intro p y b hy hb;obtain⟨q,x,e1,e2,e3,rfl,_⟩:=hNP p y hy;rw[hin q p e1]at hb;have hzq:=(hz0 q x).2 ⟨e2,e3⟩;refine⟨(h2 q x hzq).lt (h5 q x hzq) hb,?_⟩;rcases h4 q x b hzq hb with h|h
  ·exact .inr (hMown b h)
  ·exact .inl h) (by
  intro p q x y b hx hy hpq hb hq;obtain⟨p',x',e1,e2,e3,rfl,_⟩:=hNP p x hx;obtain⟨q',y',e4,e5,e6,rfl,_⟩:=hNP q y hy;rw[hin p' p e1]at hb;rw[hin q' q e4]at hq;refine h3 p' q' x' y' b ((hz0 p' x').2 ⟨e2,e3⟩) ((hz0 q' y').2 ⟨e5,e6⟩) (λe=>hpq ?_) hb hq;subst e;rw[e1]at e4;cases e4;rfl) (by
  intro p y g hy hg';obtain⟨q,x,e1,e2,e3,rfl,e4⟩:=hNP p y hy;have hqm:q<U.length:=by
   rcases Nat.lt_or_ge q U.length with h|h
   ·exact h
   ·have:=hLhi q p h e4;rw[this,hnb]at hg';cases hg'
  rw[hin q p e1,h6 q x hqm ((hz0 q x).2 ⟨e2,e3⟩)];have hUq:U[q]? =some p:=by rw[<- hLlo q hqm];exact e4
  obtain⟨z,e5,_⟩:=hU p (List.mem_of_getElem? hUq);have:=hr.hkeep p z g e5 hg';simp only[List.getD,hUq,Option.getD_some];exact this)
 exact⟨ι',hrel.put dst hd _ _ (av5 hokk hin h1)⟩
theorem aqs (hr:Rel F N ι s a w)(hd: ∀k,o.dst=some k ->k<N){pl1:List (Nat×Pl)}(hr1:Rel F N ι (s.withPl pl1) a w){w':World}{v:Value}{r:Res}(hres:adH ⟨w,F.ok ι pl1 w,λ_=>False,λ_=>none⟩ w' r v)(hg:Grows (λ_=>False) w w'):
 ∃ι',Rel F N ι' (aqr s {s with pl:=pl1} o.dst r) (a.put o.dst v) w':=by
 cases hdst:o.dst with
 |none=>exact⟨ι,hr.grown hg⟩
 |some d=>
  simp only[aqr];cases hs:r.v.scalar
  ·simp only[cond_false];have hdN:=hd d hdst;refine adu hr1 (dst:=some d) (λk hk=>by cases hk;exact hdN) (U:=[]) (λp hp=>by cases hp) (nb:=yS d) (λi=>hr.h_big (by unfold yS;omega)) (M:=λ_=>False) (λb=>by simp) (h0:=λ_=>none) ?_ hg ?_
   ·obtain⟨_,ιr,h1,h2,h3,h4,h5,h6⟩:=hres;exact⟨Nat.zero_le _,ιr,h1,h2,h3,h4,h5,λp x hp=>by simp at hp⟩
   ·exact(adk _ _ _).2
  ·simp only[cond_true];obtain⟨_,ιr,h1,_⟩:=hres;exact⟨ι,(hr.grown hg).put (some d) (λk hk=>by cases hk;exact hd d hdst) _ _ (arc hs h1)⟩
theorem Rel.glb (hr:Rel F N ι s a w):Glb (F.ok ι s.pl w) w:=λk hk=>by
 obtain⟨h1,m,h2⟩:=hr.handed.2 k hk;obtain⟨h3,h4⟩:=hr.foreign k h1;refine⟨⟨.inl h1,Nat.lt_of_lt_of_le h3 hr.grows.size,λho=>?_⟩,m,?_⟩
 ·rcases(hr.mine k ho).1 with h|h
  ·exact h4 h
  ·omega
 ·rw[uW (hr.grows.block k h3 h4) 0];exact h2
theorem Kl (hr:Rel F N ι s a w)(hd: ∀k,o.dst=some k ->k<N){f:FuncId}{ws:List W}{vals:List Value}(hws:xW ι w (F.ok ι s.pl w) ws vals)(hrun:qc P f=true ->(execOp a.eval o).run P w= .ok (.enter f vals.toArray) w)
 (h:kB P o.dst f ws s K):vd P F N o a w K:=by
 unfold kB at h;split at h
 ·rename_i ds pl1 hds;obtain⟨hc,h⟩:=h;obtain⟨g1,g2,g3⟩:=adF hr hws hds;intro next Q hn;unfold Oper.wp;rw[hrun hc];rw[Oper.upon_enter];refine(h w (F.ok ι pl1 w) vals ⟨λb hb=>hb.2.1,g1.glb⟩ (g3 _)).mono ?_;rintro e w' ⟨v,r,rfl,hk,hres,hg⟩;obtain⟨ι',hrel⟩:=aqs (o:=o) hr hd g1 hres hg;exact hn ι' _ _ _ hrel hk ⟨hg.size,λb hb=>hg.block b hb (λh=>h)⟩
 ·exact h.elim
theorem acb {α β:Type}(f:α ->β)(xs:Array α):xs.map f=(xs.toList.map f).toArray:=by
 cases xs;simp
theorem agQ (hr:Rel F N ι s a w)(hd: ∀k,o.dst=some k ->k<N){f:FuncId}{args:Array Operand}{ts:Array TypeId}(ho:o.op= .call {callee:=.value (.func f),args:=args,argTypes:=ts})
 (h:zJ P o.dst (.call f (args.toList.map cO)) s K):vd P F N o a w K:=by
 simp only[zJ]at h;refine Kl hr hd (ae4 hr args.toList) (λhc=>?_) h;simp only[execOp,ho,resolve,Deferred.ofValue,Act.eval,Sem.run_bind,Sem.run_pure,Result.andThen_ok,invoke];rw[Qc hc,acb];simp
theorem ae3 {ok:Nat ->Prop}: ∀{xs ys:List W}{us vs:List Value},xW ι w ok xs us ->xW ι w ok ys vs ->xW ι w ok (xs++ys) (us++vs)
 | [],_,[],_,_,h=>h
 | [],_,_::_,_,h,_=>h.elim
 |_::_,_,[],_,h,_=>h.elim
 |_::_,_,_::_,_,h,h2=>⟨h.1,ae3 h.2 h2⟩
theorem aow {ok:Nat ->Prop}: ∀{caps:List (List D)}{vs:List Value},RDf w ok vs caps ->xW ι w ok (caps.map λds=>W.c (.fp ds)) vs
 | [],vs,h=>by simp only[RDf]at h;subst h;trivial
 |c::r,vs,h=>by
  simp only[RDf]at h;obtain⟨b,o,vs',rfl,h2,h3,h4⟩:=h;exact⟨⟨b,o,rfl,h2,h3⟩,aow h4⟩
theorem agR (hr:Rel F N ι s a w)(hd: ∀k,o.dst=some k ->k<N){x:Operand}{args:Array Operand}{ts:Array TypeId}(ho:o.op= .call {callee:=.value x,args:=args,argTypes:=ts})
 (h:zJ P o.dst (.calv (cO x) (args.toList.map cO)) s K):vd P F N o a w K:=by
 simp only[zJ]at h;have hx:=xE hr x;split at h
 ·rename_i f hf;rw[hf]at hx;obtain⟨bs,h1,h2⟩:=hx;have hbs:bs=[]:=by simpa using h1.symm
  subst hbs;refine Kl hr hd (ae4 hr args.toList) (λhc=>?_) h;simp only[execOp,ho,resolve,h2,Deferred.ofValue,Sem.run_bind,Sem.run_pure,Result.andThen_ok,invoke];rw[Qc hc,acb];simp
 ·rename_i f caps hf;rw[hf]at hx;simp only[CR,RD]at hx;obtain⟨vs,h1,h2⟩:=hx;refine Kl hr hd (ae3 (ae4 hr args.toList) (aow h2)) (λhc=>?_) h;simp only[execOp,ho,resolve,h1,Deferred.ofValue,Sem.run_bind,Sem.run_pure,Result.andThen_ok,invoke];rw[Qc hc,acb];simp
 ·exact h.elim
theorem ym {α:Type}{c:Bool}{x y:α}(h:WJ c x=some y):c=true /\x=y:=by
 cases c
 ·cases h
 ·cases h;exact⟨rfl,rfl⟩
theorem Yt {α:Type}{x:Option α}(h:isSome x=true): ∃y,x=some y:=by
 cases x with
 |none=>cases h
 |some y=>exact⟨y,rfl⟩
theorem aaP (hr:Rel F N ι s a w)(hd: ∀k,o.dst=some k ->k<N){x:AOp}(hx:cOp P o.op o.type=some x)(h:zJ P o.dst x s K):xd P F N o a w K:=by
 unfold cOp at hx;split at hx
 ·rename_i y ho;cases hx;exact(JJ hr hd (.inl ho) h).fine trivial
 ·rename_i y ho;cases hx;exact(JJ hr hd (.inr ho) h).fine trivial
 ·rename_i c y z ho;cases hx;exact(agV hr hd ho h).fine trivial
 ·rename_i t ho;cases hx;exact(adB hr hd ho h).fine
 ·rename_i t y ho;cases hx;exact(am9 hr hd ho h).fine
 ·rename_i t parts ho;split at hx
  ·rename_i fs l hu hl;obtain⟨hc,rfl⟩:=ym hx;rw[Bool.and_eq_true]at hc;exact(adC hr hd ho hu hl hc.1 hc.2 h).fine trivial
  ·cases hx
 ·rename_i t n parts ho;split at hx
  ·rename_i e ht;obtain⟨hc,rfl⟩:=ym hx;simp only[Bool.and_eq_true]at hc;exact(agU hr hd ho ht hc.1.1.1.1 hc.1.1.1.2 hc.1.1.2 hc.1.2 hc.2 h).fine
  ·cases hx
 ·rename_i t y ho;split at hx
  ·rename_i g ht;cases hx;exact(anc hr hd ho ht h).fine (vA.refl _)
  ·cases hx
 ·rename_i t y z ho;obtain⟨hc,rfl⟩:=ym hx;obtain⟨i,hi⟩:=Yt hc;exact auz hr ho hi h
 ·rename_i y ho;cases hx;exact(ang hr hd ho h).fine trivial
 ·rename_i src dst y ho;cases h1:xY P src false&&xY P dst true
  ·rw[h1]at hx;cases h2:xY P src true&&xY P dst false
   ·rw[h2]at hx;simp only[cond_false]at hx;cases h3:Wx P src dst y with
    |none=>simp only[h3]at hx;cases hx;exact(wo hr hd (by rw[ho];rfl) h).fine trivial
    |some z=>simp only[h3]at hx;cases hx;exact(agT hr hd ho h3 h).2.fine trivial
   ·rw[h2]at hx;cases hx;rw[Bool.and_eq_true]at h2;exact(ajp hr hd ho h2.1 h2.2 h).fine
  ·rw[h1]at hx;cases hx;rw[Bool.and_eq_true]at h1;exact(ajg hr hd ho h1.1 h1.2 h).fine (vA.refl _)
 ·rename_i f first caps ho
  obtain⟨hc,rfl⟩:=ym hx;exact asF hr hd ho hc h
 ·rename_i t n c ho;split at hx
  ·rename_i e ht;split at hx
   ·rename_i z plz hz;obtain⟨hc,rfl⟩:=ym hx;rw[Bool.and_eq_true]at hc;exact(ane hr hd ho ht hz hc.1 hc.2 h).fine
   ·cases hx
  ·cases hx
 ·rename_i t y lo hi mx ho;split at hx
  ·rename_i hu;cases hx;exact(ajs hr hd ho hu h).fine trivial
  ·rename_i e hu;obtain⟨hc,rfl⟩:=ym hx;obtain⟨i,hi'⟩:=Yt hc;exact(ajr hr hd ho hu hi' h).fine trivial
  ·cases hx
 ·rename_i t y f ho;split at hx
  ·rename_i off ft ht;obtain⟨hc,rfl⟩:=ym hx;exact(ana hr hd ho ht hc h).fine trivial
  ·cases hx
 ·rename_i t y f ho;split at hx
  ·rename_i off ft ht;split at hx
   ·rename_i g hg;cases hx;exact(ajm hr hd ho ht hg h).fine trivial
   ·cases hx
  ·cases hx
 ·rename_i t y i ho;split at hx
  ·rename_i e ht;obtain⟨hc,rfl⟩:=ym hx;exact(anb hr hd ho ht hc h).fine trivial
  ·cases hx
 ·rename_i t y i ho;split at hx
  ·rename_i hu;cases hx;exact(ajq hr hd ho hu h).fine trivial
  ·cases hx
 ·rename_i y i ho;cases hx;exact(ajl hr hd ho h).fine trivial
 ·rename_i args ts ho;split at hx
  ·rename_i y t hargs hts;split at hx
   ·rename_i e ht;cases hx;exact(ajo hr hd ho hargs hts ht h).fine trivial
   ·cases h3:Jq P t y with
    |none=>simp only[h3]at hx;cases hx;exact(wo hr hd (by rw[ho];rfl) h).fine trivial
    |some z=>simp only[h3]at hx;cases hx;exact(agW hr hd ho hargs hts h3 h).2.fine trivial
  ·cases hx
 ·rename_i args ts ho;split at hx
  ·rename_i y z t u hargs hts;split at hx
   ·rename_i e e' ht hu;obtain⟨hc,rfl⟩:=ym hx;rw[Bool.and_eq_true]at hc;exact asC hr hd ho hargs hts ht hu hc.1 hc.2 h
   ·rename_i e k ht hu;split at hx
    ·rename_i zz plz hzz;obtain⟨hc,rfl⟩:=ym hx;simp only[Bool.and_eq_true]at hc;exact aqP hr hd ho hargs hts ht hu hc.1.1 hzz hc.1.2 hc.2 h
    ·cases hx
   ·rename_i e ht hu;obtain⟨hc,rfl⟩:=ym hx;rw[Bool.and_eq_true]at hc;exact aqO hr hd ho hargs hts ht hu hc.1 hc.2 h
   ·cases hx
  ·cases hx
 ·rename_i f args ts ho;cases hx;exact(agQ hr hd ho h).fine
 ·rename_i y args ts ho hne;cases hx;exact(agR hr hd hne h).fine
 ·rename_i b args ts h1 h2 ho;cases hm:abt b args.toList with
  |some y=>simp only[hm]at hx;cases hx;exact(anf hr hd ho hm h).fine trivial
  |none=>
   simp only[hm]at hx;cases hb:Vr P b args.toList ts.toList with
   |some y=>simp only[hb]at hx;cases hx;exact asD hr hd ho hb h
   |none=>simp only[hb]at hx;cases hx;exact(wo hr hd (by rw[ho];rfl) h).fine trivial
 ·rename_i b t y z u ho;cases hn:abz P b t z with
  |some neg=>simp only[hn]at hx;cases hx;exact(ajn hr hd ho hn h).fine trivial
  |none=>
  simp only[hn]at hx;cases h3:Jh P b t y z with
  |some q=>simp only[h3]at hx;cases hx;exact(ajk hr hd ho h3 h).2.fine trivial
  |none=>
  simp only[h3]at hx;cases h4:U7 P b t y z with
  |some q=>simp only[h4]at hx;cases hx;exact(ajh hr hd ho h4 h).2.fine trivial
  |none=>
  simp only[h4]at hx;cases h1:aeI b&&ahL P t
  ·rw[h1]at hx;cases hx;exact(wo hr hd (by rw[ho];rfl) h).fine trivial
  ·rw[h1]at hx;cases hx;exact(aji hr hd ho h).fine trivial
 ·rename_i u t y ho;cases h4:JK P u t y with
  |some q=>simp only[h4]at hx;cases hx;exact(anh hr hd ho h4 h).2.fine trivial
  |none=>simp only[h4]at hx;cases hx;exact(wo hr hd (by rw[ho];rfl) h).fine trivial
 ·cases hx
 ·cases hx;exact h.elim
theorem Yj {pl:List (Nat×Pl)}: ∀(l U:List Nat),(U.Nodup /\ ∀p∈U,∃x,aget pl p=some x /\x.live=true) ->(qg pl U l).Nodup /\ ∀p∈qg pl U l,∃x,aget pl p=some x /\x.live=true
 | [],U,h=>h
 |p::r,U,h=>by
  have step: ∀x,aget pl p=some x ->x.live=true ->(bif isin p U then qg pl U r else qg pl (U++[p]) r).Nodup /\ ∀q∈(bif isin p U then qg pl U r else qg pl (U++[p]) r),∃x,aget pl q=some x /\x.live=true:=λx hx hl=>by
   cases hi:isin p U
   ·have hn:p∉U:=λh=>by rw[(zN p U).2 h]at hi;cases hi
    refine Yj r (U++[p]) ⟨?_,λq hq=>?_⟩
    ·rw[List.nodup_append];exact⟨h.1,by simp,λa ha b hb=>by simp at hb;subst hb;exact λe=>hn (e▸ha)⟩
    ·rcases List.mem_append.1 hq with hq|hq
     ·exact h.2 q hq
     ·simp at hq;subst hq;exact⟨x,hx,hl⟩
   ·exact Yj r U h
  unfold qg;split
  ·rename_i cs hp;exact step _ hp rfl
  ·rename_i z els hp;exact step _ hp rfl
  ·exact Yj r U h
theorem gL {pl:List (Nat×Pl)}: ∀(n i:Nat) (U:List Nat),(U.Nodup /\ ∀p∈U,∃x,aget pl p=some x /\x.live=true) ->(VI pl n i U).Nodup /\ ∀p∈VI pl n i U,∃x,aget pl p=some x /\x.live=true
 |0,_,U,h=>h
 |n+1,i,U,h=>by
  unfold VI;split
  ·split
   ·exact gL n (i+1) _ (Yj _ U h)
   ·exact gL n (i+1) U h
  ·exact h
theorem ael: ∀{U:List Nat}{p k:Nat},idx p U=some k ->U[k]? =some p
 | [],p,k,h=>by simp[idx]at h
 |q::r,p,k,h=>by
  unfold idx at h;by_cases e:q=p
  ·subst e;rw[xK]at h;cases h;rfl
  ·rw[yC e]at h;simp only[cond_false]at h;split at h
   ·rename_i i hi;cases h;simpa using ael hi
   ·cases h
theorem aiV: ∀{U:List Nat}{p k:Nat},U.Nodup ->U[k]? =some p ->idx p U=some k
 | [],p,k,_,h=>by simp at h
 |q::r,p,0,hn,h=>by simp at h;subst h;simp[idx]
 |q::r,p,k+1,hn,h=>by
  rw[List.nodup_cons]at hn;have hr:r[k]? =some p:=by simpa using h
  have hne:q≠p:=λe=>by subst e;exact hn.1 (List.mem_of_getElem? hr)
  unfold idx;rw[yC hne,aiV hn.2 hr];rfl
theorem auK (hr:Rel F N ι s a w){ok':Nat ->Prop}(hk:zZ w w (F.ok ι s.pl w) ok'){U:List Nat}{ι':Nat ->Gh}(hι: ∀k p,U[k]? =some p ->ι' k=ι p){c:C}{v:Value}(hc:CR ι w (F.ok ι s.pl w) c v):CR ι' w ok' (c.pk s.pl U) v:=by
 cases c with
 |d x=>exact RD.keep hk _ _ hc
 |nil=>exact hc
 |fp l=>exact CR.keep (ι:=ι') hk (zX.refl w) (.fp l) v hc
 |clo f caps=>cases caps with
  |nil=>
   obtain⟨bs,h1,h2⟩:=hc;have hbs:bs=[]:=by simpa using h1.symm
   subst hbs;simp only[C.pk,CR,RD,RDf];exact⟨[],h2,rfl⟩
  |cons _ _=>trivial
 |dead=>trivial
 |sub _ _ _ _=>trivial
 |eptr p z i k=>trivial
 |ptr p o=>
  simp only[C.pk];split
  ·split
   ·rename_i k hk';simp only[CR,hι k p (ael hk')];exact hc
   ·trivial
  ·rename_i ds hp;obtain⟨b,e1,e2⟩:=hc;obtain⟨b',e3,e4,e5⟩:=hr.places p _ hp;rw[e1]at e3;cases e3;have e5:=RDc.drop o e5;rw[Nat.zero_add]at e5;exact⟨b,o,e2,(hk b e4).1,RDc.keep hk b e4 _ _ e5⟩
  ·trivial
 |own p sz n=>
  simp only[C.pk];split
  ·split
   ·rename_i k hk';simp only[CR,hι k p (ael hk')];exact hc
   ·trivial
  ·rename_i z els hp;obtain⟨hn,⟨h1,h2,h3,h4⟩|⟨b,cap,t,h1,h2,h3,h4,h5,h6⟩⟩:=abJ hr hp hc
   ·subst h1;subst h2;subst h4;simp only[CR,RD];exact⟨none,0,0,rfl,rfl,Nat.le_refl _,Nat.zero_le _,.inl (by simp)⟩
   ·have hpr:=hr.places p _ hp;obtain⟨_,_,hf|⟨b',e1,e2,e3,e4⟩⟩:=hpr
    ·rw[h1]at hf;cases hf.1
    ·rw[h1]at e1;cases e1;have:RD w (F.ok ι s.pl w) (.sl (els.take n)) v:=by
      subst h2;simp only[RD];exact⟨_,_,_,rfl,by simp;omega,h3,h4,.inr ⟨b,0,z,rfl,e3 rfl,RDs.take n e2⟩⟩
     exact CR.keep (ι:=ι') hk (zX.refl w) (.d (.sl (els.take n))) v this
  ·trivial
theorem akV (hr:Rel F N ι s a w){ok':Nat ->Prop}(hk:zZ w w (F.ok ι s.pl w) ok'){U:List Nat}{ι':Nat ->Gh}(hι: ∀k p,U[k]? =some p ->ι' k=ι p): ∀{cs:List C}{vs:List Value},CRs ι w (F.ok ι s.pl w) cs vs ->CRs ι' w ok' (cs.map (C.pk s.pl U)) vs
 | [],[],_=>trivial
 | [],_::_,h=>h.elim
 |_::_,[],h=>h.elim
 |_::_,_::_,h=>⟨auK hr hk hι h.1,akV hr hk hι h.2⟩
theorem auL (hr:Rel F N ι s a w){ok':Nat ->Prop}(hk:zZ w w (F.ok ι s.pl w) ok'){U:List Nat}{ι':Nat ->Gh}(hι: ∀k p,U[k]? =some p ->ι' k=ι p){x:W}{v:Value}(h:WR ι w (F.ok ι s.pl w) x v):WR ι' w ok' (x.pk s.pl U) v:=by
 cases x with
 |c x=>exact auK hr hk hι h
 |agg cs=>obtain⟨vs,h1,h2⟩:=h;exact⟨vs,h1,akV hr hk hι h2⟩
theorem akY (hr:Rel F N ι s a w){ok':Nat ->Prop}(hk:zZ w w (F.ok ι s.pl w) ok'){U:List Nat}{ι':Nat ->Gh}(hι: ∀k p,U[k]? =some p ->ι' k=ι p): ∀{cs:List W}{vs:List Value},xW ι w (F.ok ι s.pl w) cs vs ->xW ι' w ok' (cs.map (W.pk s.pl U)) vs
 | [],[],_=>trivial
 | [],_::_,h=>h.elim
 |_::_,[],h=>h.elim
 |_::_,_::_,h=>⟨auL hr hk hι h.1,akY hr hk hι h.2⟩
theorem awS (hr:Rel F N ι s a w){ok':Nat ->Prop}(hk:zZ w w (F.ok ι s.pl w) ok'){U:List Nat}{ι':Nat ->Gh}(hι: ∀k p,U[k]? =some p ->ι' k=ι p){x:V}{v:Value}(h:VR ι w (F.ok ι s.pl w) x v):VR ι' w ok' (x.pk s.pl U) v:=by
 cases x with
 |w x=>exact auL hr hk hι h
 |tup cs=>obtain⟨vs,h1,h2⟩:=h;exact⟨vs,h1,akY hr hk hι h2⟩
theorem Jy (pl:List (Nat×Pl))(U:List Nat): ∀(l:List Nat) (k i:Nat),(uO pl U k l)[i]? =(l[i]?).map λp=>Ke pl U (k+i) p
 | [],k,i=>by simp[uO]
 |p::r,k,0=>by simp[uO]
 |p::r,k,i+1=>by
  simp only[uO,List.getElem?_cons_succ,Jy pl U r (k+1) i];rw[show k+1+i=k+(i+1)by omega]
theorem abN (pl:List (Nat×Pl))(U:List Nat): ∀(l:List Nat) (k:Nat),(uO pl U k l).length=l.length
 | [],_=>rfl
 |_::r,k=>by simp[uO,abN pl U r (k+1)]
theorem abM (hr:Rel F N ι s a w){ok':Nat ->Prop}(hk:zZ w w (F.ok ι s.pl w) ok'){U:List Nat}{ι':Nat ->Gh}(hι: ∀k p,U[k]? =some p ->ι' k=ι p){k p:Nat}(hp:U[k]? =some p)(hg:(Ke s.pl U k p).isGone=false):
 idx p U=some k /\(∃x,aget s.pl p=some x /\x.live=true)/\PR ι' w ok' k (Ke s.pl U k p)/\(Ke s.pl U k p).live=true:=by
 unfold Ke at hg⊢;split at hg
 case h_2=>cases hg
 rename_i i hi;cases hb:Nat.beq i k
 ·rw[hb]at hg;cases hg
 ·have hik:=Nat.eq_of_beq_eq_true hb;subst hik;rw[hb]at hg;simp only[cond_true]at hg;split at hg
  ·rename_i cs hcs;refine⟨hi,⟨_,hcs,rfl⟩,?_⟩;obtain⟨b,cur,e1,e2,e3⟩:=hr.places p _ hcs;exact⟨⟨b,cur,by rw[hι i p hp];exact e1,e2,akV hr hk hι e3⟩,rfl⟩
  ·rename_i z els hcs;refine⟨hi,⟨_,hcs,rfl⟩,?_⟩;refine⟨?_,rfl⟩;obtain⟨h0,hn,hf|⟨b,e1,e2,e3,e4⟩⟩:=hr.places p _ hcs
   ·exact⟨h0,by rw[hι i p hp];exact hn,.inl (by rw[hι i p hp];exact hf)⟩
   ·exact⟨h0,by rw[hι i p hp];exact hn,.inr ⟨b,by rw[hι i p hp];exact e1,RDs.keep' hk b z els 0 (λ_ _ _=>rfl) e2,λhf=>(hk b (e3 hf)).1,e4⟩⟩
  ·cases hg
theorem atV (dst:Option Nat)(U:List Nat):600000<=YE dst U:=by
 unfold YE;cases dst with
 |some d=>simp only[yS];omega
 |none=>cases U with
  |nil=>simp only[];omega
  |cons p r=>simp only[];omega
theorem aoo (hr:Rel F N ι s a w)(hd: ∀k,o.dst=some k ->k<N){f:FuncId}{args:Array Operand}{ts:Array TypeId}(ho:o.op= .call {callee:=.value (.func f),args:=args,argTypes:=ts})
 (h:zJ P o.dst (.callh f (args.toList.map cO)) s K):xd P F N o a w K:=by
 simp only[zJ,ae5]at h
 let U:=vz s.pl [] (ZC ((args.toList.map cO).map s.ow))
 have hU:U.Nodup /\ ∀p∈U,∃x,aget s.pl p=some x /\x.live=true:=gL 40 0 _ (Yj _ [] ⟨List.nodup_nil,λ_ h=>by cases h⟩)
 let ι0:Nat ->Gh:=λi=>ι (U.getD i 0)
 have hι0: ∀k p,U[k]? =some p ->ι0 k=ι p:=λk p hp=>by simp only[ι0,List.getD,hp,Option.getD_some]
 have hkk:zZ w w (F.ok ι s.pl w) (F.ok ι s.pl w):=λb hb=>⟨hb,rfl⟩
 obtain⟨hc,h⟩:=h;have hws:=akY hr hkk hι0 (ae4 hr args.toList);have hget: ∀i x,(uO s.pl U 0 U)[i]? =some x -> ∃p,U[i]? =some p /\x=Ke s.pl U i p /\x.isGone=false:=λi x hx=>by
  rw[Jy,Nat.zero_add]at hx;cases hp:U[i]? with
  |none=>rw[hp]at hx;cases hx
  |some p=>
   rw[hp]at hx;simp at hx;refine⟨p,rfl,hx.symm,?_⟩;subst hx;obtain⟨y,e1,e2⟩:=hU.2 p (List.mem_of_getElem? hp);have hi:=aiV hU.1 hp;unfold Ke;simp only[hi,xK,cond_true,e1];cases y with
   |box cs=>rfl
   |arr z els fz=>cases fz<;>first|rfl|cases e2
   |fbox ds=>cases e2
   |gone=>cases e2
 have hM: ∀b,Xy ι0 (uO s.pl U 0 U) b↔ ∃p∈U,(ι p).b=some b:=λb=>by
  constructor
  ·rintro⟨i,x,h1,h2⟩;obtain⟨p,e1,_,_⟩:=hget i x h1;rw[hι0 i p e1]at h2;exact⟨p,List.mem_of_getElem? e1,h2⟩
  ·rintro⟨p,hp,e⟩;obtain⟨i,hi,hpi⟩:=List.getElem_of_mem hp;have hUi:U[i]? =some p:=by rw[List.getElem?_eq_getElem hi,hpi]
   exact⟨i,Ke s.pl U i p,by rw[Jy,hUi,Nat.zero_add];rfl,by rw[hι0 i p hUi];exact e⟩
 have howns: ∀b,Xy ι0 (uO s.pl U 0 U) b ->Owns ι s.pl b:=λb hb=>by
  obtain⟨p,hp,e⟩:=(hM b).1 hb;obtain⟨x,e1,e2⟩:=hU.2 p hp;exact⟨p,x,e1,e2,e⟩
 have hcall:=h w (F.ok ι s.pl w) ι0 (args.toList.map a.eval) (λb hb=>⟨hb.2.1,λhh=>hb.2.2 (howns b hh)⟩) ⟨λb hb=>(hr.mine b (howns b hb)).2,hr.glb⟩
  (λi x hx=>by
   obtain⟨p,e1,e2,e3⟩:=hget i x hx;subst e2;obtain⟨_,_,g1,g2⟩:=abM hr hkk hι0 e1 e3;exact⟨g1,g2⟩)
  (λi j x y b hx hy hij hb hj=>by
   obtain⟨p,e1,_,_⟩:=hget i x hx;obtain⟨q,e2,_,_⟩:=hget j y hy;rw[hι0 i p e1]at hb;rw[hι0 j q e2]at hj;obtain⟨x',e3,e4⟩:=hU.2 p (List.mem_of_getElem? e1);obtain⟨y',e5,e6⟩:=hU.2 q (List.mem_of_getElem? e2);refine hr.inj p q x' y' b e3 e5 (λe=>hij ?_) e4 hb hj;subst e;obtain⟨k1,k2⟩:=List.getElem?_eq_some_iff.1 e1;obtain⟨l1,l2⟩:=List.getElem?_eq_some_iff.1 e2;exact(List.getElem_inj hU.1).1 (k2.trans l2.symm))
  hws
 intro next Q hn;unfold Oper.wp;have hrun:(execOp a.eval o).run P w= .ok (.enter f (args.toList.map a.eval).toArray) w:=by
  simp only[execOp,ho,resolve,Deferred.ofValue,Act.eval,Sem.run_bind,Sem.run_pure,Result.andThen_ok,invoke];rw[Qc hc,acb];simp
 rw[hrun,Oper.upon_enter];refine hcall.mono ?_;rintro e w' ⟨v,r,rfl,hk,hres,hg⟩;cases hokn:VS U (YE o.dst U) r
 ·have hk:cond (VS U (YE o.dst U) r) (K (acv s U (YE o.dst U) o.dst r)) False:=hk;rw[hokn]at hk;exact hk.elim
 ·have hk:cond (VS U (YE o.dst U) r) (K (acv s U (YE o.dst U) o.dst r)) False:=hk;rw[hokn]at hk;have hnb: ∀i,F.h (YE o.dst U+i)=none:=λi=>hr.h_big (Nat.le_trans (atV o.dst U) (Nat.le_add_right _ _))
  rw[abN]at hres;obtain⟨ι',hrel⟩:=adu hr hd hU.2 hnb hM (h0:=λ_=>none) hres hg hokn;exact hn ι' _ _ _ hrel hk
def Cop (P:Program)(o:Oper)(x:AOp):Prop:= ∃b,XG P b o.op o.type=some x
theorem aiM (hr:Rel F N ι s a w)(hd: ∀k,o.dst=some k ->k<N){x:AOp}(hx:Cop P o x)(h:zJ P o.dst x s K):xd P F N o a w K:=by
 obtain⟨b,h1⟩:=hx;cases b
 ·exact aaP hr hd h1 h
 ·simp only[XG,cond_true]at h1;unfold awe at h1;split at h1
  ·rename_i f first caps ho
   obtain⟨hc,rfl⟩:=ym h1;exact aqQ hr hd ho hc h
  ·rename_i f args ts ho;cases h1;exact aoo hr hd ho h
  ·rename_i t x lo hi ho;split at h1
   ·rename_i e hu;obtain⟨hc,rfl⟩:=ym h1;obtain⟨i,hi'⟩:=Yt hc;exact(asI hr hd ho hu hi' h).fine trivial
   ·exact aaP hr hd h1 h
  ·exact aaP hr hd h1 h
end
end Go.AM
namespace Go.AM
theorem Act.put_same {a:Act}{d:Nat}{x:Value}(h:a.tmps[d]? =some x):a.put (some d) x=a:=by
 cases a with
 |mk tmps defers=>
  simp only[Act.put]at h⊢;congr 1
  apply Array.ext_getElem?;intro i;rw[Array.getElem?_setIfInBounds];split
  ·rename_i hi;subst hi;split
   ·exact h.symm
   ·rename_i hlt;rw[Array.getElem?_eq_none (by omega)]
  ·rfl
section
variable {P:Program}{F:Fr}{N:Nat}{ι:Nat ->Gh}{s:S}{a:Act}{w:World}{K:S ->Prop}
theorem Rel.drop (hr:Rel F N ι s a w)(l:List Nat):Rel F N ι (s.drop l) a w:=
 hr.sub _ (λ_ _ h=>(VY _ _ _ _ h).1) (λ_ _ h=>h)
theorem Rel.norm (hr:Rel F N ι s a w)(keep:List Nat):Rel F N ι (s.norm keep) a w:=
 hr.sub _ (λ_ _ h=>(VY _ _ _ _ h).1) (λ_ _ h=>(VY _ _ _ _ h).1)
theorem Rel.look (hr:Rel F N ι s a w){d:Nat}{v:V}(h:s.tmp d=v)(hv:v≠apS): ∃x,a.tmps[d]? =some x /\VR ι w (F.ok ι s.pl w) v x:=by
 unfold S.tmp at h;split at h
 ·rename_i v' hv';subst h;exact hr.slots d _ hv'
 ·exact absurd h.symm hv
theorem aiL (hr:Rel F N ι s a w){d:Nat}{b:Bool}(h:s.tmp d=zD b):a.tmps[d]? =some (.bool b):=by
 obtain⟨x,h1,h2⟩:=hr.look h (by intro h;cases h);rw[h1];exact congrArg some h2.1
theorem adq {v:V}{b:Bool}(h:yo v=some b):v=zD b:=by
 unfold yo at h;split at h
 ·cases h;rfl
 ·cases h
theorem Yz (hr:Rel F N ι s a w){dst:Option Nat}(hd: ∀k,dst=some k ->k<N){isG:Bool}(h:split isG dst s K): ∃s',Rel F N ι s' a w /\K s':=by
 unfold split at h;cases isG with
 |false=>exact⟨s,hr,h⟩
 |true=>
  simp only[cond_true]at h;cases dst with
  |none=>exact⟨s,hr,h⟩
  |some d=>
   simp only at h;cases hb:yo (s.tmp d)with
   |none=>rw[hb]at h;exact⟨s,hr,h⟩
   |some b=>
    rw[hb]at h;have hb:=adq hb;have hx:=aiL hr hb;have hp:=hr.put (some d) hd (zD b) (.bool b) ⟨rfl,rfl⟩;rw[Act.put_same hx]at hp;cases b
    ·exact⟨_,hp,h⟩
    ·exact⟨_,hp,h⟩
theorem arB {o:Oper}(h:akL N o.dst=true): ∀k,o.dst=some k ->k<N:=by
 intro k hk;rw[hk]at h;exact Nat.le_of_ble_eq_true h
theorem aq5 {ops:Array Oper}{j d:Nat}(h:akK ops.toList j=some d)(tmps:Array Value):yielded ops tmps j=match tmps[d]? with|some (.bool b)=>some b|_=>none:=by
 unfold akK at h;unfold yielded;cases ho:ops.toList[j]? with
 |none=>rw[ho]at h;cases h
 |some o=>
  rw[ho]at h;have:ops[j]? =some o:=by rw[<- Array.getElem?_toList];exact ho
  simp only at h;simp only[this,h,Option.bind_some];cases tmps[d]? with
  |none=>rfl
  |some v=>cases v<;>rfl
theorem gV (hr:Rel F N ι s a w){ops:Array Oper}{o:Oper}{x:AOp}{g:Option (Nat×Bool)}(hg:Yn ops.toList o.guard=some g)
 {isG:Bool}{drop:List Nat}{rest:List AI}(h:zR P (.mk o.dst g isG x drop::rest) s K):
 (Region.wanted o (yielded ops a.tmps)=true /\zJ P o.dst x s λs1=>split isG o.dst s1 λs2=>zR P rest (s2.drop drop) K)\/
 (Region.wanted o (yielded ops a.tmps)=false /\zR P rest ((s.put o.dst x9).drop drop) K):=by
 cases hog:o.guard with
 |none=>
  rw[hog]at hg;simp only[Yn,Option.some.injEq]at hg;subst hg;simp only[zR,yM]at h;exact .inl ⟨by simp[Region.wanted,hog],h⟩
 |some jw=>
  obtain⟨j,want⟩:=jw;rw[hog]at hg;simp only[Yn]at hg;cases hda:akK ops.toList j with
  |none=>rw[hda]at hg;cases hg
  |some d=>
   rw[hda]at hg;simp only[Option.some.injEq]at hg;subst hg;have hy:=aq5 hda a.tmps;simp only[zR]at h;split at h
   ·rename_i b hb;have hb':=aiL hr hb;rw[hb']at hy;simp only at hy
    cases b<;>cases want<;>simp only[Bool.not_true,Bool.not_false,cond_true,cond_false,yM]at h<;>
     first
      |exact .inl ⟨by simp[Region.wanted,hog,hy],h⟩
      |exact .inr ⟨by simp[Region.wanted,hog,hy],h⟩
   ·rename_i hb;obtain⟨v,h1,h2⟩:=hr.look hb (by intro h;cases h);obtain⟨vs,h3,h4⟩:=h2;rw[h1,h3]at hy;simp only at hy;rw[yM]at h;exact .inr ⟨by simp[Region.wanted,hog,hy],h⟩
   ·exact h.elim
theorem adI (ι:Nat ->Gh)(w:World)(ok:Nat ->Prop):VR ι w ok x9 undef:=⟨[],rfl,trivial⟩
theorem ald {ops:Array Oper}{hs gs:List Nat}{Q:Exit ->Act ->World ->Prop}(hQ: ∀ι s a w,Rel F N ι s a w ->K s ->Q .normal a w):
 ∀(l:List Nat) (xs:List AI),Z4 P N hs ops.toList gs l=some (xs.map AI.erase) -> ∀(ι:Nat ->Gh) (s:S) (a:Act) (w:World),Rel F N ι s a w ->zR P xs s K ->wpOps P ops Q l a w:=by
 intro l;induction l with
 |nil=>
  intro xs hx ι s a w hr h;cases xs with
  |nil=>exact hQ ι s a w hr h
  |cons x r=>simp[Z4]at hx
 |cons i l ih=>
  intro xs hx ι s a w hr h;simp only[Z4]at hx;split at hx
  case h_2=>cases hx
  rename_i o ho;have ho':ops[i]? =some o:=by rw[<- Array.getElem?_toList];exact ho
  cases hd:akL N o.dst with
  |false=>rw[hd]at hx;cases hx
  |true=>
   rw[hd]at hx;simp only[cond_true]at hx;split at hx
   case h_2=>cases hx
   rename_i x g ys hx1 hg hys;cases xs with
   |nil=>simp at hx
   |cons y rest=>
    cases y with
    |mk d1 g1 isG1 op1 drop=>
     simp only[Option.some.injEq,List.map_cons,AI.erase,List.cons.injEq,AI.mk.injEq,and_true]at hx;obtain⟨⟨rfl,rfl,rfl,rfl⟩,rfl⟩:=hx;have hd':=arB hd;simp only[wpOps,ho'];rcases gV hr hg h with⟨hw,h1⟩|⟨hw,h1⟩
     ·rw[if_pos hw];refine .inl (aiM hr hd' ⟨_,hx1⟩ h1 _ _ λι1 s1 a1 w1 hr1 hk=>?_);obtain⟨s2,hr2,hk2⟩:=Yz hr1 hd' hk;exact ih rest hys ι1 _ a1 w1 (hr2.drop drop) hk2
     ·rw[if_neg (by rw[hw];simp)];exact ih rest hys ι _ _ w ((hr.put o.dst hd' x9 undef (adI _ _ _)).drop drop) h1
theorem WN (n:Nat): ∀i,zO i n=List.range' i n:=by
 induction n with
 |zero=>intro i;rfl
 |succ n ih=>intro i;simp only[zO,ih,List.range'_succ]
end
theorem aq4 {P:Program}{Q:Exit ->Act ->World ->Prop}{a:Act}{w:World}{c:Code}{σ:Type}(I:σ ->Act ->World ->Prop)(μ:σ ->Nat)(x₀:σ)(h₀:I x₀ a w)
 (round: ∀x a w,I x a w ->c.wp P (Exit.then (λa' w'=> ∃x',I x' a' w' /\μ x'<μ x) Q) a w):(Code.loop c).wp P Q a w:=by
 intro b k cs
 have key: ∀n x a w,μ x=n ->I x a w ->
  ∃e a' w',Q e a' w' /\Arrives P (lone (b.at a (.code c:: .inLoop c::k)) cs w) b k cs e a' w':=by
  intro n;induction n using Nat.strongRecOn with
  |_ n ih=>
   intro x a w hn hI;obtain⟨e,a₁,w₁,hq,harr⟩:=round x a w hI b (.inLoop c::k) cs;cases e with
   |normal=>
    obtain⟨x₁,hI₁,hlt⟩:=hq;obtain⟨e₂,a₂,w₂,hq₂,harr₂⟩:=ih (μ x₁) (hn▸hlt) x₁ a₁ w₁ rfl hI₁;exact⟨e₂,a₂,w₂,hq₂,.of_steps (Steps.trans harr (.one step_inLoop)) harr₂⟩
   |exit id=>exact⟨_,a₁,w₁,hq,.pass (x:=.inLoop c) rfl (λ_ _=>.inl (by simp)) harr⟩
   |goto l=>exact⟨_,a₁,w₁,hq,.pass (x:=.inLoop c) rfl (λ_ _=>.inl (by simp)) harr⟩
   |ret=>exact⟨_,a₁,w₁,hq,.pass (x:=.inLoop c) rfl (λ_ _=>.inl (by simp)) harr⟩
   |panic ch=>exact⟨_,a₁,w₁,hq,.pass (x:=.inLoop c) rfl (λ_ _=>.inl (by simp)) harr⟩
   |outgrown=>exact⟨_,a₁,w₁,hq,.pass (x:=.inLoop c) rfl (λ_ _=>.inl (by simp)) harr⟩
 obtain⟨e,a',w',hq,harr⟩:=key _ x₀ a w rfl h₀;exact⟨e,a',w',hq,.of_steps (.one step_loop) harr⟩
section
variable {P:Program}{F:Fr}{N:Nat}
def Vis (F:Fr)(N:Nat)(K:S ->Prop)(a:Act)(w:World):Prop:= ∃ι s,Rel F N ι s a w /\K s
def up (F:Fr)(N:Nat)(Q:E ->S ->Prop):Exit ->Act ->World ->Prop
 | .normal=>Vis F N (Q .normal)
 | .exit i=>Vis F N (Q (.exit i))
 | .ret=>Vis F N (Q .ret)
 |_=>λ_ _=>False
end
end Go.AM
namespace Go.AM
section
variable {P:Program}{F:Fr}{N:Nat}{ι:Nat ->Gh}{s:S}{a:Act}{w:World}{o:Oper}{K:S ->Prop}
def Cw (x:AOp)(w w':World):Prop:=x.reads=true ->vA w w'
theorem zy.weak {C C':World ->Prop}(h:zy P F N o a w C K)(hc: ∀w',C' w' ->C w'):zy P F N o a w C' K:=
 let⟨v,ι',s',h1,h2,h3⟩:=h
 ⟨v,ι',s',λw' hw=>h1 w' (hc w' hw),h2,h3⟩
theorem apD (hr:Rel F N ι s a w)(hd: ∀k,o.dst=some k ->k<N){x:AOp}(hx:cOp P o.op o.type=some x)(hq:x.quiet=true)(h:zJ P o.dst x s K):zy P F N o a w (Cw x w) K:=by
 unfold cOp at hx;split at hx
 ·rename_i y ho;cases hx;exact(JJ hr hd (.inl ho) h).weak λ_ _=>trivial
 ·rename_i y ho;cases hx;exact(JJ hr hd (.inr ho) h).weak λ_ _=>trivial
 ·rename_i c y z ho;cases hx;exact(agV hr hd ho h).weak λ_ _=>trivial
 ·cases hx;cases hq
 ·cases hx;cases hq
 ·rename_i t parts ho;split at hx
  ·rename_i fs l hu hl;obtain⟨hc,rfl⟩:=ym hx;rw[Bool.and_eq_true]at hc;exact(adC hr hd ho hu hl hc.1 hc.2 h).weak λ_ _=>trivial
  ·cases hx
 ·split at hx
  ·obtain⟨_,rfl⟩:=ym hx;cases hq
  ·cases hx
 ·rename_i t y ho;split at hx
  ·rename_i g ht;cases hx;exact(anc hr hd ho ht h).weak λ_ hc=>hc rfl
  ·cases hx
 ·obtain⟨_,rfl⟩:=ym hx;cases hq
 ·rename_i y ho;cases hx;exact(ang hr hd ho h).weak λ_ _=>trivial
 ·rename_i src dst y ho;cases h1:xY P src false&&xY P dst true
  ·rw[h1]at hx;cases h2:xY P src true&&xY P dst false
   ·rw[h2]at hx;simp only[cond_false]at hx;cases h3:Wx P src dst y with
    |none=>simp only[h3]at hx;cases hx;exact(wo hr hd (by rw[ho];rfl) h).weak λ_ _=>trivial
    |some z=>simp only[h3]at hx;cases hx;exact(agT hr hd ho h3 h).2.weak λ_ _=>trivial
   ·rw[h2]at hx;cases hx;cases hq
  ·rw[h1]at hx;cases hx;rw[Bool.and_eq_true]at h1;exact(ajg hr hd ho h1.1 h1.2 h).weak λ_ hc=>hc rfl
 ·obtain⟨_,rfl⟩:=ym hx;cases hq
 ·split at hx
  ·split at hx
   ·obtain⟨_,rfl⟩:=ym hx;cases hq
   ·cases hx
  ·cases hx
 ·rename_i t y lo hi mx ho;split at hx
  ·rename_i hu;cases hx;exact(ajs hr hd ho hu h).weak λ_ _=>trivial
  ·rename_i e hu;obtain⟨hc,rfl⟩:=ym hx;obtain⟨i,hi'⟩:=Yt hc;exact(ajr hr hd ho hu hi' h).weak λ_ _=>trivial
  ·cases hx
 ·rename_i t y f ho;split at hx
  ·rename_i off ft ht;obtain⟨hc,rfl⟩:=ym hx;exact(ana hr hd ho ht hc h).weak λ_ _=>trivial
  ·cases hx
 ·rename_i t y f ho;split at hx
  ·rename_i off ft ht;split at hx
   ·rename_i g hg;cases hx;exact(ajm hr hd ho ht hg h).weak λ_ _=>trivial
   ·cases hx
  ·cases hx
 ·rename_i t y i ho;split at hx
  ·rename_i e ht;obtain⟨hc,rfl⟩:=ym hx;exact(anb hr hd ho ht hc h).weak λ_ _=>trivial
  ·cases hx
 ·rename_i t y i ho;split at hx
  ·rename_i hu;cases hx;exact(ajq hr hd ho hu h).weak λ_ _=>trivial
  ·cases hx
 ·rename_i y i ho;cases hx;exact(ajl hr hd ho h).weak λ_ _=>trivial
 ·rename_i args ts ho;split at hx
  ·rename_i y t hargs hts;split at hx
   ·rename_i e ht;cases hx;exact(ajo hr hd ho hargs hts ht h).weak λ_ _=>trivial
   ·cases h3:Jq P t y with
    |none=>simp only[h3]at hx;cases hx;exact(wo hr hd (by rw[ho];rfl) h).weak λ_ _=>trivial
    |some z=>simp only[h3]at hx;cases hx;exact(agW hr hd ho hargs hts h3 h).2.weak λ_ _=>trivial
  ·cases hx
 ·split at hx
  ·split at hx
   ·obtain⟨_,rfl⟩:=ym hx;cases hq
   ·split at hx
    ·obtain⟨_,rfl⟩:=ym hx;cases hq
    ·cases hx
   ·obtain⟨_,rfl⟩:=ym hx;cases hq
   ·cases hx
  ·cases hx
 ·cases hx;cases hq
 ·cases hx;cases hq
 ·rename_i b args ts h1 h2 ho;cases hm:abt b args.toList with
  |some y=>simp only[hm]at hx;cases hx;exact(anf hr hd ho hm h).weak λ_ _=>trivial
  |none=>
   simp only[hm]at hx;cases hb:Vr P b args.toList ts.toList with
   |some y=>simp only[hb]at hx;cases hx;rw[(adO hb).1]at hq;cases hq
   |none=>simp only[hb]at hx;cases hx;exact(wo hr hd (by rw[ho];rfl) h).weak λ_ _=>trivial
 ·rename_i b t y z u ho;cases hn:abz P b t z with
  |some neg=>simp only[hn]at hx;cases hx;exact(ajn hr hd ho hn h).weak λ_ _=>trivial
  |none=>
  simp only[hn]at hx;cases h3:Jh P b t y z with
  |some q=>simp only[h3]at hx;cases hx;exact(ajk hr hd ho h3 h).2.weak λ_ _=>trivial
  |none=>
  simp only[h3]at hx;cases h4:U7 P b t y z with
  |some q=>simp only[h4]at hx;cases hx;exact(ajh hr hd ho h4 h).2.weak λ_ _=>trivial
  |none=>
  simp only[h4]at hx;cases h1:aeI b&&ahL P t
  ·rw[h1]at hx;cases hx;exact(wo hr hd (by rw[ho];rfl) h).weak λ_ _=>trivial
  ·rw[h1]at hx;cases hx;exact(aji hr hd ho h).weak λ_ _=>trivial
 ·rename_i u t y ho;cases h4:JK P u t y with
  |some q=>simp only[h4]at hx;cases hx;exact(anh hr hd ho h4 h).2.weak λ_ _=>trivial
  |none=>simp only[h4]at hx;cases hx;exact(wo hr hd (by rw[ho];rfl) h).weak λ_ _=>trivial
 ·cases hx
 ·cases hx;cases hq
theorem ath {b:BinOp}{t:TypeId}{x y:Operand}{z:AOp}(h:U7 P b t x y=some z):un z=false:=by
 unfold U7 at h;(repeat' split at h)<;>cases h<;>rfl
theorem av0 {b:UnOp}{t:TypeId}{x:Operand}{z:AOp}(h:JK P b t x=some z):un z=false:=by
 unfold JK at h;(repeat' split at h)<;>cases h<;>rfl
theorem ary {s t:TypeId}{x:Operand}{z:AOp}(h:Wx P s t x=some z):un z=false:=by
 unfold Wx at h;(repeat' split at h)<;>cases h<;>rfl
theorem atG {t:TypeId}{x:Operand}{z:AOp}(h:Jq P t x=some z):un z=false:=by
 unfold Jq at h;(repeat' split at h)<;>cases h<;>rfl
theorem ats {b:BinOp}{t:TypeId}{x y:Operand}{z:AOp}(h:Jh P b t x y=some z):un z=false:=by
 unfold Jh at h;(repeat' split at h)<;>cases h<;>rfl
theorem uQ {α:Type}{c:Bool}{p q r:α}(h:(bif c then p else q)=r):p=r\/q=r:=by
 cases c
 ·exact .inr h
 ·exact .inl h
theorem apE (hr:Rel F N ι s a w)(hd: ∀k,o.dst=some k ->k<N){x:AOp}(hx:cOp P o.op o.type=some x)(hq:un x=true)(h:zJ P o.dst x s K):vd P F N o a w K:=by
 unfold cOp at hx;split at hx
 case h_22=>rename_i f args ts ho;cases hx;exact agQ hr hd ho h
 case h_23=>rename_i y args ts ho hne;cases hx;exact agR hr hd hne h
 case h_24=>
  rename_i b args ts h1 h2 ho;cases hm:abt b args.toList with
  |some y=>
   simp only[hm]at hx;cases hx;obtain⟨x1,y1,_,⟨_,rfl⟩|⟨_,rfl⟩⟩:=abu hm<;>cases hq
  |none=>
   simp only[hm]at hx;cases hb:Vr P b args.toList ts.toList with
   |some y=>simp only[hb]at hx;cases hx;rw[(adO hb).2.1]at hq;cases hq
   |none=>simp only[hb]at hx;cases hx;cases hq
 case h_5=>rename_i t y ho;cases hx;exact am9 hr hd ho h
 case h_7=>
  rename_i t n parts ho;split at hx
  ·rename_i e ht;obtain⟨hc,rfl⟩:=ym hx;simp only[Bool.and_eq_true]at hc;exact agU hr hd ho ht hc.1.1.1.1 hc.1.1.1.2 hc.1.1.2 hc.1.2 hc.2 h
  ·cases hx
 case h_13=>
  rename_i t n c ho;split at hx
  ·rename_i e ht;split at hx
   ·rename_i z plz hz;obtain⟨hc,rfl⟩:=ym hx;rw[Bool.and_eq_true]at hc;exact ane hr hd ho ht hz hc.1 hc.2 h
   ·cases hx
  ·cases hx
 case h_11=>
  rename_i src dst y ho;rcases uQ hx with h1|h1
  ·cases h1;cases hq
  ·cases h2:xY P src true&&xY P dst false
   case true=>
    rw[h2]at h1;cases h1;rw[Bool.and_eq_true]at h2;exact ajp hr hd ho h2.1 h2.2 h
   case false=>
    rw[h2]at h1;simp only[cond_false]at h1;split at h1
    ·rename_i z h3;cases h1;rw[ary h3]at hq;cases hq
    ·cases h1;cases hq
 case h_20=>
  (repeat' split at hx)
  ·cases hx;cases hq
  ·rename_i h3;cases hx;rw[atG h3]at hq;cases hq
  ·cases hx;cases hq
  ·cases hx
 case h_25=>
  (repeat' split at hx)
  ·cases hx;cases hq
  ·rename_i h3;cases hx;rw[ats h3]at hq;cases hq
  ·rename_i h3;cases hx;rw[ath h3]at hq;cases hq
  ·rcases uQ hx with h1|h1<;>(cases h1;cases hq)
 case h_26=>
  (repeat' split at hx)
  ·rename_i h3;cases hx;rw[av0 h3]at hq;cases hq
  ·cases hx;cases hq
 all_goals first
  |(cases hx;done)
  |(rcases uQ hx with h1|h1<;>(cases h1;cases hq);done)
  |(split at hx<;>first|(cases hx;cases hq;done)|(rcases uQ hx with h1|h1<;>(cases h1;cases hq);done))
  |(cases hx;cases hq;done)
  |(obtain⟨_,rfl⟩:=ym hx;cases hq;done)
  |(exfalso;repeat' split at hx)<;>first|(cases hx;done)|(cases hx;cases hq;done)|(obtain⟨_,rfl⟩:=ym hx;cases hq;done)|skip
end
end Go.AM
namespace Go.AM
section
variable {P:Program}{hs:List Nat}{ops:Array Oper}{Q:Exit ->Act ->World ->Prop}
def jM (P:Program)(hs:List Nat)(ops:Array Oper)(Q:Exit ->Act ->World ->Prop):Nat ->Array Bool ->Act ->World ->Prop
 |0,listed,a,w=>Region.ready .any ops listed=[]/\Q .normal a w
 |fuel+1,listed,a,w=>(Region.ready .any ops listed=[] ->Q .normal a w)/\
  ∀i∈Region.ready .any ops listed,wpOp P ops Q i (λa' w'=>(1<=clsAt P hs ops i ->vA w w')/\jM P hs ops Q fuel (listed.setIfInBounds i true) a' w') a w
theorem g8: ∀(fuel:Nat) (listed:Array Bool) (a:Act) (w:World),jM P hs ops Q fuel listed a w ->wpAny P .any ops Q fuel listed a w
 |0,_,_,_,h=>h
 |fuel+1,_,_,_,h=>⟨h.1,λi hi=>wpOp_mono (λ_ _ h'=>g8 fuel _ _ _ h'.2) (h.2 i hi)⟩
def YC (P:Program)(ops:Array Oper)(C:World ->Prop)(o:Oper)(v:Value)(a:Act):Prop:=
 (Region.wanted o (yielded ops a.tmps)=true /\ ∀w,C w ->(execOp a.eval o).run P w= .ok (.value v) w)\/
 (Region.wanted o (yielded ops a.tmps)=false /\v=undef)
theorem YC.wpOp {C:World ->Prop}{i:Nat}{o:Oper}{v:Value}{a:Act}(hi:ops[i]? =some o)(hy:YC P ops C o v a){K:Act ->World ->Prop}{w:World}(hC:C w)(h:K (a.put o.dst v) w):wpOp P ops Q i K a w:=by
 unfold Go.wpOp;simp only[hi];rcases hy with⟨hw,hv⟩|⟨hw,rfl⟩
 ·simp only[hw,if_true,Oper.wp,hv w hC,Oper.upon];exact .inl h
 ·simp only[hw,Bool.false_eq_true,if_false];exact h
theorem YC.of_same {C:World ->Prop}{o:Oper}{v:Value}{a a':Act}(hy:YC P ops C o v a)(he:execOp a'.eval o=execOp a.eval o)(hw:Region.wanted o (yielded ops a'.tmps)=Region.wanted o (yielded ops a.tmps)):YC P ops C o v a':=by
 unfold YC at*;rw[he,hw];exact hy
structure Apart (ops:Array Oper)(x y:Oper):Prop where
 h1: ∀d,x.dst=some d ->d∉y.looksAt ops
 h2: ∀d,x.dst=some d ->y.dst≠some d
 h3: ∀d,y.dst=some d ->d∉x.looksAt ops
theorem aq3 {C:World ->Prop}{j:Nat}{oi oj:Oper}{v:Value}(hj:ops[j]? =some oj)(hap:Apart ops oi oj)(hsi: ∀cs b,oi.op≠ .select cs b)(hsj: ∀cs b,oj.op≠ .select cs b)
 (hQ: ∀c a w,¬Q (.panic c) a w) {K:Act ->World ->Prop}{a:Act}{w:World}(hy:YC P ops C oi v a) (h:wpOp P ops Q j K (a.put oi.dst v) w):
 wpOp P ops Q j (λa' w'=>YC P ops C oi v a' /\K (a'.put oi.dst v) w') a w:=by
 obtain⟨h1,h2,h3⟩:=hap;have keep: ∀(a:Act),YC P ops C oi v a -> ∀u,YC P ops C oi v (a.put oj.dst u):=λa hy u=>
  hy.of_same (execOp_put oi hsi a oj.dst u h3) (wanted_put oi a oj.dst u h3)
 have keepD: ∀d,YC P ops C oi v {a with defers:=d::a.defers}:=λd=>hy.of_same rfl rfl
 unfold wpOp at*;simp only[hj]at*;rw[wanted_put oj a oi.dst v h1]at h;split
 ·rename_i hw;simp only[hw,if_true]at h;rcases h with h|⟨hasks,hlets⟩
  case inr=>exact .inr ⟨by unfold Oper.asks at*;rw[execOp_put oj hsj a oi.dst v h1]at hasks;exact hasks,hlets⟩
  refine .inl ?_;unfold Oper.wp at*;rw[execOp_put oj hsj a oi.dst v h1]at h;generalize(execOp a.eval oj).run P w=r at*;cases r with
  |ok n w'=>
   cases n<;>simp only[Oper.upon]at h⊢
   case value u=>exact⟨keep a hy u,by rw[<- Go.Act.put_comm a v u h2];exact h⟩
   case skip=>exact⟨keep a hy _,by rw[<- Go.Act.put_comm a v undef h2];exact h⟩
   case defer d=>
    refine⟨keep _ (keepD d) _,?_⟩;rw[<- Go.Act.put_comm _ v undef h2,<- _root_.Go.Act.put_defers];exact h
   case enter f args=>
    refine Calls.mono h λe w'' he=>?_
    cases e with
    |returned u=>exact⟨keep a hy u,by rw[<- Go.Act.put_comm a v u h2];exact he⟩
    |panicked c=>exact absurd he (hQ _ _ _)
    |outgrown=>exact he
   case row row args=>exact Rows.mono h λu w'' he=>⟨keep a hy u,by rw[<- Go.Act.put_comm a v u h2];exact he⟩
  |halt x w'=>
   cases x<;>simp only[Oper.upon]at h⊢
   case panic u=>exact absurd h (hQ _ _ _)
 ·rename_i hw;simp only[hw]at h;exact⟨keep a hy _,by rw[<- Go.Act.put_comm a v undef h2];exact h⟩
theorem aos {j d:Nat}{oj:Oper}{v:Value}(hj:ops[j]? =some oj)(h1:d∉oj.looksAt ops)(h2:oj.dst≠some d)(hsj: ∀cs b,oj.op≠ .select cs b)
 (hQ: ∀c a w,¬Q (.panic c) a w) {K:Act ->World ->Prop}{a:Act}{w:World}(h:wpOp P ops Q j (λa' w'=>K (a'.put (some d) v) w') a w):wpOp P ops Q j K (a.put (some d) v) w:=by
 have h1: ∀e,some d=some e ->e∉oj.looksAt ops:=λe he=>by cases he;exact h1
 have h2: ∀e,some d=some e ->oj.dst≠some e:=λe he=>by cases he;exact h2
 unfold wpOp at*;simp only[hj]at*;rw[wanted_put oj a (some d) v h1];split
 ·rename_i hw;simp only[hw,if_true]at h;rcases h with h|⟨hasks,hlets⟩
  case inr=>exact .inr ⟨by unfold Oper.asks at*;rw[execOp_put oj hsj a (some d) v h1];exact hasks,hlets⟩
  refine .inl ?_;unfold Oper.wp at*;rw[execOp_put oj hsj a (some d) v h1];generalize(execOp a.eval oj).run P w=r at*;cases r with
  |ok n w'=>
   cases n<;>simp only[Oper.upon]at h⊢
   case value u=>rw[Go.Act.put_comm a v u h2];exact h
   case skip=>rw[Go.Act.put_comm a v undef h2];exact h
   case defer e=>
    rw[_root_.Go.Act.put_defers,Go.Act.put_comm _ v undef h2];exact h
   case enter f args=>
    refine Calls.mono h λe w'' he=>?_
    cases e with
    |returned u=>show K _ _;rw[Go.Act.put_comm a v u h2];exact he
    |panicked c=>exact absurd he (hQ _ _ _)
    |outgrown=>exact he
   case row row args=>exact Rows.mono h λu w'' he=>by rw[Go.Act.put_comm a v u h2];exact he
  |halt x w'=>
   cases x<;>simp only[Oper.upon]at h⊢
   case panic u=>exact absurd h (hQ _ _ _)
 ·rename_i hw;simp only[hw]at h;rw[Go.Act.put_comm a v undef h2];exact h
theorem UQ {C:World ->Prop}{i:Nat}{oi:Oper}{v:Value}(hi:ops[i]? =some oi)(hsel: ∀(j:Nat) (o:Oper) cs b,ops[j]? =some o ->o.op≠ .select cs b)
 (hQ: ∀c a w,¬Q (.panic c) a w) (hC: ∀w w',C w ->vA w w' ->C w')
 (T:List Nat) (hT: ∀j∈T,∀oj,ops[j]? =some oj -> ∃e∈oj.after,Region.binds .any e=true /\(e.on=i\/e.on∈T)):
 ∀(fuel:Nat) (listed:Array Bool) (a:Act) (w:World),C w ->(∀j∈T,listed.getD j false=false) ->
  (∀j oj,ops[j]? =some oj ->j≠i ->listed.getD j true=false ->j∉T ->Apart ops oi oj /\((∀w,C w)\/1<=clsAt P hs ops j)) ->
  i∈Region.ready .any ops listed ->YC P ops C oi v a ->
  jM P hs ops Q fuel (listed.setIfInBounds i true) (a.put oi.dst v) w ->jM P hs ops Q (fuel+1) listed a w:=by
 intro fuel;induction fuel with
 |zero=>
  intro listed a w hw _ _ hr hy H;refine⟨λh=>(by rw[h]at hr;cases hr),λj hj=>?_⟩;by_cases hji:j=i
  ·subst hji;exact hy.wpOp hi hw ⟨λ_=>vA.refl w,H⟩
  ·have:=ready_mono hj hji;rw[H.1]at this;cases this
 |succ fuel ih=>
  intro listed a w hw hTu hfree hr hy H;refine⟨λh=>(by rw[h]at hr;cases hr),λj hj=>?_⟩;by_cases hji:j=i
  ·subst hji;exact hy.wpOp hi hw ⟨λ_=>vA.refl w,H⟩
  ·have h1:=H.2 j (ready_mono hj hji);obtain⟨hjun,oj,hoj,hall⟩:=mem_ready.1 hj;have hiun:listed.getD i false=false:=by
    have h0:=(mem_ready.1 hr).1;rw[Array.getD_eq_getD_getElem?]at h0⊢;cases hl:listed[i]? with
    |none=>rfl
    |some b=>rw[hl]at h0;exact h0
   have hjT:j∉T:=λhjT=>by
    obtain⟨e,he,hb,h3⟩:=hT j hjT oj hoj;have h4:=hall e he hb;rcases h3 with h3|h3
    ·rw[h3,hiun]at h4;cases h4
    ·rw[hTu e.on h3]at h4;cases h4
   obtain⟨hap,hcl⟩:=hfree j oj hoj hji hjun hjT;have h2:=aq3 hoj hap (λcs b=>hsel i oi cs b hi) (λcs b=>hsel j oj cs b hoj) hQ hy h1;have hfree': ∀k ok,ops[k]? =some ok ->k≠i ->(listed.setIfInBounds j true).getD k true=false ->k∉T ->Apart ops oi ok /\((∀w,C w)\/1<=clsAt P hs ops k):=λk ok hk hki hun hno=>by
    refine hfree k ok hk hki ?_ hno;by_cases hjk:j=k
    ·subst hjk;exact hjun
    ·rw[getD_set_ne true hjk]at hun;exact hun
   have hTu': ∀k∈T,(listed.setIfInBounds j true).getD k false=false:=λk hk=>by
    rw[getD_set_ne false (λe=>hjT (by rw[e];exact hk))];exact hTu k hk
   refine wpOp_mono (λa' w' h3=>⟨h3.2.1,ih (listed.setIfInBounds j true) a' w' ?_ hTu' hfree' (ready_mono hr (Ne.symm hji)) h3.1 ?_⟩) h2
   ·rcases hcl with hcl|hcl
    ·exact hcl w'
    ·exact hC w w' hw (h3.2.1 hcl)
   ·rw[Array.setIfInBounds_comm _ _ hji];exact h3.2.2
end
end Go.AM
namespace Go.AM
section
variable {P:Program}{F F':Fr}{N:Nat}{ι:Nat ->Gh}{s:S}{a:Act}{w:World}
structure Under (F F':Fr)(b:Nat):Prop where
 A: ∀x,F'.A x ->(F.A x\/F.M x\/F.w0.heap.size<=x)/\x≠b
 M: ∀x,F'.M x ->(F.M x\/F.w0.heap.size<=x)/\x≠b
 g:Grows F.M F.w0 F'.w0
 h:F'.h=F.h
 b1:F.w0.heap.size<=b
 b2:b<F'.w0.heap.size
theorem Rel.hide (hr:Rel F N ι s a w){w1:World}(hg:Grows (λ_=>False) w w1)(hb:w.heap.size<w1.heap.size):
 ∃F',Under F F' w.heap.size /\F'.w0=w1 /\Rel F' N ι s a w1:=by
 have hr1:=hr.grown hg
 let F':Fr:=⟨w1,λx=>F.ok ι s.pl w1 x /\x≠w.heap.size,Owns ι s.pl,F.h⟩
 have hkeep:zZ w w1 (F.ok ι s.pl w) (F'.ok ι s.pl w1):=λx hx=>
  ⟨⟨.inl ⟨⟨hx.1,Nat.lt_of_lt_of_le hx.2.1 hg.size,hx.2.2⟩,by have:=hx.2.1;omega⟩,Nat.lt_of_lt_of_le hx.2.1 hg.size,hx.2.2⟩,hg.block x hx.2.1 (λh=>h)⟩
 have hsh:=zX.of_grows hg;refine⟨F',⟨λx hx=>⟨hx.1.1,hx.2⟩,λx hx=>⟨(hr.mine x hx).1,by have:=(hr.mine x hx).2;omega⟩,hr1.grows,rfl,hr.grows.size,hb⟩,rfl,?_⟩;refine⟨hr.room,λk v hv=>?_,λp x hx=>?_,hr.inj,λx hx=>⟨.inl hx,(hr1.mine x hx).2⟩,hr.defers,Grows.refl _ _,λx hx=>⟨hx.1.2.1,hx.1.2.2⟩,⟨λx hx=>(hr1.mine x hx).2,λk hk=>⟨⟨(hr1.glb k hk).1,λe=>Nat.lt_irrefl _ (e▸(hr.glb k hk).1.2.1)⟩,(hr1.glb k hk).2⟩⟩,hr.few,hr.hdom,hr.hkeep⟩
 ·obtain⟨x,e1,e2⟩:=hr.slots k v hv;exact⟨x,e1,VR.keep hkeep hsh v x e2⟩
 ·have h:=hr.places p x hx;cases x with
  |fbox ds=>obtain⟨b,e1,e2,e3⟩:=h;exact⟨b,e1,(hkeep b e2).1,RDc.keep hkeep b e2 _ _ e3⟩
  |gone=>exact h.elim
  |box cs=>obtain⟨b,cur,e1,⟨t,e2⟩,e3⟩:=h;exact⟨b,cur,e1,⟨t,by rw[hg.block b (RowAt.lt ⟨t,e2⟩) (λh=>h)];exact e2⟩,CRs.keep hkeep hsh _ _ e3⟩
  |arr sz els fz=>
   obtain⟨h0,hn,h|⟨b,e1,e2,e3,e4⟩⟩:=h
   ·exact⟨h0,hn,.inl h⟩
   ·have hlt:b<w.heap.size:=by
     cases fz
     ·obtain⟨cur,e5,_⟩:=e4 rfl;exact e5.lt
     ·exact(e3 rfl).2.1
    refine⟨h0,hn,.inr ⟨b,e1,RDs.keep' hkeep b sz els 0 (λj _ _=>uW (hg.block b hlt (λh=>h)) j) e2,λhf=>(hkeep b (e3 hf)).1,λhf=>?_⟩⟩;obtain⟨cur,⟨t,e5⟩,e6⟩:=e4 hf;exact⟨cur,⟨t,by rw[hg.block b hlt (λh=>h)];exact e5⟩,e6⟩
theorem Rel.unhide {b:Nat}(hr:Rel F' N ι s a w)(hu:Under F F' b)(hf: ∀x,F.A x ->x<F.w0.heap.size /\ ¬F.M x)(hh:(∀x,F.M x ->x<F.w0.heap.size)/\Glb F.A F.w0){cur:Array Value}(hrow:RowAt F'.w0 b cur)
 {cs:List C}(hcs: ∀ι w ok,CRs ι w ok cs cur.toList) {d:Nat}(hd:d<N):
 Rel F N (vP ι d ⟨some b,0⟩) ((s.place d (.box cs)).put (some d) (cV (.ptr d 0))) (a.put (some d) (.pointer (some ⟨b,0,none⟩))) w:=by
 let ι':=vP ι d ⟨some b,0⟩
 have hbM: ¬F'.M b:=λh=>(hu.M b h).2 rfl
 have hrow':RowAt w b cur:=by
  obtain⟨t,h⟩:=hrow;exact⟨t,by rw[hr.grows.block b hu.b2 hbM];exact h⟩
 have hne: ∀x,F'.ok ι s.pl w x ->x≠b:=by
  intro x hx he;subst he;rcases hx.1 with h|h|h
  ·exact(hu.A _ h).2 rfl
  ·exact(hu.M _ h).2 rfl
  ·have:=hu.b2;omega
 have hnot: ¬Owns ι s.pl b:=by
  intro h;rcases(hr.mine b h).1 with h|h
  ·exact hbM h
  ·have:=hu.b2;omega
 have hιd:ι' d=⟨some b,0⟩:=zH _ _ _;have hιo: ∀p,isin p [d]=false ->ι' p=ι p:=λp hp=>ux ι _ (aem hp)
 have hget: ∀p x,aget (s.place d (.box cs)).pl p=some x ->(p=d /\x= .box cs)\/(p≠d /\ ∃y,aget s.pl p=some y /\x=y.kill [d]):=by
  intro p x hx;unfold S.place at hx;rw[S.redo_pl]at hx;simp only[yj]at hx;by_cases hpd:d=p
  ·subst hpd;simp only[if_true,Option.some.injEq]at hx;exact .inl ⟨rfl,hx.symm⟩
  ·rw[if_neg hpd]at hx;simp only[aget]at hx;split at hx
   ·cases hp:aget s.pl p with
    |none=>rw[hp]at hx;cases hx
    |some y=>rw[hp]at hx;simp at hx;exact .inr ⟨λe=>hpd e.symm,y,rfl,hx.symm⟩
   ·cases hx
 have hisin: ∀p,p≠d ->isin p [d]=false:=λp hp=>by
  cases h:isin p [d]with
  |false=>rfl
  |true=>have:=(zN p [d]).1 h;simp at this;exact absurd this hp
 have hown: ∀x,Owns ι' (s.place d (.box cs)).pl x ->x=b\/Owns ι s.pl x:=by
  rintro x ⟨p,y,h1,h2,h3⟩;rcases hget p y h1 with⟨rfl,rfl⟩|⟨hp,z,hz,rfl⟩
  ·rw[hιd]at h3;cases h3;exact .inl rfl
  ·rw[hιo p (hisin p hp)]at h3;rw[Pl.live_kill]at h2;exact .inr ⟨p,z,hz,h2,h3⟩
 have hkeep:zZ w w (F'.ok ι s.pl w) (F.ok ι' (s.place d (.box cs)).pl w):=by
  intro x hx;refine⟨⟨?_,hx.2.1,λho=>?_⟩,rfl⟩
  ·rcases hx.1 with h|h|h
   ·exact(hu.A x h).1
   ·exact(hu.M x h).1.elim (λh=>.inr (.inl h)) (λh=>.inr (.inr h))
   ·exact .inr (.inr (Nat.le_trans hu.g.size h))
  ·rcases hown x ho with h|h
   ·exact hne x hx h
   ·exact hx.2.2 h
 have hrel:Rel F N ι' (s.place d (.box cs)) a w:=by
  refine⟨hr.room,λk v hv=>?_,λp x hx=>?_,?_,?_,hr.defers,?_,hf,hh,hr.few,by rw[<- hu.h];exact hr.hdom,λp x g hx hg=>?_⟩
  rotate_left 5
  ·rw[<- hu.h]at hg;rcases hget p x hx with⟨rfl,_⟩|⟨hp,z,hz,_⟩
   ·rw[hr.h_slot hd]at hg;cases hg
   ·rw[hιo p (hisin p hp)];exact hr.hkeep p z g hz hg
  ·unfold S.place at hv;rw[S.redo_sl]at hv;cases hk:aget s.sl k with
   |none=>rw[hk]at hv;cases hv
   |some u=>
    rw[hk]at hv;simp at hv;subst hv;obtain⟨x,e1,e2⟩:=hr.slots k u hk;exact⟨x,e1,VR.kill hkeep (zX.refl w) hιo u x e2⟩
  ·rcases hget p x hx with⟨rfl,rfl⟩|⟨hp,z,hz,rfl⟩
   ·exact⟨b,cur,by rw[hιd],hrow',hcs _ _ _⟩
   ·exact PR.kill hkeep (zX.refl w) hιo p (hisin p hp) z (λ_ _ _=>rfl) (hr.places p z hz)
  ·intro p q x y b' hx hy hpq hl hb' hq;rcases hget p x hx with⟨rfl,rfl⟩|⟨hp,z,hz,rfl⟩<;>rcases hget q y hy with⟨rfl,rfl⟩|⟨hq',u,hu',rfl⟩
   ·exact hpq rfl
   ·rw[hιd]at hb';cases hb';rw[hιo q (hisin q hq')]at hq;have h:=hr.places q u hu';cases u with
    |box cs=>exact hnot ⟨q,_,hu',rfl,hq⟩
    |fbox ds=>obtain⟨b'',e1,e2,_⟩:=h;rw[hq]at e1;cases e1;exact hne _ e2 rfl
    |gone=>exact h.elim
    |arr z els fz=>cases fz with
     |false=>exact hnot ⟨q,_,hu',rfl,hq⟩
     |true=>
      obtain⟨_,_,h|⟨b'',e1,_,e3,_⟩⟩:=h
      ·rw[hq]at h;cases h.1
      ·rw[hq]at e1;cases e1;exact hne _ (e3 rfl) rfl
   ·rw[hιd]at hq;cases hq;rw[hιo p (hisin p hp)]at hb';rw[Pl.live_kill]at hl;exact hnot ⟨p,z,hz,hl,hb'⟩
   ·rw[hιo p (hisin p hp)]at hb';rw[hιo q (hisin q hq')]at hq;rw[Pl.live_kill]at hl;exact hr.inj p q z u b' hz hu' hpq hl hb' hq
  ·intro x hx;rcases hown x hx with rfl|h
   ·exact⟨.inr hu.b1,Nat.lt_of_lt_of_le hu.b2 hr.grows.size⟩
   ·refine⟨?_,(hr.mine x h).2⟩;rcases(hr.mine x h).1 with h|h
    ·exact(hu.M x h).1
    ·exact .inr (Nat.le_trans hu.g.size h)
  ·refine⟨hr.grows.os.trans hu.g.os,hr.grows.tape.trans hu.g.tape,hr.grows.output.trans hu.g.output,Nat.le_trans hu.g.size hr.grows.size,λx hx hm=>?_,λc t m h=>hr.grows.shapes c t m (hu.g.shapes c t m h)⟩;rw[hr.grows.block x (Nat.lt_of_lt_of_le hx hu.g.size) (λh=>(hu.M x h).1.elim hm (λh=>by omega))];exact hu.g.block x hx hm
 exact hrel.put (some d) (λk hk=>by cases hk;exact hd) _ _ ⟨b,by rw[hιd],rfl⟩
theorem ak5 {o:Oper}{cs:List C}(hx:cOp P o.op o.type=some (.alloc cs)): ∃t,o.op= .alloc t /\cs=(qQ P t).cells:=by
 unfold cOp at hx;split at hx
 case h_4=>rename_i t ho;cases hx;exact⟨t,ho,rfl⟩
 case h_24=>
  rename_i b args ts h1 h2 ho;cases hm:abt b args.toList with
  |some y=>
   simp only[hm]at hx;cases hx;obtain⟨x1,y1,_,⟨_,h⟩|⟨_,h⟩⟩:=abu hm<;>cases h
  |none=>
   simp only[hm]at hx;cases hb:Vr P b args.toList ts.toList with
   |some y=>simp only[hb]at hx;cases hx;exact absurd rfl ((adO hb).2.2 cs)
   |none=>simp only[hb]at hx;cases hx
 case h_11=>
  rcases uQ hx with h1|h1
  ·cases h1
  ·rcases uQ h1 with h1|h1
   ·cases h1
   ·split at h1
    ·rename_i z h3;cases h1;unfold Wx at h3;(repeat' split at h3)<;>cases h3
    ·cases h1
 case h_20=>
  (repeat' split at hx)
  ·cases hx
  ·rename_i h3;cases hx;unfold Jq at h3;(repeat' split at h3)<;>cases h3
  ·cases hx
  ·cases hx
 case h_25=>
  (repeat' split at hx)
  ·cases hx
  ·rename_i h3;cases hx;unfold Jh at h3;(repeat' split at h3)<;>cases h3
  ·rename_i h3;cases hx;unfold U7 at h3;(repeat' split at h3)<;>cases h3
  ·rcases uQ hx with h1|h1<;>cases h1
 case h_26=>
  (repeat' split at hx)
  ·rename_i h3;cases hx;unfold JK at h3;(repeat' split at h3)<;>cases h3
  ·cases hx
 all_goals first
  |(cases hx;done)
  |(rcases uQ hx with h1|h1<;>(cases h1;done);done)
  |(split at hx<;>first|(cases hx;done)|(rcases uQ hx with h1|h1<;>(cases h1;done);done))
  |(obtain⟨_,h⟩:=ym hx;cases h;done)
  |((repeat' split at hx)<;>first|(cases hx;done)|(obtain⟨_,h⟩:=ym hx;cases h;done))
theorem ark {o:Oper}{cs:List C}(hx:cOp P o.op o.type=some (.alloc cs))(hs:solid cs=true):
 ∃t cur,(∀ι w ok,CRs ι w ok cs (cur:Array Value).toList)/\ ∀(a:Act) (w:World),(execOp a.eval o).run P w= .ok (.value (.pointer (some ⟨w.heap.size,0,none⟩))) (w.alloc (.cells cur t)):=by
 obtain⟨t,ho,rfl⟩:=ak5 hx;unfold qQ at hs⊢;cases hi:P.info? t with
 |none=>simp only[hi]at hs;cases hs
 |some i=>
  simp only[hi]at hs⊢;cases hz:i.zero with
  |none=>simp only[hz]at hs;cases hs
  |some v=>
   simp only[hz]at hs⊢;rw[YF hs];exact⟨t,v.cells,λι w ok=>ZJ ι w ok v.cells.toList,λa w=>by simp[execOp,ho,Instr.alloc,zeroValue,typeInfo,hi,hz,newVar,newRow]⟩
theorem Grows.alloc (w:World)(cur:Array Value)(t:TypeId):Grows (λ_=>False) w (w.alloc (.cells cur t)):=by
 have h:=NewRow.alloc w cur t;exact⟨h.os,h.tape,h.output,by rw[h.size];omega,λb hb _=>h.old hb,h.shapes⟩
end
end Go.AM
namespace Go.AM
theorem kE {α:Type}{f:α ->Bool}: ∀{l:List α},ahb f l=true↔ ∃x∈l,f x=true
 | []=>by simp[ahb]
 |x::r=>by
  simp only[ahb,List.mem_cons];cases h:f x
  ·rw[cond_false,kE];constructor
   ·rintro⟨y,h1,h2⟩;exact⟨y,.inr h1,h2⟩
   ·rintro⟨y,rfl|h1,h2⟩
    ·rw[h]at h2;cases h2
    ·exact⟨y,h1,h2⟩
  ·rw[cond_true];exact⟨λ_=>⟨x,.inl rfl,h⟩,λ_=>rfl⟩
theorem wX {α:Type}{f:α ->Bool}: ∀{l:List α},jc f l=true↔ ∀x∈l,f x=true
 | []=>by simp[jc]
 |x::r=>by
  simp only[jc,List.mem_cons];cases h:f x
  ·rw[cond_false];exact⟨λh'=>(by cases h'),λh'=>(by have h2:=h' x (.inl rfl);rw[h]at h2;cases h2)⟩
  ·rw[cond_true,wX];constructor
   ·rintro h' y (rfl|hy)
    ·exact h
    ·exact h' y hy
   ·exact λh' y hy=>h' y (.inr hy)
theorem adn {n:Nat}{l:List Nat}:isin n l=false↔n∉l:=by
 rw[<- zN];cases isin n l<;>simp
theorem abk {j i:Nat}{r:List Nat}(h:j≠i):isin j (i::r)=isin j r:=by
 cases hb:isin j r with
 |true=>exact(zN _ _).2 (List.mem_cons_of_mem _ ((zN _ _).1 hb))
 |false=>exact adn.2 (λh'=>(List.mem_cons.1 h').elim h (adn.1 hb))
theorem vf {n:Nat}{l:List Nat}:isin n l=false↔n∉l:=by
 rw[<- zN];cases isin n l<;>simp
section
variable {P:Program}{hs:List Nat}{ops:Array Oper}
theorem apL {o:Oper}{x:AOp}(hx:cOp P o.op o.type=some x)(h:Un P o=1\/Un P o=2):x.quiet=true /\(Un P o=1 ->x.reads=false):=by
 unfold Un at h⊢;rw[hx]at h⊢;simp only at h⊢;cases hq:x.quiet with
 |true=>
  refine⟨rfl,λh1=>?_⟩;cases hr:x.reads with
  |false=>rfl
  |true=>rw[hr]at h1;cases h1
 |false=>
  rw[hq]at h;cases hc:un x<;>rw[hc]at h
  ·cases ha:Xe o x<;>rw[ha]at h<;>rcases h with h|h<;>cases h
  ·rcases h with h|h<;>cases h
theorem arv {o:Oper}{x:AOp}(hx:cOp P o.op o.type=some x)(h:Un P o=3):un x=true:=by
 unfold Un at h;rw[hx]at h;simp only at h;cases hq:x.quiet<;>rw[hq]at h
 ·cases hc:un x
  ·rw[hc]at h;cases ha:Xe o x<;>rw[ha]at h<;>cases h
  ·rfl
 ·cases hr:x.reads<;>rw[hr]at h<;>cases h
theorem afB {o:Oper}(h:Un P o=4): ∃cs d,cOp P o.op o.type=some (.alloc cs)/\solid cs=true /\o.guard=none /\o.dst=some d:=by
 unfold Un at h;cases hx:cOp P o.op o.type with
 |none=>rw[hx]at h;cases h
 |some x=>
  rw[hx]at h;simp only at h;cases hq:x.quiet<;>rw[hq]at h
  ·cases hc:un x<;>rw[hc]at h
   ·cases ha:Xe o x<;>rw[ha]at h
    ·cases h
    ·unfold Xe at ha;split at ha
     ·rename_i cs;simp only[Bool.and_eq_true,Bool.not_eq_true']at ha;obtain⟨⟨h1,h2⟩,h3⟩:=ha;obtain⟨d,hd⟩:=Yt h3;refine⟨cs,d,rfl,h1,?_,hd⟩;cases hg:o.guard with
      |none=>rfl
      |some g=>rw[hg]at h2;cases h2
     ·cases ha
   ·cases h
  ·cases hr:x.reads<;>rw[hr]at h<;>cases h
theorem avd (o:Oper):Un P o<=4:=by
 unfold Un;split
 ·rename_i x _;cases x.quiet
  ·cases un x
   ·cases Xe o x<;>exact Nat.le_of_ble_eq_true rfl
   ·exact Nat.le_of_ble_eq_true rfl
  ·cases x.reads<;>exact Nat.le_of_ble_eq_true rfl
 ·exact Nat.le_of_ble_eq_true rfl
theorem Yr {i:Nat}{o:Oper}(ho:ops[i]? =some o):(isin i hs=true /\clsAt P hs ops i=0)\/(isin i hs=false /\clsAt P hs ops i=Un P o)\/(isin i hs=false /\clsAt P hs ops i=3 /\Un P o=4):=by
 unfold clsAt;cases isin i hs
 ·cases hb:(Nat.beq (Un P o) 4&&isin 999999 hs)
  ·exact .inr (.inl ⟨rfl,by simp[ho,hb]⟩)
  ·refine .inr (.inr ⟨rfl,by simp[ho,hb],?_⟩);rw[Bool.and_eq_true]at hb;exact Nat.eq_of_beq_eq_true hb.1
 ·exact .inl ⟨rfl,rfl⟩
theorem uk {i:Nat}{o:Oper}(ho:ops[i]? =some o){x:AOp}(hx:XG P (isin i hs) o.op o.type=some x)(h:clsAt P hs ops i=1\/clsAt P hs ops i=2):
 cOp P o.op o.type=some x /\x.quiet=true /\(clsAt P hs ops i=1 ->x.reads=false):=by
 rcases Yr (P:=P) (hs:=hs) ho with⟨_,h1⟩|⟨h1,h2⟩|⟨_,h1,_⟩
 ·rw[h1]at h;rcases h with h|h<;>cases h
 ·rw[h1]at hx;rw[h2]at h⊢;exact⟨hx,apL hx h⟩
 ·rw[h1]at h;rcases h with h|h<;>cases h
theorem atm {i:Nat}{o:Oper}(ho:ops[i]? =some o){x:AOp}(hx:XG P (isin i hs) o.op o.type=some x)(h:clsAt P hs ops i=3):cOp P o.op o.type=some x /\(un x=true\/ ∃cs,x= .alloc cs):=by
 rcases Yr (P:=P) (hs:=hs) ho with⟨_,h1⟩|⟨h1,h2⟩|⟨h1,_,h2⟩
 ·rw[h1]at h;cases h
 ·rw[h1]at hx;rw[h2]at h;exact⟨hx,.inl (arv hx h)⟩
 ·rw[h1]at hx;obtain⟨cs,d,hc,_⟩:=afB h2;have hx:cOp P o.op o.type=some x:=hx;refine⟨hx,.inr ⟨cs,?_⟩⟩;rw[hx]at hc;exact Option.some.inj hc
theorem aru {i:Nat}{o:Oper}(ho:ops[i]? =some o)(h:clsAt P hs ops i=4): ∃cs d,cOp P o.op o.type=some (.alloc cs)/\solid cs=true /\o.guard=none /\o.dst=some d:=by
 rcases Yr (P:=P) (hs:=hs) ho with⟨_,h1⟩|⟨_,h2⟩|⟨_,h1,_⟩
 ·rw[h1]at h;cases h
 ·rw[h2]at h;exact afB h
 ·rw[h1]at h;cases h
theorem afC {i:Nat}{o:Oper}(ho:ops[i]? =some o):clsAt P hs ops i<=4:=by
 rcases Yr (P:=P) (hs:=hs) ho with⟨_,h1⟩|⟨_,h2⟩|⟨_,h1,_⟩
 ·rw[h1];exact Nat.zero_le _
 ·rw[h2];exact avd o
 ·rw[h1];omega
theorem Y9 {N:Nat}{gs:List Nat}{i:Nat}{l:List Nat}{xs:List AI}(hx:Z4 P N hs ops.toList gs (i::l)=some (xs.map AI.erase)):
 ∃o x g drop rest,xs= .mk o.dst g (isin i gs) x drop::rest /\ops[i]? =some o /\(∀k,o.dst=some k ->k<N)/\XG P (isin i hs) o.op o.type=some x /\Yn ops.toList o.guard=some g /\
  Z4 P N hs ops.toList gs l=some (rest.map AI.erase):=by
 simp only[Z4]at hx;split at hx
 case h_2=>cases hx
 rename_i o ho;have ho':ops[i]? =some o:=by rw[<- Array.getElem?_toList];exact ho
 cases hd:akL N o.dst with
 |false=>rw[hd]at hx;cases hx
 |true=>
  rw[hd]at hx;simp only[cond_true]at hx;split at hx
  case h_2=>cases hx
  rename_i x g ys hx1 hg hys;cases xs with
  |nil=>simp at hx
  |cons y rest=>
   cases y with
   |mk d1 g1 isG1 op1 drop=>
    simp only[Option.some.injEq,List.map_cons,AI.erase,List.cons.injEq,AI.mk.injEq,and_true]at hx;obtain⟨⟨rfl,rfl,rfl,rfl⟩,rfl⟩:=hx;exact⟨o,_,_,drop,rest,rfl,ho',arB hd,hx1,hg,hys⟩
theorem alf {N:Nat}{gs:List Nat}: ∀{l:List Nat}{xs:List AI},Z4 P N hs ops.toList gs l=some (xs.map AI.erase) -> ∀i∈l,∃o x,ops[i]? =some o /\XG P (isin i hs) o.op o.type=some x
 | [],_,_,i,hi=>by cases hi
 |j::l,xs,h,i,hi=>by
  obtain⟨o,x,g,drop,rest,rfl,h1,h2,h3,h4,h5⟩:=Y9 h;rcases List.mem_cons.1 hi with rfl|hi
  ·exact⟨o,x,h1,h3⟩
  ·exact alf h5 i hi
def uP (ops:Array Oper)(listed:Array Bool)(rest:List Nat)(hid:Nat ->Bool):Prop:=
 listed.size=ops.size /\ ∀j,j<ops.size ->listed[j]? =some (!isin j rest||hid j)
theorem uP.step {listed:Array Bool}{i:Nat}{r:List Nat}{hid:Nat ->Bool}(h:uP ops listed (i::r) hid)(hi:i∉r):uP ops (listed.setIfInBounds i true) r hid:=by
 refine⟨by simp[h.1],λj hj=>?_⟩;rw[Array.getElem?_setIfInBounds];split
 ·rename_i e;subst e;rw[if_pos (by rw[h.1];exact hj),vf.2 hi];rfl
 ·rename_i hne;rw[h.2 j hj];rw[abk (Ne.symm hne)]
theorem uP.hide {listed:Array Bool}{k:Nat}{rest:List Nat}(h:uP ops listed rest (λ_=>false)):uP ops (listed.setIfInBounds k true) rest (λj=>Nat.beq j k):=by
 refine⟨by simp[h.1],λj hj=>?_⟩;rw[Array.getElem?_setIfInBounds];split
 ·rename_i e;subst e;rw[if_pos (by rw[h.1];exact hj)];simp
 ·rename_i hne;rw[h.2 j hj]
  dsimp only
  rw[yC (Ne.symm hne)]
theorem uP.show {listed:Array Bool}{k:Nat}{r:List Nat}(h:uP ops listed (k::r) (λj=>Nat.beq j k))(hk:k∉r):uP ops listed r (λ_=>false):=by
 refine⟨h.1,λj hj=>?_⟩;rw[h.2 j hj];by_cases he:j=k
 ·subst he;rw[vf.2 hk];simp
 ·dsimp only
  rw[yC he,abk he]
theorem uP.ready_in {listed:Array Bool}{rest:List Nat}{hid:Nat ->Bool}(h:uP ops listed rest hid){j:Nat}(hj:j∈Region.ready .any ops listed):j∈rest /\hid j=false:=by
 obtain⟨h0,o,ho,_⟩:=mem_ready.1 hj;have hlt:j<ops.size:=(Array.getElem?_eq_some_iff.1 ho).1;have:=h.2 j hlt;rw[Array.getD_eq_getD_getElem?,this]at h0;simp only[Option.getD_some,Bool.or_eq_false_iff,Bool.not_eq_false']at h0;exact⟨(zN _ _).1 h0.1,h0.2⟩
theorem uP.unlisted {listed:Array Bool}{rest:List Nat}{hid:Nat ->Bool}(h:uP ops listed rest hid){j:Nat}(hj:listed.getD j false=true)(hr:j∈rest):hid j=true:=by
 rw[Array.getD_eq_getD_getElem?]at hj;cases hl:listed[j]? with
 |none=>rw[hl]at hj;cases hj
 |some b=>
  have hlt:j<ops.size:=by rw[<- h.1];exact(Array.getElem?_eq_some_iff.1 hl).1
  rw[h.2 j hlt,(zN _ _).2 hr]at hj;simpa using hj
theorem Kf {listed:Array Bool}{j:Nat}(hj:j∈Region.ready .any ops listed){f:Nat ->Bool}(hw:waitsFor ops j f=true): ∃n,f n=true /\listed.getD n false=true:=by
 obtain⟨_,o,ho,hall⟩:=mem_ready.1 hj;unfold waitsFor at hw;rw[ho]at hw;obtain⟨e,he,h1⟩:=kE.1 hw;rw[Bool.and_eq_true]at h1;exact⟨e.on,h1.2,hall e (Array.mem_toList_iff.1 he) h1.1⟩
theorem alD (i:Nat): ∀(r T:List Nat),∀j∈depsL P hs ops i r T,j∈T\/(j∈r /\clsAt P hs ops j≠4)
 | [],_,_,hj=>.inl hj
 |m::r,T,j,hj=>by
  simp only[depsL]at hj;rcases alD i r _ j hj with h|h
  ·cases hb:(!Nat.beq (clsAt P hs ops m) 4&&waitsFor ops m (λn=>Nat.beq n i||isin n T))with
   |false=>rw[hb]at h;exact .inl h
   |true=>
    rw[hb]at h;rw[Bool.and_eq_true]at hb;rcases List.mem_cons.1 h with rfl|h
    ·exact .inr ⟨List.mem_cons_self,λe=>by rw[e]at hb;cases hb.1⟩
    ·exact .inl h
  ·exact .inr ⟨List.mem_cons_of_mem _ h.1,h.2⟩
theorem kZ (i:Nat): ∀(r T:List Nat),(∀j∈T,∃f:Nat ->Bool,waitsFor ops j f=true /\ ∀n,f n=true ->n=i\/n∈T) -> ∀j∈depsL P hs ops i r T,∃f:Nat ->Bool,waitsFor ops j f=true /\ ∀n,f n=true ->n=i\/n∈depsL P hs ops i r T
 | [],_,h,j,hj=>h j hj
 |m::r,T,h,j,hj=>by
  simp only[depsL]at hj⊢;cases hb:(!Nat.beq (clsAt P hs ops m) 4&&waitsFor ops m (λn=>Nat.beq n i||isin n T))with
  |false=>rw[hb]at hj;exact kZ i r T h j hj
  |true=>
   rw[hb]at hj;refine kZ i r (m::T) ?_ j hj;intro k hk;rcases List.mem_cons.1 hk with rfl|hk
   ·rw[Bool.and_eq_true]at hb;refine⟨_,hb.2,λn hn=>?_⟩;rw[Bool.or_eq_true]at hn;exact hn.imp Nat.eq_of_beq_eq_true λh=>List.mem_cons_of_mem _ ((zN _ _).1 h)
   ·obtain⟨f,h1,h2⟩:=h k hk;exact⟨f,h1,λn hn=>(h2 n hn).imp id (List.mem_cons_of_mem _)⟩
theorem aq2 {j:Nat}{oj:Oper}(hoj:ops[j]? =some oj){f:Nat ->Bool}(h:waitsFor ops j f=true): ∃e∈oj.after,Region.binds .any e=true /\f e.on=true:=by
 unfold waitsFor at h;rw[hoj]at h;obtain⟨e,he,h1⟩:=kE.1 h;rw[Bool.and_eq_true]at h1;exact⟨e,Array.mem_toList_iff.1 he,h1.1,h1.2⟩
theorem abb (i:Nat)(r:List Nat): ∀j∈depsL P hs ops i r [],∀oj,ops[j]? =some oj -> ∃e∈oj.after,Region.binds .any e=true /\(e.on=i\/e.on∈depsL P hs ops i r []):=by
 intro j hj oj hoj;obtain⟨f,h1,h2⟩:=kZ i r [] (λ_ h=>by cases h) j hj;obtain⟨e,he,hb,h3⟩:=aq2 hoj h1;exact⟨e,he,hb,h2 _ h3⟩
structure Front (P:Program)(hs:List Nat)(ops:Array Oper)(o:Oper)(i:Nat)(r:List Nat):Prop where
 nin:i∉r
 pre: ∀e∈o.after,Region.binds .any e=true ->e.on<ops.size /\e.on∉i::r
 sep: ∀j∈r,clsAt P hs ops j=4 -> ∀d,dstOf ops j=some d ->d∉o.looksAt ops /\o.dst≠some d
 quiet:(clsAt P hs ops i=1\/clsAt P hs ops i=2) -> ∀j∈r,j∈depsL P hs ops i r []\/ ∀oj,ops[j]? =some oj ->Apart ops o oj /\(clsAt P hs ops i=1\/1<=clsAt P hs ops j)
 heavy: ¬(clsAt P hs ops i=1\/clsAt P hs ops i=2) -> ∀j∈r,clsAt P hs ops j=4\/waitsFor ops j (λn=>isin n (i::r)&&(Nat.beq n i|| !Nat.beq (clsAt P hs ops n) 4))=true
theorem ab2 {d:Tmp}{o:Oper}(h:aqJ ops (some d) o=true):d∉o.looksAt ops /\o.dst≠some d:=by
 simp only[aqJ,Bool.and_eq_true,Bool.not_eq_true']at h;refine⟨vf.1 h.1,λhe=>?_⟩;rw[he]at h;simp only[xK,Bool.not_true]at h;cases h.2
theorem anw {x y:Oper}(h:ak7 ops x y=true):Apart ops x y:=by
 unfold ak7 at h;rw[Bool.and_eq_true]at h;refine⟨λd hd=>?_,λd hd=>?_,λd hd=>?_⟩
 ·rw[hd]at h;exact(ab2 h.1).1
 ·rw[hd]at h;exact(ab2 h.1).2
 ·rw[hd]at h;simpa using vf.1 (by simpa using h.2)
theorem afO {i:Nat}{r:List Nat}{o:Oper}(ho:ops[i]? =some o)(h:VC P hs ops i r=true):Front P hs ops o i r:=by
 unfold VC at h;rw[ho]at h;simp only[Bool.and_eq_true,Bool.not_eq_true']at h;obtain⟨⟨⟨h1,h2⟩,h3⟩,h4⟩:=h;refine⟨vf.1 h1,λe he hb=>?_,λj hj hc d hd=>?_,λhq j hj=>?_,λhq j hj=>?_⟩
 ·have:=wX.1 h2 e (Array.mem_toList_iff.2 he);rw[hb]at this;simp only[Bool.not_true,Bool.false_or,Bool.and_eq_true,Bool.not_eq_true']at this;exact⟨Nat.le_of_ble_eq_true this.1,vf.1 this.2⟩
 ·have:=wX.1 h3 j hj;rw[hc,xK,hd]at this;exact ab2 (by simpa using this)
 ·have hb:(Nat.beq (clsAt P hs ops i) 1||Nat.beq (clsAt P hs ops i) 2)=true:=by
   rcases hq with hq|hq<;>rw[hq]<;>rfl
  rw[hb,cond_true]at h4;have:=wX.1 h4 j hj;rw[Bool.or_eq_true]at this;refine this.imp (zN _ _).1 λh5 oj hoj=>?_
  unfold aoz at h5;rw[hoj]at h5;simp only[Bool.and_eq_true,Bool.or_eq_true]at h5;exact⟨anw h5.1,h5.2.imp Nat.eq_of_beq_eq_true λh=>Nat.le_of_ble_eq_true h⟩
 ·have hb:(Nat.beq (clsAt P hs ops i) 1||Nat.beq (clsAt P hs ops i) 2)=false:=by
   have h1:clsAt P hs ops i≠1:=λe=>hq (.inl e)
   have h2:clsAt P hs ops i≠2:=λe=>hq (.inr e)
   rw[yC h1,yC h2];rfl
  rw[hb,cond_false]at h4;have:=wX.1 h4 j hj;rw[Bool.or_eq_true]at this;exact this.imp Nat.eq_of_beq_eq_true id
theorem aqk {i:Nat}{r:List Nat}(h:gF P hs ops (i::r)=true):VC P hs ops i r=true /\gF P hs ops r=true:=by
 simp only[gF]at h;cases hf:VC P hs ops i r<;>rw[hf]at h
 ·cases h
 ·exact⟨rfl,h⟩
theorem alI: ∀{l:List Nat},Wz P hs ops l=true -> ∀j k,j∈l ->k∈l ->clsAt P hs ops j=4 ->clsAt P hs ops k=4 ->j=k
 | [],_,j,k,hj,_,_,_=>by cases hj
 |i::r,h,j,k,hj,hk,cj,ck=>by
  simp only[Wz]at h;cases hi:Nat.beq (clsAt P hs ops i) 4 with
  |true=>
   rw[hi,cond_true]at h;have none: ∀m∈r,clsAt P hs ops m≠4:=λm hm hc=>by
    have:=wX.1 h m hm;rw[hc]at this;cases this
   rcases List.mem_cons.1 hj with rfl|hj
   ·rcases List.mem_cons.1 hk with rfl|hk
    ·rfl
    ·exact absurd ck (none _ hk)
   ·exact absurd cj (none _ hj)
  |false=>
   rw[hi,cond_false]at h;have hne:clsAt P hs ops i≠4:=λhc=>by rw[hc]at hi;cases hi
   rcases List.mem_cons.1 hj with rfl|hj
   ·exact absurd cj hne
   ·rcases List.mem_cons.1 hk with rfl|hk
    ·exact absurd ck hne
    ·exact alI h j k hj hk cj ck
end
end Go.AM
namespace Go.AM
section
variable {P:Program}{hs:List Nat}{ops:Array Oper}{N:Nat}{gs:List Nat}{Q:Exit ->Act ->World ->Prop}{K:S ->Prop}
theorem VH {F:Fr}{ι:Nat ->Gh}{s:S}{a:Act}{w:World}(hr:Rel F N ι s a w){o:Oper}(hd: ∀k,o.dst=some k ->k<N){x:AOp}(hx:cOp P o.op o.type=some x)(hq:x.quiet=true)
 {g:Option (Nat×Bool)}(hg:Yn ops.toList o.guard=some g) {isG:Bool}{drop:List Nat}{rest:List AI}(h:zR P (.mk o.dst g isG x drop::rest) s K):
 ∃v ι' s',YC P ops (Cw x w) o v a /\Rel F N ι' s' (a.put o.dst v) w /\zR P rest s' K:=by
 rcases gV hr hg h with⟨hw,h1⟩|⟨hw,h1⟩
 ·obtain⟨v,ι',s1,h2,h3,h4⟩:=apD hr hd hx hq h1;obtain⟨s2,h5,h6⟩:=Yz h3 hd h4;exact⟨v,ι',_,.inl ⟨hw,h2⟩,h5.drop drop,h6⟩
 ·exact⟨undef,ι,_,.inr ⟨hw,rfl⟩,(hr.put o.dst hd x9 undef (adI _ _ _)).drop drop,h1⟩
theorem VD {F:Fr}{ι:Nat ->Gh}{s:S}{a:Act}{w:World}(hr:Rel F N ι s a w){i:Nat}{o:Oper}(ho:ops[i]? =some o)(hd: ∀k,o.dst=some k ->k<N){x:AOp}(hx:XG P (isin i hs) o.op o.type=some x)
 (hc:clsAt P hs ops i=0\/clsAt P hs ops i=3) {g:Option (Nat×Bool)}(hg:Yn ops.toList o.guard=some g) {isG:Bool}{drop:List Nat}{rest:List AI}(h:zR P (.mk o.dst g isG x drop::rest) s K)
 {next:Act ->World ->Prop}(hn: ∀ι s' a' w',Rel F N ι s' a' w' ->zR P rest s' K ->(1<=clsAt P hs ops i ->vA w w') ->next a' w'):wpOp P ops Q i next a w:=by
 unfold wpOp;simp only[ho];rcases gV hr hg h with⟨hw,h1⟩|⟨hw,h1⟩
 ·rw[if_pos hw];refine .inl ?_;rcases hc with hc|hc
  ·refine aiM hr hd ⟨_,hx⟩ h1 _ _ λι1 s1 a1 w1 hr1 hk=>?_
   obtain⟨s2,h5,h6⟩:=Yz hr1 hd hk;exact hn ι1 _ a1 w1 (h5.drop drop) h6 (λh=>by rw[hc]at h;omega)
  ·obtain⟨hcop,hcl⟩:=atm ho hx hc;have hX:vd P F N o a w (λs1=>split isG o.dst s1 λs2=>zR P rest (s2.drop drop) K):=by
    rcases hcl with hcl|⟨cs,rfl⟩
    ·exact apE hr hd hcop hcl h1
    ·obtain⟨t,ho2,rfl⟩:=ak5 hcop;exact adB hr hd ho2 h1
   refine hX _ _ λι1 s1 a1 w1 hr1 hk he=>?_
   obtain⟨s2,h5,h6⟩:=Yz hr1 hd hk;exact hn ι1 _ a1 w1 (h5.drop drop) h6 (λ_=>he)
 ·rw[if_neg (by rw[hw];simp)];exact hn ι _ _ w ((hr.put o.dst hd x9 undef (adI _ _ _)).drop drop) h1 (λ_=>vA.refl w)
structure Hid (P:Program)(hs:List Nat)(ops:Array Oper)(F F':Fr)(k d b:Nat):Prop where
 cl:clsAt P hs ops k=4
 dst:dstOf ops k=some d
 under:Under F F' b
 row: ∃o cs cur,ops[k]? =some o /\o.guard=none /\cOp P o.op o.type=some (.alloc cs)/\solid cs=true /\RowAt F'.w0 b cur /\ ∀ι w ok,CRs ι w ok cs (cur:Array Value).toList
def aii (b:Nat):Value:=.pointer (some ⟨b,0,none⟩)
theorem J3 {listed:Array Bool}{i:Nat}{r:List Nat}{hid:Nat ->Bool}{o:Oper}(hl:uP ops listed (i::r) hid)(ho:ops[i]? =some o)(hf:Front P hs ops o i r)(hh:hid i=false):i∈Region.ready .any ops listed:=by
 have hlt:i<ops.size:=(Array.getElem?_eq_some_iff.1 ho).1;refine mem_ready.2 ⟨?_,o,ho,λe he hb=>?_⟩
 ·rw[Array.getD_eq_getD_getElem?,hl.2 i hlt,(zN _ _).2 (List.mem_cons_self),hh];rfl
 ·obtain⟨h1,h2⟩:=hf.pre e he hb;rw[Array.getD_eq_getD_getElem?,hl.2 e.on h1,vf.2 h2];rfl
theorem gK {listed:Array Bool}{i:Nat}{r:List Nat}{hid:Nat ->Bool}{o:Oper}{x:AOp}{w:World}(hl:uP ops listed (i::r) hid)(ho:ops[i]? =some o)(hx:XG P (isin i hs) o.op o.type=some x)(hf:Front P hs ops o i r)(hc:clsAt P hs ops i=1\/clsAt P hs ops i=2):
 ∀j oj,ops[j]? =some oj ->j≠i ->listed.getD j true=false ->j∉depsL P hs ops i r [] ->Apart ops o oj /\((∀w',Cw x w w')\/1<=clsAt P hs ops j):=by
 intro j oj hoj hji hun hno;have hlt:j<ops.size:=(Array.getElem?_eq_some_iff.1 hoj).1;have hjr:j∈r:=by
  rw[Array.getD_eq_getD_getElem?,hl.2 j hlt]at hun;simp only[Option.getD_some,Bool.or_eq_false_iff,Bool.not_eq_false']at hun;rcases List.mem_cons.1 ((zN _ _).1 hun.1)with h|h
  ·exact absurd h hji
  ·exact h
 rcases hf.quiet hc j hjr with h|h
 ·exact absurd h hno
 ·obtain⟨h1,h2⟩:=h oj hoj;refine⟨h1,h2.imp (λh w' hr=>?_) id⟩;rw[(uk ho hx hc).2.2 h]at hr;cases hr
theorem WV {listed:Array Bool}{i:Nat}{r:List Nat}{hid:Nat ->Bool}(hl:uP ops listed (i::r) hid)(hh: ∀j,j∈r ->clsAt P hs ops j≠4 ->hid j=false): ∀j∈depsL P hs ops i r [],listed.getD j false=false:=by
 intro j hj;rcases alD i r [] j hj with h|⟨h1,h2⟩
 ·cases h
 ·cases hb:listed.getD j false with
  |false=>rfl
  |true=>
   have:=hl.unlisted hb (List.mem_cons_of_mem _ h1);rw[hh j h1 h2]at this;cases this
theorem Cw.ext (x:AOp)(w:World): ∀w' w'',Cw x w w' ->vA w' w'' ->Cw x w w'':=λ_ _ h k hr=>(h hr).trans k
theorem Cw.refl (x:AOp)(w:World):Cw x w w:=λ_=>vA.refl w
theorem arz {F:Fr}(hf: ∀x,F.A x ->x<F.w0.heap.size /\ ¬F.M x)(hh:(∀x,F.M x ->x<F.w0.heap.size)/\Glb F.A F.w0)
 (hQn: ∀ι s a w,Rel F N ι s a w ->K s ->Q .normal a w) (hQp: ∀c a w,¬Q (.panic c) a w) (hsel: ∀(j:Nat) (o:Oper) cs b,ops[j]? =some o ->o.op≠ .select cs b)
 (ord:List Nat) (huniq: ∀j k,j∈ord ->k∈ord ->clsAt P hs ops j=4 ->clsAt P hs ops k=4 ->j=k):
 ∀(rest:List Nat),(∀j∈rest,j∈ord) ->gF P hs ops rest=true -> ∀xs,Z4 P N hs ops.toList gs rest=some (xs.map AI.erase) ->
  (∀(k d b:Nat) (F':Fr) (fuel:Nat) (listed:Array Bool) (ι:Nat ->Gh) (s:S) (a:Act) (w:World),k∈rest ->Hid P hs ops F F' k d b ->uP ops listed rest (λj=>Nat.beq j k) ->rest.length<=fuel+1 ->
   Rel F' N ι s a w ->zR P xs s K ->jM P hs ops Q fuel listed (a.put (some d) (aii b)) w)/\
  (∀(fuel:Nat) (listed:Array Bool) (ι:Nat ->Gh) (s:S) (a:Act) (w:World),uP ops listed rest (λ_=>false) ->rest.length<=fuel ->
   Rel F N ι s a w ->zR P xs s K ->jM P hs ops Q fuel listed a w):=by
 intro rest;induction rest with
 |nil=>
  intro _ _ xs hxs;cases xs with
  |cons x r=>simp[Z4]at hxs
  |nil=>
   refine⟨λk d b F' fuel listed ι s a w hk=>(by cases hk),λfuel listed ι s a w hl _ hr h=>?_⟩;have hno:Region.ready .any ops listed=[]:=by
    cases hrd:Region.ready .any ops listed with
    |nil=>rfl
    |cons j js=>have:=(hl.ready_in (j:=j) (by rw[hrd];exact List.mem_cons_self)).1;cases this
   cases fuel with
   |zero=>exact⟨hno,hQn ι s a w hr h⟩
   |succ fuel=>exact⟨λ_=>hQn ι s a w hr h,λi hi=>by rw[hno]at hi;cases hi⟩
 |cons i r ih=>
  intro hsub hok xs hxs;obtain⟨hfr,hokr⟩:=aqk hok;obtain⟨o,x,g,drop,rest,rfl,ho,hd,hx,hg,hrest⟩:=Y9 hxs;have hF:=afO ho hfr;obtain⟨ih2,ih1⟩:=ih (λj hj=>hsub j (List.mem_cons_of_mem _ hj)) hokr rest hrest
  have P2: ∀(k d b:Nat) (F':Fr) (fuel:Nat) (listed:Array Bool) (ι:Nat ->Gh) (s:S) (a:Act) (w:World),k∈i::r ->Hid P hs ops F F' k d b ->uP ops listed (i::r) (λj=>Nat.beq j k) ->(i::r).length<=fuel+1 ->
   Rel F' N ι s a w ->zR P (.mk o.dst g (isin i gs) x drop::rest) s K ->jM P hs ops Q fuel listed (a.put (some d) (aii b)) w:=by
   intro k d b F' fuel listed ι s a w hk hhid hl hfuel hr h;by_cases hik:i=k
   ·
    subst hik;obtain⟨o',cs,cur,ho',hgn,hcop,hsol,hrow,hcs⟩:=hhid.row;rw[ho]at ho';cases ho';have hxx:cOp P o.op o.type=some x:=by
     rcases Yr (P:=P) (hs:=hs) ho with⟨_,h1⟩|⟨h1,_⟩|⟨_,h1,_⟩
     ·rw[hhid.cl]at h1;cases h1
     ·rw[h1]at hx;exact hx
     ·rw[hhid.cl]at h1;cases h1
    rw[hxx]at hcop;cases hcop;rw[hgn]at hg;simp only[Yn,Option.some.injEq]at hg;subst hg;have hdst:o.dst=some d:=by have:=hhid.dst;unfold dstOf at this;rw[ho]at this;exact this
    rw[hdst]at h;simp only[zR,zJ,hsol,cond_true]at h;obtain⟨s2,h5,h6⟩:=Yz (hr.unhide hhid.under hf hh hrow hcs (hd d hdst)) (λk hk=>by cases hk;exact hd d hdst) h;rw[yM]at h6;exact ih1 fuel listed _ _ _ w (hl.show hF.nin) (by simp at hfuel;exact hfuel) (h5.drop drop) h6
   ·have hkr:k∈r:=(List.mem_cons.1 hk).resolve_left (λh=>hik h.symm);have hdk:dstOf ops k=some d:=hhid.dst;obtain⟨hs1,hs2⟩:=hF.sep k hkr hhid.cl d hdk;have hir:i∈Region.ready .any ops listed:=J3 hl ho hF (yC hik);have hlen:1<=r.length:=List.length_pos_of_mem hkr;obtain⟨f,rfl⟩: ∃f,fuel=f+1:=⟨fuel - 1,by simp at hfuel;omega⟩;have hl':=hl.step hF.nin;have hfuel':r.length<=f+1:=by simp at hfuel;omega
    by_cases hc:clsAt P hs ops i=1\/clsAt P hs ops i=2
    ·obtain⟨v,ι',s',hy,hr',h'⟩:=VH hr hd (uk ho hx hc).1 (uk ho hx hc).2.1 hg h;have hy':YC P ops (Cw x w) o v (a.put (some d) (aii b)):=
      hy.of_same (execOp_put o (λcs b=>hsel i o cs b ho) a (some d) (aii b) (λe he=>by cases he;exact hs1)) (wanted_put o a (some d) (aii b) (λe he=>by cases he;exact hs1))
     refine UQ ho hsel hQp (Cw.ext x w) (depsL P hs ops i r []) (abb i r) f listed _ w (Cw.refl x w) (WV hl (λj _ h4=>yC (λe=>h4 (by rw[e];exact hhid.cl)))) (gK hl ho hx hF hc) hir hy' ?_;rw[Go.Act.put_comm a (aii b) v (λe he=>by cases he;exact hs2)];exact ih2 k d b F' f _ ι' s' _ w hkr hhid hl' hfuel' hr' h'
    ·have hc4:clsAt P hs ops i≠4:=λe=>hik (huniq i k (hsub i List.mem_cons_self) (hsub k hk) e hhid.cl)
     have hc03:clsAt P hs ops i=0\/clsAt P hs ops i=3:=by have:=afC (P:=P) (hs:=hs) ho;omega
     refine⟨λhe=>(by rw[he]at hir;cases hir),λj hj=>?_⟩;obtain⟨hj1,hj2⟩:=hl.ready_in hj;have hji:j=i:=by
      rcases List.mem_cons.1 hj1 with h|hjr
      ·exact h
      ·rcases hF.heavy hc j hjr with h4|hw
       ·have:=huniq j k (hsub j hj1) (hsub k hk) h4 hhid.cl;subst this;simp at hj2
       ·obtain⟨n,hn1,hn2⟩:=Kf hj hw;rw[Bool.and_eq_true]at hn1;have hnk:=Nat.eq_of_beq_eq_true (hl.unlisted hn2 ((zN _ _).1 hn1.1));subst hnk;rw[hhid.cl]at hn1;have hni:n≠i:=λe=>hik e.symm
        rw[yC hni]at hn1;cases hn1.2
     subst hji;refine aos ho hs1 hs2 (λcs b=>hsel j o cs b ho) hQp ?_;refine VD hr ho hd hx hc03 hg h λι1 s1 a1 w1 hr1 h1 he=>⟨he,?_⟩
     exact ih2 k d b F' f _ ι1 s1 a1 w1 hkr hhid hl' hfuel' hr1 h1
  refine⟨P2,λfuel listed ι s a w hl hfuel hr h=>?_⟩;have hir:i∈Region.ready .any ops listed:=J3 hl ho hF rfl;obtain⟨f,rfl⟩: ∃f,fuel=f+1:=⟨fuel - 1,by simp at hfuel;omega⟩;have hl':=hl.step hF.nin;have hfuel':r.length<=f:=by simp at hfuel;omega
  by_cases hc:clsAt P hs ops i=1\/clsAt P hs ops i=2
  ·obtain⟨v,ι',s',hy,hr',h'⟩:=VH hr hd (uk ho hx hc).1 (uk ho hx hc).2.1 hg h;refine UQ ho hsel hQp (Cw.ext x w) (depsL P hs ops i r []) (abb i r) f listed _ w (Cw.refl x w) (WV hl (λ_ _ _=>rfl)) (gK hl ho hx hF hc) hir hy ?_;exact ih1 f _ ι' s' _ w hl' hfuel' hr' h'
  ·refine⟨λhe=>(by rw[he]at hir;cases hir),λj hj=>?_⟩;obtain⟨hj1,hj2⟩:=hl.ready_in hj;by_cases hj4:clsAt P hs ops j=4
   ·
    obtain⟨_,oj,hoj,_⟩:=mem_ready.1 hj;obtain⟨cs,d,hcop,hsol,hgn,hdst⟩:=aru hoj hj4;obtain⟨t,cur,hcs,hrun⟩:=ark hcop hsol;have hnr:=NewRow.alloc w cur t;have hgr:=Grows.alloc w cur t;obtain⟨F',hu,hw0,hr'⟩:=hr.hide hgr (by rw[hnr.size];omega);unfold wpOp;simp only[hoj];rw[if_pos (by simp[Region.wanted,hgn])];refine .inl ?_;unfold Oper.wp;rw[hrun a w,Oper.upon_value,hdst];refine⟨λ_=>⟨hgr.size,λb hb=>hgr.block b hb (λh=>h)⟩,?_⟩;exact P2 j d w.heap.size F' f _ ι s a _ hj1 ⟨hj4,by unfold dstOf;rw[hoj];exact hdst,hu,oj,cs,cur,hoj,hgn,hcop,hsol,by rw[hw0];exact⟨t,hnr.new⟩,hcs⟩ hl.hide hfuel hr' h
   ·have hji:j=i:=by
     rcases List.mem_cons.1 hj1 with h|hjr
     ·exact h
     ·rcases hF.heavy hc j hjr with h4|hw
      ·exact absurd h4 hj4
      ·obtain⟨n,hn1,hn2⟩:=Kf hj hw;rw[Bool.and_eq_true]at hn1;have:=hl.unlisted hn2 ((zN _ _).1 hn1.1);cases this
    subst hji;have hc03:clsAt P hs ops j=0\/clsAt P hs ops j=3:=by have:=afC (P:=P) (hs:=hs) ho;omega
    refine VD hr ho hd hx hc03 hg h λι1 s1 a1 w1 hr1 h1 he=>⟨he,?_⟩
    exact ih1 f _ ι1 s1 a1 w1 hl' hfuel' hr1 h1
theorem aj0 {ord:List Nat}(h:agq P hs ops ord=true):P.follows .mixedOrders=true /\(∀i,i<ops.size ->i∈ord)/\ord.length<=ops.size /\Wz P hs ops ord=true /\gF P hs ops ord=true:=by
 unfold agq at h;simp only[Bool.and_eq_true]at h;obtain⟨⟨⟨⟨h1,h2⟩,h3⟩,h4⟩,h5⟩:=h;refine⟨h1,λi hi=>?_,Nat.le_of_ble_eq_true h3,h4,h5⟩;have:=wX.1 h2 i (by rw[WN];simp[List.mem_range'];omega);exact(zN _ _).1 this
theorem apV {F:Fr}{ords:List (Nat×List Nat)}{id:Nat}{xs:List AI}(hc:XH P N ords id ops true=some (.reg (xs.map AI.erase))){QE:E ->S ->Prop}{ι:Nat ->Gh}{s:S}{a:Act}{w:World}
 (hr:Rel F N ι s a w) (h:Qu P (.reg xs) QE s):(Code.region id ops true).wp P (up F N QE) a w:=by
 simp only[XH]at hc;split at hc
 ·split at hc
  ·rcases uQ hc with h|h
   ·simp only[Option.map_eq_some_iff]at h;obtain⟨_,_,h⟩:=h;cases h
   ·cases h
  ·cases hc
 split at hc
 case h_2=>cases hc
 rename_i ord _;cases hok:agq P (uo ords id) ops ord with
 |false=>rw[hok]at hc;cases hc
 |true=>
  rw[hok]at hc;simp only[cond_true,Option.map_eq_some_iff,ACode.reg.injEq]at hc;obtain⟨ys,hcs,rfl⟩:=hc;obtain⟨h1,h2,h3,h4,h5⟩:=aj0 hok;refine wp_region_any h1 (g8 (hs:=uo ords id) _ _ _ _ ?_);have hsel: ∀(j:Nat) (o:Oper) cs b,ops[j]? =some o ->o.op≠ .select cs b:=by
   intro j o cs b ho he;have hlt:j<ops.size:=(Array.getElem?_eq_some_iff.1 ho).1;obtain⟨o',x,ho',hx⟩:=alf hcs j (h2 j hlt);rw[ho]at ho';cases ho';rw[he]at hx;cases hb:isin j (uo ords id)<;>rw[hb]at hx<;>cases hx
  have hr':Rel F N ι s a {w with drawn:=w.drawn+1}:=hr.grown ⟨rfl,rfl,⟨rfl,Nat.le_succ _⟩,Nat.le_refl _,λ_ _ _=>rfl,λ_ _ _ h=>h⟩;refine(arz (F:=F) (hs:=uo ords id) (K:=QE .normal) (Q:=up F N QE) (gs:=ZR ops.toList) hr.foreign hr.handed (λι s a w hr hk=>⟨ι,s,hr,hk⟩) (λc a w h=>h) hsel ord (alI h4) ord (λ_ h=>h) h5 xs hcs).2 ops.size _ ι s a _ ?_ h3 hr' h;refine⟨by simp,λj hj=>?_⟩;rw[(zN _ _).2 (h2 j hj)];simp[hj]
end
end Go.AM
namespace Go.AM
section
variable {P:Program}{hs:List Nat}{ops:Array Oper}{N:Nat}{gs:List Nat}{Q:Exit ->Act ->World ->Prop}
theorem Zv {i j:Nat}: ∀{l:List Nat},isin j (Yy i l)=(isin j l&& !Nat.beq j i)
 | []=>rfl
 |x::r=>by
  have ih:=Zv (i:=i) (j:=j) (l:=r);have hb: ∀a b:Nat,(Nat.beq a b=true)=(a=b):=λa b=>propext ⟨Nat.eq_of_beq_eq_true,λh=>by rw[h];exact xK b⟩
  by_cases hx:x=i
  ·subst hx;simp only[Yy,xK,cond_true,ih,isin];by_cases hj:x=j
   ·subst hj;simp[xK]
   ·rw[yC hj];rfl
  ·simp only[Yy,yC hx,cond_false,isin,ih];by_cases hj:x=j
   ·subst hj;simp only[xK,cond_true,yC hx];rfl
   ·rw[yC hj];rfl
theorem aim {i:Nat}: ∀{l:List Nat},(Yy i l).length<=l.length /\(isin i l=true ->(Yy i l).length<l.length)
 | []=>⟨Nat.le_refl _,λh=>by cases h⟩
 |x::r=>by
  have ih:=aim (i:=i) (l:=r);by_cases hx:x=i
  ·subst hx;simp only[Yy,xK,cond_true,List.length_cons];exact⟨by omega,λ_=>by omega⟩
  ·simp only[Yy,yC hx,cond_false,List.length_cons,isin];exact⟨by omega,λh=>by have:=ih.2 h;omega⟩
theorem uP.congr {listed:Array Bool}{r r':List Nat}{hid:Nat ->Bool}(h:uP ops listed r hid)(e: ∀j,isin j r=isin j r'):uP ops listed r' hid:=
 ⟨h.1,λj hj=>by rw[<- e j];exact h.2 j hj⟩
theorem W0 {i:Nat}{rest:List Nat}(h:isin i rest=true)(j:Nat):isin j rest=isin j (i::Yy i rest):=by
 simp only[isin,Zv];by_cases hj:i=j
 ·subst hj;rw[xK,h];rfl
 ·rw[yC hj,yC (λe=>hj e.symm)];simp
def aps (P:Program)(hs:List Nat)(ops:Array Oper)(Q:Exit ->Act ->World ->Prop)(F:Fr)(N:Nat)(rest:List Nat)(K:S ->Prop):Prop:=
 ∀(fuel:Nat) (listed:Array Bool) (ι:Nat ->Gh) (s:S) (a:Act) (w:World),uP ops listed rest (λ_=>false) ->rest.length<=fuel ->Rel F N ι s a w ->K s ->jM P hs ops Q fuel listed a w
theorem apZ {F:Fr}(hQp: ∀c a w,¬Q (.panic c) a w)(hsel: ∀(j:Nat) (o:Oper) cs b,ops[j]? =some o ->o.op≠ .select cs b)
 {i:Nat}{r:List Nat}(hfr:VC P hs ops i r=true) (hno: ∀j∈i::r,clsAt P hs ops j≠4) {o:Oper}(ho:ops[i]? =some o) (hd: ∀k,o.dst=some k ->k<N) {x:AOp}(hx:XG P (isin i hs) o.op o.type=some x)
 {g:Option (Nat×Bool)}(hg:Yn ops.toList o.guard=some g) {isG:Bool}{drop:List Nat}{rest:List AI}{K:S ->Prop}
 {f:Nat}{listed:Array Bool}{ι:Nat ->Gh}{s:S}{a:Act}{w:World}(hl:uP ops listed (i::r) (λ_=>false)) (hr:Rel F N ι s a w) (h:zR P (.mk o.dst g isG x drop::rest) s K)
 (hn: ∀ι' s' a' w',Rel F N ι' s' a' w' ->zR P rest s' K ->jM P hs ops Q f (listed.setIfInBounds i true) a' w'):jM P hs ops Q (f+1) listed a w:=by
 have hF:=afO ho hfr;have hir:i∈Region.ready .any ops listed:=J3 hl ho hF rfl;by_cases hc:clsAt P hs ops i=1\/clsAt P hs ops i=2
 ·obtain⟨v,ι',s',hy,hr',h'⟩:=VH hr hd (uk ho hx hc).1 (uk ho hx hc).2.1 hg h;refine UQ ho hsel hQp (Cw.ext x w) (depsL P hs ops i r []) (abb i r) f listed _ w (Cw.refl x w) (WV hl (λ_ _ _=>rfl)) (gK hl ho hx hF hc) hir hy ?_;exact hn ι' s' _ w hr' h'
 ·refine⟨λhe=>(by rw[he]at hir;cases hir),λj hj=>?_⟩;obtain⟨hj1,hj2⟩:=hl.ready_in hj;have hj4:=hno j hj1;have hji:j=i:=by
   rcases List.mem_cons.1 hj1 with h|hjr
   ·exact h
   ·rcases hF.heavy hc j hjr with h4|hw
    ·exact absurd h4 hj4
    ·obtain⟨n,hn1,hn2⟩:=Kf hj hw;rw[Bool.and_eq_true]at hn1;have:=hl.unlisted hn2 ((zN _ _).1 hn1.1);cases this
  subst hji;have hc03:clsAt P hs ops j=0\/clsAt P hs ops j=3:=by have:=afC (P:=P) (hs:=hs) ho;omega
  exact VD hr ho hd hx hc03 hg h λι1 s1 a1 w1 hr1 h1 he=>⟨he,hn ι1 s1 a1 w1 hr1 h1⟩
theorem as8 {F:Fr}{i:Nat}(hno:clsAt P hs ops i≠4){o:Oper}(ho:ops[i]? =some o)(hd: ∀k,o.dst=some k ->k<N){x:AOp}(hx:XG P (isin i hs) o.op o.type=some x)
 {g:Option (Nat×Bool)}(hg:Yn ops.toList o.guard=some g) {isG:Bool}{drop:List Nat}{rest:List AI}{K:S ->Prop}
 {ι:Nat ->Gh}{s:S}{a:Act}{w:World}(hr:Rel F N ι s a w) (h:zR P (.mk o.dst g isG x drop::rest) s K) {next:Act ->World ->Prop}
 (hn: ∀ι' s' a' w',Rel F N ι' s' a' w' ->zR P rest s' K ->next a' w'):wpOp P ops Q i (λa' w'=>(1<=clsAt P hs ops i ->vA w w')/\next a' w') a w:=by
 by_cases hc:clsAt P hs ops i=1\/clsAt P hs ops i=2
 ·obtain⟨v,ι',s',hy,hr',h'⟩:=VH hr hd (uk ho hx hc).1 (uk ho hx hc).2.1 hg h;exact hy.wpOp ho (Cw.refl x w) ⟨λ_=>vA.refl w,hn ι' s' _ w hr' h'⟩
 ·have hc03:clsAt P hs ops i=0\/clsAt P hs ops i=3:=by have:=afC (P:=P) (hs:=hs) ho;omega
  exact VD hr ho hd hx hc03 hg h λι1 s1 a1 w1 hr1 h1 he=>⟨he,hn ι1 s1 a1 w1 hr1 h1⟩
theorem amC {F:Fr}(hQp: ∀c a w,¬Q (.panic c) a w)(hsel: ∀(j:Nat) (o:Oper) cs b,ops[j]? =some o ->o.op≠ .select cs b)(hno: ∀j,isin j (zO 0 ops.size)=true ->clsAt P hs ops j≠4){K:S ->Prop}{f:List Nat ->Bool}
 (hf: ∀rest,f rest=true ->(∀j,isin j rest=true ->clsAt P hs ops j≠4) ->aps P hs ops Q F N rest K):
 ∀(l rest:List Nat),gG P hs ops l rest f=true ->(∀j,isin j rest=true ->clsAt P hs ops j≠4) -> ∀xs,Z4 P N hs ops.toList gs l=some (xs.map AI.erase) ->aps P hs ops Q F N rest (λs=>zR P xs s K):=by
 intro l;induction l with
 |nil=>
  intro rest hok hcl xs hxs;cases xs with
  |cons x r=>simp[Z4]at hxs
  |nil=>exact hf rest hok hcl
 |cons i l ih=>
  intro rest hok hcl xs hxs fuel listed ι s a w hl hfu hr h;simp only[gG]at hok;cases hb:(isin i rest&&VC P hs ops i (Yy i rest))with
  |false=>rw[hb]at hok;cases hok
  |true=>
   rw[hb,cond_true]at hok;rw[Bool.and_eq_true]at hb;obtain⟨hin,hfr⟩:=hb;obtain⟨o,x,g,drop,rest',rfl,ho,hd,hx,hg,hrest⟩:=Y9 hxs;have hl':=hl.congr (W0 hin);have hlen:=(aim (i:=i) (l:=rest)).2 hin;obtain⟨f',rfl⟩: ∃f',fuel=f'+1:=⟨fuel - 1,by omega⟩;have hni:i∉Yy i rest:=vf.1 (by rw[Zv,xK];simp);refine apZ hQp hsel hfr (λj hj=>hcl j (by rw[W0 hin];exact(zN _ _).2 hj)) ho hd hx hg hl' hr h λι' s' a' w' hr' h'=>?_
   exact ih (Yy i rest) hok (λj hj=>hcl j (by rw[Zv,Bool.and_eq_true]at hj;exact hj.1)) rest' hrest f' _ ι' s' a' w' (hl'.step hni) (by omega) hr' h'
theorem agx {listed:Array Bool}{rest:List Nat}(hl:uP ops listed rest (λ_=>false)){j:Nat}(hj:isin j rest=true):abP ops rest j=true↔j∈Region.ready .any ops listed:=by
 constructor
 ·intro h;unfold abP at h;cases ho:ops[j]? with
  |none=>rw[ho]at h;cases h
  |some o=>
   rw[ho]at h;have hlt:j<ops.size:=(Array.getElem?_eq_some_iff.1 ho).1;refine mem_ready.2 ⟨?_,o,ho,λe he hb=>?_⟩
   ·rw[Array.getD_eq_getD_getElem?,hl.2 j hlt,hj];rfl
   ·have:=wX.1 h e (Array.mem_toList_iff.2 he);rw[hb]at this;simp only[Bool.not_true,Bool.false_or,Bool.and_eq_true,Bool.not_eq_true']at this;rw[Array.getD_eq_getD_getElem?,hl.2 e.on (Nat.le_of_ble_eq_true this.1),this.2];rfl
 ·intro h;obtain⟨_,oj,hoj,hall⟩:=mem_ready.1 h;unfold abP;rw[hoj];refine wX.2 λe he=>?_
  cases hbd:Region.binds .any e with
  |false=>rfl
  |true=>
   have hli:=hall e (Array.mem_toList_iff.1 he) hbd;have hlt:e.on<ops.size:=by
    rw[Array.getD_eq_getD_getElem?]at hli;cases hx:listed[e.on]? with
    |none=>rw[hx]at hli;cases hli
    |some b=>rw[<- hl.1];exact(Array.getElem?_eq_some_iff.1 hx).1
   have hnin:isin e.on rest=false:=by
    cases hin:isin e.on rest with
    |false=>rfl
    |true=>have:=hl.unlisted hli ((zN _ _).1 hin);cases this
   have hblt:Nat.blt e.on ops.size=true:=Nat.ble_eq_true_of_le hlt;rw[hnin,hblt];rfl
theorem asU {F:Fr}(hQp: ∀c a w,¬Q (.panic c) a w)(hsel: ∀(j:Nat) (o:Oper) cs b,ops[j]? =some o ->o.op≠ .select cs b)(hno: ∀j,isin j (zO 0 ops.size)=true ->clsAt P hs ops j≠4){K:S ->Prop}
 (hQn: ∀ι s a w,Rel F N ι s a w ->K s ->Q .normal a w):
 ∀(t:Tr) (rest:List Nat) (x:ATr),Wh P N hs ops.toList gs t=some x.erase ->(∀j,isin j rest=true ->clsAt P hs ops j≠4) ->
  (Yi P hs ops false t rest=true ->aps P hs ops Q F N rest (λs=>atr P x s K))/\
  (Yi P hs ops true t rest=true -> ∀(f:Nat) (listed:Array Bool) (ι:Nat ->Gh) (s:S) (a:Act) (w:World),uP ops listed rest (λ_=>false) ->rest.length<=f+1 ->Rel F N ι s a w ->atr P x s K ->
   ∀j,isin j (Wj t)=true ->isin j rest=true ->wpOp P ops Q j (λa' w'=>(1<=clsAt P hs ops j ->vA w w')/\jM P hs ops Q f (listed.setIfInBounds j true) a' w') a w):=by
 intro t;induction t with
 |fin=>
  intro rest x hx hcl;cases x with
  |fin=>
   refine⟨λhok fuel listed ι s a w hl hfu hr h=>?_,λhok f listed ι s a w hl hfu hr h j hj _=>by cases hj⟩;cases rest with
   |cons y r=>cases hok
   |nil=>
    have hno':Region.ready .any ops listed=[]:=by
     cases hrd:Region.ready .any ops listed with
     |nil=>rfl
     |cons j js=>have:=(hl.ready_in (j:=j) (by rw[hrd];exact List.mem_cons_self)).1;cases this
    cases fuel with
    |zero=>exact⟨hno',hQn ι s a w hr h⟩
    |succ fuel=>exact⟨λ_=>hQn ι s a w hr h,λi hi=>by rw[hno']at hi;cases hi⟩
  |run _ _=>cases hx
  |br _ _=>cases hx
 |run l t ih=>
  intro rest x hx hcl;simp only[Wh]at hx;split at hx
  case h_2=>cases hx
  rename_i xo xt hxo hxt;cases x with
  |fin=>cases hx
  |br _ _=>cases hx
  |run xs xt'=>
   simp only[ATr.erase,Option.some.injEq,ATr.run.injEq]at hx;obtain⟨rfl,rfl⟩:=hx;have hcont: ∀rest,Yi P hs ops false t rest=true ->(∀j,isin j rest=true ->clsAt P hs ops j≠4) ->aps P hs ops Q F N rest (λs=>atr P xt' s K):=λrest hok hcl=>(ih rest xt' hxt hcl).1 hok
   refine⟨λhok=>?_,λhok f listed ι s a w hl hfu hr h j hj hjr=>?_⟩
   ·exact amC hQp hsel hno hcont l rest hok hcl xs hxo
   ·cases l with
    |nil=>cases hok
    |cons i l=>
     have hji:j=i:=by
      simp only[Wj,isin]at hj;cases hb:Nat.beq i j with
      |false=>rw[hb]at hj;cases hj
      |true=>exact(Nat.eq_of_beq_eq_true hb).symm
     subst hji;simp only[Yi,Bool.and_eq_true]at hok;obtain⟨hin,hok⟩:=hok;obtain⟨o,y,g,drop,rest',rfl,ho,hd,hy,hg,hrest⟩:=Y9 hxo;have hl':=hl.congr (W0 hin);have hlen:=(aim (i:=j) (l:=rest)).2 hin;have hni:j∉Yy j rest:=vf.1 (by rw[Zv,xK];simp);refine as8 (hcl j hin) ho hd hy hg hr h λι' s' a' w' hr' h'=>?_
     exact amC hQp hsel hno hcont l (Yy j rest) hok (λk hk=>hcl k (by rw[Zv,Bool.and_eq_true]at hk;exact hk.1)) rest' hrest f _ ι' s' a' w' (hl'.step hni) (by omega) hr' h'
 |br t1 t2 ih1 ih2=>
  intro rest x hx hcl;simp only[Wh]at hx;split at hx
  case h_2=>cases hx
  rename_i x1 x2 hx1 hx2;cases x with
  |fin=>cases hx
  |run _ _=>cases hx
  |br y1 y2=>
   simp only[ATr.erase,Option.some.injEq,ATr.br.injEq]at hx;obtain⟨rfl,rfl⟩:=hx
   have hB:Yi P hs ops true t1 rest=true ->Yi P hs ops true t2 rest=true -> ∀(f:Nat) (listed:Array Bool) (ι:Nat ->Gh) (s:S) (a:Act) (w:World),uP ops listed rest (λ_=>false) ->rest.length<=f+1 ->Rel F N ι s a w ->atr P (.br y1 y2) s K ->
    ∀j,isin j (Wj t1++Wj t2)=true ->isin j rest=true ->wpOp P ops Q j (λa' w'=>(1<=clsAt P hs ops j ->vA w w')/\jM P hs ops Q f (listed.setIfInBounds j true) a' w') a w:=by
    intro h1 h2 f listed ι s a w hl hfu hr h j hj hjr;rcases List.mem_append.1 ((zN _ _).1 hj)with hj|hj
    ·exact(ih1 rest y1 hx1 hcl).2 h1 f listed ι s a w hl hfu hr h.1 j ((zN _ _).2 hj) hjr
    ·exact(ih2 rest y2 hx2 hcl).2 h2 f listed ι s a w hl hfu hr h.2 j ((zN _ _).2 hj) hjr
   refine⟨λhok fuel listed ι s a w hl hfu hr h=>?_,λhok=>?_⟩
   ·simp only[Yi,Bool.and_eq_true,Bool.false_or]at hok;obtain⟨⟨h1,h2⟩,h4,h3⟩:=hok;have hcov: ∀j,j∈Region.ready .any ops listed ->isin j rest=true /\isin j (Wj t1++Wj t2)=true:=λj hj=>by
     have hjr:=(hl.ready_in hj).1;have:=wX.1 h3 j hjr;rw[(agx hl ((zN _ _).2 hjr)).2 hj]at this;exact⟨(zN _ _).2 hjr,by simpa using this⟩
    obtain⟨k,hk,hk2⟩:=kE.1 h4;have hkr:=(agx hl ((zN _ _).2 hk)).1 hk2;cases fuel with
    |zero=>
     have hrn:rest=[]:=List.eq_nil_of_length_eq_zero (by omega);rw[hrn]at hk;cases hk
    |succ f=>exact⟨λhe=>(by rw[he]at hkr;cases hkr),λj hj=>hB h1 h2 f listed ι s a w hl hfu hr h j (hcov j hj).2 (hcov j hj).1⟩
   ·simp only[Yi,Bool.and_eq_true,Bool.true_or]at hok;exact hB hok.1.1 hok.1.2
theorem ao8 {f:List Nat ->Bool}(hf: ∀rest,f rest=true -> ∀j∈rest,∃o y,ops[j]? =some o /\XG P (isin j hs) o.op o.type=some y): ∀(l rest:List Nat),gG P hs ops l rest f=true -> ∀xs:List AI,Z4 P N hs ops.toList gs l=some (xs.map AI.erase) ->
 ∀j∈rest,∃o y,ops[j]? =some o /\XG P (isin j hs) o.op o.type=some y:=by
 intro l;induction l with
 |nil=>intro rest hok _ _;exact hf rest hok
 |cons i l ih=>
  intro rest hok xs hxs j hj;simp only[gG]at hok;cases hb:(isin i rest&&VC P hs ops i (Yy i rest))with
  |false=>rw[hb]at hok;cases hok
  |true=>
   rw[hb,cond_true]at hok;obtain⟨o,x,g,drop,rest',rfl,ho,hd,hx,hg,hrest⟩:=Y9 hxs;by_cases hji:j=i
   ·subst hji;exact⟨o,x,ho,hx⟩
   ·exact ih (Yy i rest) hok rest' hrest j ((zN _ _).1 (by rw[Zv,(zN _ _).2 hj,yC hji];rfl))
theorem auF: ∀(t:Tr) (b:Bool) (rest:List Nat) (x:ATr),Yi P hs ops b t rest=true ->Wh P N hs ops.toList gs t=some x.erase -> ∀j∈rest,∃o y,ops[j]? =some o /\XG P (isin j hs) o.op o.type=some y:=by
 intro t;induction t with
 |fin=>
  intro b rest x hok hx j hj;cases b with
  |true=>cases hok
  |false=>cases rest with
   |nil=>cases hj
   |cons y r=>cases hok
 |run l t ih=>
  intro b rest x hok hx;simp only[Wh]at hx;split at hx
  case h_2=>cases hx
  rename_i xo xt hxo hxt;cases x with
  |fin=>cases hx
  |br _ _=>cases hx
  |run xs xt'=>
   simp only[ATr.erase,Option.some.injEq,ATr.run.injEq]at hx;obtain⟨rfl,rfl⟩:=hx;cases b with
   |false=>exact ao8 (λrest hok=>ih false rest xt' hok hxt) l rest hok xs hxo
   |true=>
    cases l with
    |nil=>cases hok
    |cons i l=>
     simp only[Yi,Bool.and_eq_true]at hok;obtain⟨hin,hok⟩:=hok;obtain⟨o,y,g,drop,rest',rfl,ho,hd,hy,hg,hrest⟩:=Y9 hxo;intro j hj;by_cases hji:j=i
     ·subst hji;exact⟨o,y,ho,hy⟩
     ·exact ao8 (λrest hok=>ih false rest xt' hok hxt) l (Yy i rest) hok rest' hrest j ((zN _ _).1 (by rw[Zv,(zN _ _).2 hj,yC hji];rfl))
 |br t1 t2 ih1 ih2=>
  intro b rest x hok hx;simp only[Wh]at hx;split at hx
  case h_2=>cases hx
  rename_i x1 x2 hx1 hx2;cases x with
  |fin=>cases hx
  |run _ _=>cases hx
  |br y1 y2=>
   simp only[ATr.erase,Option.some.injEq,ATr.br.injEq]at hx;obtain⟨rfl,rfl⟩:=hx;simp only[Yi,Bool.and_eq_true]at hok;exact ih1 true rest y1 hok.1.1 hx1
theorem aqZ {F:Fr}{ords:List (Nat×List Nat)}{id:Nat}{x:ATr}(hc:XH P N ords id ops true=some (.tree x.erase)){QE:E ->S ->Prop}{ι:Nat ->Gh}{s:S}{a:Act}{w:World}
 (hr:Rel F N ι s a w) (h:Qu P (.tree x) QE s):(Code.region id ops true).wp P (up F N QE) a w:=by
 simp only[XH]at hc;split at hc
 ·rename_i l _;split at hc
  ·rename_i t _ _;cases hok:aib P (uo ords id) ops t with
   |false=>rw[hok]at hc;cases hc
   |true=>
    rw[hok]at hc;simp only[cond_true,Option.map_eq_some_iff,ACode.tree.injEq]at hc;obtain⟨y,hct,rfl⟩:=hc;unfold aib at hok;simp only[Bool.and_eq_true]at hok;obtain⟨⟨h1,h2⟩,h3⟩:=hok;have hno: ∀j,isin j (zO 0 ops.size)=true ->clsAt P (uo ords id) ops j≠4:=λj hj e=>by
     have:=wX.1 h2 j ((zN _ _).1 hj);rw[e]at this;cases this
    refine wp_region_any h1 (g8 (hs:=uo ords id) _ _ _ _ ?_);have hsel: ∀(j:Nat) (o:Oper) cs b,ops[j]? =some o ->o.op≠ .select cs b:=by
     intro j o cs b ho he;have hlt:j<ops.size:=(Array.getElem?_eq_some_iff.1 ho).1;obtain⟨o',x',ho',hx'⟩:=auF t false (zO 0 ops.size) x h3 hct j (by rw[WN];simp[List.mem_range'];omega);rw[ho]at ho';cases ho';rw[he]at hx';cases hb:isin j (uo ords id)<;>rw[hb]at hx'<;>cases hx'
    have hr':Rel F N ι s a {w with drawn:=w.drawn+1}:=hr.grown ⟨rfl,rfl,⟨rfl,Nat.le_succ _⟩,Nat.le_refl _,λ_ _ _=>rfl,λ_ _ _ h=>h⟩;refine((asU (F:=F) (hs:=uo ords id) (K:=QE .normal) (Q:=up F N QE) (gs:=ZR ops.toList) (λc a w h=>h) hsel hno (λι s a w hr hk=>⟨ι,s,hr,hk⟩) t (zO 0 ops.size) x hct (λj hj=>hno j hj)).1 h3) ops.size _ ι s a _ ?_ (by rw[WN];simp) hr' h;refine⟨by simp,λj hj=>?_⟩;rw[(zN _ _).2 (by rw[WN];simp[List.mem_range'];omega)];simp[hj]
  ·cases hc
 ·split at hc
  ·rcases uQ hc with h|h
   ·simp only[Option.map_eq_some_iff]at h;obtain⟨_,_,h⟩:=h;cases h
   ·cases h
  ·cases hc
end
end Go.AM
namespace Go.AM
theorem Zf {P:Program}{N:Nat}{ords:List (Nat×List Nat)}{id:Nat}{ops:Array Oper}{d:Bool}{y:ACode}(h:XH P N ords id ops d=some y):(∃xs,y= .reg xs)\/ ∃t,y= .tree t:=by
 cases d
 ·simp only[XH,Option.map_eq_some_iff]at h;obtain⟨ys,_,rfl⟩:=h;exact .inl ⟨ys,rfl⟩
 ·simp only[XH]at h;split at h
  ·split at h
   ·rcases uQ h with h|h
    ·simp only[Option.map_eq_some_iff]at h;obtain⟨ys,_,rfl⟩:=h;exact .inr ⟨ys,rfl⟩
    ·cases h
   ·cases h
  ·split at h
   ·rcases uQ h with h|h
    ·simp only[Option.map_eq_some_iff]at h;obtain⟨ys,_,rfl⟩:=h;exact .inl ⟨ys,rfl⟩
    ·cases h
   ·cases h
section
variable {P:Program}{F:Fr}{N:Nat}{ords:List (Nat×List Nat)}
theorem aiK: ∀(x:ACode) (c:Code),ql P N ords c=some x.erase -> ∀(Q:E ->S ->Prop) (ι:Nat ->Gh) (s:S) (a:Act) (w:World),Rel F N ι s a w ->Qu P x Q s ->c.wp P (up F N Q) a w:=by
 intro x;induction x with
 |skip=>
  intro c hc Q ι s a w hr h;cases c with
  |skip=>exact wp_skip ⟨ι,s,hr,h⟩
  |label l=>exact wp_label ⟨ι,s,hr,h⟩
  |region id ops d=>rcases Zf hc with⟨xs,h⟩|⟨xs,h⟩<;>simp[ACode.erase]at h
  |_=>(simp only[ql]at hc;(repeat' split at hc)<;>simp_all[ACode.erase])
 |reg xs=>
  intro c hc Q ι s a w hr h;cases c with
  |region id ops d=>
   cases d with
   |true=>exact apV (hc:XH P N ords id ops true=some (.reg (xs.map AI.erase))) hr h
   |false=>
    have hc:XH P N ords id ops false=some (.reg (xs.map AI.erase)):=hc;simp only[XH,Option.map_eq_some_iff,ACode.reg.injEq]at hc;obtain⟨ys,h1,rfl⟩:=hc;refine wp_region ?_;have:=ald (F:=F) (K:=Q .normal) (Q:=up F N Q) (λι s a w hr hk=>⟨ι,s,hr,hk⟩) _ xs h1 ι s a w hr h;rw[WN,<- List.range_eq_range',Array.length_toList]at this;exact this
  |_=>(simp only[ql]at hc;(repeat' split at hc)<;>simp_all[ACode.erase])
 |seq x y ihx ihy=>
  intro c hc Q ι s a w hr h;cases c with
  |seq c d=>
   simp only[ql,ACode.erase]at hc;split at hc
   ·rename_i x' y' hx hy;simp only[Option.some.injEq,ACode.seq.injEq]at hc;obtain⟨rfl,rfl⟩:=hc;refine wp_seq (wp_mono (ihx c hx _ ι s a w hr h) ?_);intro e a' w' he;cases e with
    |normal=>obtain⟨ι1,s1,hr1,h1⟩:=he;exact ihy d hy Q ι1 s1 a' w' hr1 h1
    |exit i=>exact he
    |ret=>exact he
    |_=>exact he.elim
   ·cases hc
  |region id ops d=>rcases Zf hc with⟨xs,h⟩|⟨xs,h⟩<;>simp[ACode.erase]at h
  |_=>(simp only[ql]at hc;(repeat' split at hc)<;>simp_all[ACode.erase])
 |cond o x y ihx ihy=>
  intro c hc Q ι s a w hr h;cases c with
  |cond q c d=>
   simp only[ql,ACode.erase]at hc;split at hc
   ·rename_i x' y' hx hy;simp only[Option.some.injEq,ACode.cond.injEq]at hc;obtain⟨rfl,rfl,rfl⟩:=hc;simp only[Qu]at h;split at h
    ·rename_i t ht;have hv:=v6 hr q;rw[adq ht]at hv;have hq:a.eval q= .bool t:=hv.1;refine wp_cond hq ?_;cases t
     ·exact ihy d hy Q ι s a w hr h
     ·exact ihx c hx Q ι s a w hr h
    ·exact h.elim
   ·cases hc
  |region id ops d=>rcases Zf hc with⟨xs,h⟩|⟨xs,h⟩<;>simp[ACode.erase]at h
  |_=>(simp only[ql]at hc;(repeat' split at hc)<;>simp_all[ACode.erase])
 |block i x ih=>
  intro c hc Q ι s a w hr h;cases c with
  |block j c=>
   simp only[ql,Option.map_eq_some_iff,ACode.erase,ACode.block.injEq]at hc;obtain⟨y,h1,rfl,rfl⟩:=hc;refine wp_block (wp_mono (ih c h1 _ ι s a w hr h) ?_);intro e a' w' he;cases e with
   |normal=>exact he
   |exit k=>
    obtain⟨ι1,s1,hr1,h1⟩:=he;simp only[Exit.inBlock];by_cases hk:k=j
    ·subst hk;rw[if_pos rfl];simp only[xK,cond_true]at h1;exact⟨ι1,s1,hr1,h1⟩
    ·rw[if_neg hk];simp only[yC hk,cond_false]at h1;exact⟨ι1,s1,hr1,h1⟩
   |ret=>exact he
   |_=>exact he.elim
  |region id ops d=>rcases Zf hc with⟨xs,h⟩|⟨xs,h⟩<;>simp[ACode.erase]at h
  |_=>(simp only[ql]at hc;(repeat' split at hc)<;>simp_all[ACode.erase])
 |loop keep x ih=>
  intro c hc Q ι s a w hr h;cases c with
  |loop c=>
   simp only[ql,Option.map_eq_some_iff,ACode.erase,ACode.loop.injEq,true_and]at hc;obtain⟨y,h1,rfl⟩:=hc;obtain⟨I,μ,h2,h3⟩:=h;obtain⟨t,ht,h2⟩:=h2;rw[Q3]at h2;obtain⟨ιt,hrt⟩:=ht F N ι a w hr;refine aq4 (σ:=S) (λs a w=>(∃ι,Rel F N ι s a w)/\I s) μ (t.norm keep) ⟨⟨ιt,hrt.norm keep⟩,h2⟩ ?_;rintro s1 a1 w1 ⟨⟨ι1,hr1⟩,hi⟩;refine wp_mono (ih c h1 _ ι1 s1 a1 w1 hr1 (h3 s1 hi)) ?_;intro e a' w' he;cases e with
   |normal=>
    obtain⟨ι2,s2,hr2,h4⟩:=he;obtain⟨t2,ht2,h4⟩:=h4;simp only[Q3]at h4;obtain⟨ι3,hr3⟩:=ht2 F N ι2 a' w' hr2;exact⟨t2.norm keep,⟨⟨ι3,hr3.norm keep⟩,h4.1⟩,h4.2⟩
   |exit k=>exact he
   |ret=>exact he
   |_=>exact he.elim
  |region id ops d=>rcases Zf hc with⟨xs,h⟩|⟨xs,h⟩<;>simp[ACode.erase]at h
  |_=>(simp only[ql]at hc;(repeat' split at hc)<;>simp_all[ACode.erase])
 |scope x ih=>
  intro c hc Q ι s a w hr h;cases c with
  |scope c=>
   simp only[ql,Option.map_eq_some_iff,ACode.erase,ACode.scope.injEq]at hc;obtain⟨y,h1,rfl⟩:=hc;refine wp_scope_straight (wp_mono (ih c h1 _ ι s a w hr h) ?_);intro e a' w' he;cases e with
   |normal=>exact he
   |exit k=>exact he
   |ret=>exact he
   |_=>exact he.elim
  |region id ops d=>rcases Zf hc with⟨xs,h⟩|⟨xs,h⟩<;>simp[ACode.erase]at h
  |_=>(simp only[ql]at hc;(repeat' split at hc)<;>simp_all[ACode.erase])
 |exit i=>
  intro c hc Q ι s a w hr h;cases c with
  |exit j=>simp only[ql,ACode.erase,Option.some.injEq,ACode.exit.injEq]at hc;subst hc;exact wp_exit ⟨ι,s,hr,h⟩
  |region id ops d=>rcases Zf hc with⟨xs,h⟩|⟨xs,h⟩<;>simp[ACode.erase]at h
  |_=>(simp only[ql]at hc;(repeat' split at hc)<;>simp_all[ACode.erase])
 |ret=>
  intro c hc Q ι s a w hr h;cases c with
  |ret=>exact wp_ret ⟨ι,s,hr,h⟩
  |region id ops d=>rcases Zf hc with⟨xs,h⟩|⟨xs,h⟩<;>simp[ACode.erase]at h
  |_=>(simp only[ql]at hc;(repeat' split at hc)<;>simp_all[ACode.erase])
 |tree x=>
  intro c hc Q ι s a w hr h;cases c with
  |region id ops d=>
   cases d with
   |true=>exact aqZ (hc:XH P N ords id ops true=some (.tree x.erase)) hr h
   |false=>
    have hc:XH P N ords id ops false=some (.tree x.erase):=hc;simp only[XH,Option.map_eq_some_iff]at hc;obtain⟨_,_,hc⟩:=hc;cases hc
  |_=>(simp only[ql]at hc;(repeat' split at hc)<;>simp_all[ACode.erase])
end
end Go.AM
namespace Go.AM
section
variable {P:Program}{F:Fr}{N:Nat}{ι:Nat ->Gh}{s:S}{a:Act}{w:World}
theorem jr {pl:List (Nat×Pl)}: ∀(l U:List Nat),∃r,qg pl U l=U++r
 | [],U=>⟨[],by simp[qg]⟩
 |p::r,U=>by
  have step: ∃r',(bif isin p U then qg pl U r else qg pl (U++[p]) r)=U++r':=by
   cases isin p U
   ·obtain⟨r',h⟩:=jr (pl:=pl) r (U++[p]);exact⟨p::r',by simp only[cond_false,h,List.append_assoc,List.singleton_append]⟩
   ·exact jr r U
  unfold qg;split
  ·exact step
  ·exact step
  ·exact jr r U
theorem UF {pl:List (Nat×Pl)}: ∀(n i:Nat) (U:List Nat),∃r,VI pl n i U=U++r
 |0,_,U=>⟨[],by simp[VI]⟩
 |n+1,i,U=>by
  unfold VI;split
  ·split
   ·rename_i cs _;obtain⟨r1,h1⟩:=jr (pl:=pl) (ki cs) U;obtain⟨r2,h2⟩:=UF (pl:=pl) n (i+1) (qg pl U (ki cs));exact⟨r1++r2,by rw[h2,h1,List.append_assoc]⟩
   ·exact UF n (i+1) U
  ·exact⟨[],by simp⟩
theorem ail {pl:List (Nat×Pl)}(U l:List Nat): ∃r,vz pl U l=U++r:=by
 obtain⟨r1,h1⟩:=jr (pl:=pl) l U;obtain⟨r2,h2⟩:=UF (pl:=pl) 40 0 (qg pl U l);exact⟨r1++r2,by unfold vz;rw[h2,h1,List.append_assoc]⟩
theorem adt (hr:Rel F N ι s a w){U0:List Nat}{ι0:Nat ->Gh}(h0: ∀i p x,U0[i]? =some p ->aget s.pl p=some x ->ι p=ι0 i){x:V}{v:Value}(h:VR ι w (F.ok ι s.pl w) x v):akX F ι0 U0.length w (auT s.pl U0 x) v:=by
 let U:=vz s.pl U0 x.refs
 obtain⟨ur,hU⟩: ∃r,U=U0++r:=ail U0 x.refs
 let ι':Nat ->Gh:=λk=>ι (U.getD k 0)
 have hι: ∀k p,U[k]? =some p ->ι' k=ι p:=λk p hp=>by simp only[ι',List.getD,hp,Option.getD_some]
 let plr:=yE (zO 0 (uO s.pl U 0 U).length) (uO s.pl U 0 U)
 have hz: ∀q y,aget plr q=some y -> ∃p,U[q]? =some p /\y=Ke s.pl U q p /\y.isGone=false:=λq y hy=>by
  obtain⟨q',g1,g2,g3⟩:=Xm _ _ _ _ hy;rw[wu]at g1;split at g1
  ·cases g1;rw[Nat.zero_add];rw[Jy,Nat.zero_add]at g2;cases hp:U[q']? with
   |none=>rw[hp]at g2;cases g2
   |some p=>rw[hp]at g2;simp at g2;exact⟨p,rfl,g2.symm,g3⟩
  ·cases g1
 have hkk:zZ w w (F.ok ι s.pl w) (F.ok ι s.pl w):=λb hb=>⟨hb,rfl⟩
 have hkeep:zZ w w (F.ok ι s.pl w) (F.ok ι' plr w):=λb hb=>⟨⟨hb.1,hb.2.1,λ⟨q,y,h1,h2,h3⟩=>by
  obtain⟨p,e1,e2,e3⟩:=hz q y h1;subst e2;obtain⟨_,⟨z,e4,e5⟩,_,_⟩:=abM hr hkk hι e1 e3;rw[hι q p e1]at h3;exact hb.2.2 ⟨p,z,e4,e5,h3⟩⟩,rfl⟩
 have hz2: ∀q y,aget plr q=some y -> ∃p z,U[q]? =some p /\idx p U=some q /\aget s.pl p=some z /\z.live=true /\PR ι' w (F.ok ι' plr w) q y /\y.live=true:=λq y hy=>by
  obtain⟨p,e1,e2,e3⟩:=hz q y hy;subst e2;obtain⟨g1,⟨z,g2,g3⟩,g4,g5⟩:=abM hr hkeep hι e1 e3;exact⟨p,z,e1,g1,g2,g3,g4,g5⟩
 refine⟨?_,ι',awS hr hkeep hι h,?_,?_,?_,?_,?_⟩
 ·show U0.length<=(uO s.pl U 0 U).length;rw[abN,hU,List.length_append];omega
 ·intro q y hy;obtain⟨p,z,_,_,_,_,g,_⟩:=hz2 q y hy;exact g
 ·intro q q' y y' b hy hy' hqq hb hb';obtain⟨p,z,e1,e2,e3,e4,_,_⟩:=hz2 q y hy;obtain⟨p',z',e5,e6,e7,e8,_,_⟩:=hz2 q' y' hy';rw[hι q p e1]at hb;rw[hι q' p' e5]at hb';refine hr.inj p p' z z' b e3 e7 (λe=>hqq ?_) e4 hb hb';subst e;rw[e2]at e6;cases e6;rfl
 ·intro q y b hy hb;obtain⟨p,z,e1,e2,e3,e4,_,_⟩:=hz2 q y hy;rw[hι q p e1]at hb;exact(hr.mine b ⟨p,z,e3,e4,hb⟩).1
 ·intro q y hy;obtain⟨p,z,_,_,_,_,_,g⟩:=hz2 q y hy;exact g
 ·intro q y hq hy;obtain⟨p,z,e1,e2,e3,e4,_,_⟩:=hz2 q y hy;rw[hι q p e1];refine h0 q p z ?_ e3;rw[hU,List.getElem?_append_left hq]at e1;exact e1
def amz (tmps:Array Value):ResultVar ->Sem Value
 | .tmp t=>pure (tmps.getD t undef)
 | .cell x t=>do loadVar t (<- asAddr (tmps.getD x undef))
theorem aqt (fn:Func)(tmps:Array Value):results fn tmps=(do
 let vs<- fn.results.mapM (amz tmps)
 pure (if h:vs.size=1 then vs[0]else .tuple vs)):=by
 unfold results;congr 2
theorem Kh (hr:Rel F N ι s a w): ∀{rs:List ResultVar}{xs:List ARes},adQ P rs=some xs -> ∀{ws:List W},acw s xs=some ws ->
 ∃vs:List Value,(rs.mapM (amz a.tmps)).run P w= .ok vs w /\xW ι w (F.ok ι s.pl w) ws vs
 | [],xs,hx,ws,h=>by
   cases hx;cases h;exact⟨[],by simp,trivial⟩
 | .tmp t::rs,xs,hx,ws,h=>by
   simp only[adQ,Option.map_eq_some_iff]at hx;obtain⟨ys,h1,rfl⟩:=hx;simp only[acw]at h;split at h
   ·rename_i u l hu hl;cases h;obtain⟨vs,h2,h3⟩:=Kh hr h1 hl;simp only[at9]at hu;split at hu
    ·rename_i u' hu';cases hu;have hv:=ard hr t;rw[hu']at hv;refine⟨a.tmps.getD t undef::vs,?_,hv,h3⟩;rw[List.mapM_cons];simp only[amz,Sem.run_bind,Sem.run_pure,Result.andThen_ok,h2]
    ·cases hu
   ·cases h
 | .cell x t::rs,xs,hx,ws,h=>by
   simp only[adQ]at hx;split at hx
   ·rename_i g ys hg h1;cases hx;simp only[acw]at h;split at h
    ·rename_i u l hu hl;cases h;obtain⟨vs,h2,h3⟩:=Kh hr h1 hl;simp only[at9]at hu;split at hu
     ·rename_i p off hp;split at hu
      ·rename_i cs hcs;have hv:=xE hr (.tmp x);have hv:CR ι w (F.ok ι s.pl w) (cOf (s.tmp x)) (a.tmps.getD x undef):=hv;rw[hp]at hv;obtain⟨b,e1,e2⟩:=hv;obtain⟨b',cur,e3,e4,e5⟩:=hr.places p _ hcs;rw[e1]at e3;cases e3;obtain⟨v,hv,hw⟩:=ZS (b:=b) (off:=off) hg (CRs.drop off e5) (λj v hv=>by
        rw[e4.cell];rw[List.getElem?_drop]at hv;simpa using hv) hu
       refine⟨v::vs,?_,hw,h3⟩;rw[List.mapM_cons];simp only[amz,e2,asAddr,Sem.run_bind,Sem.run_pure,Result.andThen_ok,hv w (vA.refl w),h2]
      ·rename_i ds hcs;have hv:=xE hr (.tmp x);have hv:CR ι w (F.ok ι s.pl w) (cOf (s.tmp x)) (a.tmps.getD x undef):=hv;rw[hp]at hv;obtain⟨b,e1,e2⟩:=hv;obtain⟨b',e3,e4,e5⟩:=hr.places p _ hcs;rw[e1]at e3;cases e3;have e5:=RDc.drop off e5;rw[Nat.zero_add]at e5;obtain⟨us,h4,h5⟩:=RDc.vals (ι:=ι) e5;obtain⟨v,hv,hw⟩:=ZS (b:=b) (off:=off) hg h4 h5 hu;refine⟨v::vs,?_,hw,h3⟩;rw[List.mapM_cons];simp only[amz,e2,asAddr,Sem.run_bind,Sem.run_pure,Result.andThen_ok,hv w (vA.refl w),h2]
      ·cases hu
     ·cases hu
    ·cases h
   ·cases hx
theorem aal (hr:Rel F N ι s a w){fn:Func}{xs:List ARes}(hx:adQ P fn.results.toList=some xs){v:V}(h:at8 s xs=some v):
 ∃x,(results fn a.tmps).run P w= .ok x w /\VR ι w (F.ok ι s.pl w) v x:=by
 unfold at8 at h;have key: ∀ws,acw s xs=some ws -> ∃vs:List Value,xW ι w (F.ok ι s.pl w) ws vs /\(results fn a.tmps).run P w= .ok (if h:vs.toArray.size=1 then vs.toArray[0]else .tuple vs.toArray) w:=by
  intro ws hws;obtain⟨vs,h1,h2⟩:=Kh hr hx hws;refine⟨vs,h2,?_⟩;rw[aqt,<- Array.toArray_toList (xs:=fn.results),List.mapM_toArray];simp only[Sem.run_bind,map_eq_pure_bind,h1,Sem.run_pure,Result.andThen_ok]
 split at h
 ·rename_i u hu;obtain⟨vs,h1,h2⟩:=key _ hu;cases h;cases vs with
  |nil=>exact h1.elim
  |cons v vs=>cases vs with
   |nil=>exact⟨v,by simpa using h2,h1.1⟩
   |cons _ _=>exact h1.2.elim
 ·rename_i ws hne hws;obtain⟨vs,h1,h2⟩:=key _ hws;cases h;refine⟨.tuple vs.toArray,?_,vs,rfl,h1⟩;rw[h2];rw[dif_neg];intro hs;cases vs with
  |nil=>simp at hs
  |cons v vs=>cases vs with
   |nil=>cases ws with
    |nil=>exact h1.elim
    |cons u us=>cases us with
     |nil=>exact hne _ rfl
     |cons _ _=>exact h1.2.elim
   |cons _ _=>simp at hs
 ·cases h
theorem afS: ∀(l:List W) (i k:Nat) (v:V),aget (Zu i l) k=some v -> ∃x,v= .w x /\i<=k /\l[k - i]? =some x:=by
 intro l;induction l with
 |nil=>intro i k v h;cases h
 |cons x r ih=>
  intro i k v h;simp only[Zu,yj]at h;split at h
  ·rename_i e;subst e;cases h;exact⟨x,rfl,Nat.le_refl _,by simp⟩
  ·rename_i hne;obtain⟨y,h1,h2,h3⟩:=ih (i+1) k v h;exact⟨y,h1,by omega,by rw[show k - i=(k -(i+1))+1 by omega];simpa using h3⟩
theorem xW.get {ok:Nat ->Prop}: ∀{cs:List W}{vs:List Value}{i:Nat}{c:W},xW ι w ok cs vs ->cs[i]? =some c -> ∃v,vs[i]? =some v /\WR ι w ok c v
 | [],_,i,_,_,h=>by simp at h
 |_::_,[],_,_,h,_=>h.elim
 |c::cs,v::vs,0,_,h,hc=>by simp at hc;subst hc;exact⟨v,rfl,h.1⟩
 |c::cs,v::vs,i+1,_,h,hc=>by simpa using xW.get h.2 (by simpa using hc)
end
theorem ae2 {n0:Nat}(hn1:100000<=n0)(hn2:n0+1000<=600000){P:Program}{ords:List (Nat×List Nat)}{k:Nat}{A:AFun}(hc:zt P ords k=some A.erase)(hb:qc P k=true){args:List W}{hs:List Pl}(hsl:hs.length<=1000){Q:Res ->Prop}(h:acd n0 P A args hs Q):zu P k args hs Q:=by
 refine⟨hb,λw ok ι0 vals hok ⟨hhb,hglb⟩ hhp hinj hargs=>?_⟩;unfold zt at hc;split at hc
 case h_2=>cases hc
 rename_i fn hf;split at hc
 case h_2=>cases hc
 rename_i c hbody;split at hc
 case h_2=>cases hc
 rename_i x r hx hr;cases hN:Nat.ble fn.ntmps 5000 with
 |false=>rw[hN]at hc;cases hc
 |true=>
 rw[hN]at hc;have hN:=Nat.le_of_ble_eq_true hN;simp only[cond_true,AFun.erase,Option.some.injEq,AFun.mk.injEq]at hc;obtain⟨rfl,rfl⟩:=hc;unfold acd at h;rw[yM]at h
 let ls:List (Option Nat):=(ul n0 hs).map some
 have hls: ∀q p,q0 ls q=some p ->q<hs.length /\p=n0+q:=by
  have gen: ∀(n i q p:Nat),q0 ((zO i n).map some) q=some p ->q<n /\p=i+q:=by
   intro n;induction n with
   |zero=>intro i q p h;simp[zO,q0]at h
   |succ n ih=>
    intro i q p h;cases q with
    |zero=>simp only[zO,List.map_cons,q0,Option.some.injEq]at h;omega
    |succ q=>
     simp only[zO,List.map_cons,q0]at h;have:=ih (i+1) q p h;omega
  exact gen hs.length n0
 let ιc:Nat ->Gh:=λp=>if n0<=p then ι0 (p - n0)else⟨none,0⟩
 have hιc: ∀q p,q0 ls q=some p ->ιc p=ι0 q:=λq p hq=>by
  obtain⟨_,rfl⟩:=hls q p hq;simp only[ιc,if_pos (by omega:n0<=n0+q)];congr 1;omega
 let F:Fr:=⟨w,ok,Xy ι0 hs,λp=>if n0<=p /\p<n0+hs.length then some (ι0 (p - n0))else none⟩
 let pl0:=ji n0 (hs.map (Pl.ren ls))
 have hpl0: ∀p y,aget pl0 p=some y -> ∃q x,p=n0+q /\hs[q]? =some x /\y=x.ren ls /\ιc p=ι0 q:=λp y hy=>by
  have hy:aget (ji n0 (hs.map (Pl.ren ls))) p=some y:=hy;rw[ajB]at hy;split at hy
  ·rename_i hle;rw[List.getElem?_map]at hy;cases hq:hs[p - n0]? with
   |none=>rw[hq]at hy;cases hy
   |some x=>
    rw[hq]at hy;simp at hy;subst hy;exact⟨p - n0,x,by omega,hq,rfl,by simp only[ιc,if_pos hle]⟩
  ·cases hy
 have hkeep:zZ w w ok (F.ok ιc pl0 w):=λb hb=>⟨⟨.inl hb,(hok b hb).1,λ⟨p,y,h1,h2,h3⟩=>by
  obtain⟨q,x,rfl,e1,rfl,e2⟩:=hpl0 p y h1;rw[e2]at h3;exact(hok b hb).2 ⟨q,x,e1,h3⟩⟩,rfl⟩
 have hrel:Rel F fn.ntmps ιc ⟨Zu 0 (args.map (W.ren ls)),pl0⟩ {tmps:=vals.toArray++Array.replicate (fn.ntmps - vals.toArray.size) undef,defers:=[]} w:=by
  refine⟨by simp;omega,λi v hv=>?_,λp y hy=>?_,λp q y z b hy hz hpq hl hb=>?_,λb ⟨p,y,h1,h2,h3⟩=>?_,rfl,Grows.refl _ _,λb hb=>⟨(hok b hb).1,(hok b hb).2⟩,⟨λb hb=>hhb b hb,hglb⟩,hN,λp g hg=>?_,λp y g hy hg=>?_⟩
  ·obtain⟨x,rfl,_,h1⟩:=afS (args.map (W.ren ls)) 0 i v hv;obtain⟨y,h2,h3⟩:=xW.get (ag8 hkeep hιc hargs) h1;simp only[Nat.sub_zero]at h2;have hlt:i<vals.length:=(List.getElem?_eq_some_iff.1 h2).1;exact⟨y,by simpa[Array.getElem?_append,hlt]using h2,h3⟩
  ·obtain⟨q,x,rfl,e1,rfl,e2⟩:=hpl0 p y hy;exact aq9 hkeep hιc e2 (hhp q x e1).1
  ·obtain⟨q1,x1,rfl,e1,rfl,e2⟩:=hpl0 p y hy;obtain⟨q2,x2,rfl,e3,rfl,e4⟩:=hpl0 q z hz;rw[e2]at hb;rw[e4];exact hinj q1 q2 x1 x2 b e1 e3 (λe=>hpq (by rw[e])) hb
  ·obtain⟨q,x,rfl,e1,rfl,e2⟩:=hpl0 p y h1;rw[e2]at h3;exact⟨.inl ⟨q,x,e1,h3⟩,hhb b ⟨q,x,e1,h3⟩⟩
  ·simp only[F]at hg;split at hg
   ·rename_i hp;omega
   ·cases hg
  ·obtain⟨q,x,rfl,e1,rfl,e2⟩:=hpl0 p y hy;simp only[F]at hg;split at hg
   ·cases hg;rw[e2];congr 1;omega
   ·cases hg
 refine calls_of_wp hf hbody (wp_mono (aiK A.code c hx _ _ _ _ _ hrel h) ?_);have fin: ∀ι s a' w',Rel F fn.ntmps ι s a' w' ->Kg A.res (ul n0 hs) Q s ->a'.defers=[]/\ ∃v,(results fn a'.tmps).run P w'= .ok v w' /\ ∃v' r,Ending.returned v= .returned v' /\Q r /\akX ⟨w,ok,Xy ι0 hs,λ_=>none⟩ ι0 hs.length w' r v' /\Grows (Xy ι0 hs) w w':=by
  intro ι s a' w' hr1 hq;unfold Kg at hq;split at hq
  ·rename_i v hv;obtain⟨x,h1,h2⟩:=aal hr1 hr hv;have hp:=adt hr1 (U0:=ul n0 hs) (ι0:=ι0) (λi p y hi hy=>by
    have hi:(zO n0 hs.length)[i]? =some p:=hi;rw[wu]at hi;split at hi
    ·rename_i hlt;cases hi;refine hr1.hkeep _ y _ hy ?_;simp only[F];rw[if_pos ⟨by omega,by omega⟩];congr 2;omega
    ·cases hi) h2
   have hlen:(ul n0 hs).length=hs.length:=ag3 _ _;rw[hlen]at hp;exact⟨hr1.defers,x,h1,x,_,rfl,hq,hp,hr1.grows⟩
  ·exact hq.elim
 intro e a' w' he;cases e with
 |normal=>obtain⟨ι,s,hr1,hq⟩:=he;exact fin ι s a' w' hr1 hq
 |ret=>obtain⟨ι,s,hr1,hq⟩:=he;exact fin ι s a' w' hr1 hq
 |exit i=>obtain⟨_,_,_,hq⟩:=he;exact hq.elim
 |_=>exact he.elim
theorem ajz {P:Program}{ords:List (Nat×List Nat)}{k:Nat}{A:AFun}(hc:zt P ords k=some A.erase)(hb:qc P k=true){args:List W}{hs:List Pl}(hsl:hs.length<=1000){Q:Res ->Prop}(h:auO P A args hs Q):zu P k args hs Q:=
 ae2 (n0:=100000) (Nat.le_refl _) (Nat.le_of_ble_eq_true rfl) hc hb hsl h
theorem ant {P:Program}{ords:List (Nat×List Nat)}{k:Nat}{A:AFun}(hc:zt P ords k=some A.erase)(hb:qc P k=true){args:List W}{Q:Res ->Prop}(h:atf P A args Q):Sat P k args Q:=by
 refine⟨hb,λw ok vals ⟨hok,hglb⟩ hargs=>?_⟩;unfold zt at hc;split at hc
 case h_2=>cases hc
 rename_i fn hf;split at hc
 case h_2=>cases hc
 rename_i c hbody;split at hc
 case h_2=>cases hc
 rename_i x r hx hr;cases hN:Nat.ble fn.ntmps 5000 with
 |false=>rw[hN]at hc;cases hc
 |true=>
 rw[hN]at hc;have hN:=Nat.le_of_ble_eq_true hN;simp only[cond_true,AFun.erase,Option.some.injEq,AFun.mk.injEq]at hc;obtain⟨rfl,rfl⟩:=hc;unfold atf at h;rw[yM]at h
 let F:Fr:=⟨w,ok,λ_=>False,λ_=>none⟩
 have hrel:Rel F fn.ntmps (λ_=>⟨none,0⟩) ⟨Zu 0 args,[]⟩ {tmps:=vals.toArray++Array.replicate (fn.ntmps - vals.toArray.size) undef,defers:=[]} w:=by
  refine⟨by simp;omega,λi v hv=>?_,λp x hx=>(by cases hx),λp q x y b hx=>(by cases hx),λb ⟨p,x,hx,_⟩=>(by cases hx),rfl,Grows.refl _ _,λb hb=>⟨hok b hb,λh=>h⟩,⟨λb hb=>hb.elim,hglb⟩,hN,λp g hg=>(by cases hg),λp x g hx=>(by cases hx)⟩;obtain⟨x,rfl,_,h1⟩:=afS args 0 i v hv;obtain⟨y,h2,h3⟩:=xW.get hargs h1;simp only[Nat.sub_zero]at h2;have hlt:i<vals.length:=(List.getElem?_eq_some_iff.1 h2).1;refine⟨y,by simpa[Array.getElem?_append,hlt]using h2,?_⟩;exact WR.keep (λb hb=>⟨⟨.inl hb,hok b hb,λ⟨p,x,hx,_⟩=>by cases hx⟩,rfl⟩) (zX.refl w) x y h3
 refine calls_of_wp hf hbody (wp_mono (aiK A.code c hx _ _ _ _ _ hrel h) ?_);have fin: ∀ι s a' w',Rel F fn.ntmps ι s a' w' ->Kg A.res [] Q s ->a'.defers=[]/\ ∃v,(results fn a'.tmps).run P w'= .ok v w' /\ ∃v' r,Ending.returned v= .returned v' /\Q r /\adH F w' r v' /\Grows (λ_=>False) w w':=by
  intro ι s a' w' hr1 hq;unfold Kg at hq;split at hq
  ·rename_i v hv;obtain⟨x,h1,h2⟩:=aal hr1 hr hv;exact⟨hr1.defers,x,h1,x,_,rfl,hq,adt hr1 (U0:=[]) (λi p y hi=>by simp at hi) h2,hr1.grows⟩
  ·exact hq.elim
 intro e a' w' he;cases e with
 |normal=>obtain⟨ι,s,hr1,hq⟩:=he;exact fin ι s a' w' hr1 hq
 |ret=>obtain⟨ι,s,hr1,hq⟩:=he;exact fin ι s a' w' hr1 hq
 |exit i=>obtain⟨_,_,_,hq⟩:=he;exact hq.elim
 |_=>exact he.elim
end Go.AM
namespace Go.AM
def C.asData (pl:List Pl):C ->C
 | .own q _ n=>match pl[q]? with
   |some (.arr _ els _)=>.d (.sl (els.take n))
   |_=>.dead
 | .nil=>.d (.sl [])
 | .sub _ _ _ _=>.dead
 |x=>x
def W.asData (pl:List Pl):W ->W| .c x=>.c (x.asData pl)| .agg cs=>.agg (cs.map (C.asData pl))
def V.asData (pl:List Pl):V ->V| .w x=>.w (x.asData pl)| .tup xs=>.tup (xs.map (W.asData pl))
def Res.asData (r:Res):Res:=⟨r.v.asData r.pl,[]⟩
section
variable {F:Fr}{w:World}{ι:Nat ->Gh}{pl:List Pl}
theorem awQ (pl:List Pl)(q:Nat)(x:Pl):aget (yE (zO 0 pl.length) pl) q=some x↔pl[q]? =some x /\x.isGone=false:=by
 constructor
 ·intro h;obtain⟨q',g1,g2,g3⟩:=Xm _ _ _ _ h;rw[wu]at g1;split at g1
  ·cases g1;rw[Nat.zero_add];exact⟨g2,g3⟩
  ·cases g1
 ·rintro⟨g1,g2⟩;have hlt:q<pl.length:=(List.getElem?_eq_some_iff.1 g1).1;have hup:(zO 0 pl.length)[q]? =some q:=by rw[wu,if_pos hlt,Nat.zero_add]
  have:=JN _ _ q q x hup g1 g2;cases hz:aget (yE (zO 0 pl.length) pl) q with
  |none=>exact absurd hz this
  |some y=>
   obtain⟨q',g3,g4,g5⟩:=Xm _ _ _ _ hz;rw[wu]at g3;split at g3
   ·cases g3;rw[Nat.zero_add]at g1;rw[g1]at g4;cases g4;rfl
   ·cases g3
theorem aq6 (hpl: ∀p x,aget (yE (zO 0 pl.length) pl) p=some x ->PR ι w (F.ok ι (yE (zO 0 pl.length) pl) w) p x)(hin: ∀p x b,aget (yE (zO 0 pl.length) pl) p=some x ->(ι p).b=some b ->F.M b\/F.w0.heap.size<=b)
 (hsh: ∀p x,aget (yE (zO 0 pl.length) pl) p=some x ->x.live=true) (ι':Nat ->Gh) {c:C}{v:Value}(h:CR ι w (F.ok ι (yE (zO 0 pl.length) pl) w) c v) (hd: ∀p o,c≠ .ptr p o) (he: ∀p z i k,c≠ .eptr p z i k) (hcl: ∀f p ps,c≠ .clo f (p::ps)):
 CR ι' w (F.ok ι' [] w) (c.asData pl) v:=by
 have hk:zZ w w (F.ok ι (yE (zO 0 pl.length) pl) w) (F.ok ι' [] w):=λb hb=>⟨⟨hb.1,hb.2.1,λ⟨_,_,h,_⟩=>by cases h⟩,rfl⟩
 cases c with
 |d x=>exact RD.keep hk _ _ h
 |nil=>
  have h:v= .slice none 0 0:=h;simp only[C.asData,CR,RD];exact⟨none,0,0,h,rfl,Nat.le_refl _,Nat.zero_le _,.inl trivial⟩
 |own q sz n=>
  simp only[C.asData];split
  ·rename_i z els fz hq;have hq':aget (yE (zO 0 pl.length) pl) q=some (.arr z els fz):=(awQ pl q _).2 ⟨hq,rfl⟩;obtain⟨h0,hn,hpr⟩:=hpl q _ hq';simp only[CR,RD];rcases h with⟨h1,h2,h3⟩|⟨b,cap,t,h1,h2,h3,h4,h5,h6⟩
   ·subst h2;exact⟨none,0,0,h3,by simp,Nat.le_refl _,Nat.zero_le _,.inl (by simp)⟩
   ·rcases hpr with⟨e,_⟩|⟨b',e1,e2,e3,e4⟩
    ·rw[h1]at e;cases e
    ·rw[h1]at e1;cases e1;have hfz:fz=false:=by
      have:=hsh q _ hq';cases fz
      ·rfl
      ·cases this
     subst hfz;obtain⟨cur,e5,_⟩:=e4 rfl;refine⟨_,n,cap,h3,by rw[List.length_take];omega,h4,h5,.inr ⟨b,0,z,rfl,⟨.inr (hin q _ b hq' h1),e5.lt,λ⟨_,_,h,_⟩=>by cases h⟩,?_⟩⟩;exact RDs.take n (RDs.keep' hk b z els 0 (λ_ _ _=>rfl) e2)
  ·trivial
 |dead=>trivial
 |sub _ _ _ _=>trivial
 |fp l=>
  exact CR.keep (ι:=ι') hk (zX.refl w) (.fp l) v h
 |clo f caps=>cases caps with
  |nil=>exact h
  |cons p ps=>exact absurd rfl (hcl f p ps)
 |ptr p o=>exact absurd rfl (hd p o)
 |eptr p z i k=>exact absurd rfl (he p z i k)
def C.plain:C ->Bool| .ptr _ _=>false| .eptr _ _ _ _=>false| .clo _ (_::_)=>false|_=>true
def W.plain:W ->Bool| .c x=>x.plain| .agg cs=>cs.all C.plain
def V.plain:V ->Bool| .w x=>x.plain| .tup xs=>xs.all W.plain
theorem adH.asData {r:Res}{v:Value}(h:adH F w r v)(hp:r.v.plain=true):adH F w r.asData v:=by
 obtain⟨_,ι,h1,h2,h3,h4,h5,_⟩:=h;have hC: ∀{c:C}{v:Value},CR ι w (F.ok ι (yE (zO 0 r.pl.length) r.pl) w) c v ->c.plain=true ->CR ι w (F.ok ι [] w) (c.asData r.pl) v:=fun{c v} hc hp=>
  aq6 h2 h4 h5 ι hc (λp o e=>by rw[e]at hp;cases hp) (λp z i k e=>by rw[e]at hp;cases hp) (λf p ps e=>by rw[e]at hp;cases hp)
 have hCs: ∀(cs:List C) (vs:List Value),CRs ι w (F.ok ι (yE (zO 0 r.pl.length) r.pl) w) cs vs ->cs.all C.plain=true ->CRs ι w (F.ok ι [] w) (cs.map (C.asData r.pl)) vs:=by
  intro cs;induction cs with
  |nil=>intro vs h _;cases vs with|nil=>trivial|cons _ _=>exact h.elim
  |cons c cs ih=>
   intro vs h hp;cases vs with
   |nil=>exact h.elim
   |cons v vs=>
    rw[List.all_cons,Bool.and_eq_true]at hp;exact⟨hC h.1 hp.1,ih vs h.2 hp.2⟩
 have hW: ∀{x:W}{v:Value},WR ι w (F.ok ι (yE (zO 0 r.pl.length) r.pl) w) x v ->x.plain=true ->WR ι w (F.ok ι [] w) (x.asData r.pl) v:=fun{x v} hx hp=>by
  cases x with
  |c c=>exact hC hx hp
  |agg cs=>obtain⟨vs,e,h⟩:=hx;exact⟨vs,e,hCs cs vs h hp⟩
 have hWs: ∀(cs:List W) (vs:List Value),xW ι w (F.ok ι (yE (zO 0 r.pl.length) r.pl) w) cs vs ->cs.all W.plain=true ->xW ι w (F.ok ι [] w) (cs.map (W.asData r.pl)) vs:=by
  intro cs;induction cs with
  |nil=>intro vs h _;cases vs with|nil=>trivial|cons _ _=>exact h.elim
  |cons c cs ih=>
   intro vs h hp;cases vs with
   |nil=>exact h.elim
   |cons v vs=>
    rw[List.all_cons,Bool.and_eq_true]at hp;exact⟨hW h.1 hp.1,ih vs h.2 hp.2⟩
 refine⟨Nat.zero_le _,ι,?_,λp x h=>(by cases h),λp q x y b h=>(by cases h),λp x b h=>(by cases h),λp x h=>(by cases h),λp x h=>(by cases h)⟩;obtain⟨v',pl'⟩:=r;cases v' with
 |w x=>exact hW h1 hp
 |tup xs=>obtain⟨vs,e,h⟩:=h1;exact⟨vs,e,hWs xs vs h hp⟩
end
theorem Sat.data {P:Program}{k:Nat}{args:List W}{Q Q':Res ->Prop}(h:Sat P k args Q)(hq: ∀r,Q r ->r.v.plain=true /\Q' r.asData):Sat P k args Q':=
 ⟨h.1,λw A vals h1 h2=>(h.2 w A vals h1 h2).mono λ_ _ ⟨v,r,he,h3,h4,h5⟩=>⟨v,r.asData,he,(hq r h3).2,h4.asData (hq r h3).1,h5⟩⟩
theorem zd {b:Bool}{X Y:Prop}(h1:b=true ->X)(h2:b=false ->Y):cond b X Y:=by cases b;exact h2 rfl;exact h1 rfl
end Go.AM
namespace Go.AM
structure Tab (P:Program) where
 f:FuncId ->List W ->Option W
 ok: ∀k args w,f k args=some w ->Sat P k args (λr=>r=⟨.w w,[]⟩)
def uB:List Prop ->Prop ->Prop
 | [],K=>K
 |p::r,K=>p /\uB r K
theorem XD {l:List Prop}{K:Prop}(h:uB l K):uB l True /\K:=by
 induction l with
 |nil=>exact⟨trivial,h⟩
 |cons p r ih=>exact⟨⟨h.1,(ih h.2).1⟩,(ih h.2).2⟩
theorem au4 {l:List Prop}{K:Prop}(h:uB l True)(k:K):uB l K:=by
 induction l with
 |nil=>exact k
 |cons p r ih=>exact⟨h.1,ih h.2⟩
theorem adN {l m:List Prop}(h:uB (l++m) True):uB l True /\uB m True:=by
 induction l with
 |nil=>exact⟨trivial,h⟩
 |cons p r ih=>exact⟨⟨h.1,(ih h.2).1⟩,(ih h.2).2⟩
def ar7 (s:S)(args:List W):Option (List W):=match gZ s.pl args with|some (ds,_)=>some ds|none=>none
def ahd (f:FuncId ->List W ->Option W)(op:AOp)(s:S):Option (List Prop×V):=
 match op with
 | .mov x=>some ([],s.o x)
 | .pick c a b=>match yo (s.o c),yo (s.o a),yo (s.o b)with
   |some t,some x,some y=>some ([],zD (cond t x y))
   |_,_,_=>none
 | .ld g sz x=>match s.oc x with
   | .ptr p off=>match aget s.pl p with
     |some (.box cs)=>match Jt g sz (cs.drop off)with|some w=>some ([],.w w)|none=>none
     |some (.fbox ds)=>match Jt g sz ((ds.drop off).map .d)with|some w=>some ([],.w w)|none=>none
     |_=>none
   | .fp cells=>match Jt g sz (cells.map .d)with|some w=>some ([],.w w)|none=>none
   |_=>none
 | .nc x=>match s.oc x with
   | .ptr p k=>some ([],cV (.ptr p k))
   | .eptr p z i k=>some ([],cV (.eptr p z i k))
   | .fp l=>some ([],cV (.fp l))
   |_=>none
 | .slen x=>match s.oc x with
   | .d (.lit (.string b))=>some ([],zf b.size)
   |_=>none
 | .bnot x=>match yo (s.o x)with
   |some b=>some ([],zD (!b))
   |none=>none
 | .ineg x=>match s.oc x with
   | .d (.lit (.int k n))=>some ([],cV (.d (.lit (.int k (k.wrap (0 - n))))))
   |_=>none
 | .beq neg x y=>match yo (s.o x),yo (s.o y)with
   |some a,some b=>some ([],zD (bif neg then a !=b else a==b))
   |_,_=>none
 | .conv k x=>match s.oc x with
   | .d (.lit (.int _ n))=>some ([],cV (.d (.lit (.int k (k.wrap n)))))
   |_=>none
 | .eqa neg ks x y=>match s.o x,s.o y with
   | .w (.agg xs),.w (.agg ys)=>match ZQ ks xs ys with
     |some b=>some ([],zD (bif neg then !b else b))
     |none=>none
   |_,_=>none
 | .fa off x=>match s.oc x with
   | .ptr p o=>some ([],cV (.ptr p (o+off)))
   | .eptr p z i k=>some ([],cV (.eptr p z i (k+off)))
   | .fp cells=>some ([],cV (.fp (cells.drop off)))
   |_=>none
 | .fld g sz off x=>match s.o x with
   | .w (.agg cs)=>match Jt g sz (cs.drop off)with
     |some w=>some ([],.w w)
     |none=>none
   |_=>none
 | .six x i=>match s.oc x,Yv (s.o i)with
   | .d (.lit (.string b)),some n=>some ([0<=n /\n<b.size],cV (.d (.lit (.int .u8 (b.data.toList.getD n.toNat 0).toNat))))
   |_,_=>none
 | .ext x i=>match s.o x with
   | .tup xs=>match xs[i]? with
     |some w=>some ([],.w w)
     |none=>none
   |_=>none
 | .len x=>match s.oc x with
   | .d (.sl l)=>some ([],zf l.length)
   | .nil=>some ([],zf 0)
   | .own _ _ n=>some ([],zf n)
   |_=>none
 | .bin b x y=>match s.oc x,s.oc y with
   | .d (.lit (.int k m)),.d (.lit (.int k1 n))=>bif u4 k k1 then
    match ahf b k m n with
    |some v=>some ([],cV (.d (.lit v)))
    |none=>none
     else none
   | .d (.lit (.string m)),.d (.lit (.string n))=>match ahg b m n with
     |some v=>some ([],cV (.d (.lit v)))
     |none=>none
   |_,_=>none
 | .mm mx x y=>match s.oc x,s.oc y with
   | .d (.lit (.int k m)),.d (.lit (.int k1 n))=>bif u4 k k1 then some ([],cV (.d (.lit (.int k (yP mx m n)))))else none
   |_,_=>none
 | .call k args=>match ar7 s (args.map s.ow)with
   |some ds=>match f k ds with
    |some w=>bif w.scalar then some ([],.w w)else none
    |none=>none
   |none=>none
 |_=>none
theorem X1 {v:V}{b:Bool}(h:yo v=some b):v=zD b:=by
 unfold yo at h;split at h
 ·cases h;rfl
 ·cases h
theorem Kt {P:Program}{T:Tab P}{op:AOp}{s:S}{ps:List Prop}{v:V}{dst:Option Nat}{K:S ->Prop}(h:ahd T.f op s=some (ps,v))(hp:uB ps True)(hk:K (s.put dst v))(hd:isSome dst=true):
 zJ P dst op s K:=by
 unfold ahd at h;split at h
 ·cases h;exact hk
 ·simp only[zJ];split at h
  ·rename_i t x y h1 h2 h3;cases h;rw[h1];cases t
   ·show K _;rw[X1 h3];exact hk
   ·show K _;rw[X1 h2];exact hk
  ·cases h
 ·simp only[zJ,aLd];split at h
  ·split at h
   ·split at h
    ·cases h;simp_all
    ·cases h
   ·split at h
    ·cases h;simp_all
    ·cases h
   ·cases h
  ·split at h
   ·cases h;simp_all
   ·cases h
  ·cases h
 ·simp only[zJ];split at h<;>cases h<;>simp_all
 ·simp only[zJ];split at h<;>cases h<;>simp_all
 ·simp only[zJ];split at h<;>cases h<;>simp_all
 ·simp only[zJ];split at h<;>cases h<;>simp_all
 ·simp only[zJ];split at h<;>cases h<;>simp_all
 ·simp only[zJ];split at h<;>cases h<;>simp_all
 ·simp only[zJ];split at h
  ·split at h<;>cases h<;>simp_all
  ·cases h
 ·simp only[zJ];split at h<;>cases h<;>simp_all
 ·simp only[zJ];split at h
  ·split at h<;>cases h<;>simp_all
  ·cases h
 ·simp only[zJ];split at h
  ·cases h;rename_i h1 h2;rw[h1,h2];exact⟨hp.1.1,hp.1.2,hk⟩
  ·cases h
 ·simp only[zJ];split at h
  ·split at h<;>cases h<;>simp_all
  ·cases h
 ·simp only[zJ];split at h<;>cases h<;>simp_all
 ·simp only[zJ,apy];split at h
  ·rename_i k m k1 n h1 h2;rw[h1,h2];cases hk':u4 k k1<;>rw[hk']at h
   ·cases h
   ·simp only[cond_true]at h⊢;rw[hk'];split at h
    ·rename_i h3;cases h;simp only[h3,cond_true];exact hk
    ·cases h
  ·rename_i h1 h2;rw[h1,h2];split at h
   ·rename_i h3;cases h;simp only[h3];exact hk
   ·cases h
  ·cases h
 ·simp only[zJ,aMm];split at h
  ·rename_i k m k1 n h1 h2;rw[h1,h2];cases hk':u4 k k1<;>rw[hk']at h
   ·cases h
   ·cases h;simp only[hk',cond_true];exact hk
  ·cases h
 ·rename_i k args;simp only[zJ,kB];unfold ar7 at h;cases h1:gZ s.pl (args.map s.ow)with
  |none=>rw[h1]at h;cases h
  |some x=>
   obtain⟨ds,pl1⟩:=x;simp only[h1]at h;cases h2:T.f k ds with
   |none=>simp only[h2]at h;cases h
   |some w=>
    simp only[h2]at h;cases h3:w.scalar<;>rw[h3]at h
    ·cases h
    ·cases h;refine Sat.mono (T.ok k ds w h2) ?_;rintro r rfl;cases dst with
     |none=>cases hd
     |some d=>simp only[aqr,V.scalar,h3,cond_true];exact hk
 ·cases h
end Go.AM
