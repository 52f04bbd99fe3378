import Derived.Orders
import Derived.Scope
import Derived.Test.YtkdijaiaplkliaaGreatDoorZx1
set_option linter.unusedSimpArgs false
set_option linter.unusedVariables false
set_option maxRecDepth 100000
set_option maxHeartbeats 4000000
namespace Go.AM
theorem qL: ∀(n i q:Nat),(zJ i n)[q]? =if q<n then some (i+q)else none
 |0,i,q=>by simp[zJ]
 |n+1,i,0=>by simp[zJ]
 |n+1,i,q+1=>by
  simp only[zJ,List.getElem?_cons_succ,qL n (i+1) q];by_cases h:q<n
  ·rw[if_pos h,if_pos (by omega)];congr 1;omega
  ·rw[if_neg h,if_neg (by omega)]
theorem abY: ∀(n i:Nat),(zJ i n).length=n
 |0,_=>rfl
 |n+1,i=>by simp[zJ,abY n]
def Pl.isGone:Pl ->Bool| .gone=>true|_=>false
theorem gt (n:Nat)(g:List Nat)(x:Pl)(xs:List Pl):ju (n::g) (x::xs)=(if x.isGone=true then none else some n)::ju g xs:=by
 cases x<;>simp[ju,Pl.isGone]
theorem vM (n:Nat)(g:List Nat)(x:Pl)(xs:List Pl):yD (n::g) (x::xs)=if x.isGone=true then yD g xs else(n,x)::yD g xs:=by
 cases x<;>simp[yD,Pl.isGone]
theorem alq (m n:Nat)(g:List Nat)(x:Pl)(xs:List Pl):Xm (m+1) (n::g) (x::xs)=if x.isGone=true then n::Xm m g xs else Xm m g xs:=by
 cases x<;>simp[Xm,Pl.isGone]
theorem abf (x:Pl)(l:List (Option Nat)):(x.ren l).isGone=x.isGone:=by cases x<;>rfl
theorem am8 (x:Pl)(l:List (Option Nat)):(x.ren l).live=x.live:=by cases x<;>rfl
theorem Zo: ∀(L:List Nat) (g:List Pl) (q p:Nat),qV (ju L g) q=some p↔ ∃x,L[q]? =some p /\g[q]? =some x /\x.isGone=false
 | [],g,q,p=>by simp[ju,qV]
 |n::i,[],q,p=>by simp[ju,qV]
 |n::i,x::xs,0,p=>by
  rw[gt];cases h:x.isGone<;>simp[qV,h]
 |n::i,x::xs,q+1,p=>by
  rw[gt];simp only[qV,Zo i xs q p,List.getElem?_cons_succ]
theorem Ya: ∀(L:List Nat) (g:List Pl) (p:Nat) (y:Pl),aget (yD L g) p=some y -> ∃q:Nat,L[q]? =some p /\g[q]? =some y /\y.isGone=false
 | [],g,p,y,h=>by simp[yD,aget]at h
 |n::r,[],p,y,h=>by simp[yD,aget]at h
 |n::r,x::xs,p,y,h=>by
  rw[vM]at h;cases o:x.isGone
  ·simp only[o,Bool.false_eq_true,if_false,yg]at h;split at h
   ·rename_i e;subst e;cases h;exact⟨0,rfl,rfl,o⟩
   ·obtain⟨q,i,j,l⟩:=Ya r xs p y h;exact⟨q+1,by simpa using i,by simpa using j,l⟩
  ·simp only[o,if_true]at h;obtain⟨q,i,j,l⟩:=Ya r xs p y h;exact⟨q+1,by simpa using i,by simpa using j,l⟩
theorem adf: ∀(L:List Nat) (g:List Pl) (q p:Nat) (y:Pl),L[q]? =some p ->g[q]? =some y ->y.isGone=false ->isin p (vC (yD L g))=true
 | [],_,q,p,y,h,_,_=>by simp at h
 |_::_,[],q,p,y,_,h,_=>by simp at h
 |n::r,x::xs,0,p,y,i,j,l=>by
  simp at i j;subst i;subst j;rw[vM,l];simp[vC,isin]
 |n::r,x::xs,q+1,p,y,i,j,l=>by
  have o:=adf r xs q p y (by simpa using i) (by simpa using j) l;rw[vM];cases I:x.isGone
  ·rw[zV]at o⊢;simp[vC,o]
  ·simpa using o
theorem ahi: ∀(L:List Nat) (l:List Pl),wT (vC (yD L l))=true -> ∀(q g p:Nat) (y r:Pl),L[q]? =some p ->l[q]? =some y ->y.isGone=false ->L[g]? =some p ->l[g]? =some r ->r.isGone=false ->q=g
 | [],_,_,q,_,_,_,_,h,_,_,_,_,_=>by simp at h
 |_::_,[],_,q,_,_,_,_,_,h,_,_,_,_=>by simp at h
 |n::o,x::xs,i,q,g,p,y,r,I,J,U,P,R,h6=>by
  have aa:wT (vC (yD o xs))=true:=by
   rw[vM]at i;cases T:x.isGone
   ·rw[T]at i;simp only[Bool.false_eq_true,if_false,vC,wT,Bool.and_eq_true]at i;exact i.2
   ·rw[T]at i;simpa using i
  have j:x.isGone=false ->isin n (vC (yD o xs))=false:=λT=>by
   rw[vM,T]at i;simp only[Bool.false_eq_true,if_false,vC,wT,Bool.and_eq_true,Bool.not_eq_true']at i;exact i.1
  cases q with
  |zero=>cases g with
   |zero=>rfl
   |succ g=>
    simp at I J;subst I;subst J;have:=adf o xs g _ r (by simpa using P) (by simpa using R) h6;rw[j U]at this;cases this
  |succ q=>cases g with
   |zero=>
    simp at P R;subst P;subst R;have:=adf o xs q _ y (by simpa using I) (by simpa using J) U;rw[j h6]at this;cases this
   |succ g=>rw[ahi o xs aa q g p y r (by simpa using I) (by simpa using J) U (by simpa using P) (by simpa using R) h6]
theorem Vn: ∀(L:List Nat) (g:List Pl) (q p:Nat) (y:Pl),L[q]? =some p ->g[q]? =some y ->y.isGone=false ->aget (yD L g) p≠none
 | [],_,q,p,y,h,_,_=>by simp at h
 |_::_,[],q,p,y,_,h,_=>by simp at h
 |n::r,x::xs,0,p,y,i,j,l=>by
  simp at i j;subst i;subst j;rw[vM,l];simp[yg]
 |n::r,x::xs,q+1,p,y,i,j,l=>by
  have o:=Vn r xs q p y (by simpa using i) (by simpa using j) l;rw[vM];cases I:x.isGone
  ·simp only[Bool.false_eq_true,if_false,yg];by_cases e:n=p
   ·simp[e]
   ·simpa[e]using o
  ·simpa using o
theorem kB: ∀(L:List Nat) (l:List Pl) (m p:Nat),isin p (Xm m L l)=true↔ ∃q x,L[q]? =some p /\l[q]? =some x /\(q<m ->x.isGone=true)
 | [],l,m,p=>by cases m<;>simp[Xm,isin]
 |n::o,[],m,p=>by cases m<;>simp[Xm,isin]
 |n::o,x::xs,0,p=>by
  simp only[Xm,zV,List.mem_cons];rw[<- zV,kB o xs 0 p];constructor
  ·rintro(h|⟨q,y,g,i,j⟩)
   ·exact⟨0,x,by simp[h],rfl,λh=>by omega⟩
   ·exact⟨q+1,y,by simpa using g,by simpa using i,λh=>by omega⟩
  ·rintro⟨q,y,g,i,j⟩;cases q with
   |zero=>simp at g;exact .inl g.symm
   |succ q=>exact .inr ⟨q,y,by simpa using g,by simpa using i,λh=>by omega⟩
 |n::o,x::xs,m+1,p=>by
  rw[alq];have I:=kB o xs m p;cases r:x.isGone
  ·simp only[Bool.false_eq_true,if_false,I];constructor
   ·rintro⟨q,y,g,i,j⟩;exact⟨q+1,y,by simpa using g,by simpa using i,λh=>j (by omega)⟩
   ·rintro⟨q,y,g,i,j⟩;cases q with
    |zero=>simp at i;subst i;have:=j (by omega);rw[r]at this;cases this
    |succ q=>exact⟨q,y,by simpa using g,by simpa using i,λh=>j (by omega)⟩
  ·simp only[if_true,zV,List.mem_cons];rw[<- zV,I];constructor
   ·rintro(h|⟨q,y,g,i,j⟩)
    ·exact⟨0,x,by simp[h],rfl,λ_=>r⟩
    ·exact⟨q+1,y,by simpa using g,by simpa using i,λh=>j (by omega)⟩
   ·rintro⟨q,y,g,i,j⟩;cases q with
    |zero=>simp at g;exact .inl g.symm
    |succ q=>exact .inr ⟨q,y,by simpa using g,by simpa using i,λh=>j (by omega)⟩
theorem gh: ∀(n i:Nat) (g:List Pl),(∀p,isin p (vC (yD (zJ i n) g))=true ->i<=p)/\wT (vC (yD (zJ i n) g))=true
 |0,i,g=>by simp[zJ,yD,vC,isin,wT]
 |n+1,i,[]=>by simp[zJ,yD,vC,isin,wT]
 |n+1,i,x::xs=>by
  obtain⟨l,o⟩:=gh n (i+1) xs;simp only[zJ,vM];cases x.isGone
  ·simp only[Bool.false_eq_true,if_false,vC,wT,o,Bool.and_true,Bool.not_eq_true'];refine⟨λp j=>?_,?_⟩
   ·rw[zV,List.mem_cons]at j;rcases j with rfl|j
    ·exact Nat.le_refl _
    ·have:=l p ((zV _ _).2 j);omega
   ·cases r:isin i (vC (yD (zJ (i+1) n) xs))
    ·rfl
    ·have:=l i r;omega
  ·simp only[if_true];exact⟨λp j=>by have:=l p j;omega,o⟩
theorem aei (l:List Pl): ∀(n p:Nat),aget (uA n l) p=if n<=p then l[p - n]? else none:=by
 induction l with
 |nil=>intro n p;simp[uA,aget]
 |cons x r i=>
  intro n p;simp only[uA,yg,i];by_cases h:n=p
  ·subst h;simp
  ·by_cases g:n<=p
   ·rw[if_neg h,if_pos (by omega),if_pos g,show p - n=(p -(n+1))+1 by omega];simp
   ·rw[if_neg h,if_neg (by omega),if_neg g]
section
variable {P:Program}{F:Fr}{N:Nat}{ι:Nat ->Gh}{s:S}{a:Act}{w:World}{o:Oper}{K:S ->Prop}
theorem jD {f:FuncId}(h:xE P f=true)(args:Array Value)(w:World):(callFunc f args).run P w= .ok (.enter f args) w:=by
 unfold xE at h;cases i:P.funcs[f]? with
 |none=>rw[i]at h;cases h
 |some fn=>
  simp only[i,Bool.and_eq_true,Bool.not_eq_true']at h;obtain⟨j,l⟩:=h;have o: ¬fn.body=none:=by intro g;rw[g]at j;cases j
  have p: ¬fn.name= "runtime.NumGoroutine" :=by intro g;rw[g]at l;cases l
  simp[callFunc,i,p,o]
theorem zU.of_grows {w w':World}(h:Grows (λ_=>False) w w'):zU w w':=by
 intro b t m i;have j:b<w.heap.size:=by
  rcases Nat.lt_or_ge b w.heap.size with g|g
  ·exact g
  ·simp[World.shape?,Array.getElem?_eq_none g]at i
 simp only[World.shape?,h.block b j (λh=>h)]at i⊢;exact i
theorem Rel.grown (hr:Rel F N ι s a w){w':World}(i:Grows (λ_=>False) w w'):Rel F N ι s a w':=by
 have g:zW w w' (F.ok ι s.pl w) (F.ok ι s.pl w'):=λb l=>⟨⟨l.1,Nat.lt_of_lt_of_le l.2.1 i.size,l.2.2⟩,i.block b l.2.1 (λh=>h)⟩
 have R:=zU.of_grows i;refine⟨hr.room,λk v hv=>?_,λp x hx=>?_,hr.inj,λb l=>⟨(hr.mine b l).1,Nat.lt_of_lt_of_le (hr.mine b l).2 i.size⟩,hr.defers,?_,hr.foreign,hr.handed,hr.few,hr.hdom,hr.hkeep⟩
 ·obtain⟨x,I,r⟩:=hr.slots k v hv;exact⟨x,I,VR.keep g R v x r⟩
 ·have h:=hr.places p x hx;cases x with
  |fbox ds=>obtain⟨b,I,r,J⟩:=h;exact⟨b,I,(g b r).1,RDc.keep g b r _ _ J⟩
  |gone=>exact h.elim
  |box cs=>obtain⟨b,o,I,⟨t,r⟩,J⟩:=h;exact⟨b,o,I,⟨t,by rw[i.block b (RowAt.lt ⟨t,r⟩) (λh=>h)];exact r⟩,CRs.keep g R _ _ J⟩
  |arr sz U fz=>
   obtain⟨h0,hn,h|⟨b,I,r,J,e4⟩⟩:=h
   ·exact⟨h0,hn,.inl h⟩
   ·have P:b<w.heap.size:=by
     cases fz
     ·obtain⟨o,T,_⟩:=e4 rfl;exact T.lt
     ·exact(J rfl).2.1
    refine⟨h0,hn,.inr ⟨b,I,RDs.keep' g b sz U 0 (λj _ _=>ue (i.block b P (λh=>h)) j) r,λhf=>(g b (J hf)).1,λhf=>?_⟩⟩;obtain⟨o,⟨t,T⟩,e6⟩:=e4 hf;exact⟨o,⟨t,by rw[i.block b P (λh=>h)];exact T⟩,e6⟩
 ·refine⟨i.os.trans hr.grows.os,i.tape.trans hr.grows.tape,i.output.trans hr.grows.output,Nat.le_trans hr.grows.size i.size,λb l hm=>?_,λb t m h=>i.shapes b t m (hr.grows.shapes b t m h)⟩;rw[i.block b (Nat.lt_of_lt_of_le l hr.grows.size) (λh=>h)];exact hr.grows.block b l hm
theorem adh {ι ι':Nat ->Gh}{w w':World}{ok ok':Nat ->Prop}{c:C}{v:Value}(hs:c.scalar=true)(h:CR ι w ok c v):CR ι' w' ok' c v:=by
 cases c with
 |d x=>cases x with
  |lit u=>simp only[CR,RD]at h⊢;exact h
  |sl l=>cases hs
  |fn f l=>cases hs
  |ifc f l=>cases hs
 |_=>cases hs
theorem adj {ι ι':Nat ->Gh}{w w':World}{ok ok':Nat ->Prop}{x:W}{v:Value}(hs:x.scalar=true)(h:WR ι w ok x v):WR ι' w' ok' x v:=by
 cases x with
 |c c=>exact adh hs h
 |agg i=>
  obtain⟨vs,j,g⟩:=h;refine⟨vs,j,?_⟩;clear j;simp only[W.scalar]at hs;induction i generalizing vs with
  |nil=>cases vs with|nil=>trivial|cons _ _=>exact g.elim
  |cons c i l=>cases vs with
   |nil=>exact g.elim
   |cons v vs=>
    simp only[List.all_cons,Bool.and_eq_true]at hs;exact⟨adh hs.1 g.1,l hs.2 vs g.2⟩
theorem akP {ι ι':Nat ->Gh}{w w':World}{ok ok':Nat ->Prop}{x:V}{v:Value}(hs:x.scalar=true)(h:VR ι w ok x v):VR ι' w' ok' x v:=by
 cases x with
 |w x=>exact adj hs h
 |tup i=>
  obtain⟨vs,j,g⟩:=h;refine⟨vs,j,?_⟩;clear j;simp only[V.scalar]at hs;induction i generalizing vs with
  |nil=>cases vs with|nil=>trivial|cons _ _=>exact g.elim
  |cons c i l=>cases vs with
   |nil=>exact g.elim
   |cons v vs=>
    simp only[List.all_cons,Bool.and_eq_true]at hs;exact⟨adj hs.1 g.1,l hs.2 vs g.2⟩
section ren
variable {ι ι':Nat ->Gh}{w w':World}{ok ok':Nat ->Prop}{l:List (Option Nat)}
theorem akK (hk:zW w w ok ok')(r: ∀q p,qV l q=some p ->ι' p=ι q){c:C}{v:Value}(h:CR ι w ok c v):CR ι' w ok' (c.ren l) v:=by
 cases c with
 |d x=>exact RD.keep hk _ _ h
 |nil=>exact h
 |own q sz k=>
  simp only[C.ren];split
  ·rename_i p j;simp only[CR,r q p j];exact h
  ·trivial
 |ptr q o=>
  simp only[C.ren];split
  ·rename_i p j;simp only[CR,r q p j];exact h
  ·trivial
 |eptr q z i k=>
  simp only[C.ren];split
  ·rename_i p j;simp only[CR,r q p j];exact h
  ·trivial
 |fp l=>exact CR.keep hk (zU.refl w) (.fp l) v h
 |clo f g=>cases g with
  |nil=>exact h
  |cons _ _=>trivial
 |dead=>trivial
 |sub _ _ _ _=>trivial
theorem ab6 (hk:zW w w ok ok')(i: ∀q p,qV l q=some p ->ι' p=ι q): ∀{g:List C}{vs:List Value},CRs ι w ok g vs ->CRs ι' w ok' (g.map (C.ren l)) vs
 | [],[],_=>trivial
 | [],_::_,h=>h.elim
 |_::_,[],h=>h.elim
 |_::_,_::_,h=>⟨akK hk i h.1,ab6 hk i h.2⟩
theorem akR (hk:zW w w ok ok')(g: ∀q p,qV l q=some p ->ι' p=ι q){x:W}{v:Value}(h:WR ι w ok x v):WR ι' w ok' (x.ren l) v:=by
 cases x with
 |c x=>exact akK hk g h
 |agg o=>obtain⟨vs,i,j⟩:=h;exact⟨vs,i,ab6 hk g j⟩
theorem ab8 (hk:zW w w ok ok')(i: ∀q p,qV l q=some p ->ι' p=ι q): ∀{g:List W}{vs:List Value},xP ι w ok g vs ->xP ι' w ok' (g.map (W.ren l)) vs
 | [],[],_=>trivial
 | [],_::_,h=>h.elim
 |_::_,[],h=>h.elim
 |_::_,_::_,h=>⟨akR hk i h.1,ab8 hk i h.2⟩
theorem apL (hk:zW w w ok ok')(g: ∀q p,qV l q=some p ->ι' p=ι q){x:V}{v:Value}(h:VR ι w ok x v):VR ι' w ok' (x.ren l) v:=by
 cases x with
 |w x=>exact akR hk g h
 |tup o=>obtain⟨vs,i,j⟩:=h;exact⟨vs,i,ab8 hk g j⟩
theorem akL (hk:zW w w ok ok')(T: ∀q p,qV l q=some p ->ι' p=ι q){q p:Nat}(i:ι' p=ι q){x:Pl}(h:PR ι w ok q x):PR ι' w ok' p (x.ren l):=by
 cases x with
 |box U=>obtain⟨b,r,j,g,o⟩:=h;exact⟨b,r,by rw[i];exact j,g,ab6 hk T o⟩
 |arr sz I fz=>
  obtain⟨h0,J,h|⟨b,j,g,o,P⟩⟩:=h
  ·exact⟨h0,by rw[i];exact J,.inl (by rw[i];exact h)⟩
  ·exact⟨h0,by rw[i];exact J,.inr ⟨b,by rw[i];exact j,RDs.keep' hk b sz I 0 (λ_ _ _=>rfl) g,λR=>(hk b (o R)).1,P⟩⟩
 |fbox ds=>obtain⟨b,j,g,o⟩:=h;exact⟨b,by rw[i];exact j,(hk b g).1,RDc.keep hk b g _ _ o⟩
 |gone=>exact h.elim
end ren
theorem PR.lt {ι:Nat ->Gh}{w:World}{ok:Nat ->Prop}{p:Nat}{x:Pl}(h:PR ι w ok p x)(l:x.live=true){b:Nat}(j:(ι p).b=some b):b<w.heap.size:=by
 cases x with
 |box U=>obtain⟨r,i,g,o,I⟩:=h;rw[j]at g;cases g;exact o.lt
 |arr sz R T=>
  cases T with
  |true=>cases l
  |false=>
   obtain⟨h0,hn,h|⟨r,g,o,I,J⟩⟩:=h
   ·rw[j]at h;cases h.1
   ·rw[j]at g;cases g;obtain⟨i,P,_⟩:=J rfl;exact P.lt
 |fbox ds=>cases l
 |gone=>cases l
theorem gw (hr:Rel F N ι s a w){dst:Option Tmp}(hd: ∀k,dst=some k ->k<N){U:List Nat}(hU: ∀p∈U,∃x,aget s.pl p=some x /\x.live=true){nb:Nat}(ay: ∀i,F.h (nb+i)=none){M:Nat ->Prop}(hM: ∀b,M b↔ ∃p∈U,(ι p).b=some b)
 {h0:Nat ->Option Gh}{w':World}{v:Value}{r:Res}(au:afe ⟨w,F.ok ι s.pl w,M,h0⟩ (λi=>ι (U.getD i 0)) U.length w' r v) (hg:Grows M w w') (az:QM U nb r=true):
 ∃ι',Rel F N ι' (kJ s U nb dst r) (a.put dst v) w':=by
 obtain⟨hm,ιr,h1,h2,h3,h4,h5,h6⟩:=au
 let L:List Nat:=U++zJ nb (r.pl.length - U.length)
 let ls:=ju L r.pl
 let NP:=yD L (r.pl.map (Pl.ren ls))
 let KL:=Xm U.length L r.pl
 have ao:wT (vC (yD L r.pl))=true:=az;have ac: ∀q,q<U.length ->L[q]? =U[q]? :=λq hq=>List.getElem?_append_left hq
 have ak: ∀q p,U.length<=q ->L[q]? =some p ->p=nb+(q - U.length):=λq p hq J=>by
  have J:(U++zJ nb (r.pl.length - U.length))[q]? =some p:=J;rw[List.getElem?_append_right hq,qL]at J;split at J
  ·cases J;rfl
  ·cases J
 have R: ∀q x,aget (yD (zJ 0 r.pl.length) r.pl) q=some x↔r.pl[q]? =some x /\x.isGone=false:=λq x=>by
  constructor
  ·intro h;obtain⟨q',g1,g2,g3⟩:=Ya _ _ _ _ h;rw[qL]at g1;split at g1
   ·cases g1;rw[Nat.zero_add];exact⟨g2,g3⟩
   ·cases g1
  ·rintro⟨g1,g2⟩;have ae:q<r.pl.length:=(List.getElem?_eq_some_iff.1 g1).1;have a1:(zJ 0 r.pl.length)[q]? =some q:=by rw[qL,if_pos ae,Nat.zero_add]
   have:=Vn _ _ q q x a1 g1 g2;cases hz:aget (yD (zJ 0 r.pl.length) r.pl) q with
   |none=>exact absurd hz this
   |some y=>
    obtain⟨q',g3,g4,g5⟩:=Ya _ _ _ _ hz;rw[qL]at g3;split at g3
    ·cases g3;rw[Nat.zero_add]at g1;rw[g1]at g4;cases g4;rfl
    ·cases g3
 let ι':Nat ->Gh:=λp=>open Classical in if h:isin p KL=true /\ ∃q,qV ls q=some p then ιr h.2.choose else ι p
 have ai: ∀q q' p,qV ls q=some p ->qV ls q'=some p ->q=q':=λq q' p g1 g2=>by
  obtain⟨x,j,l,o⟩:=(Zo L r.pl q p).1 g1;obtain⟨y,e4,e5,e6⟩:=(Zo L r.pl q' p).1 g2;exact ahi L r.pl ao q q' p x y j l o e4 e5 e6
 have hι: ∀p,isin p KL=false ->ι' p=ι p:=λp J=>by
  simp only[ι'];rw[dif_neg];rintro⟨h,_⟩;rw[J]at h;cases h
 have P: ∀q p,qV ls q=some p ->ι' p=ιr q:=λq p hq=>by
  by_cases hk:isin p KL=true
  ·have aq:isin p KL=true /\ ∃q,qV ls q=some p:=⟨hk,q,hq⟩;simp only[ι'];rw[dif_pos aq];congr 1
   exact ai _ _ p aq.2.choose_spec hq
  ·have hk:isin p KL=false:=by simpa using hk
   rw[hι p hk];obtain⟨x,j,l,o⟩:=(Zo L r.pl q p).1 hq;have ad:q<U.length:=by
    rcases Nat.lt_or_ge q U.length with h|h
    ·exact h
    ·have:=(kB L r.pl U.length p).2 ⟨q,x,j,l,λh'=>by omega⟩;rw[hk]at this;cases this
   have:=h6 q x ad ((R q x).2 ⟨l,o⟩);rw[this];have av:U[q]? =some p:=by rw[<- ac q ad];exact j
   simp[List.getD,av]
 have aa: ∀p y,aget NP p=some y -> ∃q x,qV ls q=some p /\r.pl[q]? =some x /\x.isGone=false /\y=x.ren ls /\L[q]? =some p:=λp y hy=>by
  obtain⟨q,j,l,o⟩:=Ya _ _ _ _ hy;rw[List.getElem?_map]at l;cases hx:r.pl[q]? with
  |none=>rw[hx]at l;cases l
  |some x=>
   rw[hx]at l;simp at l;subst l;rw[abf]at o;exact⟨q,x,(Zo L r.pl q p).2 ⟨x,j,hx,o⟩,hx,o,rfl,j⟩
 have ar: ∀p,p∈U ->isin p KL=true\/aget NP p≠none:=λp J=>by
  obtain⟨i,hi,a0⟩:=List.getElem_of_mem J;have aw:U[i]? =some p:=by rw[List.getElem?_eq_getElem hi,a0]
  have al:L[i]? =some p:=by rw[ac i hi];exact aw
  have ae:i<r.pl.length:=by omega
  cases ab:(r.pl[i]).isGone
  ·right
   refine Vn L _ i p ((r.pl[i]).ren ls) al (by rw[List.getElem?_map,List.getElem?_eq_getElem ae];rfl) (by rw[abf];exact ab)
  ·left
   exact(kB L r.pl U.length p).2 ⟨i,r.pl[i],al,List.getElem?_eq_getElem ae,λ_=>ab⟩
 have I: ∀b,M b -> ∃q y,(isin q KL=true\/aget NP q≠none)/\aget s.pl q=some y /\y.live=true /\(ι q).b=some b:=λb hb=>by
  obtain⟨p,J,e⟩:=(hM b).1 hb;obtain⟨x,j,l⟩:=hU p J;exact⟨p,x,ar p J,j,l,e⟩
 have ah: ∀b,b<w.heap.size ->(∀q y,(isin q KL=true\/aget NP q≠none) ->aget s.pl q=some y ->y.live=true ->(ι q).b≠some b) ->w'.heap[b]? =w.heap[b]? :=λb hb h=>hg.block b hb λax=>by
  obtain⟨q,y,j,l,o,e4⟩:=I b ax;exact h q y j l o e4
 have af:zW w' w' (Fr.ok ⟨w,F.ok ι s.pl w,M,h0⟩ ιr (yD (zJ 0 r.pl.length) r.pl) w') (F.ok ι' (s.redo KL NP).pl w'):=by
  intro b hb;obtain⟨T,b2,b3⟩:=hb;refine⟨⟨?_,b2,?_⟩,rfl⟩
  ·rcases T with T|T|T
   ·exact T.1
   ·obtain⟨q,y,_,l,o,e4⟩:=I b T;rcases(hr.mine b ⟨q,y,l,o,e4⟩).1 with h|h
    ·exact .inr (.inl h)
    ·exact .inr (.inr h)
   ·exact .inr (.inr (Nat.le_trans hr.grows.size T))
  ·rintro⟨p,x,q1,q2,q3⟩;rw[S.redo_pl]at q1;cases hn:aget NP p with
   |some y=>
    simp only[hn]at q1;cases q1;obtain⟨q,z,j,l,o,rfl,_⟩:=aa p _ hn;rw[P q p j]at q3;rw[am8]at q2;exact b3 ⟨q,z,(R q z).2 ⟨l,o⟩,q2,q3⟩
   |none=>
    simp only[hn]at q1;split at q1
    ·rename_i hk;cases J:aget s.pl p with
     |none=>rw[J]at q1;cases q1
     |some y=>
      rw[J]at q1;simp at q1;subst q1;rw[hι p hk]at q3;rw[Pl.live_kill]at q2;have ho:Owns ι s.pl b:=⟨p,y,J,q2,q3⟩;rcases T with T|T|T
      ·exact T.2.2 ho
      ·obtain⟨q,z,j,l,o,e4⟩:=I b T
       have ag:p≠q:=λe=>by subst e;rcases j with j|j; ·rw[hk]at j;cases j
                           ·exact j hn
       exact hr.inj p q y z b J l ag q2 q3 e4
      ·have h7:=(hr.mine b ho).2;have h8:w.heap.size<=b:=T;omega
    ·cases q1
 have hrel:=hr.redoG KL NP ι' w' hι ah hg.shapes hg.os hg.tape hg.output hg.size (by
  intro p y hy;obtain⟨q,x,j,l,o,rfl,_⟩:=aa p y hy;exact akL af P (P q p j) (h2 q x ((R q x).2 ⟨l,o⟩))) (by
  intro p y b hy hb;obtain⟨q,x,j,l,o,rfl,_⟩:=aa p y hy;rw[P q p j]at hb;have aj:=(R q x).2 ⟨l,o⟩;refine⟨(h2 q x aj).lt (h5 q x aj) hb,?_⟩;rcases h4 q x b aj hb with h|h
  ·exact .inr (I b h)
  ·exact .inl h) (by
  intro p q x y b hx hy ag hb hq;obtain⟨p',x',j,l,o,rfl,_⟩:=aa p x hx;obtain⟨q',y',e4,e5,e6,rfl,_⟩:=aa q y hy;rw[P p' p j]at hb;rw[P q' q e4]at hq;refine h3 p' q' x' y' b ((R p' x').2 ⟨l,o⟩) ((R q' y').2 ⟨e5,e6⟩) (λe=>ag ?_) hb hq;subst e;rw[j]at e4;cases e4;rfl) (by
  intro p y g hy ab;obtain⟨q,x,j,l,o,rfl,e4⟩:=aa p y hy;have ad:q<U.length:=by
   rcases Nat.lt_or_ge q U.length with h|h
   ·exact h
   ·have:=ak q p h e4;rw[this,ay]at ab;cases ab
  rw[P q p j,h6 q x ad ((R q x).2 ⟨l,o⟩)];have an:U[q]? =some p:=by rw[<- ac q ad];exact e4
  obtain⟨z,e5,_⟩:=hU p (List.mem_of_getElem? an);have:=hr.hkeep p z g e5 ab;simp only[List.getD,an,Option.getD_some];exact this)
 exact⟨ι',hrel.put dst hd _ _ (apL af P h1)⟩
theorem ajZ (hr:Rel F N ι s a w)(hd: ∀k,o.dst=some k ->k<N){l:List (Nat×Pl)}(T:Rel F N ι (s.withPl l) a w){w':World}{v:Value}{r:Res}(j:gJ ⟨w,F.ok ι l w,λ_=>False,λ_=>none⟩ w' r v)(P:Grows (λ_=>False) w w'):
 ∃ι',Rel F N ι' (ajY s {s with pl:=l} o.dst r) (a.put o.dst v) w':=by
 cases g:o.dst with
 |none=>exact⟨ι,hr.grown P⟩
 |some d=>
  simp only[ajY];cases hs:r.v.scalar
  ·simp only[cond_false];have J:=hd d g;refine gw T (dst:=some d) (λk hk=>by cases hk;exact J) (U:=[]) (λp R=>by cases R) (nb:=base d) (λi=>hr.h_big (by unfold base;omega)) (M:=λ_=>False) (λb=>by simp) (h0:=λ_=>none) ?_ P ?_
   ·obtain⟨_,ιr,I,h2,h3,h4,h5,h6⟩:=j;exact⟨Nat.zero_le _,ιr,I,h2,h3,h4,h5,λp x R=>by simp at R⟩
   ·exact(gh _ _ _).2
  ·simp only[cond_true];obtain⟨_,ιr,I,_⟩:=j;exact⟨ι,(hr.grown P).put (some d) (λk hk=>by cases hk;exact hd d g) _ _ (akP hs I)⟩
theorem Rel.glb (hr:Rel F N ι s a w):Glb (F.ok ι s.pl w) w:=λk hk=>by
 obtain⟨g,m,l⟩:=hr.handed.2 k hk;obtain⟨i,j⟩:=hr.foreign k g;refine⟨⟨.inl g,Nat.lt_of_lt_of_le i hr.grows.size,λo=>?_⟩,m,?_⟩
 ·rcases(hr.mine k o).1 with h|h
  ·exact j h
  ·omega
 ·rw[ue (hr.grows.block k i j) 0];exact l
theorem XG (hr:Rel F N ι s a w)(T: ∀k,o.dst=some k ->k<N){f:FuncId}{ws:List W}{vals:List Value}(I:xP ι w (F.ok ι s.pl w) ws vals)(i:xE P f=true ->(execOp a.eval o).run P w= .ok (.enter f vals.toArray) w)
 (h:WL P o.dst f ws s K):q7 P F N o a w K:=by
 unfold WL at h;split at h
 ·rename_i ds J l;obtain⟨R,h⟩:=h;obtain⟨g1,g2,g3⟩:=gG hr I l;intro next Q U;unfold Oper.wp;rw[i R];rw[Oper.upon_enter];refine(h w (F.ok ι J w) vals ⟨λb j=>j.2.1,g1.glb⟩ (g3 _)).mono ?_;rintro e w' ⟨v,r,rfl,hk,g,p⟩;obtain⟨ι',hrel⟩:=ajZ (o:=o) hr T g1 g p;exact U ι' _ _ _ hrel hk ⟨p.size,λb j=>p.block b j (λh=>h)⟩
 ·exact h.elim
theorem km {α β:Type}(f:α ->β)(xs:Array α):xs.map f=(xs.toList.map f).toArray:=by
 cases xs;simp
theorem abQ (hr:Rel F N ι s a w)(i: ∀k,o.dst=some k ->k<N){f:FuncId}{args:Array Operand}{l:Array TypeId}(j:o.op= .call {callee:=.value (.func f),args:=args,argTypes:=l})
 (h:zF P o.dst (.call f (args.toList.map cO)) s K):q7 P F N o a w K:=by
 simp only[zF]at h;refine XG hr i (kk hr args.toList) (λg=>?_) h;simp only[execOp,j,resolve,Deferred.ofValue,Act.eval,Sem.run_bind,Sem.run_pure,Result.andThen_ok,invoke];rw[jD g,km];simp
theorem aaJ {ok:Nat ->Prop}: ∀{xs i:List W}{g vs:List Value},xP ι w ok xs g ->xP ι w ok i vs ->xP ι w ok (xs++i) (g++vs)
 | [],_,[],_,_,h=>h
 | [],_,_::_,_,h,_=>h.elim
 |_::_,_,[],_,h,_=>h.elim
 |_::_,_,_::_,_,h,j=>⟨h.1,aaJ h.2 j⟩
theorem ah4 {ok:Nat ->Prop}: ∀{g:List (List D)}{vs:List Value},RDf w ok vs g ->xP ι w ok (g.map λi=>W.c (.fp i)) vs
 | [],vs,h=>by simp only[RDf]at h;subst h;trivial
 |c::r,vs,h=>by
  simp only[RDf]at h;obtain⟨b,o,I,rfl,j,l,p⟩:=h;exact⟨⟨b,o,rfl,j,l⟩,ah4 p⟩
theorem abR (hr:Rel F N ι s a w)(J: ∀k,o.dst=some k ->k<N){x:Operand}{args:Array Operand}{U:Array TypeId}(R:o.op= .call {callee:=.value x,args:=args,argTypes:=U})
 (h:zF P o.dst (.calv (cO x) (args.toList.map cO)) s K):q7 P F N o a w K:=by
 simp only[zF]at h;have g:=xu hr x;split at h
 ·rename_i f r;rw[r]at g;obtain⟨T,i,j⟩:=g;have l:T=[]:=by simpa using i.symm
  subst l;refine XG hr J (kk hr args.toList) (λp=>?_) h;simp only[execOp,R,resolve,j,Deferred.ofValue,Sem.run_bind,Sem.run_pure,Result.andThen_ok,invoke];rw[jD p,km];simp
 ·rename_i f I r;rw[r]at g;simp only[CR,RD]at g;obtain⟨vs,i,j⟩:=g;refine XG hr J (aaJ (kk hr args.toList) (ah4 j)) (λp=>?_) h;simp only[execOp,R,resolve,i,Deferred.ofValue,Sem.run_bind,Sem.run_pure,Result.andThen_ok,invoke];rw[jD p,km];simp
 ·exact h.elim
theorem ye {α:Type}{c:Bool}{x y:α}(h:Y3 c x=some y):c=true /\x=y:=by
 cases c
 ·cases h
 ·cases h;exact⟨rfl,rfl⟩
theorem Zj {α:Type}{x:Option α}(h:isSome x=true): ∃y,x=some y:=by
 cases x with
 |none=>cases h
 |some y=>exact⟨y,rfl⟩
theorem aj2 (P:Program)(w:World){m:String}{t f:Nat}(h:abe P m t=some f)(v:Value)(n:Nat):(method (n+1) t v m).run P w= .ok (f,v) w:=by
 obtain⟨r,i,x,g,j,l,o,p⟩:=alk h;unfold method;simp[typeInfo,j,l,o,p,follow,receiverAt,run_underlying g,Place.get]
theorem amg (hr:Rel F N ι s a w)(I: ∀k,o.dst=some k ->k<N){x:Operand}{m:String}{n:Nat}{args:Array Operand}{ts:Array TypeId}(T:o.op= .call {callee:=.invoke x m,args:=args,argTypes:=ts})
 (h:zF P o.dst (.inv (Ua P m n) (cO x) (args.toList.map cO)) s K):q7 P F N o a w K:=by
 simp only[zF]at h;have i:=xu hr x;split at h
 ·rename_i u l R;rw[R]at i;simp only[CR,RD]at i;obtain⟨vs,U,g⟩:=i;split at h
  ·rename_i f J;have hi:=Ku J;refine XG hr I (ws:=.agg (l.map .d)::(args.toList.map cO).map s.ow) (vals:=.agg vs.toArray::args.toList.map a.eval) ⟨⟨vs,rfl,ab5 g⟩,kk hr args.toList⟩ (λr=>?_) h;simp only[execOp,T,resolve,U,Sem.run_bind,Sem.run_pure,Result.andThen_ok,invoke];have j:(#[Value.iface u (Value.agg vs.toArray)]++args.map a.eval)[0]? =some (.iface u (.agg vs.toArray)):=by rw[<- Array.getElem?_toList,Array.toList_append];rfl
   have p:(#[Value.iface u (Value.agg vs.toArray)]++args.map a.eval).extract 1 (#[Value.iface u (Value.agg vs.toArray)]++args.map a.eval).size=args.map a.eval:=by
    apply Array.toList_inj.1;simp;exact List.take_of_length_le (by simp)
   rw[j];simp only[p,callMethod,Sem.run_bind];rw[show Sem.run P program w= .ok P w from rfl,Result.andThen_ok,show P.types.size+Made.depth=(P.types.size+99)+1 from rfl,aj2 P w hi,Result.andThen_ok,jD r];congr 2
   apply Array.toList_inj.1;simp
  ·exact h.elim
 ·exact h.elim
theorem J8 (hr:Rel F N ι s a w)(r: ∀k,o.dst=some k ->k<N){x:AOp}(j:cOp P o.op o.type=some x)(h:zF P o.dst x s K):yW P F N o a w K:=by
 unfold cOp at j;split at j
 ·rename_i y p;cases j;exact(Vj hr r (.inl p) h).fine trivial
 ·rename_i y p;cases j;exact(Vj hr r (.inr p) h).fine trivial
 ·rename_i c y z p;cases j;exact(abU hr r p h).fine trivial
 ·rename_i t p;cases j;exact(gC hr r p h).fine
 ·rename_i t y p;cases j;exact(agY hr r p h).fine
 ·rename_i t parts p;split at j
  ·rename_i fs l T hl;obtain⟨I,rfl⟩:=ye j;rw[Bool.and_eq_true]at I;exact(gD hr r p T hl I.1 I.2 h).fine trivial
  ·cases j
 ·rename_i t n parts p;split at j
  ·rename_i e R;obtain⟨I,rfl⟩:=ye j;simp only[Bool.and_eq_true]at I;exact(abT hr r p R I.1.1.1.1 I.1.1.1.2 I.1.1.2 I.1.2 I.2 h).fine
  ·cases j
 ·rename_i t y p;split at j
  ·rename_i g R;cases j;exact(ag1 hr r p R h).fine (wL.refl _)
  ·cases j
 ·rename_i t y z p;obtain⟨I,rfl⟩:=ye j;obtain⟨i,hi⟩:=Zj I;exact an3 hr p hi h
 ·rename_i y p;cases j;exact(ag4 hr r p h).fine trivial
 ·rename_i aa dst y p;cases h1:xQ P aa false&&xQ P dst true
  ·rw[h1]at j;cases h2:xQ P aa true&&xQ P dst false
   ·rw[h2]at j;simp only[cond_false]at j;cases h3:XL P aa dst y with
    |none=>simp only[h3]at j;cases j;exact(qJ hr r (by rw[p];rfl) h).fine trivial
    |some z=>simp only[h3]at j;cases j;exact(abS hr r p h3 h).2.fine trivial
   ·rw[h2]at j;cases j;rw[Bool.and_eq_true]at h2;exact(ad7 hr r p h2.1 h2.2 h).fine
  ·rw[h1]at j;cases j;rw[Bool.and_eq_true]at h1;exact(adY hr r p h1.1 h1.2 h).fine (wL.refl _)
 ·rename_i f first af p
  obtain⟨I,rfl⟩:=ye j;exact amd hr r p I h
 ·rename_i t n c p;split at j
  ·rename_i e R;split at j
   ·rename_i z ae hz;obtain⟨I,rfl⟩:=ye j;rw[Bool.and_eq_true]at I;exact(ag2 hr r p R hz I.1 I.2 h).fine
   ·cases j
  ·cases j
 ·rename_i t y lo hi mx p;split at j
  ·rename_i T;cases j;exact(aea hr r p T h).fine trivial
  ·rename_i e T;obtain⟨I,rfl⟩:=ye j;obtain⟨i,ab⟩:=Zj I;exact(ad9 hr r p T ab h).fine trivial
  ·cases j
 ·rename_i t y f p;split at j
  ·rename_i off ft R;obtain⟨I,rfl⟩:=ye j;exact(agZ hr r p R I h).fine trivial
  ·cases j
 ·rename_i t y f p;split at j
  ·rename_i off ft R;split at j
   ·rename_i g hg;cases j;exact(ad4 hr r p R hg h).fine trivial
   ·cases j
  ·cases j
 ·rename_i t y i p;split at j
  ·rename_i e R;obtain⟨I,rfl⟩:=ye j;exact(ag0 hr r p R I h).fine trivial
  ·cases j
 ·rename_i t y i p;split at j
  ·rename_i T;cases j;exact(ad8 hr r p T h).fine trivial
  ·cases j
 ·rename_i y i p;cases j;exact(ad3 hr r p h).fine trivial
 ·rename_i args ts p;split at j
  ·rename_i y t J U;split at j
   ·rename_i e R;cases j;exact(ad6 hr r p J U R h).fine trivial
   ·cases h3:W6 P t y with
    |none=>simp only[h3]at j;cases j;exact(qJ hr r (by rw[p];rfl) h).fine trivial
    |some z=>simp only[h3]at j;cases j;exact(abV hr r p J U h3 h).2.fine trivial
  ·cases j
 ·rename_i args ts p;split at j
  ·rename_i y z t u J U;split at j
   ·rename_i e e' R T;obtain⟨I,rfl⟩:=ye j;rw[Bool.and_eq_true]at I;exact al9 hr r p J U R T I.1 I.2 h
   ·rename_i e k R T;split at j
    ·rename_i zz ae ad;obtain⟨I,rfl⟩:=ye j;simp only[Bool.and_eq_true]at I;exact akn hr r p J U R T I.1.1 ad I.1.2 I.2 h
    ·cases j
   ·rename_i e R T;obtain⟨I,rfl⟩:=ye j;rw[Bool.and_eq_true]at I;exact akm hr r p J U R T I.1 I.2 h
   ·cases j
  ·cases j
 ·rename_i f args ts p;cases j;exact(abQ hr r p h).fine
 ·rename_i y args ts p ac;cases j;exact(abR hr r ac h).fine
 ·rename_i b args ts h1 h2 p;cases hm:KH b args.toList with
  |some y=>simp only[hm]at j;cases j;exact(ag3 hr r p hm h).fine trivial
  |none=>
   simp only[hm]at j;cases hb:Qv P b args.toList ts.toList with
   |some y=>simp only[hb]at j;cases j;exact amb hr r p hb h
   |none=>simp only[hb]at j;cases j;exact(qJ hr r (by rw[p];rfl) h).fine trivial
 ·rename_i b t y z u p;cases hn:Up P b t z with
  |some neg=>simp only[hn]at j;cases j;exact(ad5 hr r p hn h).fine trivial
  |none=>
  simp only[hn]at j;cases h3:WT P b t y z with
  |some q=>simp only[h3]at j;cases j;exact(ad2 hr r p h3 h).2.fine trivial
  |none=>
  simp only[h3]at j;cases h4:Qu P b t y z with
  |some q=>simp only[h4]at j;cases j;exact(adZ hr r p h4 h).2.fine trivial
  |none=>
  simp only[h4]at j;cases h1:Jb b&&kz P t
  ·rw[h1]at j;cases j;exact(qJ hr r (by rw[p];rfl) h).fine trivial
  ·rw[h1]at j;cases j;exact(ad0 hr r p h).fine trivial
 ·rename_i u t y p;cases h4:Vk P u t y with
  |some q=>simp only[h4]at j;cases j;exact(ag5 hr r p h4 h).2.fine trivial
  |none=>simp only[h4]at j;cases j;exact(qJ hr r (by rw[p];rfl) h).fine trivial
 ·rename_i t y p;split at j
  ·rename_i fs T;cases j;exact amh hr r p T h
  ·cases j;exact h.elim
 ·rename_i y u t c p;split at j
  ·rename_i fs T;obtain⟨I,rfl⟩:=ye j;rw[Bool.and_eq_true]at I;exact ama hr r p T I.1 I.2 h
  ·cases j;exact h.elim
 ·rename_i y m args ts p;cases j;exact(amg hr r p h).fine
 ·cases j
 ·cases j;exact h.elim
theorem Zc {pl:List (Nat×Pl)}: ∀(l U:List Nat),(U.Nodup /\ ∀p∈U,∃x,aget pl p=some x /\x.live=true) ->(xY pl U l).Nodup /\ ∀p∈xY pl U l,∃x,aget pl p=some x /\x.live=true
 | [],U,h=>h
 |p::r,U,h=>by
  have step: ∀x,aget pl p=some x ->x.live=true ->(bif isin p U then xY pl U r else xY pl (U++[p]) r).Nodup /\ ∀q∈(bif isin p U then xY pl U r else xY pl (U++[p]) r),∃x,aget pl q=some x /\x.live=true:=λx R J=>by
   cases hi:isin p U
   ·have P:p∉U:=λh=>by rw[(zV p U).2 h]at hi;cases hi
    refine Zc r (U++[p]) ⟨?_,λq g=>?_⟩
    ·rw[List.nodup_append];exact⟨h.1,by simp,λa I b j=>by simp at j;subst j;exact λe=>P (e▸I)⟩
    ·rcases List.mem_append.1 g with g|g
     ·exact h.2 q g
     ·simp at g;subst g;exact⟨x,R,J⟩
   ·exact Zc r U h
  unfold xY;split
  ·rename_i T i;exact step _ i rfl
  ·rename_i z o i;exact step _ i rfl
  ·exact Zc r U h
theorem Jd {pl:List (Nat×Pl)}: ∀(n i:Nat) (U:List Nat),(U.Nodup /\ ∀p∈U,∃x,aget pl p=some x /\x.live=true) ->(QG pl n i U).Nodup /\ ∀p∈QG pl n i U,∃x,aget pl p=some x /\x.live=true
 |0,_,U,h=>h
 |n+1,i,U,h=>by
  unfold QG;split
  ·split
   ·exact Jd n (i+1) _ (Zc _ U h)
   ·exact Jd n (i+1) U h
  ·exact h
theorem g9: ∀{U:List Nat}{p k:Nat},JE p U=some k ->U[k]? =some p
 | [],p,k,h=>by simp[JE]at h
 |q::r,p,k,h=>by
  unfold JE at h;by_cases e:q=p
  ·subst e;rw[qC]at h;cases h;rfl
  ·rw[y7 e]at h;simp only[cond_false]at h;split at h
   ·rename_i i hi;cases h;simpa using g9 hi
   ·cases h
theorem adx: ∀{U:List Nat}{p k:Nat},U.Nodup ->U[k]? =some p ->JE p U=some k
 | [],p,k,_,h=>by simp at h
 |q::r,p,0,g,h=>by simp at h;subst h;simp[JE]
 |q::r,p,k+1,g,h=>by
  rw[List.nodup_cons]at g;have hr:r[k]? =some p:=by simpa using h
  have i:q≠p:=λe=>by subst e;exact g.1 (List.mem_of_getElem? hr)
  unfold JE;rw[y7 i,adx g.2 hr];rfl
theorem aoh (hr:Rel F N ι s a w){ok':Nat ->Prop}(hk:zW w w (F.ok ι s.pl w) ok'){U:List Nat}{ι':Nat ->Gh}(hι: ∀k p,U[k]? =some p ->ι' k=ι p){c:C}{v:Value}(g:CR ι w (F.ok ι s.pl w) c v):CR ι' w ok' (c.pk s.pl U) v:=by
 cases c with
 |d x=>exact RD.keep hk _ _ g
 |nil=>exact g
 |fp l=>exact CR.keep (ι:=ι') hk (zU.refl w) (.fp l) v g
 |clo f I=>cases I with
  |nil=>
   obtain⟨bs,r,P⟩:=g;have aa:bs=[]:=by simpa using r.symm
   subst aa;simp only[C.pk,CR,RD,RDf];exact⟨[],P,rfl⟩
  |cons _ _=>trivial
 |dead=>trivial
 |sub _ _ _ _=>trivial
 |eptr p z i k=>trivial
 |ptr p o=>
  simp only[C.pk];split
  ·split
   ·rename_i k j;simp only[CR,hι k p (g9 j)];exact g
   ·trivial
  ·rename_i ds hp;obtain⟨b,R,e2⟩:=g;obtain⟨b',T,e4,e5⟩:=hr.places p _ hp;rw[R]at T;cases T;have e5:=RDc.drop o e5;rw[Nat.zero_add]at e5;exact⟨b,o,e2,(hk b e4).1,RDc.keep hk b e4 _ _ e5⟩
  ·trivial
 |own p sz n=>
  simp only[C.pk];split
  ·split
   ·rename_i k j;simp only[CR,hι k p (g9 j)];exact g
   ·trivial
  ·rename_i z J hp;obtain⟨hn,⟨r,P,h3,h4⟩|⟨b,cap,t,r,P,h3,h4,h5,h6⟩⟩:=KO hr hp g
   ·subst r;subst P;subst h4;simp only[CR,RD];exact⟨none,0,0,rfl,rfl,Nat.le_refl _,Nat.zero_le _,.inl (by simp)⟩
   ·have ab:=hr.places p _ hp;obtain⟨_,_,hf|⟨b',R,e2,T,e4⟩⟩:=ab
    ·rw[r]at hf;cases hf.1
    ·rw[r]at R;cases R;have:RD w (F.ok ι s.pl w) (.sl (J.take n)) v:=by
      subst P;simp only[RD];exact⟨_,_,_,rfl,by simp;omega,h3,h4,.inr ⟨b,0,z,rfl,T rfl,RDs.take n e2⟩⟩
     exact CR.keep (ι:=ι') hk (zU.refl w) (.d (.sl (J.take n))) v this
  ·trivial
theorem afb (hr:Rel F N ι s a w){ok':Nat ->Prop}(hk:zW w w (F.ok ι s.pl w) ok'){U:List Nat}{ι':Nat ->Gh}(i: ∀k p,U[k]? =some p ->ι' k=ι p): ∀{g:List C}{vs:List Value},CRs ι w (F.ok ι s.pl w) g vs ->CRs ι' w ok' (g.map (C.pk s.pl U)) vs
 | [],[],_=>trivial
 | [],_::_,h=>h.elim
 |_::_,[],h=>h.elim
 |_::_,_::_,h=>⟨aoh hr hk i h.1,afb hr hk i h.2⟩
theorem aoi (hr:Rel F N ι s a w){ok':Nat ->Prop}(hk:zW w w (F.ok ι s.pl w) ok'){U:List Nat}{ι':Nat ->Gh}(g: ∀k p,U[k]? =some p ->ι' k=ι p){x:W}{v:Value}(h:WR ι w (F.ok ι s.pl w) x v):WR ι' w ok' (x.pk s.pl U) v:=by
 cases x with
 |c x=>exact aoh hr hk g h
 |agg l=>obtain⟨vs,i,j⟩:=h;exact⟨vs,i,afb hr hk g j⟩
theorem afi (hr:Rel F N ι s a w){ok':Nat ->Prop}(hk:zW w w (F.ok ι s.pl w) ok'){U:List Nat}{ι':Nat ->Gh}(i: ∀k p,U[k]? =some p ->ι' k=ι p): ∀{g:List W}{vs:List Value},xP ι w (F.ok ι s.pl w) g vs ->xP ι' w ok' (g.map (W.pk s.pl U)) vs
 | [],[],_=>trivial
 | [],_::_,h=>h.elim
 |_::_,[],h=>h.elim
 |_::_,_::_,h=>⟨aoi hr hk i h.1,afi hr hk i h.2⟩
theorem aqz (hr:Rel F N ι s a w){ok':Nat ->Prop}(hk:zW w w (F.ok ι s.pl w) ok'){U:List Nat}{ι':Nat ->Gh}(g: ∀k p,U[k]? =some p ->ι' k=ι p){x:V}{v:Value}(h:VR ι w (F.ok ι s.pl w) x v):VR ι' w ok' (x.pk s.pl U) v:=by
 cases x with
 |w x=>exact aoi hr hk g h
 |tup l=>obtain⟨vs,i,j⟩:=h;exact⟨vs,i,afi hr hk g j⟩
theorem Vc (pl:List (Nat×Pl))(U:List Nat): ∀(l:List Nat) (k i:Nat),(vZ pl U k l)[i]? =(l[i]?).map λp=>VH pl U (k+i) p
 | [],k,i=>by simp[vZ]
 |p::r,k,0=>by simp[vZ]
 |p::r,k,i+1=>by
  simp only[vZ,List.getElem?_cons_succ,Vc pl U r (k+1) i];rw[show k+1+i=k+(i+1)by omega]
theorem KR (pl:List (Nat×Pl))(U:List Nat): ∀(l:List Nat) (k:Nat),(vZ pl U k l).length=l.length
 | [],_=>rfl
 |_::r,k=>by simp[vZ,KR pl U r (k+1)]
theorem KQ (hr:Rel F N ι s a w){ok':Nat ->Prop}(hk:zW w w (F.ok ι s.pl w) ok'){U:List Nat}{ι':Nat ->Gh}(l: ∀k p,U[k]? =some p ->ι' k=ι p){k p:Nat}(o:U[k]? =some p)(j:(VH s.pl U k p).isGone=false):
 JE p U=some k /\(∃x,aget s.pl p=some x /\x.live=true)/\PR ι' w ok' k (VH s.pl U k p)/\(VH s.pl U k p).live=true:=by
 unfold VH at j⊢;split at j
 case h_2=>cases j
 rename_i i hi;cases T:Nat.beq i k
 ·rw[T]at j;cases j
 ·have aa:=Nat.eq_of_beq_eq_true T;subst aa;rw[T]at j;simp only[cond_true]at j;split at j
  ·rename_i cs g;refine⟨hi,⟨_,g,rfl⟩,?_⟩;obtain⟨b,r,I,J,P⟩:=hr.places p _ g;exact⟨⟨b,r,by rw[l i p o];exact I,J,afb hr hk l P⟩,rfl⟩
  ·rename_i z R g;refine⟨hi,⟨_,g,rfl⟩,?_⟩;refine⟨?_,rfl⟩;obtain⟨h0,hn,hf|⟨b,I,J,P,e4⟩⟩:=hr.places p _ g
   ·exact⟨h0,by rw[l i p o];exact hn,.inl (by rw[l i p o];exact hf)⟩
   ·exact⟨h0,by rw[l i p o];exact hn,.inr ⟨b,by rw[l i p o];exact I,RDs.keep' hk b z R 0 (λ_ _ _=>rfl) J,λhf=>(hk b (P hf)).1,e4⟩⟩
  ·cases j
theorem anh (dst:Option Nat)(U:List Nat):600000<=ZA dst U:=by
 unfold ZA;cases dst with
 |some d=>simp only[base];omega
 |none=>cases U with
  |nil=>simp only[];omega
  |cons p r=>simp only[];omega
theorem ahX (hr:Rel F N ι s a w)(hd: ∀k,o.dst=some k ->k<N){f:FuncId}{args:Array Operand}{ts:Array TypeId}(ho:o.op= .call {callee:=.value (.func f),args:=args,argTypes:=ts})
 (h:zF P o.dst (.callh f (args.toList.map cO)) s K):yW P F N o a w K:=by
 simp only[zF,aaK]at h
 let U:=wI s.pl [] (jC ((args.toList.map cO).map s.ow))
 have hU:U.Nodup /\ ∀p∈U,∃x,aget s.pl p=some x /\x.live=true:=Jd 40 0 _ (Zc _ [] ⟨List.nodup_nil,λ_ h=>by cases h⟩)
 let ι0:Nat ->Gh:=λi=>ι (U.getD i 0)
 have l: ∀k p,U[k]? =some p ->ι0 k=ι p:=λk p hp=>by simp only[ι0,List.getD,hp,Option.getD_some]
 have ae:zW w w (F.ok ι s.pl w) (F.ok ι s.pl w):=λb R=>⟨R,rfl⟩
 obtain⟨hc,h⟩:=h;have aj:=afi hr ae l (kk hr args.toList);have g: ∀i x,(vZ s.pl U 0 U)[i]? =some x -> ∃p,U[i]? =some p /\x=VH s.pl U i p /\x.isGone=false:=λi x hx=>by
  rw[Vc,Nat.zero_add]at hx;cases hp:U[i]? with
  |none=>rw[hp]at hx;cases hx
  |some p=>
   rw[hp]at hx;simp at hx;refine⟨p,rfl,hx.symm,?_⟩;subst hx;obtain⟨y,I,J⟩:=hU.2 p (List.mem_of_getElem? hp);have hi:=adx hU.1 hp;unfold VH;simp only[hi,qC,cond_true,I];cases y with
   |box cs=>rfl
   |arr z ak fz=>cases fz<;>first|rfl|cases J
   |fbox ds=>cases J
   |gone=>cases J
 have hM: ∀b,Yf ι0 (vZ s.pl U 0 U) b↔ ∃p∈U,(ι p).b=some b:=λb=>by
  constructor
  ·rintro⟨i,x,h1,h2⟩;obtain⟨p,I,_,_⟩:=g i x h1;rw[l i p I]at h2;exact⟨p,List.mem_of_getElem? I,h2⟩
  ·rintro⟨p,hp,e⟩;obtain⟨i,hi,ai⟩:=List.getElem_of_mem hp;have ad:U[i]? =some p:=by rw[List.getElem?_eq_getElem hi,ai]
   exact⟨i,VH s.pl U i p,by rw[Vc,ad,Nat.zero_add];rfl,by rw[l i p ad];exact e⟩
 have aa: ∀b,Yf ι0 (vZ s.pl U 0 U) b ->Owns ι s.pl b:=λb R=>by
  obtain⟨p,hp,e⟩:=(hM b).1 R;obtain⟨x,I,J⟩:=hU.2 p hp;exact⟨p,x,I,J,e⟩
 have ac:=h w (F.ok ι s.pl w) ι0 (args.toList.map a.eval) (λb R=>⟨R.2.1,λhh=>R.2.2 (aa b hh)⟩) ⟨λb R=>(hr.mine b (aa b R)).2,hr.glb⟩
  (λi x hx=>by
   obtain⟨p,I,J,e3⟩:=g i x hx;subst J;obtain⟨_,_,g1,g2⟩:=KQ hr ae l I e3;exact⟨g1,g2⟩)
  (λi j x y b hx hy ag R hj=>by
   obtain⟨p,I,_,_⟩:=g i x hx;obtain⟨q,J,_,_⟩:=g j y hy;rw[l i p I]at R;rw[l j q J]at hj;obtain⟨x',e3,e4⟩:=hU.2 p (List.mem_of_getElem? I);obtain⟨y',e5,e6⟩:=hU.2 q (List.mem_of_getElem? J);refine hr.inj p q x' y' b e3 e5 (λe=>ag ?_) e4 R hj;subst e;obtain⟨k1,k2⟩:=List.getElem?_eq_some_iff.1 I;obtain⟨l1,l2⟩:=List.getElem?_eq_some_iff.1 J;exact(List.getElem_inj hU.1).1 (k2.trans l2.symm))
  aj
 intro next Q hn;unfold Oper.wp;have af:(execOp a.eval o).run P w= .ok (.enter f (args.toList.map a.eval).toArray) w:=by
  simp only[execOp,ho,resolve,Deferred.ofValue,Act.eval,Sem.run_bind,Sem.run_pure,Result.andThen_ok,invoke];rw[jD hc,km];simp
 rw[af,Oper.upon_enter];refine ac.mono ?_;rintro e w' ⟨v,r,rfl,hk,ab,hg⟩;cases T:QM U (ZA o.dst U) r
 ·have hk:cond (QM U (ZA o.dst U) r) (K (kJ s U (ZA o.dst U) o.dst r)) False:=hk;rw[T]at hk;exact hk.elim
 ·have hk:cond (QM U (ZA o.dst U) r) (K (kJ s U (ZA o.dst U) o.dst r)) False:=hk;rw[T]at hk;have ah: ∀i,F.h (ZA o.dst U+i)=none:=λi=>hr.h_big (Nat.le_trans (anh o.dst U) (Nat.le_add_right _ _))
  rw[KR]at ab;obtain⟨ι',hrel⟩:=gw hr hd hU.2 ah hM (h0:=λ_=>none) ab hg T;exact hn ι' _ _ _ hrel hk
def Cop (P:Program)(o:Oper)(x:AOp):Prop:= ∃b,Yo P b o.op o.type=some x
theorem adp (hr:Rel F N ι s a w)(j: ∀k,o.dst=some k ->k<N){x:AOp}(R:Cop P o x)(h:zF P o.dst x s K):yW P F N o a w K:=by
 obtain⟨b,g⟩:=R;cases b
 ·exact J8 hr j g h
 ·simp only[Yo,cond_true]at g;unfold amM at g;split at g
  ·rename_i f first I l
   obtain⟨p,rfl⟩:=ye g;exact ako hr j l p h
  ·rename_i f args T l;cases g;exact ahX hr j l h
  ·rename_i t x lo hi l;split at g
   ·rename_i e J;obtain⟨p,rfl⟩:=ye g;obtain⟨i,r⟩:=Zj p;exact(ami hr j l J r h).fine trivial
   ·exact J8 hr j g h
  ·exact J8 hr j g h
end
theorem Act.put_same {a:Act}{d:Nat}{x:Value}(h:a.tmps[d]? =some x):a.put (some d) x=a:=by
 cases a with
 |mk tmps defers=>
  simp only[Act.put]at h⊢;congr 1
  grind
section
variable {P:Program}{F:Fr}{N:Nat}{ι:Nat ->Gh}{s:S}{a:Act}{w:World}{K:S ->Prop}
theorem Rel.drop (hr:Rel F N ι s a w)(l:List Nat):Rel F N ι (s.drop l) a w:=
 hr.sub _ (λ_ _ h=>(QU _ _ _ _ h).1) (λ_ _ h=>h)
theorem Rel.norm (hr:Rel F N ι s a w)(g:List Nat):Rel F N ι (s.norm g) a w:=
 hr.sub _ (λ_ _ h=>(QU _ _ _ _ h).1) (λ_ _ h=>(QU _ _ _ _ h).1)
theorem Rel.look (hr:Rel F N ι s a w){d:Nat}{v:V}(h:s.tmp d=v)(i:v≠ajr): ∃x,a.tmps[d]? =some x /\VR ι w (F.ok ι s.pl w) v x:=by
 unfold S.tmp at h;split at h
 ·rename_i v' g;subst h;exact hr.slots d _ g
 grind
theorem adm (hr:Rel F N ι s a w){d:Nat}{b:Bool}(h:s.tmp d=zZ b):a.tmps[d]? =some (.bool b):=by
 obtain⟨x,g,i⟩:=hr.look h (by intro h;cases h);rw[g];exact congrArg some i.1
theorem gq {v:V}{b:Bool}(h:yi v=some b):v=zZ b:=by
 unfold yi at h;split at h
 ·cases h;rfl
 ·cases h
theorem Zr (hr:Rel F N ι s a w){dst:Option Nat}(l: ∀k,dst=some k ->k<N){g:Bool}(h:split g dst s K): ∃j,Rel F N ι j a w /\K j:=by
 unfold split at h;cases g with
 |false=>grind
 |true=>
  simp only[cond_true]at h;cases dst with
  |none=>grind
  |some d=>
   simp only at h;cases i:yi (s.tmp d)with
   |none=>grind
   |some b=>
    rw[i]at h;have i:=gq i;have p:=adm hr i;have o:=hr.put (some d) l (zZ b) (.bool b) ⟨rfl,rfl⟩
    grind[Act.put_same]
theorem ala {o:Oper}(h:ae1 N o.dst=true): ∀k,o.dst=some k ->k<N:=by
 intro k hk;rw[hk]at h;exact Nat.le_of_ble_eq_true h
theorem akG {ops:Array Oper}{j d:Nat}(h:ae0 ops.toList j=some d)(tmps:Array Value):yielded ops tmps j=match tmps[d]? with|some (.bool b)=>some b|_=>none:=by
 grind[ae0,yielded]
theorem Jo (hr:Rel F N ι s a w){ops:Array Oper}{o:Oper}{x:AOp}{g:Option (Nat×Bool)}(p:jh ops.toList o.guard=some g)
 {r:Bool}{drop:List Nat}{rest:List AI}(h:zN P (.mk o.dst g r x drop::rest) s K):
 (Region.wanted o (yielded ops a.tmps)=true /\zF P o.dst x s λs1=>split r o.dst s1 λs2=>zN P rest (s2.drop drop) K)\/
 (Region.wanted o (yielded ops a.tmps)=false /\zN P rest ((s.put o.dst xS).drop drop) K):=by
 cases i:o.guard with
 |none=>
  grind[jh,zN,yU,Region.wanted]
 |some jw=>
  obtain⟨j,I⟩:=jw;rw[i]at p;simp only[jh]at p;cases l:ae0 ops.toList j with
  |none=>grind
  |some d=>
   rw[l]at p;simp only[Option.some.injEq]at p;subst p;have J:=akG l a.tmps;simp only[zN]at h;split at h
   ·rename_i b R;have T:=adm hr R;rw[T]at J;simp only at J
    cases b<;>cases I<;>simp only[Bool.not_true,Bool.not_false,cond_true,cond_false,yU]at h<;>
     first
      |exact .inl ⟨by simp[Region.wanted,i,J],h⟩
      |exact .inr ⟨by simp[Region.wanted,i,J],h⟩
   ·rename_i R;obtain⟨v,h1,U⟩:=hr.look R (by intro h;cases h);obtain⟨vs,h3,h4⟩:=U<;>grind[yU,Region.wanted]
   grind
theorem gK (ι:Nat ->Gh)(w:World)(ok:Nat ->Prop):VR ι w ok xS undef:=⟨[],rfl,trivial⟩
theorem afu {ops:Array Oper}{hs gs:List Nat}{Q:Exit ->Act ->World ->Prop}(hQ: ∀ι s a w,Rel F N ι s a w ->K s ->Q .normal a w):
 ∀(l:List Nat) (xs:List AI),j8 P N hs ops.toList gs l=some (xs.map AI.erase) -> ∀(ι:Nat ->Gh) (s:S) (a:Act) (w:World),Rel F N ι s a w ->zN P xs s K ->wpOps P ops Q l a w:=by
 intro l;induction l with
 |nil=>
  intro xs j ι s a w hr h;cases xs with
  |nil=>exact hQ ι s a w hr h
  |cons x r=>grind[j8]
 |cons i l ih=>
  intro xs j ι s a w hr h;simp only[j8]at j;split at j
  case h_2=>cases j
  rename_i o ho;have T:ops[i]? =some o:=by grind
  cases hd:ae1 N o.dst with
  |false=>grind
  |true=>
   rw[hd]at j;simp only[cond_true]at j;split at j
   case h_2=>cases j
   rename_i x g ys ab hg I;cases xs with
   |nil=>grind
   |cons y rest=>
    cases y with
    |mk d1 g1 ac ad drop=>
     simp only[Option.some.injEq,List.map_cons,AI.erase,List.cons.injEq,AI.mk.injEq,and_true]at j;obtain⟨⟨rfl,rfl,rfl,rfl⟩,rfl⟩:=j;have p:=ala hd;simp only[wpOps,T];rcases Jo hr hg h with⟨hw,J⟩|⟨hw,J⟩
     ·rw[if_pos hw];refine .inl (adp hr p ⟨_,ab⟩ J _ _ λι1 s1 a1 w1 U hk=>?_);obtain⟨s2,aa,R⟩:=Zr U p hk;exact ih rest I ι1 _ a1 w1 (aa.drop drop) R
     ·rw[if_neg (by grind)];exact ih rest I ι _ _ w ((hr.put o.dst p xS undef (gK _ _ _)).drop drop) J
theorem X1 (n:Nat): ∀i,zJ i n=List.range' i n:=by
 induction n<;>grind[zJ,List.range'_succ]
end
theorem akE {P:Program}{Q:Exit ->Act ->World ->Prop}{a:Act}{w:World}{c:Code}{σ:Type}(I:σ ->Act ->World ->Prop)(μ:σ ->Nat)(x₀:σ)(h₀:I x₀ a w)
 (round: ∀x a w,I x a w ->c.wp P (Exit.then (λo w'=> ∃x',I x' o w' /\μ x'<μ x) Q) a w):(Code.loop c).wp P Q a w:=by
 intro b k J
 have key: ∀n x a w,μ x=n ->I x a w ->
  ∃e o w',Q e o w' /\Arrives P (lone (b.at a (.code c:: .inLoop c::k)) J w) b k J e o w':=by
  intro n;induction n using Nat.strongRecOn with
  |_ n ih=>
   intro x a w hn hI;obtain⟨e,p,r,i,g⟩:=round x a w hI b (.inLoop c::k) J;cases e with
   |normal=>
    obtain⟨x₁,R,T⟩:=i;obtain⟨e₂,a₂,w₂,U,j⟩:=ih (μ x₁) (hn▸T) x₁ p r rfl R;exact⟨e₂,a₂,w₂,U,.of_steps (Steps.trans g (.one step_inLoop)) j⟩
   |exit id=>exact⟨_,p,r,i,.pass (x:=.inLoop c) rfl (λ_ _=>.inl (by simp)) g⟩
   |goto l=>exact⟨_,p,r,i,.pass (x:=.inLoop c) rfl (λ_ _=>.inl (by simp)) g⟩
   |ret=>exact⟨_,p,r,i,.pass (x:=.inLoop c) rfl (λ_ _=>.inl (by simp)) g⟩
   |panic ch=>exact⟨_,p,r,i,.pass (x:=.inLoop c) rfl (λ_ _=>.inl (by simp)) g⟩
   |outgrown=>exact⟨_,p,r,i,.pass (x:=.inLoop c) rfl (λ_ _=>.inl (by simp)) g⟩
 obtain⟨e,o,w',i,g⟩:=key _ x₀ a w rfl h₀;exact⟨e,o,w',i,.of_steps (.one step_loop) g⟩
section
variable {P:Program}{F:Fr}{N:Nat}
def Vis (F:Fr)(N:Nat)(K:S ->Prop)(a:Act)(w:World):Prop:= ∃ι s,Rel F N ι s a w /\K s
def up (F:Fr)(N:Nat)(Q:E ->S ->Prop):Exit ->Act ->World ->Prop
 | .normal=>Vis F N (Q .normal)
 | .exit i=>Vis F N (Q (.exit i))
 | .ret=>Vis F N (Q .ret)
 |_=>λ_ _=>False
end
section
variable {P:Program}{F:Fr}{N:Nat}{ι:Nat ->Gh}{s:S}{a:Act}{w:World}{o:Oper}{K:S ->Prop}
def Cw (x:AOp)(w w':World):Prop:=x.reads=true ->wL w w'
theorem zx.weak {C g:World ->Prop}(h:zx P F N o a w C K)(p: ∀w',g w' ->C w'):zx P F N o a w g K:=
 let⟨v,ι',I,i,j,l⟩:=h
 ⟨v,ι',I,λw' r=>i w' (p w' r),j,l⟩
theorem ajf (hr:Rel F N ι s a w)(r: ∀k,o.dst=some k ->k<N){x:AOp}(j:cOp P o.op o.type=some x)(I:x.quiet=true)(h:zF P o.dst x s K):zx P F N o a w (Cw x w) K:=by
 unfold cOp at j;split at j
 ·rename_i y p;cases j;exact(Vj hr r (.inl p) h).weak λ_ _=>trivial
 ·rename_i y p;cases j;exact(Vj hr r (.inr p) h).weak λ_ _=>trivial
 ·rename_i c y z p;cases j;exact(abU hr r p h).weak λ_ _=>trivial
 ·cases j;cases I
 ·cases j;cases I
 ·rename_i t parts p;split at j
  ·rename_i fs l hu hl;obtain⟨J,rfl⟩:=ye j;rw[Bool.and_eq_true]at J;exact(gD hr r p hu hl J.1 J.2 h).weak λ_ _=>trivial
  ·cases j
 ·split at j
  ·obtain⟨_,rfl⟩:=ye j;cases I
  ·cases j
 ·rename_i t y p;split at j
  ·rename_i g ht;cases j;exact(ag1 hr r p ht h).weak λ_ J=>J rfl
  ·cases j
 ·obtain⟨_,rfl⟩:=ye j;cases I
 ·rename_i y p;cases j;exact(ag4 hr r p h).weak λ_ _=>trivial
 ·rename_i aa dst y p;cases U:xQ P aa false&&xQ P dst true
  ·rw[U]at j;cases h2:xQ P aa true&&xQ P dst false
   ·rw[h2]at j;simp only[cond_false]at j;cases R:XL P aa dst y with
    |none=>simp only[R]at j;cases j;exact(qJ hr r (by rw[p];rfl) h).weak λ_ _=>trivial
    |some z=>simp only[R]at j;cases j;exact(abS hr r p R h).2.weak λ_ _=>trivial
   ·rw[h2]at j;cases j;cases I
  ·rw[U]at j;cases j;rw[Bool.and_eq_true]at U;exact(adY hr r p U.1 U.2 h).weak λ_ J=>J rfl
 ·obtain⟨_,rfl⟩:=ye j;cases I
 ·split at j
  ·split at j
   ·obtain⟨_,rfl⟩:=ye j;cases I
   ·cases j
  ·cases j
 ·rename_i t y lo hi mx p;split at j
  ·rename_i hu;cases j;exact(aea hr r p hu h).weak λ_ _=>trivial
  ·rename_i e hu;obtain⟨J,rfl⟩:=ye j;obtain⟨i,ac⟩:=Zj J;exact(ad9 hr r p hu ac h).weak λ_ _=>trivial
  ·cases j
 ·rename_i t y f p;split at j
  ·rename_i off ft ht;obtain⟨J,rfl⟩:=ye j;exact(agZ hr r p ht J h).weak λ_ _=>trivial
  ·cases j
 ·rename_i t y f p;split at j
  ·rename_i off ft ht;split at j
   ·rename_i g hg;cases j;exact(ad4 hr r p ht hg h).weak λ_ _=>trivial
   ·cases j
  ·cases j
 ·rename_i t y i p;split at j
  ·rename_i e ht;obtain⟨J,rfl⟩:=ye j;exact(ag0 hr r p ht J h).weak λ_ _=>trivial
  ·cases j
 ·rename_i t y i p;split at j
  ·rename_i hu;cases j;exact(ad8 hr r p hu h).weak λ_ _=>trivial
  ·cases j
 ·rename_i y i p;cases j;exact(ad3 hr r p h).weak λ_ _=>trivial
 ·rename_i args ts p;split at j
  ·rename_i y t T ab;split at j
   ·rename_i e ht;cases j;exact(ad6 hr r p T ab ht h).weak λ_ _=>trivial
   ·cases R:W6 P t y with
    |none=>simp only[R]at j;cases j;exact(qJ hr r (by rw[p];rfl) h).weak λ_ _=>trivial
    |some z=>simp only[R]at j;cases j;exact(abV hr r p T ab R h).2.weak λ_ _=>trivial
  ·cases j
 ·split at j
  ·split at j
   ·obtain⟨_,rfl⟩:=ye j;cases I
   ·split at j
    ·obtain⟨_,rfl⟩:=ye j;cases I
    ·cases j
   ·obtain⟨_,rfl⟩:=ye j;cases I
   ·cases j
  ·cases j
 ·cases j;cases I
 ·cases j;cases I
 ·rename_i b args ts U h2 p;cases hm:KH b args.toList with
  |some y=>simp only[hm]at j;cases j;exact(ag3 hr r p hm h).weak λ_ _=>trivial
  |none=>
   simp only[hm]at j;cases hb:Qv P b args.toList ts.toList with
   |some y=>simp only[hb]at j;cases j;rw[(gO hb).1]at I;cases I
   |none=>simp only[hb]at j;cases j;exact(qJ hr r (by rw[p];rfl) h).weak λ_ _=>trivial
 ·rename_i b t y z u p;cases hn:Up P b t z with
  |some neg=>simp only[hn]at j;cases j;exact(ad5 hr r p hn h).weak λ_ _=>trivial
  |none=>
  simp only[hn]at j;cases R:WT P b t y z with
  |some q=>simp only[R]at j;cases j;exact(ad2 hr r p R h).2.weak λ_ _=>trivial
  |none=>
  simp only[R]at j;cases h4:Qu P b t y z with
  |some q=>simp only[h4]at j;cases j;exact(adZ hr r p h4 h).2.weak λ_ _=>trivial
  |none=>
  simp only[h4]at j;cases U:Jb b&&kz P t
  ·rw[U]at j;cases j;exact(qJ hr r (by rw[p];rfl) h).weak λ_ _=>trivial
  ·rw[U]at j;cases j;exact(ad0 hr r p h).weak λ_ _=>trivial
 ·rename_i u t y p;cases h4:Vk P u t y with
  |some q=>simp only[h4]at j;cases j;exact(ag5 hr r p h4 h).2.weak λ_ _=>trivial
  |none=>simp only[h4]at j;cases j;exact(qJ hr r (by rw[p];rfl) h).weak λ_ _=>trivial
 ·split at j<;>(cases j;cases I)
 ·split at j
  ·obtain⟨_,rfl⟩:=ye j;cases I
  ·cases j;cases I
 ·cases j;cases I
 ·cases j
 ·cases j;cases I
theorem amG {b:BinOp}{t:TypeId}{x y:Operand}{z:AOp}(h:Qu P b t x y=some z):jl z=false:=by
 unfold Qu at h;(repeat' split at h)<;>cases h<;>rfl
theorem apF {b:UnOp}{t:TypeId}{x:Operand}{z:AOp}(h:Vk P b t x=some z):jl z=false:=by
 unfold Vk at h;(repeat' split at h)<;>cases h<;>rfl
theorem ak8 {s t:TypeId}{x:Operand}{z:AOp}(h:XL P s t x=some z):jl z=false:=by
 unfold XL at h;(repeat' split at h)<;>cases h<;>rfl
theorem am6 {t:TypeId}{x:Operand}{z:AOp}(h:W6 P t x=some z):jl z=false:=by
 unfold W6 at h;(repeat' split at h)<;>cases h<;>rfl
theorem amX {b:BinOp}{t:TypeId}{x y:Operand}{z:AOp}(h:WT P b t x y=some z):jl z=false:=by
 unfold WT at h;(repeat' split at h)<;>cases h<;>rfl
theorem v7 {α:Type}{c:Bool}{p q r:α}(h:(bif c then p else q)=r):p=r\/q=r:=by
 cases c
 ·exact .inr h
 ·exact .inl h
theorem ajg (hr:Rel F N ι s a w)(J: ∀k,o.dst=some k ->k<N){x:AOp}(g:cOp P o.op o.type=some x)(i:jl x=true)(h:zF P o.dst x s K):q7 P F N o a w K:=by
 unfold cOp at g;split at g
 case h_22=>rename_i f args ts l;cases g;exact abQ hr J l h
 case h_23=>rename_i y args ts l U;cases g;exact abR hr J U h
 case h_24=>
  rename_i b args ts j I l;cases T:KH b args.toList with
  |some y=>
   simp only[T]at g;cases g;obtain⟨x1,y1,_,⟨_,rfl⟩|⟨_,rfl⟩⟩:=KI T<;>cases i
  |none=>
   simp only[T]at g;cases R:Qv P b args.toList ts.toList with
   |some y=>simp only[R]at g;cases g;rw[(gO R).2.1]at i;cases i
   |none=>simp only[R]at g;cases g;cases i
 case h_5=>rename_i t y l;cases g;exact agY hr J l h
 case h_7=>
  rename_i t n parts l;split at g
  ·rename_i e ht;obtain⟨p,rfl⟩:=ye g;simp only[Bool.and_eq_true]at p;exact abT hr J l ht p.1.1.1.1 p.1.1.1.2 p.1.1.2 p.1.2 p.2 h
  ·cases g
 case h_13=>
  rename_i t n c l;split at g
  ·rename_i e ht;split at g
   ·rename_i z ab hz;obtain⟨p,rfl⟩:=ye g;rw[Bool.and_eq_true]at p;exact ag2 hr J l ht hz p.1 p.2 h
   ·cases g
  ·cases g
 case h_11=>
  rename_i aa dst y l;rcases v7 g with j|j
  ·cases j;cases i
  ·cases I:xQ P aa true&&xQ P dst false
   case true=>
    rw[I]at j;cases j;rw[Bool.and_eq_true]at I;exact ad7 hr J l I.1 I.2 h
   case false=>
    rw[I]at j;simp only[cond_false]at j;split at j
    ·rename_i z r;cases j;rw[ak8 r]at i;cases i
    ·cases j;cases i
 case h_20=>
  (repeat' split at g)
  ·cases g;cases i
  ·rename_i r;cases g;rw[am6 r]at i;cases i
  ·cases g;cases i
  ·cases g
 case h_25=>
  (repeat' split at g)
  ·cases g;cases i
  ·rename_i r;cases g;rw[amX r]at i;cases i
  ·rename_i r;cases g;rw[amG r]at i;cases i
  ·rcases v7 g with j|j<;>(cases j;cases i)
 case h_26=>
  (repeat' split at g)
  ·rename_i r;cases g;rw[apF r]at i;cases i
  ·cases g;cases i
 all_goals first
  |(cases g;done)
  |(rcases v7 g with j|j<;>(cases j;cases i);done)
  |(split at g<;>first|(cases g;cases i;done)|(rcases v7 g with j|j<;>(cases j;cases i);done))
  |(cases g;cases i;done)
  |(obtain⟨_,rfl⟩:=ye g;cases i;done)
  |(exfalso;repeat' split at g)<;>first|(cases g;done)|(cases g;cases i;done)|(obtain⟨_,rfl⟩:=ye g;cases i;done)|skip
end
section
variable {P:Program}{hs:List Nat}{ops:Array Oper}{Q:Exit ->Act ->World ->Prop}
def uS (P:Program)(hs:List Nat)(ops:Array Oper)(Q:Exit ->Act ->World ->Prop):Nat ->Array Bool ->Act ->World ->Prop
 |0,listed,a,w=>Region.ready .any ops listed=[]/\Q .normal a w
 |g+1,listed,a,w=>(Region.ready .any ops listed=[] ->Q .normal a w)/\
  ∀i∈Region.ready .any ops listed,wpOp P ops Q i (λj w'=>(1<=clsAt P hs ops i ->wL w w')/\uS P hs ops Q g (listed.setIfInBounds i true) j w') a w
theorem Jw: ∀(g:Nat) (listed:Array Bool) (a:Act) (w:World),uS P hs ops Q g listed a w ->wpAny P .any ops Q g listed a w
 |0,_,_,_,h=>h
 |g+1,_,_,_,h=>⟨h.1,λi hi=>wpOp_mono (λ_ _ j=>Jw g _ _ _ j.2) (h.2 i hi)⟩
def YC (P:Program)(ops:Array Oper)(C:World ->Prop)(o:Oper)(v:Value)(a:Act):Prop:=
 (Region.wanted o (yielded ops a.tmps)=true /\ ∀w,C w ->(execOp a.eval o).run P w= .ok (.value v) w)\/
 (Region.wanted o (yielded ops a.tmps)=false /\v=undef)
theorem YC.wpOp {C:World ->Prop}{i:Nat}{o:Oper}{v:Value}{a:Act}(hi:ops[i]? =some o)(j:YC P ops C o v a){K:Act ->World ->Prop}{w:World}(hC:C w)(h:K (a.put o.dst v) w):wpOp P ops Q i K a w:=by
 unfold Go.wpOp;simp only[hi];rcases j with⟨g,l⟩|⟨g,rfl⟩<;>simp_all[Oper.wp,Oper.upon]
theorem YC.of_same {C:World ->Prop}{o:Oper}{v:Value}{a g:Act}(l:YC P ops C o v a)(i:execOp g.eval o=execOp a.eval o)(j:Region.wanted o (yielded ops g.tmps)=Region.wanted o (yielded ops a.tmps)):YC P ops C o v g:=by
 grind[YC]
structure Apart (ops:Array Oper)(x y:Oper):Prop where
 h1: ∀d,x.dst=some d ->d∉y.looksAt ops
 h2: ∀d,x.dst=some d ->y.dst≠some d
 h3: ∀d,y.dst=some d ->d∉x.looksAt ops
theorem akD {C:World ->Prop}{j:Nat}{g l:Oper}{v:Value}(hj:ops[j]? =some l)(R:Apart ops g l)(T: ∀I b,g.op≠ .select I b)(p: ∀I b,l.op≠ .select I b)
 (hQ: ∀c a w,¬Q (.panic c) a w) {K:Act ->World ->Prop}{a:Act}{w:World}(U:YC P ops C g v a) (h:wpOp P ops Q j K (a.put g.dst v) w):
 wpOp P ops Q j (λa' w'=>YC P ops C g v a' /\K (a'.put g.dst v) w') a w:=by
 obtain⟨J,h2,h3⟩:=R;have ab: ∀(a:Act),YC P ops C g v a -> ∀u,YC P ops C g v (a.put l.dst u):=λa U u=>
  U.of_same (execOp_put g T a l.dst u h3) (wanted_put g a l.dst u h3)
 have aa: ∀d,YC P ops C g v {a with defers:=d::a.defers}:=λd=>U.of_same rfl rfl
 unfold wpOp at*;simp only[hj]at*;rw[wanted_put l a g.dst v J]at h;split
 ·rename_i hw;simp only[hw,if_true]at h;rcases h with h|⟨i,o⟩
  case inr=>exact .inr ⟨by unfold Oper.asks at*;rw[execOp_put l p a g.dst v J]at i;exact i,o⟩
  refine .inl ?_;unfold Oper.wp at*;rw[execOp_put l p a g.dst v J]at h;generalize(execOp a.eval l).run P w=r at*;cases r with
  |ok n w'=>
   cases n<;>simp only[Oper.upon]at h⊢
   case value u=>grind[Go.Act.put_comm]
   case skip=>grind[Go.Act.put_comm]
   case defer d=>
    grind[Go.Act.put_comm,_root_.Go.Act.put_defers]
   case enter f args=>
    grind[Go.Act.put_comm]
   grind[Go.Act.put_comm]
  |halt x w'=>
   cases x<;>grind[Oper.upon]
 grind[Go.Act.put_comm]
theorem ah0 {j d:Nat}{g:Oper}{v:Value}(U:ops[j]? =some g)(p:d∉g.looksAt ops)(R:g.dst≠some d)(o: ∀J b,g.op≠ .select J b)
 (hQ: ∀c a w,¬Q (.panic c) a w) {K:Act ->World ->Prop}{a:Act}{w:World}(h:wpOp P ops Q j (λI w'=>K (I.put (some d) v) w') a w):wpOp P ops Q j K (a.put (some d) v) w:=by
 have p: ∀e,some d=some e ->e∉g.looksAt ops:=λe T=>by grind
 have R: ∀e,some d=some e ->g.dst≠some e:=λe T=>by grind
 unfold wpOp at*;simp only[U]at*;rw[wanted_put g a (some d) v p];split
 ·rename_i hw;simp only[hw,if_true]at h;rcases h with h|⟨i,l⟩
  case inr=>exact .inr ⟨by unfold Oper.asks at*;rw[execOp_put g o a (some d) v p];exact i,l⟩
  refine .inl ?_;unfold Oper.wp at*;rw[execOp_put g o a (some d) v p];generalize(execOp a.eval g).run P w=r at*;cases r with
  |ok n w'=>
   cases n<;>simp only[Oper.upon]at h⊢
   case value u=>grind[Go.Act.put_comm]
   case skip=>grind[Go.Act.put_comm]
   case defer e=>
    grind[_root_.Go.Act.put_defers,Go.Act.put_comm]
   case enter f args=>
    grind[Go.Act.put_comm]
   grind[Go.Act.put_comm]
  |halt x w'=>
   cases x<;>grind[Oper.upon]
 grind[Go.Act.put_comm]
theorem WC {C:World ->Prop}{i:Nat}{oi:Oper}{v:Value}(hi:ops[i]? =some oi)(I: ∀(j:Nat) (o:Oper) cs b,ops[j]? =some o ->o.op≠ .select cs b)
 (hQ: ∀c a w,¬Q (.panic c) a w) (hC: ∀w w',C w ->wL w w' ->C w')
 (T:List Nat) (hT: ∀j∈T,∀J,ops[j]? =some J -> ∃e∈J.after,Region.binds .any e=true /\(e.on=i\/e.on∈T)):
 ∀(g:Nat) (listed:Array Bool) (a:Act) (w:World),C w ->(∀j∈T,listed.getD j false=false) ->
  (∀j J,ops[j]? =some J ->j≠i ->listed.getD j true=false ->j∉T ->Apart ops oi J /\((∀w,C w)\/1<=clsAt P hs ops j)) ->
  i∈Region.ready .any ops listed ->YC P ops C oi v a ->
  uS P hs ops Q g (listed.setIfInBounds i true) (a.put oi.dst v) w ->uS P hs ops Q (g+1) listed a w:=by
 intro g;induction g with
 |zero=>
  intro listed a w hw _ _ hr hy H;refine⟨λh=>(by grind),λj hj=>?_⟩;by_cases l:j=i
  ·subst l;exact hy.wpOp hi hw ⟨λ_=>wL.refl w,H⟩
  ·have:=ready_mono hj l;rw[H.1]at this;cases this
 |succ g ih=>
  intro listed a w hw aj p hr hy H;refine⟨λh=>(by grind),λj hj=>?_⟩;by_cases l:j=i
  ·subst l;exact hy.wpOp hi hw ⟨λ_=>wL.refl w,H⟩
  ·have h1:=H.2 j (ready_mono hj l);obtain⟨ab,J,U,ah⟩:=mem_ready.1 hj;have ai:listed.getD i false=false:=by
    have h0:=(mem_ready.1 hr).1<;>grind
   have R:j∉T:=λR=>by
    grind
   obtain⟨ad,ak⟩:=p j J U l ab R;have h2:=akD U ad (λcs b=>I i oi cs b hi) (λcs b=>I j J cs b U) hQ hy h1;have r: ∀k ok,ops[k]? =some ok ->k≠i ->(listed.setIfInBounds j true).getD k true=false ->k∉T ->Apart ops oi ok /\((∀w,C w)\/1<=clsAt P hs ops k):=λk ok hk af ac ag=>by
    refine p k ok hk af ?_ ag;by_cases ae:j=k
    ·grind
    ·rw[getD_set_ne true ae]at ac;exact ac
   have aa: ∀k∈T,(listed.setIfInBounds j true).getD k false=false:=λk hk=>by
    rw[getD_set_ne false (λe=>R (by grind))];grind
   refine wpOp_mono (λa' w' h3=>⟨h3.2.1,ih (listed.setIfInBounds j true) a' w' ?_ aa r (ready_mono hr (Ne.symm l)) h3.1 ?_⟩) h2
   ·grind
   grind[Array.setIfInBounds_comm]
end
section
variable {P:Program}{F F':Fr}{N:Nat}{ι:Nat ->Gh}{s:S}{a:Act}{w:World}
structure Under (F F':Fr)(b:Nat):Prop where
 A: ∀x,F'.A x ->(F.A x\/F.M x\/F.w0.heap.size<=x)/\x≠b
 M: ∀x,F'.M x ->(F.M x\/F.w0.heap.size<=x)/\x≠b
 g:Grows F.M F.w0 F'.w0
 h:F'.h=F.h
 b1:F.w0.heap.size<=b
 b2:b<F'.w0.heap.size
theorem Rel.hide (hr:Rel F N ι s a w){J:World}(I:Grows (λ_=>False) w J)(hb:w.heap.size<J.heap.size):
 ∃F',Under F F' w.heap.size /\F'.w0=J /\Rel F' N ι s a J:=by
 have l:=hr.grown I
 let F':Fr:=⟨J,λx=>F.ok ι s.pl J x /\x≠w.heap.size,Owns ι s.pl,F.h⟩
 have g:zW w J (F.ok ι s.pl w) (F'.ok ι s.pl J):=λx i=>
  ⟨⟨.inl ⟨⟨i.1,Nat.lt_of_lt_of_le i.2.1 I.size,i.2.2⟩,by have:=i.2.1;omega⟩,Nat.lt_of_lt_of_le i.2.1 I.size,i.2.2⟩,I.block x i.2.1 (λh=>h)⟩
 have ab:=zU.of_grows I;refine⟨F',⟨λx i=>⟨i.1.1,i.2⟩,λx i=>⟨(hr.mine x i).1,by have:=(hr.mine x i).2;omega⟩,l.grows,rfl,hr.grows.size,hb⟩,rfl,?_⟩;refine⟨hr.room,λk v hv=>?_,λp x i=>?_,hr.inj,λx i=>⟨.inl i,(l.mine x i).2⟩,hr.defers,Grows.refl _ _,λx i=>⟨i.1.2.1,i.1.2.2⟩,⟨λx i=>(l.mine x i).2,λk hk=>⟨⟨(l.glb k hk).1,λe=>Nat.lt_irrefl _ (e▸(hr.glb k hk).1.2.1)⟩,(l.glb k hk).2⟩⟩,hr.few,hr.hdom,hr.hkeep⟩
 ·obtain⟨x,P,r⟩:=hr.slots k v hv<;>grind[VR.keep]
 ·have h:=hr.places p x i;cases x with
  |fbox ds=>obtain⟨b,P,r,R⟩:=h;exact⟨b,P,(g b r).1,RDc.keep g b r _ _ R⟩
  |gone=>exact h.elim
  |box cs=>obtain⟨b,o,P,⟨t,r⟩,R⟩:=h;exact⟨b,o,P,⟨t,by rw[I.block b (RowAt.lt ⟨t,r⟩) (λh=>h)];exact r⟩,CRs.keep g ab _ _ R⟩
  |arr sz aa fz=>
   obtain⟨h0,hn,h|⟨b,P,r,R,e4⟩⟩:=h
   ·exact⟨h0,hn,.inl h⟩
   ·have T:b<w.heap.size:=by
     cases fz
     ·obtain⟨o,U,_⟩:=e4 rfl;exact U.lt
     ·exact(R rfl).2.1
    refine⟨h0,hn,.inr ⟨b,P,RDs.keep' g b sz aa 0 (λj _ _=>ue (I.block b T (λh=>h)) j) r,λhf=>(g b (R hf)).1,λhf=>?_⟩⟩;obtain⟨o,⟨t,U⟩,e6⟩:=e4 hf;exact⟨o,⟨t,by rw[I.block b T (λh=>h)];exact U⟩,e6⟩
theorem Rel.unhide {b:Nat}(hr:Rel F' N ι s a w)(l:Under F F' b)(hf: ∀x,F.A x ->x<F.w0.heap.size /\ ¬F.M x)(hh:(∀x,F.M x ->x<F.w0.heap.size)/\Glb F.A F.w0){R:Array Value}(af:RowAt F'.w0 b R)
 {cs:List C}(ah: ∀ι w ok,CRs ι w ok cs R.toList) {d:Nat}(hd:d<N):
 Rel F N (w8 ι d ⟨some b,0⟩) ((s.place d (.box cs)).put (some d) (cV (.ptr d 0))) (a.put (some d) (.pointer (some ⟨b,0,none⟩))) w:=by
 let ι':=w8 ι d ⟨some b,0⟩
 have ad: ¬F'.M b:=λh=>(l.M b h).2 rfl
 have ac:RowAt w b R:=by
  obtain⟨t,h⟩:=af;exact⟨t,by rw[hr.grows.block b l.b2 ad];exact h⟩
 have al: ∀x,F'.ok ι s.pl w x ->x≠b:=by
  intro x j he;subst he;rcases j.1 with h|h|h
  ·exact(l.A _ h).2 rfl
  ·grind
  ·have:=l.b2;omega
 have P: ¬Owns ι s.pl b:=by
  intro h;rcases(hr.mine b h).1 with h|h
  ·exact ad h
  ·have:=l.b2;omega
 have U:ι' d=⟨some b,0⟩:=zK _ _ _;have r: ∀p,isin p [d]=false ->ι' p=ι p:=λp J=>vJ ι _ (aaa J)
 have o: ∀p x,aget (s.place d (.box cs)).pl p=some x ->(p=d /\x= .box cs)\/(p≠d /\ ∃y,aget s.pl p=some y /\x=y.kill [d]):=by
  intro p x j;unfold S.place at j;rw[S.redo_pl]at j;simp only[yg]at j;by_cases ai:d=p
  ·simp_all
  ·rw[if_neg ai]at j;simp only[aget]at j;split at j
   ·cases J:aget s.pl p<;>grind
   ·cases j
 have i: ∀p,p≠d ->isin p [d]=false:=λp J=>by
  grind[zV]
 have aa: ∀x,Owns ι' (s.place d (.box cs)).pl x ->x=b\/Owns ι s.pl x:=by
  rintro x ⟨p,y,h1,h2,h3⟩;rcases o p y h1 with⟨rfl,rfl⟩|⟨J,z,hz,rfl⟩
  ·grind
  ·rw[r p (i p J)]at h3;rw[Pl.live_kill]at h2;exact .inr ⟨p,z,hz,h2,h3⟩
 have ab:zW w w (F'.ok ι s.pl w) (F.ok ι' (s.place d (.box cs)).pl w):=by
  intro x j;refine⟨⟨?_,j.2.1,λho=>?_⟩,rfl⟩
  ·rcases j.1 with h|h|h
   ·exact(l.A x h).1
   ·exact(l.M x h).1.elim (λh=>.inr (.inl h)) (λh=>.inr (.inr h))
   ·exact .inr (.inr (Nat.le_trans l.g.size h))
  ·rcases aa x ho with h|h
   ·grind
   ·exact j.2.2 h
 have hrel:Rel F N ι' (s.place d (.box cs)) a w:=by
  refine⟨by rw[<- l.h];exact hr.room,λk v hv=>?_,λp x j=>?_,?_,?_,hr.defers,?_,hf,hh,hr.few,by rw[<- l.h];exact hr.hdom,λp x g j hg=>?_⟩
  rotate_left 5
  ·rw[<- l.h]at hg;rcases o p x j with⟨rfl,_⟩|⟨J,z,hz,_⟩
   ·rw[hr.h_slot hd]at hg;cases hg
   ·rw[r p (i p J)];exact hr.hkeep p z g hz hg
  ·unfold S.place at hv;rw[S.redo_sl]at hv;cases hk:aget s.sl k with
   |none=>grind
   |some u=>
    rw[hk]at hv;simp at hv;subst hv;obtain⟨x,e1,e2⟩:=hr.slots k u hk<;>grind[VR.kill,zU.refl]
  ·rcases o p x j with⟨rfl,rfl⟩|⟨J,z,hz,rfl⟩
   ·exact⟨b,R,by rw[U],ac,ah _ _ _⟩
   ·exact PR.kill ab (zU.refl w) r p (i p J) z (λ_ _ _=>rfl) (hr.places p z hz)
  ·intro p q x y b' j hy aj hl I hq;rcases o p x j with⟨rfl,rfl⟩|⟨J,z,hz,rfl⟩<;>rcases o q y hy with⟨rfl,rfl⟩|⟨ae,u,T,rfl⟩
   ·grind
   ·rw[U]at I;cases I;rw[r q (i q ae)]at hq;have h:=hr.places q u T;cases u with
    |box cs=>exact P ⟨q,_,T,rfl,hq⟩
    |fbox ds=>obtain⟨ag,e1,e2,_⟩:=h;grind
    |gone=>exact h.elim
    |arr z ak fz=>cases fz with
     |false=>exact P ⟨q,_,T,rfl,hq⟩
     |true=>
      obtain⟨_,_,h|⟨ag,e1,_,e3,_⟩⟩:=h
      ·grind
      grind
   ·rw[U]at hq;cases hq;rw[r p (i p J)]at I;rw[Pl.live_kill]at hl;exact P ⟨p,z,hz,hl,I⟩
   ·rw[r p (i p J)]at I;rw[r q (i q ae)]at hq;rw[Pl.live_kill]at hl;exact hr.inj p q z u b' hz T aj hl I hq
  ·intro x j;rcases aa x j with rfl|h
   ·exact⟨.inr l.b1,Nat.lt_of_lt_of_le l.b2 hr.grows.size⟩
   ·refine⟨?_,(hr.mine x h).2⟩;rcases(hr.mine x h).1 with h|h
    ·exact(l.M x h).1
    ·exact .inr (Nat.le_trans l.g.size h)
  ·refine⟨hr.grows.os.trans l.g.os,hr.grows.tape.trans l.g.tape,hr.grows.output.trans l.g.output,Nat.le_trans l.g.size hr.grows.size,λx j hm=>?_,λc t m h=>hr.grows.shapes c t m (l.g.shapes c t m h)⟩;rw[hr.grows.block x (Nat.lt_of_lt_of_le j l.g.size) (λh=>(l.M x h).1.elim hm (λh=>by omega))];exact l.g.block x j hm
 exact hrel.put (some d) (λk hk=>by grind) _ _ ⟨b,by rw[U],rfl⟩
theorem afo {o:Oper}{j:List C}(g:cOp P o.op o.type=some (.alloc j)): ∃t,o.op= .alloc t /\j=(qh P t).cells:=by
 unfold cOp at g;split at g
 case h_4=>grind
 case h_24=>
  rename_i b args I i J R;cases r:KH b args.toList with
  |some y=>
   grind[KI]
  |none=>
   simp only[r]at g;cases p:Qv P b args.toList I.toList with
   |some y=>simp only[p]at g;cases g;exact absurd rfl ((gO p).2.2 j)
   |none=>grind
 case h_11=>
  rcases v7 g with i|i
  ·cases i
  ·rcases v7 i with i|i
   ·cases i
   grind[XL]
 case h_20=>
  grind[W6]
 case h_25=>
  (repeat' split at g)
  ·cases g
  ·grind[WT]
  ·rename_i l;cases g;unfold Qu at l;grind
  ·rcases v7 g with i|i<;>simp_all
 case h_26=>
  (repeat' split at g)
  ·rename_i l;cases g;unfold Vk at l;grind
  ·cases g
 all_goals first
  |(cases g;done)
  |(rcases v7 g with i|i<;>(cases i;done);done)
  |(split at g<;>first|(cases g;done)|(rcases v7 g with i|i<;>(cases i;done);done))
  |(obtain⟨_,h⟩:=ye g;cases h;done)
  |((repeat' split at g)<;>first|(cases g;done)|(obtain⟨_,h⟩:=ye g;cases h;done))
theorem akW {o:Oper}{j:List C}(p:cOp P o.op o.type=some (.alloc j))(hs:solid j=true):
 ∃t g,(∀ι w ok,CRs ι w ok j (g:Array Value).toList)/\ ∀(a:Act) (w:World),(execOp a.eval o).run P w= .ok (.value (.pointer (some ⟨w.heap.size,0,none⟩))) (w.alloc (.cells g t)):=by
 obtain⟨t,r,rfl⟩:=afo p;unfold qh at hs⊢;cases hi:P.info? t with
 |none=>simp only[hi]at hs;cases hs
 |some i=>
  simp only[hi]at hs⊢;cases l:i.zero with
  |none=>simp only[l]at hs;cases hs
  |some v=>
   simp only[l]at hs⊢;rw[ZB hs];exact⟨t,v.cells,λι w ok=>jJ ι w ok v.cells.toList,λa w=>by simp_all[execOp,Instr.alloc,zeroValue,typeInfo,newVar,newRow]⟩
theorem Grows.alloc (w:World)(g:Array Value)(t:TypeId):Grows (λ_=>False) w (w.alloc (.cells g t)):=by
 have h:=NewRow.alloc w g t;exact⟨h.os,h.tape,h.output,by simp_all,λb i _=>h.old i,h.shapes⟩
end
theorem UD {α:Type}{f:α ->Bool}: ∀{l:List α},acb f l=true↔ ∃x∈l,f x=true
 | []=>by simp[acb]
 |x::r=>by
  simp only[acb,List.mem_cons];cases h:f x
  ·rw[cond_false,UD];constructor
   ·rintro⟨y,i,g⟩;exact⟨y,.inr i,g⟩
   ·rintro⟨y,rfl|i,g⟩
    ·rw[h]at g;cases g
    ·exact⟨y,i,g⟩
  ·rw[cond_true];exact⟨λ_=>⟨x,.inl rfl,h⟩,λ_=>rfl⟩
theorem wt {α:Type}{f:α ->Bool}: ∀{l:List α},u0 f l=true↔ ∀x∈l,f x=true
 | []=>by simp[u0]
 |x::r=>by
  simp only[u0,List.mem_cons];cases h:f x
  ·rw[cond_false];exact⟨λg=>(by cases g),λg=>(by have j:=g x (.inl rfl);rw[h]at j;cases j)⟩
  ·rw[cond_true,wt];constructor
   ·rintro g y (rfl|i)
    ·exact h
    ·exact g y i
   ·exact λg y i=>g y (.inr i)
theorem Kx {j i:Nat}{r:List Nat}(h:j≠i):isin j (i::r)=isin j r:=by
 grind[zV]
theorem wB {n:Nat}{l:List Nat}:isin n l=false↔n∉l:=by
 grind[zV]
section
variable {P:Program}{hs:List Nat}{ops:Array Oper}
theorem ajl {o:Oper}{x:AOp}(g:cOp P o.op o.type=some x)(h:Q7 P o=1\/Q7 P o=2):x.quiet=true /\(Q7 P o=1 ->x.reads=false):=by
 grind[Q7]
theorem ak3 {o:Oper}{x:AOp}(g:cOp P o.op o.type=some x)(h:Q7 P o=3):jl x=true:=by
 grind[Q7]
theorem aaZ {o:Oper}(h:Q7 P o=4): ∃j d,cOp P o.op o.type=some (.alloc j)/\solid j=true /\o.guard=none /\o.dst=some d:=by
 unfold Q7 at h;cases U:cOp P o.op o.type with
 |none=>grind
 |some x=>
  rw[U]at h;simp only at h;cases T:x.quiet<;>rw[T]at h
  ·cases I:jl x<;>rw[I]at h
   ·cases i:Kv o x<;>rw[i]at h
    ·cases h
    ·unfold Kv at i;split at i
     ·rename_i j;simp only[Bool.and_eq_true,Bool.not_eq_true']at i;obtain⟨⟨p,l⟩,r⟩:=i;obtain⟨d,J⟩:=Zj r;refine⟨j,d,rfl,p,?_,J⟩;cases R:o.guard with
      |none=>rfl
      |some g=>rw[R]at l;cases l
     ·cases i
   ·cases h
  grind
theorem aoN (o:Oper):Q7 P o<=4:=by
 grind[Q7]
theorem Zi {i:Nat}{o:Oper}(j:ops[i]? =some o):(isin i hs=true /\clsAt P hs ops i=0)\/(isin i hs=false /\clsAt P hs ops i=Q7 P o)\/(isin i hs=false /\clsAt P hs ops i=3 /\Q7 P o=4):=by
 unfold clsAt;cases isin i hs
 ·cases g:(Nat.beq (Q7 P o) 4&&isin 999999 hs)
  ·grind
  simp_all
 grind
theorem vy {i:Nat}{o:Oper}(p:ops[i]? =some o){x:AOp}(j:Yo P (isin i hs) o.op o.type=some x)(h:clsAt P hs ops i=1\/clsAt P hs ops i=2):
 cOp P o.op o.type=some x /\x.quiet=true /\(clsAt P hs ops i=1 ->x.reads=false):=by
 rcases Zi (P:=P) (hs:=hs) p with⟨_,g⟩|⟨g,l⟩|⟨_,g,_⟩
 ·grind
 ·rw[g]at j;rw[l]at h⊢;exact⟨j,ajl j h⟩
 grind
theorem amO {i:Nat}{o:Oper}(r:ops[i]? =some o){x:AOp}(g:Yo P (isin i hs) o.op o.type=some x)(h:clsAt P hs ops i=3):cOp P o.op o.type=some x /\(jl x=true\/ ∃p,x= .alloc p):=by
 rcases Zi (P:=P) (hs:=hs) r with⟨_,j⟩|⟨j,l⟩|⟨j,_,l⟩
 ·grind
 ·rw[j]at g;rw[l]at h;exact⟨g,.inl (ak3 g h)⟩
 ·rw[j]at g;obtain⟨p,d,I,_⟩:=aaZ l;have g:cOp P o.op o.type=some x:=g
  grind
theorem ak2 {i:Nat}{o:Oper}(l:ops[i]? =some o)(h:clsAt P hs ops i=4): ∃g d,cOp P o.op o.type=some (.alloc g)/\solid g=true /\o.guard=none /\o.dst=some d:=by
 rcases Zi (P:=P) (hs:=hs) l with⟨_,j⟩|⟨_,p⟩|⟨_,j,_⟩
 ·grind
 ·grind[aaZ]
 grind
theorem aa0 {i:Nat}{o:Oper}(j:ops[i]? =some o):clsAt P hs ops i<=4:=by
 rcases Zi (P:=P) (hs:=hs) j with⟨_,g⟩|⟨_,l⟩|⟨_,g,_⟩
 ·simp_all
 ·grind[aoN]
 grind
theorem ZY {N:Nat}{gs:List Nat}{i:Nat}{l:List Nat}{xs:List AI}(j:j8 P N hs ops.toList gs (i::l)=some (xs.map AI.erase)):
 ∃o x g drop rest,xs= .mk o.dst g (isin i gs) x drop::rest /\ops[i]? =some o /\(∀k,o.dst=some k ->k<N)/\Yo P (isin i hs) o.op o.type=some x /\jh ops.toList o.guard=some g /\
  j8 P N hs ops.toList gs l=some (rest.map AI.erase):=by
 simp only[j8]at j;split at j
 case h_2=>cases j
 rename_i o ho;have I:ops[i]? =some o:=by grind
 cases r:ae1 N o.dst with
 |false=>grind
 |true=>
  rw[r]at j;simp only[cond_true]at j;split at j
  case h_2=>cases j
  rename_i x g ys J hg R;cases xs with
  |nil=>grind
  |cons y rest=>
   cases y with
   |mk U g1 p T drop=>
    simp only[Option.some.injEq,List.map_cons,AI.erase,List.cons.injEq,AI.mk.injEq,and_true]at j;obtain⟨⟨rfl,rfl,rfl,rfl⟩,rfl⟩:=j
    grind[ala]
theorem afw {N:Nat}{gs:List Nat}: ∀{l:List Nat}{xs:List AI},j8 P N hs ops.toList gs l=some (xs.map AI.erase) -> ∀i∈l,∃o x,ops[i]? =some o /\Yo P (isin i hs) o.op o.type=some x
 | [],_,_,i,hi=>by cases hi
 |j::l,xs,h,i,hi=>by
  obtain⟨o,x,g,drop,rest,rfl,p,J,r,R,I⟩:=ZY h;rcases List.mem_cons.1 hi with rfl|hi
  ·exact⟨o,x,p,r⟩
  ·exact afw I i hi
def v0 (ops:Array Oper)(listed:Array Bool)(rest:List Nat)(hid:Nat ->Bool):Prop:=
 listed.size=ops.size /\ ∀j,j<ops.size ->listed[j]? =some (!isin j rest||hid j)
theorem v0.step {listed:Array Bool}{i:Nat}{r:List Nat}{hid:Nat ->Bool}(h:v0 ops listed (i::r) hid)(hi:i∉r):v0 ops (listed.setIfInBounds i true) r hid:=by
 refine⟨by simp[h.1],λj g=>?_⟩;rw[Array.getElem?_setIfInBounds];split
 ·rename_i e;subst e;rw[if_pos (by rw[h.1];exact g),wB.2 hi];rfl
 ·rename_i l;rw[h.2 j g];simp_all[Kx,Ne.symm]
theorem v0.hide {listed:Array Bool}{k:Nat}{rest:List Nat}(h:v0 ops listed rest (λ_=>false)):v0 ops (listed.setIfInBounds k true) rest (λj=>Nat.beq j k):=by
 refine⟨by simp[h.1],λj g=>?_⟩;rw[Array.getElem?_setIfInBounds];split
 ·rename_i e;subst e;rw[if_pos (by rw[h.1];exact g)];simp
 ·rename_i i;rw[h.2 j g];simp_all[Ne.symm]
theorem v0.show {listed:Array Bool}{k:Nat}{r:List Nat}(h:v0 ops listed (k::r) (λj=>Nat.beq j k))(hk:k∉r):v0 ops listed r (λ_=>false):=by
 refine⟨h.1,λj i=>?_⟩;rw[h.2 j i];by_cases g:j=k
 ·subst g;rw[wB.2 hk];simp
 grind[y7,Kx]
theorem v0.ready_in {listed:Array Bool}{rest:List Nat}{hid:Nat ->Bool}(h:v0 ops listed rest hid){j:Nat}(i:j∈Region.ready .any ops listed):j∈rest /\hid j=false:=by
 obtain⟨h0,o,l,_⟩:=mem_ready.1 i;have g:j<ops.size:=(Array.getElem?_eq_some_iff.1 l).1;have:=h.2 j g<;>simp_all[zV]
theorem v0.unlisted {listed:Array Bool}{rest:List Nat}{hid:Nat ->Bool}(h:v0 ops listed rest hid){j:Nat}(i:listed.getD j false=true)(hr:j∈rest):hid j=true:=by
 rw[Array.getD_eq_getD_getElem?]at i;cases l:listed[j]? with
 |none=>grind
 |some b=>
  have g:j<ops.size:=by rw[<- h.1];grind
  rw[h.2 j g,(zV _ _).2 hr]at i
  grind
theorem VI {listed:Array Bool}{j:Nat}(p:j∈Region.ready .any ops listed){f:Nat ->Bool}(g:waitsFor ops j f=true): ∃n,f n=true /\listed.getD n false=true:=by
 obtain⟨_,o,r,i⟩:=mem_ready.1 p;unfold waitsFor at g;rw[r]at g;obtain⟨e,I,l⟩:=UD.1 g;rw[Bool.and_eq_true]at l
 grind
theorem afG (i:Nat): ∀(r T:List Nat),∀j∈depsL P hs ops i r T,j∈T\/(j∈r /\clsAt P hs ops j≠4)
 | [],_,_,g=>.inl g
 |m::r,T,j,g=>by
  simp only[depsL]at g;rcases afG i r _ j g with h|h
  ·cases l:(!Nat.beq (clsAt P hs ops m) 4&&waitsFor ops m (λn=>Nat.beq n i||isin n T))with
   |false=>grind
   |true=>
    rw[l]at h;rw[Bool.and_eq_true]at l;rcases List.mem_cons.1 h with rfl|h
    ·exact .inr ⟨List.mem_cons_self,λe=>by simp_all⟩
    grind
  grind
theorem UM (i:Nat): ∀(r T:List Nat),(∀j∈T,∃f:Nat ->Bool,waitsFor ops j f=true /\ ∀n,f n=true ->n=i\/n∈T) -> ∀j∈depsL P hs ops i r T,∃f:Nat ->Bool,waitsFor ops j f=true /\ ∀n,f n=true ->n=i\/n∈depsL P hs ops i r T
 | [],_,h,j,g=>h j g
 |m::r,T,h,j,g=>by
  simp only[depsL]at g⊢;cases l:(!Nat.beq (clsAt P hs ops m) 4&&waitsFor ops m (λn=>Nat.beq n i||isin n T))with
  |false=>rw[l]at g;exact UM i r T h j g
  |true=>
   rw[l]at g;refine UM i r (m::T) ?_ j g;intro k hk;rcases List.mem_cons.1 hk with rfl|hk
   ·rw[Bool.and_eq_true]at l;refine⟨_,l.2,λn o=>?_⟩;rw[Bool.or_eq_true]at o
    grind[Nat.eq_of_beq_eq_true,zV]
   grind
theorem akB {j:Nat}{i:Oper}(g:ops[j]? =some i){f:Nat ->Bool}(h:waitsFor ops j f=true): ∃e∈i.after,Region.binds .any e=true /\f e.on=true:=by
 unfold waitsFor at h;rw[g]at h;obtain⟨e,o,l⟩:=UD.1 h;rw[Bool.and_eq_true]at l
 grind
theorem Kn (i:Nat)(r:List Nat): ∀j∈depsL P hs ops i r [],∀g,ops[j]? =some g -> ∃e∈g.after,Region.binds .any e=true /\(e.on=i\/e.on∈depsL P hs ops i r []):=by
 grind[UM,akB]
structure Front (P:Program)(hs:List Nat)(ops:Array Oper)(o:Oper)(i:Nat)(r:List Nat):Prop where
 nin:i∉r
 pre: ∀e∈o.after,Region.binds .any e=true ->e.on<ops.size /\e.on∉i::r
 sep: ∀j∈r,clsAt P hs ops j=4 -> ∀d,dstOf ops j=some d ->d∉o.looksAt ops /\o.dst≠some d
 quiet:(clsAt P hs ops i=1\/clsAt P hs ops i=2) -> ∀j∈r,j∈depsL P hs ops i r []\/ ∀oj,ops[j]? =some oj ->Apart ops o oj /\(clsAt P hs ops i=1\/1<=clsAt P hs ops j)
 heavy: ¬(clsAt P hs ops i=1\/clsAt P hs ops i=2) -> ∀j∈r,clsAt P hs ops j=4\/waitsFor ops j (λn=>isin n (i::r)&&(Nat.beq n i|| !Nat.beq (clsAt P hs ops n) 4))=true
theorem K5 {d:Tmp}{o:Oper}(h:akg ops (some d) o=true):d∉o.looksAt ops /\o.dst≠some d:=by
 simp only[akg,Bool.and_eq_true,Bool.not_eq_true']at h;refine⟨wB.1 h.1,λg=>?_⟩
 grind[qC]
theorem ahm {x y:Oper}(h:afq ops x y=true):Apart ops x y:=by
 unfold afq at h;rw[Bool.and_eq_true]at h;refine⟨λd g=>?_,λd g=>?_,λd g=>?_⟩
 ·grind[K5]
 ·rw[g]at h;exact(K5 h.1).2
 ·rw[g]at h;simpa using wB.1 (by grind)
theorem aba {i:Nat}{r:List Nat}{o:Oper}(U:ops[i]? =some o)(h:WV P hs ops i r=true):Front P hs ops o i r:=by
 unfold WV at h;rw[U]at h;simp only[Bool.and_eq_true,Bool.not_eq_true']at h;obtain⟨⟨⟨I,J⟩,R⟩,p⟩:=h;refine⟨wB.1 I,λe T g=>?_,λj l hc d hd=>?_,λhq j l=>?_,λhq j l=>?_⟩
 ·have:=wt.1 J e (Array.mem_toList_iff.2 T);rw[g]at this;simp only[Bool.not_true,Bool.false_or,Bool.and_eq_true,Bool.not_eq_true']at this;exact⟨Nat.le_of_ble_eq_true this.1,wB.1 this.2⟩
 ·have:=wt.1 R j l<;>grind[qC,K5]
 ·have g:(Nat.beq (clsAt P hs ops i) 1||Nat.beq (clsAt P hs ops i) 2)=true:=by
   simp_all
  rw[g,cond_true]at p;have:=wt.1 p j l;rw[Bool.or_eq_true]at this;refine this.imp (zV _ _).1 λh5 oj aa=>?_
  simp_all[ah7,ahm]
 ·have g:(Nat.beq (clsAt P hs ops i) 1||Nat.beq (clsAt P hs ops i) 2)=false:=by
   grind[y7]
  rw[g,cond_false]at p;have:=wt.1 p j l<;>simp_all
theorem ajS {i:Nat}{r:List Nat}(h:U5 P hs ops (i::r)=true):WV P hs ops i r=true /\U5 P hs ops r=true:=by
 grind[U5]
theorem afM: ∀{l:List Nat},XN P hs ops l=true -> ∀j k,j∈l ->k∈l ->clsAt P hs ops j=4 ->clsAt P hs ops k=4 ->j=k
 | [],_,j,k,g,_,_,_=>by cases g
 |i::r,h,j,k,g,hk,p,I=>by
  simp only[XN]at h;cases hi:Nat.beq (clsAt P hs ops i) 4 with
  |true=>
   rw[hi,cond_true]at h;have none: ∀m∈r,clsAt P hs ops m≠4:=λm R J=>by
    have:=wt.1 h m R<;>simp_all
   grind
  |false=>
   rw[hi,cond_false]at h;have o:clsAt P hs ops i≠4:=λJ=>by simp_all
   rcases List.mem_cons.1 g with rfl|g
   ·exact absurd p o
   ·rcases List.mem_cons.1 hk with rfl|hk
    ·exact absurd I o
    ·exact afM h j k g hk p I
end
section
variable {P:Program}{hs:List Nat}{ops:Array Oper}{N:Nat}{gs:List Nat}{Q:Exit ->Act ->World ->Prop}{K:S ->Prop}
theorem QF {F:Fr}{ι:Nat ->Gh}{s:S}{a:Act}{w:World}(hr:Rel F N ι s a w){o:Oper}(j: ∀k,o.dst=some k ->k<N){x:AOp}(hx:cOp P o.op o.type=some x)(hq:x.quiet=true)
 {g:Option (Nat×Bool)}(hg:jh ops.toList o.guard=some g) {p:Bool}{drop:List Nat}{rest:List AI}(h:zN P (.mk o.dst g p x drop::rest) s K):
 ∃v ι' r,YC P ops (Cw x w) o v a /\Rel F N ι' r (a.put o.dst v) w /\zN P rest r K:=by
 rcases Jo hr hg h with⟨l,i⟩|⟨l,i⟩
 ·obtain⟨v,ι',s1,I,J,R⟩:=ajf hr j hx hq i;obtain⟨s2,T,U⟩:=Zr J j R;exact⟨v,ι',_,.inl ⟨l,I⟩,T.drop drop,U⟩
 ·exact⟨undef,ι,_,.inr ⟨l,rfl⟩,(hr.put o.dst j xS undef (gK _ _ _)).drop drop,i⟩
theorem QA {F:Fr}{ι:Nat ->Gh}{s:S}{a:Act}{w:World}(hr:Rel F N ι s a w){i:Nat}{o:Oper}(ho:ops[i]? =some o)(r: ∀k,o.dst=some k ->k<N){x:AOp}(hx:Yo P (isin i hs) o.op o.type=some x)
 (p:clsAt P hs ops i=0\/clsAt P hs ops i=3) {g:Option (Nat×Bool)}(hg:jh ops.toList o.guard=some g) {l:Bool}{drop:List Nat}{rest:List AI}(h:zN P (.mk o.dst g l x drop::rest) s K)
 {next:Act ->World ->Prop}(U: ∀ι s' a' w',Rel F N ι s' a' w' ->zN P rest s' K ->(1<=clsAt P hs ops i ->wL w w') ->next a' w'):wpOp P ops Q i next a w:=by
 unfold wpOp;simp only[ho];rcases Jo hr hg h with⟨hw,J⟩|⟨hw,J⟩
 ·rw[if_pos hw];refine .inl ?_;rcases p with p|p
  ·refine adp hr r ⟨_,hx⟩ J _ _ λι1 s1 I w1 j hk=>?_
   obtain⟨s2,R,T⟩:=Zr j r hk;exact U ι1 _ I w1 (R.drop drop) T (λh=>by grind)
  ·obtain⟨aa,ab⟩:=amO ho hx p;have hX:q7 P F N o a w (λs1=>split l o.dst s1 λs2=>zN P rest (s2.drop drop) K):=by
    grind[ajg,afo,gC]
   refine hX _ _ λι1 s1 I w1 j hk he=>?_
   obtain⟨s2,R,T⟩:=Zr j r hk;exact U ι1 _ I w1 (R.drop drop) T (λ_=>he)
 ·rw[if_neg (by grind)];exact U ι _ _ w ((hr.put o.dst r xS undef (gK _ _ _)).drop drop) J (λ_=>wL.refl w)
structure Hid (P:Program)(hs:List Nat)(ops:Array Oper)(F F':Fr)(k d b:Nat):Prop where
 cl:clsAt P hs ops k=4
 dst:dstOf ops k=some d
 under:Under F F' b
 row: ∃o cs cur,ops[k]? =some o /\o.guard=none /\cOp P o.op o.type=some (.alloc cs)/\solid cs=true /\RowAt F'.w0 b cur /\ ∀ι w ok,CRs ι w ok cs (cur:Array Value).toList
def agj (b:Nat):Value:=.pointer (some ⟨b,0,none⟩)
theorem Vz {listed:Array Bool}{i:Nat}{r:List Nat}{hid:Nat ->Bool}{o:Oper}(j:v0 ops listed (i::r) hid)(l:ops[i]? =some o)(T:Front P hs ops o i r)(U:hid i=false):i∈Region.ready .any ops listed:=by
 have g:i<ops.size:=(Array.getElem?_eq_some_iff.1 l).1;refine mem_ready.2 ⟨?_,o,l,λe R J=>?_⟩
 ·rw[Array.getD_eq_getD_getElem?,j.2 i g,(zV _ _).2 (List.mem_cons_self),U];rfl
 ·obtain⟨p,I⟩:=T.pre e R J;rw[Array.getD_eq_getD_getElem?,j.2 e.on p,wB.2 I];rfl
theorem Jc {listed:Array Bool}{i:Nat}{r:List Nat}{hid:Nat ->Bool}{o:Oper}{x:AOp}{w:World}(hl:v0 ops listed (i::r) hid)(ho:ops[i]? =some o)(hx:Yo P (isin i hs) o.op o.type=some x)(hf:Front P hs ops o i r)(R:clsAt P hs ops i=1\/clsAt P hs ops i=2):
 ∀j l,ops[j]? =some l ->j≠i ->listed.getD j true=false ->j∉depsL P hs ops i r [] ->Apart ops o l /\((∀w',Cw x w w')\/1<=clsAt P hs ops j):=by
 intro j l g aa J ab;have I:j<ops.size:=(Array.getElem?_eq_some_iff.1 g).1;have p:j∈r:=by
  rw[Array.getD_eq_getD_getElem?,hl.2 j I]at J
  grind[zV]
 rcases hf.quiet R j p with h|h
 ·grind
 ·obtain⟨T,U⟩:=h l g;refine⟨T,U.imp (λh w' hr=>?_) id⟩;rw[(vy ho hx R).2.2 h]at hr;cases hr
theorem X6 {listed:Array Bool}{i:Nat}{r:List Nat}{hid:Nat ->Bool}(p:v0 ops listed (i::r) hid)(J: ∀j,j∈r ->clsAt P hs ops j≠4 ->hid j=false): ∀j∈depsL P hs ops i r [],listed.getD j false=false:=by
 intro j o;rcases afG i r [] j o with h|⟨g,I⟩
 ·cases h
 ·cases l:listed.getD j false with
  |false=>rfl
  |true=>
   have:=p.unlisted l (List.mem_cons_of_mem _ g)
   grind
theorem Cw.ext (x:AOp)(w:World): ∀w' g,Cw x w w' ->wL w' g ->Cw x w g:=λ_ _ h k hr=>(h hr).trans k
theorem Cw.refl (x:AOp)(w:World):Cw x w w:=λ_=>wL.refl w
theorem ak9 {F:Fr}(hf: ∀x,F.A x ->x<F.w0.heap.size /\ ¬F.M x)(hh:(∀x,F.M x ->x<F.w0.heap.size)/\Glb F.A F.w0)
 (a2: ∀ι s a w,Rel F N ι s a w ->K s ->Q .normal a w) (ak: ∀c a w,¬Q (.panic c) a w) (ab: ∀(j:Nat) (o:Oper) cs b,ops[j]? =some o ->o.op≠ .select cs b)
 (a0:List Nat) (ah: ∀j k,j∈a0 ->k∈a0 ->clsAt P hs ops j=4 ->clsAt P hs ops k=4 ->j=k):
 ∀(rest:List Nat),(∀j∈rest,j∈a0) ->U5 P hs ops rest=true -> ∀xs,j8 P N hs ops.toList gs rest=some (xs.map AI.erase) ->
  (∀(k d b:Nat) (F':Fr) (l:Nat) (listed:Array Bool) (ι:Nat ->Gh) (s:S) (a:Act) (w:World),k∈rest ->Hid P hs ops F F' k d b ->v0 ops listed rest (λj=>Nat.beq j k) ->rest.length<=l+1 ->
   Rel F' N ι s a w ->zN P xs s K ->uS P hs ops Q l listed (a.put (some d) (agj b)) w)/\
  (∀(l:Nat) (listed:Array Bool) (ι:Nat ->Gh) (s:S) (a:Act) (w:World),v0 ops listed rest (λ_=>false) ->rest.length<=l ->
   Rel F N ι s a w ->zN P xs s K ->uS P hs ops Q l listed a w):=by
 intro rest;induction rest with
 |nil=>
  intro _ _ xs bb;cases xs with
  |cons x r=>grind[j8]
  |nil=>
   refine⟨λk d b F' l listed ι s a w hk=>(by cases hk),λl listed ι s a w R _ hr h=>?_⟩;have bh:Region.ready .any ops listed=[]:=by
    cases bs:Region.ready .any ops listed with
    |nil=>rfl
    |cons j js=>have:=(R.ready_in (j:=j) (by grind)).1;cases this
   cases l with
   |zero=>exact⟨bh,a2 ι s a w hr h⟩
   |succ l=>exact⟨λ_=>a2 ι s a w hr h,λi hi=>by grind⟩
 |cons i r ih=>
  intro U bi xs bb;obtain⟨bd,a7⟩:=ajS bi;obtain⟨o,x,g,drop,rest,rfl,I,hd,hx,hg,az⟩:=ZY bb;have hF:=aba I bd;obtain⟨bt,bo⟩:=ih (λj hj=>U j (List.mem_cons_of_mem _ hj)) a7 rest az
  have P2: ∀(k d b:Nat) (F':Fr) (l:Nat) (listed:Array Bool) (ι:Nat ->Gh) (s:S) (a:Act) (w:World),k∈i::r ->Hid P hs ops F F' k d b ->v0 ops listed (i::r) (λj=>Nat.beq j k) ->(i::r).length<=l+1 ->
   Rel F' N ι s a w ->zN P (.mk o.dst g (isin i gs) x drop::rest) s K ->uS P hs ops Q l listed (a.put (some d) (agj b)) w:=by
   intro k d b F' l listed ι s a w hk p R ae hr h;by_cases af:i=k
   ·
    subst af;obtain⟨o',cs,ai,a6,an,J,ac,a8,al⟩:=p.row;rw[I]at a6;cases a6;have bm:cOp P o.op o.type=some x:=by
     rcases Zi (P:=P) (hs:=hs) I with⟨_,h1⟩|⟨h1,_⟩|⟨_,h1,_⟩
     ·rw[p.cl]at h1;cases h1
     ·rw[h1]at hx;exact hx
     ·rw[p.cl]at h1;cases h1
    rw[bm]at J;cases J;rw[an]at hg;simp only[jh,Option.some.injEq]at hg;subst hg;have aa:o.dst=some d:=by have:=p.dst;grind[dstOf]
    rw[aa]at h;simp only[zN,zF,ac,cond_true]at h;obtain⟨s2,h5,h6⟩:=Zr (hr.unhide p.under hf hh a8 al (hd d aa)) (λk hk=>by grind) h;rw[yU]at h6;exact bo l listed _ _ _ w (R.show hF.nin) (by grind) (h5.drop drop) h6
   ·have a4:k∈r:=(List.mem_cons.1 hk).resolve_left (λh=>af h.symm);have bc:dstOf ops k=some d:=p.dst;obtain⟨ba,bk⟩:=hF.sep k a4 p.cl d bc;have aq:i∈Region.ready .any ops listed:=Vz R I hF (y7 af);have bp:1<=r.length:=List.length_pos_of_mem a4;obtain⟨f,rfl⟩: ∃f,l=f+1:=⟨l - 1,by grind⟩;have be:=R.step hF.nin;have aj:r.length<=f+1:=by grind
    by_cases hc:clsAt P hs ops i=1\/clsAt P hs ops i=2
    ·obtain⟨v,ι',s',hy,ay,h'⟩:=QF hr hd (vy I hx hc).1 (vy I hx hc).2.1 hg h;have bn:YC P ops (Cw x w) o v (a.put (some d) (agj b)):=
      hy.of_same (execOp_put o (λcs b=>ab i o cs b I) a (some d) (agj b) (λe he=>by cases he;exact ba)) (wanted_put o a (some d) (agj b) (λe he=>by grind))
     refine WC I ab ak (Cw.ext x w) (depsL P hs ops i r []) (Kn i r) f listed _ w (Cw.refl x w) (X6 R (λj _ h4=>y7 (λe=>h4 (by rw[e];exact p.cl)))) (Jc R I hx hF hc) aq bn ?_
     grind[Go.Act.put_comm]
    ·have bq:clsAt P hs ops i≠4:=λe=>af (ah i k (U i List.mem_cons_self) (U k hk) e p.cl)
     have ad:clsAt P hs ops i=0\/clsAt P hs ops i=3:=by grind[aa0]
     refine⟨λhe=>(by grind),λj hj=>?_⟩;obtain⟨ag,a3⟩:=R.ready_in hj;have au:j=i:=by
      rcases List.mem_cons.1 ag with h|av
      ·exact h
      ·rcases hF.heavy hc j av with h4|hw
       ·have:=ah j k (U j ag) (U k hk) h4 p.cl;subst this;simp at a3
       ·obtain⟨n,T,aw⟩:=VI hj hw;rw[Bool.and_eq_true]at T;have bg:=Nat.eq_of_beq_eq_true (R.unlisted aw ((zV _ _).1 T.1));subst bg;rw[p.cl]at T;have bf:n≠i:=λe=>af e.symm
        rw[y7 bf]at T;cases T.2
     subst au;refine ah0 I ba bk (λcs b=>ab j o cs b I) ak ?_;refine QA hr I hd hx ad hg h λι1 s1 a1 w1 bj h1 he=>⟨he,?_⟩
     grind
  refine⟨P2,λl listed ι s a w R ae hr h=>?_⟩;have aq:i∈Region.ready .any ops listed:=Vz R I hF rfl;obtain⟨f,rfl⟩: ∃f,l=f+1:=⟨l - 1,by grind⟩;have be:=R.step hF.nin;have aj:r.length<=f:=by grind
  by_cases hc:clsAt P hs ops i=1\/clsAt P hs ops i=2
  ·obtain⟨v,ι',s',hy,ay,h'⟩:=QF hr hd (vy I hx hc).1 (vy I hx hc).2.1 hg h;refine WC I ab ak (Cw.ext x w) (depsL P hs ops i r []) (Kn i r) f listed _ w (Cw.refl x w) (X6 R (λ_ _ _=>rfl)) (Jc R I hx hF hc) aq hy ?_
   grind
  ·refine⟨λhe=>(by grind),λj hj=>?_⟩;obtain⟨ag,a3⟩:=R.ready_in hj;by_cases ar:clsAt P hs ops j=4
   ·
    obtain⟨_,oj,ax,_⟩:=mem_ready.1 hj;obtain⟨cs,d,J,ac,an,aa⟩:=ak2 ax ar;obtain⟨t,ai,al,a9⟩:=akW J ac;have a5:=NewRow.alloc w ai t;have ao:=Grows.alloc w ai t;obtain⟨F',hu,bl,ay⟩:=hr.hide ao (by rw[a5.size];omega);unfold wpOp;simp only[ax];rw[if_pos (by grind[Region.wanted])];refine .inl ?_;unfold Oper.wp;rw[a9 a w,Oper.upon_value,aa];refine⟨λ_=>⟨ao.size,λb hb=>ao.block b hb (λh=>h)⟩,?_⟩;exact P2 j d w.heap.size F' f _ ι s a _ ag ⟨ar,by grind[dstOf],hu,oj,cs,ai,ax,an,J,ac,by rw[bl];exact⟨t,a5.new⟩,al⟩ R.hide ae ay h
   ·have au:j=i:=by
     rcases List.mem_cons.1 ag with h|av
     ·exact h
     ·rcases hF.heavy hc j av with h4|hw
      ·exact absurd h4 ar
      ·obtain⟨n,T,aw⟩:=VI hj hw;rw[Bool.and_eq_true]at T;have:=R.unlisted aw ((zV _ _).1 T.1);cases this
    subst au;have ad:clsAt P hs ops j=0\/clsAt P hs ops j=3:=by have:=aa0 (P:=P) (hs:=hs) I;omega
    refine QA hr I hd hx ad hg h λι1 s1 a1 w1 bj h1 he=>⟨he,?_⟩
    grind
theorem aev {g:List Nat}(h:abt P hs ops g=true):P.follows .mixedOrders=true /\(∀i,i<ops.size ->i∈g)/\g.length<=ops.size /\XN P hs ops g=true /\U5 P hs ops g=true:=by
 unfold abt at h;simp only[Bool.and_eq_true]at h;obtain⟨⟨⟨⟨j,l⟩,o⟩,p⟩,r⟩:=h;refine⟨j,λi hi=>?_,Nat.le_of_ble_eq_true o,p,r⟩;have:=wt.1 l i (by grind[X1])
 grind[zV]
theorem ajs {F:Fr}{ords:List (Nat×List Nat)}{id:Nat}{xs:List AI}(g:Yp P N ords id ops true=some (.reg (xs.map AI.erase))){J:E ->S ->Prop}{ι:Nat ->Gh}{s:S}{a:Act}{w:World}
 (hr:Rel F N ι s a w) (h:YY P (.reg xs) J s):(Code.region id ops true).wp P (up F N J) a w:=by
 simp only[Yp]at g;split at g
 ·split at g
  ·rcases v7 g with h|h<;>simp_all
  ·cases g
 split at g
 case h_2=>cases g
 rename_i i _;cases r:abt P (qT ords id) ops i with
 |false=>grind
 |true=>
  rw[r]at g;simp only[cond_true,Option.map_eq_some_iff,ACode.reg.injEq]at g;obtain⟨ys,l,rfl⟩:=g;obtain⟨h1,h2,h3,h4,h5⟩:=aev r;refine wp_region_any h1 (Jw (hs:=qT ords id) _ _ _ _ ?_);have I: ∀(j:Nat) (o:Oper) cs b,ops[j]? =some o ->o.op≠ .select cs b:=by
   intro j o cs b ho he;have R:j<ops.size:=(Array.getElem?_eq_some_iff.1 ho).1;obtain⟨o',x,p,U⟩:=afw l j (h2 j R);rw[ho]at p;cases p;rw[he]at U;cases hb:isin j (qT ords id)<;>rw[hb]at U<;>cases U
  have T:Rel F N ι s a {w with drawn:=w.drawn+1}:=hr.grown ⟨rfl,rfl,⟨rfl,Nat.le_succ _⟩,Nat.le_refl _,λ_ _ _=>rfl,λ_ _ _ h=>h⟩;refine(ak9 (F:=F) (hs:=qT ords id) (K:=J .normal) (Q:=up F N J) (gs:=vo ops.toList) hr.foreign hr.handed (λι s a w hr hk=>⟨ι,s,hr,hk⟩) (λc a w h=>h) I i (afM h4) i (λ_ h=>h) h5 xs l).2 ops.size _ ι s a _ ?_ h3 T h;refine⟨by simp,λj hj=>?_⟩
  grind[zV]
end
section
variable {P:Program}{hs:List Nat}{ops:Array Oper}{N:Nat}{gs:List Nat}{Q:Exit ->Act ->World ->Prop}
theorem jo {i j:Nat}: ∀{l:List Nat},isin j (Zq i l)=(isin j l&& !Nat.beq j i)
 | []=>rfl
 |x::r=>by
  have o:=jo (i:=i) (j:=j) (l:=r);have p: ∀a b:Nat,(Nat.beq a b=true)=(a=b):=λa b=>propext ⟨Nat.eq_of_beq_eq_true,λh=>by grind[qC]⟩
  by_cases g:x=i
  ·subst g;simp only[Zq,qC,cond_true,o,isin]
   grind
  ·simp only[Zq,y7 g,cond_false,isin,o];by_cases I:x=j<;>simp_all[y7]
theorem acU {i:Nat}: ∀{l:List Nat},(Zq i l).length<=l.length /\(isin i l=true ->(Zq i l).length<l.length)
 | []=>⟨Nat.le_refl _,λh=>by cases h⟩
 |x::r=>by
  have j:=acU (i:=i) (l:=r);by_cases g:x=i
  ·subst g;simp only[Zq,qC,cond_true,List.length_cons]
   grind
  simp_all[Zq,y7,isin]
theorem v0.congr {listed:Array Bool}{r g:List Nat}{hid:Nat ->Bool}(h:v0 ops listed r hid)(e: ∀j,isin j r=isin j g):v0 ops listed g hid:=
 ⟨h.1,λj i=>by rw[<- e j];exact h.2 j i⟩
theorem X9 {i:Nat}{rest:List Nat}(h:isin i rest=true)(j:Nat):isin j rest=isin j (i::Zq i rest):=by
 grind[isin,jo,y7]
def ai6 (P:Program)(hs:List Nat)(ops:Array Oper)(Q:Exit ->Act ->World ->Prop)(F:Fr)(N:Nat)(rest:List Nat)(K:S ->Prop):Prop:=
 ∀(g:Nat) (listed:Array Bool) (ι:Nat ->Gh) (s:S) (a:Act) (w:World),v0 ops listed rest (λ_=>false) ->rest.length<=g ->Rel F N ι s a w ->K s ->uS P hs ops Q g listed a w
theorem ajx {F:Fr}(aa: ∀c a w,¬Q (.panic c) a w)(T: ∀(j:Nat) (o:Oper) cs b,ops[j]? =some o ->o.op≠ .select cs b)
 {i:Nat}{r:List Nat}(ab:WV P hs ops i r=true) (ag: ∀j∈i::r,clsAt P hs ops j≠4) {o:Oper}(l:ops[i]? =some o) (hd: ∀k,o.dst=some k ->k<N) {x:AOp}(hx:Yo P (isin i hs) o.op o.type=some x)
 {g:Option (Nat×Bool)}(hg:jh ops.toList o.guard=some g) {ai:Bool}{drop:List Nat}{rest:List AI}{K:S ->Prop}
 {f:Nat}{listed:Array Bool}{ι:Nat ->Gh}{s:S}{a:Act}{w:World}(J:v0 ops listed (i::r) (λ_=>false)) (hr:Rel F N ι s a w) (h:zN P (.mk o.dst g ai x drop::rest) s K)
 (hn: ∀ι' s' a' w',Rel F N ι' s' a' w' ->zN P rest s' K ->uS P hs ops Q f (listed.setIfInBounds i true) a' w'):uS P hs ops Q (f+1) listed a w:=by
 have hF:=aba l ab;have ac:i∈Region.ready .any ops listed:=Vz J l hF rfl;by_cases U:clsAt P hs ops i=1\/clsAt P hs ops i=2
 ·obtain⟨v,ι',s',hy,al,h'⟩:=QF hr hd (vy l hx U).1 (vy l hx U).2.1 hg h;refine WC l T aa (Cw.ext x w) (depsL P hs ops i r []) (Kn i r) f listed _ w (Cw.refl x w) (X6 J (λ_ _ _=>rfl)) (Jc J l hx hF U) ac hy ?_
  grind
 ·refine⟨λhe=>(by grind),λj hj=>?_⟩;obtain⟨I,aj⟩:=J.ready_in hj;have ak:=ag j I;have ad:j=i:=by
   rcases List.mem_cons.1 I with h|ae
   ·exact h
   ·rcases hF.heavy U j ae with h4|hw
    ·grind
    ·obtain⟨n,R,af⟩:=VI hj hw;rw[Bool.and_eq_true]at R;have:=J.unlisted af ((zV _ _).1 R.1);cases this
  subst ad;have p:clsAt P hs ops j=0\/clsAt P hs ops j=3:=by grind[aa0]
  exact QA hr l hd hx p hg h λι1 s1 a1 w1 ah h1 he=>⟨he,hn ι1 s1 a1 w1 ah h1⟩
theorem amC {F:Fr}{i:Nat}(aa:clsAt P hs ops i≠4){o:Oper}(p:ops[i]? =some o)(hd: ∀k,o.dst=some k ->k<N){x:AOp}(R:Yo P (isin i hs) o.op o.type=some x)
 {g:Option (Nat×Bool)}(hg:jh ops.toList o.guard=some g) {T:Bool}{drop:List Nat}{rest:List AI}{K:S ->Prop}
 {ι:Nat ->Gh}{s:S}{a:Act}{w:World}(hr:Rel F N ι s a w) (h:zN P (.mk o.dst g T x drop::rest) s K) {next:Act ->World ->Prop}
 (hn: ∀ι' r l w',Rel F N ι' r l w' ->zN P rest r K ->next l w'):wpOp P ops Q i (λl w'=>(1<=clsAt P hs ops i ->wL w w')/\next l w') a w:=by
 by_cases U:clsAt P hs ops i=1\/clsAt P hs ops i=2
 ·obtain⟨v,ι',r,hy,I,h'⟩:=QF hr hd (vy p R U).1 (vy p R U).2.1 hg h;exact hy.wpOp p (Cw.refl x w) ⟨λ_=>wL.refl w,hn ι' r _ w I h'⟩
 ·have j:clsAt P hs ops i=0\/clsAt P hs ops i=3:=by grind[aa0]
  exact QA hr p hd R j hg h λι1 s1 a1 w1 J h1 he=>⟨he,hn ι1 s1 a1 w1 J h1⟩
theorem agu {F:Fr}(ad: ∀c a w,¬Q (.panic c) a w)(ab: ∀(j:Nat) (o:Oper) cs b,ops[j]? =some o ->o.op≠ .select cs b)(aj: ∀j,isin j (zJ 0 ops.size)=true ->clsAt P hs ops j≠4){K:S ->Prop}{f:List Nat ->Bool}
 (hf: ∀rest,f rest=true ->(∀j,isin j rest=true ->clsAt P hs ops j≠4) ->ai6 P hs ops Q F N rest K):
 ∀(l rest:List Nat),U6 P hs ops l rest f=true ->(∀j,isin j rest=true ->clsAt P hs ops j≠4) -> ∀xs,j8 P N hs ops.toList gs l=some (xs.map AI.erase) ->ai6 P hs ops Q F N rest (λs=>zN P xs s K):=by
 intro l;induction l with
 |nil=>
  intro rest p I xs ac;cases xs with
  |cons x r=>grind[j8]
  |nil=>exact hf rest p I
 |cons i l ih=>
  intro rest p I xs ac J listed ι s a w hl ai hr h;simp only[U6]at p;cases hb:(isin i rest&&WV P hs ops i (Zq i rest))with
  |false=>grind
  |true=>
   rw[hb,cond_true]at p;rw[Bool.and_eq_true]at hb;obtain⟨U,ae⟩:=hb;obtain⟨o,x,g,drop,T,rfl,ho,hd,hx,hg,R⟩:=ZY ac;have aa:=hl.congr (X9 U);have ah:=(acU (i:=i) (l:=rest)).2 U;obtain⟨f',rfl⟩: ∃f',J=f'+1:=⟨J - 1,by omega⟩;have af:i∉Zq i rest:=wB.1 (by grind[jo,qC]);refine ajx ad ab ae (λj hj=>I j (by grind[X9,zV])) ho hd hx hg aa hr h λι' s' a' w' ag h'=>?_
   exact ih (Zq i rest) p (λj hj=>I j (by simp_all[jo])) T R f' _ ι' s' a' w' (aa.step af) (by omega) ag h'
theorem aby {listed:Array Bool}{rest:List Nat}(p:v0 ops listed rest (λ_=>false)){j:Nat}(hj:isin j rest=true):KV ops rest j=true↔j∈Region.ready .any ops listed:=by
 constructor
 ·intro h;unfold KV at h;cases P:ops[j]? with
  |none=>grind
  |some o=>
   rw[P]at h;have l:j<ops.size:=(Array.getElem?_eq_some_iff.1 P).1;refine mem_ready.2 ⟨?_,o,P,λe I U=>?_⟩
   ·rw[Array.getD_eq_getD_getElem?,p.2 j l,hj];rfl
   ·have:=wt.1 h e (Array.mem_toList_iff.2 I);rw[U]at this;simp only[Bool.not_true,Bool.false_or,Bool.and_eq_true,Bool.not_eq_true']at this;rw[Array.getD_eq_getD_getElem?,p.2 e.on (Nat.le_of_ble_eq_true this.1),this.2];rfl
 ·intro h;obtain⟨_,oj,R,g⟩:=mem_ready.1 h;unfold KV;rw[R];refine wt.2 λe I=>?_
  cases r:Region.binds .any e with
  |false=>rfl
  |true=>
   have i:=g e (Array.mem_toList_iff.1 I) r;have l:e.on<ops.size:=by
    rw[Array.getD_eq_getD_getElem?]at i;cases hx:listed[e.on]? with
    |none=>grind
    |some b=>rw[<- p.1];grind
   have T:isin e.on rest=false:=by
    cases J:isin e.on rest with
    |false=>rfl
    |true=>have:=p.unlisted i ((zV _ _).1 J);cases this
   grind[Nat.blt,Nat.ble_eq_true_of_le]
theorem amo {F:Fr}(ai: ∀c a w,¬Q (.panic c) a w)(ad: ∀(j:Nat) (o:Oper) cs b,ops[j]? =some o ->o.op≠ .select cs b)(aj: ∀j,isin j (zJ 0 ops.size)=true ->clsAt P hs ops j≠4){K:S ->Prop}
 (ah: ∀ι s a w,Rel F N ι s a w ->K s ->Q .normal a w):
 ∀(t:Tr) (rest:List Nat) (x:ATr),Xz P N hs ops.toList gs t=some x.erase ->(∀j,isin j rest=true ->clsAt P hs ops j≠4) ->
  (Zb P hs ops false t rest=true ->ai6 P hs ops Q F N rest (λs=>J9 P x s K))/\
  (Zb P hs ops true t rest=true -> ∀(f:Nat) (listed:Array Bool) (ι:Nat ->Gh) (s:S) (a:Act) (w:World),v0 ops listed rest (λ_=>false) ->rest.length<=f+1 ->Rel F N ι s a w ->J9 P x s K ->
   ∀j,isin j (XB t)=true ->isin j rest=true ->wpOp P ops Q j (λa' w'=>(1<=clsAt P hs ops j ->wL w w')/\uS P hs ops Q f (listed.setIfInBounds j true) a' w') a w):=by
 intro t;induction t with
 |fin=>
  intro rest x J I;cases x with
  |fin=>
   refine⟨λp T listed ι s a w hl R hr h=>?_,λp f listed ι s a w hl R hr h j U _=>by cases U⟩;cases rest with
   |cons y r=>cases p
   |nil=>
    have ak:Region.ready .any ops listed=[]:=by
     cases a3:Region.ready .any ops listed with
     |nil=>rfl
     |cons j js=>have:=(hl.ready_in (j:=j) (by grind)).1;cases this
    cases T with
    |zero=>exact⟨ak,ah ι s a w hr h⟩
    |succ T=>exact⟨λ_=>ah ι s a w hr h,λi hi=>by grind⟩
  |run _ _=>cases J
  |br _ _=>cases J
 |run l t ih=>
  intro rest x J I;simp only[Xz]at J;split at J
  case h_2=>cases J
  rename_i xo xt al ay;cases x with
  |fin=>cases J
  |br _ _=>cases J
  |run xs an=>
   simp only[ATr.erase,Option.some.injEq,ATr.run.injEq]at J;obtain⟨rfl,rfl⟩:=J;have aa: ∀rest,Zb P hs ops false t rest=true ->(∀j,isin j rest=true ->clsAt P hs ops j≠4) ->ai6 P hs ops Q F N rest (λs=>J9 P an s K):=λrest p I=>(ih rest an ay I).1 p
   refine⟨λp=>?_,λp f listed ι s a w hl R hr h j U ab=>?_⟩
   ·exact agu ai ad aj aa l rest p I xs al
   ·cases l with
    |nil=>cases p
    |cons i l=>
     have ao:j=i:=by
      grind[XB,isin,Nat.eq_of_beq_eq_true]
     subst ao;simp only[Zb,Bool.and_eq_true]at p;obtain⟨ae,p⟩:=p;obtain⟨o,y,g,drop,ag,rfl,ho,hd,hy,hg,af⟩:=ZY al;have ar:=hl.congr (X9 ae);have a1:=(acU (i:=j) (l:=rest)).2 ae;have au:j∉Zq j rest:=wB.1 (by grind[jo,qC]);refine amC (I j ae) ho hd hy hg hr h λι' s' a' w' av h'=>?_
     exact agu ai ad aj aa l (Zq j rest) p (λk hk=>I k (by simp_all[jo])) ag af f _ ι' s' a' w' (ar.step au) (by omega) av h'
 |br t1 t2 az a0=>
  intro rest x J I;simp only[Xz]at J;split at J
  case h_2=>cases J
  rename_i x1 x2 aw ax;cases x with
  |fin=>cases J
  |run _ _=>cases J
  |br y1 y2=>
   simp only[ATr.erase,Option.some.injEq,ATr.br.injEq]at J;obtain⟨rfl,rfl⟩:=J
   have hB:Zb P hs ops true t1 rest=true ->Zb P hs ops true t2 rest=true -> ∀(f:Nat) (listed:Array Bool) (ι:Nat ->Gh) (s:S) (a:Act) (w:World),v0 ops listed rest (λ_=>false) ->rest.length<=f+1 ->Rel F N ι s a w ->J9 P (.br y1 y2) s K ->
    ∀j,isin j (XB t1++XB t2)=true ->isin j rest=true ->wpOp P ops Q j (λa' w'=>(1<=clsAt P hs ops j ->wL w w')/\uS P hs ops Q f (listed.setIfInBounds j true) a' w') a w:=by
    intro h1 h2 f listed ι s a w hl R hr h j U ab;rcases List.mem_append.1 ((zV _ _).1 U)with U|U
    ·exact(az rest y1 aw I).2 h1 f listed ι s a w hl R hr h.1 j ((zV _ _).2 U) ab
    ·exact(a0 rest y2 ax I).2 h2 f listed ι s a w hl R hr h.2 j ((zV _ _).2 U) ab
   refine⟨λp T listed ι s a w hl R hr h=>?_,λp=>?_⟩
   ·simp only[Zb,Bool.and_eq_true,Bool.false_or]at p;obtain⟨⟨h1,h2⟩,h4,h3⟩:=p;have ac: ∀j,j∈Region.ready .any ops listed ->isin j rest=true /\isin j (XB t1++XB t2)=true:=λj U=>by
     have ab:=(hl.ready_in U).1;have:=wt.1 h3 j ab<;>grind[aby,zV]
    obtain⟨k,hk,aq⟩:=UD.1 h4;have a2:=(aby hl ((zV _ _).2 hk)).1 aq;cases T with
    |zero=>
     grind
    |succ f=>exact⟨λhe=>(by grind),λj U=>hB h1 h2 f listed ι s a w hl R hr h j (ac j U).2 (ac j U).1⟩
   ·simp only[Zb,Bool.and_eq_true,Bool.true_or]at p;exact hB p.1.1 p.1.2
theorem aiI {f:List Nat ->Bool}(T: ∀rest,f rest=true -> ∀j∈rest,∃o y,ops[j]? =some o /\Yo P (isin j hs) o.op o.type=some y): ∀(l rest:List Nat),U6 P hs ops l rest f=true -> ∀xs:List AI,j8 P N hs ops.toList gs l=some (xs.map AI.erase) ->
 ∀j∈rest,∃o y,ops[j]? =some o /\Yo P (isin j hs) o.op o.type=some y:=by
 intro l;induction l with
 |nil=>intro rest p _ _;exact T rest p
 |cons i l ih=>
  intro rest p xs J j hj;simp only[U6]at p;cases R:(isin i rest&&WV P hs ops i (Zq i rest))with
  |false=>grind
  |true=>
   rw[R,cond_true]at p;obtain⟨o,x,g,drop,I,rfl,ho,hd,hx,hg,r⟩:=ZY J;by_cases U:j=i
   ·grind
   ·exact ih (Zq i rest) p I r j ((zV _ _).1 (by grind[jo,zV,y7]))
theorem aod: ∀(t:Tr) (b:Bool) (rest:List Nat) (x:ATr),Zb P hs ops b t rest=true ->Xz P N hs ops.toList gs t=some x.erase -> ∀j∈rest,∃o y,ops[j]? =some o /\Yo P (isin j hs) o.op o.type=some y:=by
 intro t;induction t with
 |fin=>
  intro b rest x p I j hj;cases b with
  |true=>cases p
  |false=>cases rest with
   |nil=>cases hj
   |cons y r=>cases p
 |run l t ih=>
  intro b rest x p I;simp only[Xz]at I;split at I
  case h_2=>cases I
  rename_i xo xt T U;cases x with
  |fin=>cases I
  |br _ _=>cases I
  |run xs aa=>
   simp only[ATr.erase,Option.some.injEq,ATr.run.injEq]at I;obtain⟨rfl,rfl⟩:=I;cases b with
   |false=>exact aiI (λrest p=>ih false rest aa p U) l rest p xs T
   |true=>
    cases l with
    |nil=>cases p
    |cons i l=>
     simp only[Zb,Bool.and_eq_true]at p;obtain⟨ab,p⟩:=p;obtain⟨o,y,g,drop,R,rfl,ho,hd,hy,hg,J⟩:=ZY T;intro j hj;by_cases ac:j=i
     ·grind
     ·exact aiI (λrest p=>ih false rest aa p U) l (Zq i rest) p R J j ((zV _ _).1 (by grind[jo,zV,y7]))
 |br t1 t2 af ag=>
  intro b rest x p I;simp only[Xz]at I;split at I
  case h_2=>cases I
  rename_i x1 x2 ad ae;cases x with
  |fin=>cases I
  |run _ _=>cases I
  |br y1 y2=>
   simp only[ATr.erase,Option.some.injEq,ATr.br.injEq]at I;obtain⟨rfl,rfl⟩:=I;simp only[Zb,Bool.and_eq_true]at p
   grind
theorem aky {F:Fr}{ords:List (Nat×List Nat)}{id:Nat}{x:ATr}(g:Yp P N ords id ops true=some (.tree x.erase)){T:E ->S ->Prop}{ι:Nat ->Gh}{s:S}{a:Act}{w:World}
 (hr:Rel F N ι s a w) (h:YY P (.tree x) T s):(Code.region id ops true).wp P (up F N T) a w:=by
 simp only[Yp]at g;split at g
 ·rename_i l _;split at g
  ·rename_i t _ _;cases i:acK P (qT ords id) ops t with
   |false=>grind
   |true=>
    rw[i]at g;simp only[cond_true,Option.map_eq_some_iff,ACode.tree.injEq]at g;obtain⟨y,r,rfl⟩:=g;unfold acK at i;simp only[Bool.and_eq_true]at i;obtain⟨⟨h1,h2⟩,h3⟩:=i;have I: ∀j,isin j (zJ 0 ops.size)=true ->clsAt P (qT ords id) ops j≠4:=λj U e=>by
     have:=wt.1 h2 j ((zV _ _).1 U);simp_all
    refine wp_region_any h1 (Jw (hs:=qT ords id) _ _ _ _ ?_);have R: ∀(j:Nat) (o:Oper) cs b,ops[j]? =some o ->o.op≠ .select cs b:=by
     intro j o cs b ho he;have ab:j<ops.size:=(Array.getElem?_eq_some_iff.1 ho).1;obtain⟨o',x',J,p⟩:=aod t false (zJ 0 ops.size) x h3 r j (by grind[X1]);rw[ho]at J;cases J;rw[he]at p;cases hb:isin j (qT ords id)<;>rw[hb]at p<;>cases p
    have aa:Rel F N ι s a {w with drawn:=w.drawn+1}:=hr.grown ⟨rfl,rfl,⟨rfl,Nat.le_succ _⟩,Nat.le_refl _,λ_ _ _=>rfl,λ_ _ _ h=>h⟩;refine((amo (F:=F) (hs:=qT ords id) (K:=T .normal) (Q:=up F N T) (gs:=vo ops.toList) (λc a w h=>h) R I (λι s a w hr hk=>⟨ι,s,hr,hk⟩) t (zJ 0 ops.size) x r (λj U=>I j U)).1 h3) ops.size _ ι s a _ ?_ (by grind[X1]) aa h;refine⟨by simp,λj U=>?_⟩
    grind[zV,X1]
  ·cases g
 ·split at g
  ·rcases v7 g with h|h<;>simp_all
  ·cases g
end
theorem ji {P:Program}{N:Nat}{ords:List (Nat×List Nat)}{id:Nat}{ops:Array Oper}{d:Bool}{y:ACode}(h:Yp P N ords id ops d=some y):(∃xs,y= .reg xs)\/ ∃t,y= .tree t:=by
 cases d
 ·grind[Yp,Option.map_eq_some_iff]
 ·simp only[Yp]at h;split at h
  ·split at h
   ·rcases v7 h with h|h
    ·grind[Option.map_eq_some_iff]
    ·cases h
   ·cases h
  ·split at h
   ·rcases v7 h with h|h
    ·grind[Option.map_eq_some_iff]
    ·cases h
   ·cases h
section
variable {P:Program}{F:Fr}{N:Nat}{ords:List (Nat×List Nat)}
theorem adl: ∀(x:ACode) (c:Code),x8 P N ords c=some x.erase -> ∀(Q:E ->S ->Prop) (ι:Nat ->Gh) (s:S) (a:Act) (w:World),Rel F N ι s a w ->YY P x Q s ->c.wp P (up F N Q) a w:=by
 intro x;induction x with
 |skip=>
  intro c g Q ι s a w hr h;cases c with
  |skip=>exact wp_skip ⟨ι,s,hr,h⟩
  |label l=>exact wp_label ⟨ι,s,hr,h⟩
  |region id ops d=>rcases ji g with⟨xs,h⟩|⟨xs,h⟩<;>simp[ACode.erase]at h
  |_=>(simp only[x8]at g;(repeat' split at g)<;>simp_all[ACode.erase])
 |reg xs=>
  intro c g Q ι s a w hr h;cases c with
  |region id ops d=>
   cases d with
   |true=>exact ajs (g:Yp P N ords id ops true=some (.reg (xs.map AI.erase))) hr h
   |false=>
    have g:Yp P N ords id ops false=some (.reg (xs.map AI.erase)):=g;simp only[Yp,Option.map_eq_some_iff,ACode.reg.injEq]at g;obtain⟨ys,r,rfl⟩:=g;refine wp_region ?_;have:=afu (F:=F) (K:=Q .normal) (Q:=up F N Q) (λι s a w hr hk=>⟨ι,s,hr,hk⟩) _ xs r ι s a w hr h
    grind[X1,List.range_eq_range']
  |_=>(simp only[x8]at g;(repeat' split at g)<;>simp_all[ACode.erase])
 |seq x y aa ab=>
  intro c g Q ι s a w hr h;cases c with
  |seq c d=>
   simp only[x8,ACode.erase]at g;split at g
   ·rename_i x' y' hx hy;simp only[Option.some.injEq,ACode.seq.injEq]at g;obtain⟨rfl,rfl⟩:=g;refine wp_seq (wp_mono (aa c hx _ ι s a w hr h) ?_);intro e U w' p;cases e with
    |normal=>obtain⟨ι1,T,R,r⟩:=p;exact ab d hy Q ι1 T U w' R r
    |exit i=>exact p
    |ret=>exact p
    |_=>exact p.elim
   ·cases g
  |region id ops d=>rcases ji g with⟨xs,h⟩|⟨xs,h⟩<;>simp[ACode.erase]at h
  |_=>(simp only[x8]at g;(repeat' split at g)<;>simp_all[ACode.erase])
 |cond o x y aa ab=>
  intro c g Q ι s a w hr h;cases c with
  |cond q c d=>
   simp only[x8,ACode.erase]at g;split at g
   ·rename_i x' y' hx hy;simp only[Option.some.injEq,ACode.cond.injEq]at g;obtain⟨rfl,rfl,rfl⟩:=g;simp only[YY]at h;split at h
    ·rename_i t ht;have hv:=vj hr q;rw[gq ht]at hv;have hq:a.eval q= .bool t:=hv.1<;>grind[wp_cond]
    grind
   ·cases g
  |region id ops d=>rcases ji g with⟨xs,h⟩|⟨xs,h⟩<;>simp[ACode.erase]at h
  |_=>(simp only[x8]at g;(repeat' split at g)<;>simp_all[ACode.erase])
 |block i x ih=>
  intro c g Q ι s a w hr h;cases c with
  |block j c=>
   simp only[x8,Option.map_eq_some_iff,ACode.erase,ACode.block.injEq]at g;obtain⟨y,r,rfl,rfl⟩:=g;refine wp_block (wp_mono (ih c r _ ι s a w hr h) ?_);intro e U w' p;cases e with
   |normal=>exact p
   |exit k=>
    obtain⟨ι1,T,R,r⟩:=p;simp only[Exit.inBlock];by_cases hk:k=j
    ·subst hk;rw[if_pos rfl];simp only[qC,cond_true]at r;exact⟨ι1,T,R,r⟩
    ·rw[if_neg hk];simp only[y7 hk,cond_false]at r;exact⟨ι1,T,R,r⟩
   |ret=>exact p
   |_=>exact p.elim
  |region id ops d=>rcases ji g with⟨xs,h⟩|⟨xs,h⟩<;>simp[ACode.erase]at h
  |_=>(simp only[x8]at g;(repeat' split at g)<;>simp_all[ACode.erase])
 |loop J x ih=>
  intro c g Q ι s a w hr h;cases c with
  |loop c=>
   simp only[x8,Option.map_eq_some_iff,ACode.erase,ACode.loop.injEq,true_and]at g;obtain⟨y,r,rfl⟩:=g;obtain⟨I,μ,h2,h3⟩:=h;obtain⟨t,ht,h2⟩:=h2;rw[Xn]at h2;obtain⟨ιt,ae⟩:=ht F N ι a w hr;refine akE (σ:=S) (λs a w=>(∃ι,Rel F N ι s a w)/\I s) μ (t.norm J) ⟨⟨ιt,ae.norm J⟩,h2⟩ ?_;rintro T a1 w1 ⟨⟨ι1,R⟩,hi⟩;refine wp_mono (ih c r _ ι1 T a1 w1 R (h3 T hi)) ?_;intro e U w' p;cases e with
   |normal=>
    obtain⟨ι2,s2,ac,h4⟩:=p;obtain⟨t2,af,h4⟩:=h4;simp only[Xn]at h4;obtain⟨ι3,ad⟩:=af F N ι2 U w' ac;exact⟨t2.norm J,⟨⟨ι3,ad.norm J⟩,h4.1⟩,h4.2⟩
   |exit k=>exact p
   |ret=>exact p
   |_=>exact p.elim
  |region id ops d=>rcases ji g with⟨xs,h⟩|⟨xs,h⟩<;>simp[ACode.erase]at h
  |_=>(simp only[x8]at g;(repeat' split at g)<;>simp_all[ACode.erase])
 |scope x ih=>
  intro c g Q ι s a w hr h;cases c with
  |scope c=>
   simp only[x8,Option.map_eq_some_iff,ACode.erase,ACode.scope.injEq]at g;obtain⟨y,r,rfl⟩:=g;refine wp_scope_straight (wp_mono (ih c r _ ι s a w hr h) ?_);intro e U w' p;cases e with
   |normal=>exact p
   |exit k=>exact p
   |ret=>exact p
   |_=>exact p.elim
  |region id ops d=>rcases ji g with⟨xs,h⟩|⟨xs,h⟩<;>simp[ACode.erase]at h
  |_=>(simp only[x8]at g;(repeat' split at g)<;>simp_all[ACode.erase])
 |exit i=>
  intro c g Q ι s a w hr h;cases c with
  |exit j=>simp only[x8,ACode.erase,Option.some.injEq,ACode.exit.injEq]at g;subst g;exact wp_exit ⟨ι,s,hr,h⟩
  |region id ops d=>rcases ji g with⟨xs,h⟩|⟨xs,h⟩<;>simp[ACode.erase]at h
  |_=>(simp only[x8]at g;(repeat' split at g)<;>simp_all[ACode.erase])
 |ret=>
  intro c g Q ι s a w hr h;cases c with
  |ret=>exact wp_ret ⟨ι,s,hr,h⟩
  |region id ops d=>rcases ji g with⟨xs,h⟩|⟨xs,h⟩<;>simp[ACode.erase]at h
  |_=>(simp only[x8]at g;(repeat' split at g)<;>simp_all[ACode.erase])
 |tree x=>
  intro c g Q ι s a w hr h;cases c with
  |region id ops d=>
   cases d with
   |true=>exact aky (g:Yp P N ords id ops true=some (.tree x.erase)) hr h
   |false=>
    have g:Yp P N ords id ops false=some (.tree x.erase):=g
    grind[Yp,Option.map_eq_some_iff]
  |_=>(simp only[x8]at g;(repeat' split at g)<;>simp_all[ACode.erase])
end
section
variable {P:Program}{F:Fr}{N:Nat}{ι:Nat ->Gh}{s:S}{a:Act}{w:World}
theorem uJ {pl:List (Nat×Pl)}: ∀(l U:List Nat),∃r,xY pl U l=U++r
 | [],U=>⟨[],by simp[xY]⟩
 |p::r,U=>by
  have step: ∃g,(bif isin p U then xY pl U r else xY pl (U++[p]) r)=U++g:=by
   cases isin p U
   ·obtain⟨g,h⟩:=uJ (pl:=pl) r (U++[p]);simp_all
   simp_all[uJ]
  unfold xY;split<;>simp_all[uJ]
theorem Wp {pl:List (Nat×Pl)}: ∀(n i:Nat) (U:List Nat),∃r,QG pl n i U=U++r
 |0,_,U=>⟨[],by simp[QG]⟩
 |n+1,i,U=>by
  unfold QG;split
  ·split
   ·rename_i g _;obtain⟨o,j⟩:=uJ (pl:=pl) (Us g) U;obtain⟨p,l⟩:=Wp (pl:=pl) n (i+1) (xY pl U (Us g))
    grind
   simp_all[Wp]
  simp_all
theorem acT {pl:List (Nat×Pl)}(U l:List Nat): ∃r,wI pl U l=U++r:=by
 obtain⟨j,g⟩:=uJ (pl:=pl) l U;obtain⟨o,i⟩:=Wp (pl:=pl) 40 0 (xY pl U l)
 grind[wI]
theorem gv (hr:Rel F N ι s a w){U0:List Nat}{ι0:Nat ->Gh}(h0: ∀i p x,U0[i]? =some p ->aget s.pl p=some x ->ι p=ι0 i){x:V}{v:Value}(h:VR ι w (F.ok ι s.pl w) x v):afe F ι0 U0.length w (aor s.pl U0 x) v:=by
 let U:=wI s.pl U0 x.refs
 obtain⟨ur,hU⟩: ∃r,U=U0++r:=acT U0 x.refs
 let ι':Nat ->Gh:=λk=>ι (U.getD k 0)
 have hι: ∀k p,U[k]? =some p ->ι' k=ι p:=λk p hp=>by grind
 let I:=yD (zJ 0 (vZ s.pl U 0 U).length) (vZ s.pl U 0 U)
 have hz: ∀q y,aget I q=some y -> ∃p,U[q]? =some p /\y=VH s.pl U q p /\y.isGone=false:=λq y l=>by
  obtain⟨q',g1,g2,g3⟩:=Ya _ _ _ _ l;rw[qL]at g1;split at g1
  ·cases g1;rw[Nat.zero_add];rw[Vc,Nat.zero_add]at g2
   grind
  ·cases g1
 have ab:zW w w (F.ok ι s.pl w) (F.ok ι s.pl w):=λb o=>⟨o,rfl⟩
 have P:zW w w (F.ok ι s.pl w) (F.ok ι' I w):=λb o=>⟨⟨o.1,o.2.1,λ⟨q,y,h1,h2,h3⟩=>by
  obtain⟨p,J,e2,R⟩:=hz q y h1;subst e2;obtain⟨_,⟨z,T,e5⟩,_,_⟩:=KQ hr ab hι J R;rw[hι q p J]at h3;exact o.2.2 ⟨p,z,T,e5,h3⟩⟩,rfl⟩
 have j: ∀q y,aget I q=some y -> ∃p z,U[q]? =some p /\JE p U=some q /\aget s.pl p=some z /\z.live=true /\PR ι' w (F.ok ι' I w) q y /\y.live=true:=λq y l=>by
  grind[KQ]
 refine⟨?_,ι',aqz hr P hι h,?_,?_,?_,?_,?_⟩
 ·show U0.length<=(vZ s.pl U 0 U).length
  grind[KR]
 ·intro q y l;obtain⟨p,z,_,_,_,_,g,_⟩:=j q y l;exact g
 ·intro q q' y y' b l ad ac o aa;obtain⟨p,z,J,e2,R,T,_,_⟩:=j q y l;obtain⟨p',z',e5,e6,e7,e8,_,_⟩:=j q' y' ad;rw[hι q p J]at o;rw[hι q' p' e5]at aa;refine hr.inj p p' z z' b R e7 (λe=>ac ?_) T o aa
  grind
 ·intro q y b l o;obtain⟨p,z,J,e2,R,T,_,_⟩:=j q y l;rw[hι q p J]at o;exact(hr.mine b ⟨p,z,R,T,o⟩).1
 ·intro q y l;obtain⟨p,z,_,_,_,_,_,g⟩:=j q y l;exact g
 ·intro q y hq l;obtain⟨p,z,J,e2,R,T,_,_⟩:=j q y l
  grind
def agn (tmps:Array Value):ResultVar ->Sem Value
 | .tmp t=>pure (tmps.getD t undef)
 | .cell x t=>do loadVar t (<- asAddr (tmps.getD x undef))
theorem aj0 (fn:Func)(tmps:Array Value):results fn tmps=(do
 let vs<- fn.results.mapM (agn tmps)
 pure (if h:vs.size=1 then vs[0]else .tuple vs)):=by
 unfold results;congr 2
theorem VK (hr:Rel F N ι s a w): ∀{U:List ResultVar}{xs:List ARes},Kc P U=some xs -> ∀{ws:List W},kK s xs=some ws ->
 ∃vs:List Value,(U.mapM (agn a.tmps)).run P w= .ok vs w /\xP ι w (F.ok ι s.pl w) ws vs
 | [],xs,r,ws,h=>by
   cases r;cases h;exact⟨[],by simp,trivial⟩
 | .tmp t::U,xs,r,ws,h=>by
   simp only[Kc,Option.map_eq_some_iff]at r;obtain⟨ys,h1,rfl⟩:=r;simp only[kK]at h;split at h
   ·rename_i u l o hl;cases h;obtain⟨vs,h2,T⟩:=VK hr h1 hl;simp only[anA]at o;split at o
    ·rename_i u' aa;cases o;have i:=akQ hr t;rw[aa]at i;refine⟨a.tmps.getD t undef::vs,?_,i,T⟩
     grind[agn,Sem.run_bind,Sem.run_pure,Result.andThen_ok]
    ·cases o
   ·cases h
 | .cell x t::U,xs,r,ws,h=>by
   simp only[Kc]at r;split at r
   ·rename_i g ys hg h1;cases r;simp only[kK]at h;split at h
    ·rename_i u l o hl;cases h;obtain⟨vs,h2,T⟩:=VK hr h1 hl;simp only[anA]at o;split at o
     ·rename_i p off hp;split at o
      ·rename_i cs I;have i:=xu hr (.tmp x);have i:CR ι w (F.ok ι s.pl w) (cOf (s.tmp x)) (a.tmps.getD x undef):=i;rw[hp]at i;obtain⟨b,e1,e2⟩:=i;obtain⟨b',ab,R,e4,J⟩:=hr.places p _ I;rw[e1]at R;cases R;obtain⟨v,i,hw⟩:=jR (b:=b) (off:=off) hg (CRs.drop off J) (λj v i=>by
        rw[e4.cell];grind) o
       refine⟨v::vs,?_,hw,T⟩<;>grind[agn,asAddr,Sem.run_bind,Sem.run_pure,Result.andThen_ok,wL.refl]
      ·rename_i ds I;have i:=xu hr (.tmp x);have i:CR ι w (F.ok ι s.pl w) (cOf (s.tmp x)) (a.tmps.getD x undef):=i;rw[hp]at i;obtain⟨b,e1,e2⟩:=i;obtain⟨b',R,e4,J⟩:=hr.places p _ I;rw[e1]at R;cases R;have J:=RDc.drop off J;rw[Nat.zero_add]at J;obtain⟨us,h4,h5⟩:=RDc.vals (ι:=ι) J;obtain⟨v,i,hw⟩:=jR (b:=b) (off:=off) hg h4 h5 o;refine⟨v::vs,?_,hw,T⟩<;>grind[agn,asAddr,Sem.run_bind,Sem.run_pure,Result.andThen_ok,wL.refl]
      ·cases o
     ·cases o
    ·cases h
   ·cases r
theorem JP (hr:Rel F N ι s a w){fn:Func}{xs:List ARes}(p:Kc P fn.results.toList=some xs){v:V}(h:anz s xs=some v):
 ∃x,(results fn a.tmps).run P w= .ok x w /\VR ι w (F.ok ι s.pl w) v x:=by
 unfold anz at h;have key: ∀ws,kK s xs=some ws -> ∃vs:List Value,xP ι w (F.ok ι s.pl w) ws vs /\(results fn a.tmps).run P w= .ok (if h:vs.toArray.size=1 then vs.toArray[0]else .tuple vs.toArray) w:=by
  intro ws i;obtain⟨vs,g,j⟩:=VK hr p i;refine⟨vs,j,?_⟩;rw[aj0,<- Array.toArray_toList (xs:=fn.results),List.mapM_toArray]
  grind[Sem.run_bind,map_eq_pure_bind,Sem.run_pure,Result.andThen_ok]
 split at h
 ·rename_i u o;obtain⟨vs,g,j⟩:=key _ o;cases h;cases vs with
  |nil=>exact g.elim
  |cons v vs=>cases vs with
   |nil=>exact⟨v,by grind,g.1⟩
   |cons _ _=>exact g.2.elim
 ·rename_i ws l i;obtain⟨vs,g,j⟩:=key _ i;cases h;refine⟨.tuple vs.toArray,?_,vs,rfl,g⟩;rw[j];rw[dif_neg];intro hs;cases vs with
  |nil=>grind
  |cons v vs=>cases vs with
   |nil=>cases ws with
    |nil=>exact g.elim
    |cons u r=>cases r with
     |nil=>grind
     |cons _ _=>exact g.2.elim
   |cons _ _=>grind
 ·cases h
theorem abd: ∀(l:List W) (i k:Nat) (v:V),aget (jk i l) k=some v -> ∃x,v= .w x /\i<=k /\l[k - i]? =some x:=by
 intro l;induction l with
 |nil=>intro i k v h;cases h
 |cons x r g=>
  intro i k v h;simp only[jk,yg]at h;split at h
  ·simp_all
  grind
theorem xP.get {ok:Nat ->Prop}: ∀{g:List W}{vs:List Value}{i:Nat}{c:W},xP ι w ok g vs ->g[i]? =some c -> ∃v,vs[i]? =some v /\WR ι w ok c v
 | [],_,i,_,_,h=>by simp at h
 |_::_,[],_,_,h,_=>h.elim
 |c::g,v::vs,0,_,h,j=>by simp at j;subst j;exact⟨v,rfl,h.1⟩
 |c::g,v::vs,i+1,_,h,j=>by simpa using xP.get h.2 (by simpa using j)
end
theorem aaI {n0:Nat}(ao:100000<=n0)(aq:n0+1000<=599999){P:Program}{ords:List (Nat×List Nat)}{k:Nat}{A:AFun}(T:cFun P ords k=some A.erase)(J:xE P k=true){args:List W}{hs:List Pl}(au:hs.length<=1000){Q:Res ->Prop}(h:ko n0 P A args hs Q):zD P k args hs Q:=by
 refine⟨J,λw ok ι0 vals aa ⟨af,ae⟩ ai an ab=>?_⟩;unfold cFun at T;split at T
 case h_2=>cases T
 rename_i fn hf;split at T
 case h_2=>cases T
 rename_i c ac;split at T
 case h_2=>cases T
 rename_i x r hx hr;cases hN:Nat.ble fn.ntmps 5000 with
 |false=>grind
 |true=>
 rw[hN]at T;have hN:=Nat.le_of_ble_eq_true hN;simp only[cond_true,AFun.erase,Option.some.injEq,AFun.mk.injEq]at T;obtain⟨rfl,rfl⟩:=T;unfold ko at h;rw[yU]at h
 let ls:List (Option Nat):=(vz n0 hs).map some
 have ak: ∀q p,qV ls q=some p ->q<hs.length /\p=n0+q:=by
  have gen: ∀(n i q p:Nat),qV ((zJ i n).map some) q=some p ->q<n /\p=i+q:=by
   intro n;induction n with
   |zero=>grind[zJ,qV]
   |succ n ih=>
    intro i q p h;cases q<;>grind[zJ,qV]
  exact gen hs.length n0
 let ιc:Nat ->Gh:=λp=>if n0<=p then ι0 (p - n0)else⟨none,0⟩
 have ah: ∀q p,qV ls q=some p ->ιc p=ι0 q:=λq p I=>by
  obtain⟨_,rfl⟩:=ak q p I;simp only[ιc,if_pos (by omega:n0<=n0+q)];congr 1;omega
 let F:Fr:=⟨w,ok,Yf ι0 hs,λp=>if n0<=p /\p<n0+hs.length then some (ι0 (p - n0))else none⟩
 let ad:=uA n0 (hs.map (Pl.ren ls))
 have j: ∀p y,aget ad p=some y -> ∃q x,p=n0+q /\hs[q]? =some x /\y=x.ren ls /\ιc p=ι0 q:=λp y o=>by
  have o:aget (uA n0 (hs.map (Pl.ren ls))) p=some y:=o;rw[aei]at o;split at o
  ·rename_i aj;rw[List.getElem?_map]at o;cases I:hs[p - n0]? with
   |none=>grind
   |some x=>
    rw[I]at o;simp at o;subst o;exact⟨p - n0,x,by omega,I,rfl,by simp only[ιc,if_pos aj]⟩
  ·cases o
 have R:zW w w ok (F.ok ιc ad w):=λb J=>⟨⟨.inl J,(aa b J).1,λ⟨p,y,h1,h2,h3⟩=>by
  obtain⟨q,x,rfl,e1,rfl,e2⟩:=j p y h1;rw[e2]at h3;exact(aa b J).2 ⟨q,x,e1,h3⟩⟩,rfl⟩
 have hrel:Rel F fn.ntmps ιc ⟨jk 0 (args.map (W.ren ls)),ad⟩ {tmps:=vals.toArray++Array.replicate (fn.ntmps - vals.toArray.size) undef,defers:=[]} w:=by
  refine⟨⟨by simp;omega,λg U=>by simp only[F]at U;rw[if_neg (by omega)]at U;cases U⟩,λi v hv=>?_,λp y o=>?_,λp q y z b o hz ar hl J=>?_,λb ⟨p,y,h1,h2,h3⟩=>?_,rfl,Grows.refl _ _,λb J=>⟨(aa b J).1,(aa b J).2⟩,⟨λb J=>af b J,ae⟩,hN,λp g U=>?_,λp y g o U=>?_⟩
  ·obtain⟨x,rfl,_,h1⟩:=abd (args.map (W.ren ls)) 0 i v hv;obtain⟨y,h2,h3⟩:=xP.get (ab8 R ah ab) h1;simp only[Nat.sub_zero]at h2;have al:i<vals.length:=(List.getElem?_eq_some_iff.1 h2).1;exact⟨y,by grind,h3⟩
  ·obtain⟨q,x,rfl,e1,rfl,e2⟩:=j p y o;exact akL R ah e2 (ai q x e1).1
  ·obtain⟨q1,x1,rfl,e1,rfl,e2⟩:=j p y o;obtain⟨q2,x2,rfl,e3,rfl,e4⟩:=j q z hz
   grind
  ·obtain⟨q,x,rfl,e1,rfl,e2⟩:=j p y h1;rw[e2]at h3;exact⟨.inl ⟨q,x,e1,h3⟩,af b ⟨q,x,e1,h3⟩⟩
  ·grind
  ·obtain⟨q,x,rfl,e1,rfl,e2⟩:=j p y o;simp only[F]at U;split at U
   ·cases U;rw[e2];congr 1;omega
   ·cases U
 refine calls_of_wp hf ac (wp_mono (adl A.code c hx _ _ _ _ _ hrel h) ?_);have fin: ∀ι s a' w',Rel F fn.ntmps ι s a' w' ->VJ A.res (vz n0 hs) Q s ->a'.defers=[]/\ ∃v,(results fn a'.tmps).run P w'= .ok v w' /\ ∃v' r,Ending.returned v= .returned v' /\Q r /\afe ⟨w,ok,Yf ι0 hs,λ_=>none⟩ ι0 hs.length w' r v' /\Grows (Yf ι0 hs) w w':=by
  intro ι s a' w' l I;unfold VJ at I;split at I
  ·rename_i v hv;obtain⟨x,h1,h2⟩:=JP l hr hv;have hp:=gv l (U0:=vz n0 hs) (ι0:=ι0) (λi p y hi o=>by
    have hi:(zJ n0 hs.length)[i]? =some p:=hi;rw[qL]at hi;split at hi
    ·rename_i al;cases hi;refine l.hkeep _ y _ o ?_;simp only[F];rw[if_pos ⟨by omega,by omega⟩];congr 2;omega
    ·cases hi) h2
   have ag:(vz n0 hs).length=hs.length:=abY _ _;rw[ag]at hp;exact⟨l.defers,x,h1,x,_,rfl,I,hp,l.grows⟩
  grind
 intro e a' w' he;cases e with
 |normal=>obtain⟨ι,s,l,I⟩:=he;exact fin ι s a' w' l I
 |ret=>obtain⟨ι,s,l,I⟩:=he;exact fin ι s a' w' l I
 |exit i=>obtain⟨_,_,_,I⟩:=he;grind
 |_=>exact he.elim
theorem aeg {P:Program}{ords:List (Nat×List Nat)}{k:Nat}{A:AFun}(j:cFun P ords k=some A.erase)(i:xE P k=true){args:List W}{hs:List Pl}(g:hs.length<=1000){Q:Res ->Prop}(h:aoj P A args hs Q):zD P k args hs Q:=
 aaI (n0:=100000) (Nat.le_refl _) (Nat.le_of_ble_eq_true rfl) j i g h
theorem ahj {P:Program}{ords:List (Nat×List Nat)}{k:Nat}{A:AFun}(o:cFun P ords k=some A.erase)(I:xE P k=true){args:List W}{Q:Res ->Prop}(h:amF P A args Q):Sat P k args Q:=by
 refine⟨I,λw ok vals ⟨ab,aa⟩ T=>?_⟩;unfold cFun at o;split at o
 case h_2=>cases o
 rename_i fn hf;split at o
 case h_2=>cases o
 rename_i c U;split at o
 case h_2=>cases o
 rename_i x r l hr;cases hN:Nat.ble fn.ntmps 5000 with
 |false=>grind
 |true=>
 rw[hN]at o;have hN:=Nat.le_of_ble_eq_true hN;simp only[cond_true,AFun.erase,Option.some.injEq,AFun.mk.injEq]at o;obtain⟨rfl,rfl⟩:=o;unfold amF at h;rw[yU]at h
 let F:Fr:=⟨w,ok,λ_=>False,λ_=>none⟩
 have hrel:Rel F fn.ntmps (λ_=>⟨none,0⟩) ⟨jk 0 args,[]⟩ {tmps:=vals.toArray++Array.replicate (fn.ntmps - vals.toArray.size) undef,defers:=[]} w:=by
  refine⟨⟨by simp;omega,λg hg=>by cases hg⟩,λi v hv=>?_,λp x l=>(by cases l),λp q x y b l=>(by cases l),λb ⟨p,x,l,_⟩=>(by cases l),rfl,Grows.refl _ _,λb I=>⟨ab b I,λh=>h⟩,⟨λb I=>I.elim,aa⟩,hN,λp g hg=>(by cases hg),λp x g l=>(by cases l)⟩;obtain⟨x,rfl,_,h1⟩:=abd args 0 i v hv;obtain⟨y,h2,h3⟩:=xP.get T h1;simp only[Nat.sub_zero]at h2;have ac:i<vals.length:=(List.getElem?_eq_some_iff.1 h2).1;refine⟨y,by grind,?_⟩;exact WR.keep (λb I=>⟨⟨.inl I,ab b I,λ⟨p,x,l,_⟩=>by cases l⟩,rfl⟩) (zU.refl w) x y h3
 refine calls_of_wp hf U (wp_mono (adl A.code c l _ _ _ _ _ hrel h) ?_);have fin: ∀ι s R w',Rel F fn.ntmps ι s R w' ->VJ A.res [] Q s ->R.defers=[]/\ ∃v,(results fn R.tmps).run P w'= .ok v w' /\ ∃v' r,Ending.returned v= .returned v' /\Q r /\gJ F w' r v' /\Grows (λ_=>False) w w':=by
  intro ι s R w' j J;unfold VJ at J;split at J
  ·rename_i v hv;obtain⟨x,h1,h2⟩:=JP j hr hv;exact⟨j.defers,x,h1,x,_,rfl,J,gv j (U0:=[]) (λi p y hi=>by grind) h2,j.grows⟩
  grind
 intro e R w' he;cases e with
 |normal=>obtain⟨ι,s,j,J⟩:=he;exact fin ι s R w' j J
 |ret=>obtain⟨ι,s,j,J⟩:=he;exact fin ι s R w' j J
 |exit i=>obtain⟨_,_,_,J⟩:=he;grind
 |_=>exact he.elim
def C.asData (pl:List Pl):C ->C
 | .own q _ n=>match pl[q]? with
   |some (.arr _ g _)=>.d (.sl (g.take n))
   |_=>.dead
 | .nil=>.d (.sl [])
 | .sub _ _ _ _=>.dead
 |x=>x
def W.asData (pl:List Pl):W ->W| .c x=>.c (x.asData pl)| .agg g=>.agg (g.map (C.asData pl))
def V.asData (pl:List Pl):V ->V| .w x=>.w (x.asData pl)| .tup xs=>.tup (xs.map (W.asData pl))
def Res.asData (r:Res):Res:=⟨r.v.asData r.pl,[]⟩
section
variable {F:Fr}{w:World}{ι:Nat ->Gh}{pl:List Pl}
theorem aqy (pl:List Pl)(q:Nat)(x:Pl):aget (yD (zJ 0 pl.length) pl) q=some x↔pl[q]? =some x /\x.isGone=false:=by
 constructor
 ·intro h;obtain⟨l,g1,g2,g3⟩:=Ya _ _ _ _ h;simp_all[qL]
 ·rintro⟨g1,g2⟩;have i:q<pl.length:=(List.getElem?_eq_some_iff.1 g1).1;have g:(zJ 0 pl.length)[q]? =some q:=by simp_all[qL]
  have:=Vn _ _ q q x g g1 g2;cases j:aget (yD (zJ 0 pl.length) pl) q with
  |none=>grind
  |some y=>
   obtain⟨l,g3,o,p⟩:=Ya _ _ _ _ j;simp_all[qL]
theorem akI (U: ∀p x,aget (yD (zJ 0 pl.length) pl) p=some x ->PR ι w (F.ok ι (yD (zJ 0 pl.length) pl) w) p x)(T: ∀p x b,aget (yD (zJ 0 pl.length) pl) p=some x ->(ι p).b=some b ->F.M b\/F.w0.heap.size<=b)
 (ab: ∀p x,aget (yD (zJ 0 pl.length) pl) p=some x ->x.live=true) (ι':Nat ->Gh) {c:C}{v:Value}(h:CR ι w (F.ok ι (yD (zJ 0 pl.length) pl) w) c v) (hd: ∀p o,c≠ .ptr p o) (he: ∀p z i k,c≠ .eptr p z i k) (ad: ∀f p ps,c≠ .clo f (p::ps)):
 CR ι' w (F.ok ι' [] w) (c.asData pl) v:=by
 have hk:zW w w (F.ok ι (yD (zJ 0 pl.length) pl) w) (F.ok ι' [] w):=λb hb=>⟨⟨hb.1,hb.2.1,λ⟨_,_,h,_⟩=>by cases h⟩,rfl⟩
 cases c with
 |d x=>exact RD.keep hk _ _ h
 |nil=>
  have h:v= .slice none 0 0:=h;simp only[C.asData,CR,RD];exact⟨none,0,0,h,rfl,Nat.le_refl _,Nat.zero_le _,.inl trivial⟩
 |own q sz n=>
  simp only[C.asData];split
  ·rename_i z r I hq;have g:aget (yD (zJ 0 pl.length) pl) q=some (.arr z r I):=(aqy pl q _).2 ⟨hq,rfl⟩;obtain⟨h0,hn,aa⟩:=U q _ g;simp only[CR,RD];rcases h with⟨J,h2,P⟩|⟨b,cap,t,J,h2,P,h4,h5,h6⟩
   ·subst h2;exact⟨none,0,0,P,by simp,Nat.le_refl _,Nat.zero_le _,.inl (by simp)⟩
   ·rcases aa with⟨e,_⟩|⟨b',e1,e2,e3,e4⟩
    ·grind
    ·rw[J]at e1;cases e1;have R:I=false:=by
      have:=ab q _ g;cases I
      ·rfl
      ·cases this
     subst R;obtain⟨ac,e5,_⟩:=e4 rfl;refine⟨_,n,cap,P,by grind,h4,h5,.inr ⟨b,0,z,rfl,⟨.inr (T q _ b g J),e5.lt,λ⟨_,_,h,_⟩=>by cases h⟩,?_⟩⟩
     grind[RDs.take,RDs.keep']
  ·trivial
 |dead=>trivial
 |sub _ _ _ _=>trivial
 |fp l=>
  exact CR.keep (ι:=ι') hk (zU.refl w) (.fp l) v h
 |clo f j=>cases j with
  |nil=>exact h
  |cons p ps=>grind
 |ptr p o=>grind
 |eptr p z i k=>grind
def C.plain:C ->Bool| .ptr _ _=>false| .eptr _ _ _ _=>false| .clo _ (_::_)=>false|_=>true
def W.plain:W ->Bool| .c x=>x.plain| .agg g=>g.all C.plain
def V.plain:V ->Bool| .w x=>x.plain| .tup xs=>xs.all W.plain
theorem gJ.asData {r:Res}{v:Value}(h:gJ F w r v)(g:r.v.plain=true):gJ F w r.asData v:=by
 obtain⟨_,ι,P,U,h3,h4,h5,_⟩:=h;have hC: ∀{c:C}{v:Value},CR ι w (F.ok ι (yD (zJ 0 r.pl.length) r.pl) w) c v ->c.plain=true ->CR ι w (F.ok ι [] w) (c.asData r.pl) v:=fun{c v} hc g=>
  akI U h4 h5 ι hc (λp o e=>by rw[e]at g;cases g) (λp z i k e=>by rw[e]at g;cases g) (λf p ps e=>by rw[e]at g;cases g)
 have l: ∀(j:List C) (vs:List Value),CRs ι w (F.ok ι (yD (zJ 0 r.pl.length) r.pl) w) j vs ->j.all C.plain=true ->CRs ι w (F.ok ι [] w) (j.map (C.asData r.pl)) vs:=by
  intro j;induction j with
  |nil=>intro vs h _;cases vs with|nil=>trivial|cons _ _=>exact h.elim
  |cons c j J=>
   intro vs h g;cases vs with
   |nil=>exact h.elim
   |cons v vs=>
    rw[List.all_cons,Bool.and_eq_true]at g;exact⟨hC h.1 g.1,J vs h.2 g.2⟩
 have R: ∀{x:W}{v:Value},WR ι w (F.ok ι (yD (zJ 0 r.pl.length) r.pl) w) x v ->x.plain=true ->WR ι w (F.ok ι [] w) (x.asData r.pl) v:=fun{x v} T g=>by
  cases x with
  |c c=>exact hC T g
  |agg j=>obtain⟨vs,e,h⟩:=T;exact⟨vs,e,l j vs h g⟩
 have I: ∀(j:List W) (vs:List Value),xP ι w (F.ok ι (yD (zJ 0 r.pl.length) r.pl) w) j vs ->j.all W.plain=true ->xP ι w (F.ok ι [] w) (j.map (W.asData r.pl)) vs:=by
  intro j;induction j with
  |nil=>intro vs h _;cases vs with|nil=>trivial|cons _ _=>exact h.elim
  |cons c j J=>
   intro vs h g;cases vs with
   |nil=>exact h.elim
   |cons v vs=>
    rw[List.all_cons,Bool.and_eq_true]at g;exact⟨R h.1 g.1,J vs h.2 g.2⟩
 refine⟨Nat.zero_le _,ι,?_,λp x h=>(by cases h),λp q x y b h=>(by cases h),λp x b h=>(by cases h),λp x h=>(by cases h),λp x h=>(by cases h)⟩;obtain⟨v',aa⟩:=r;cases v' with
 |w x=>exact R P g
 |tup xs=>obtain⟨vs,e,h⟩:=P;exact⟨vs,e,I xs vs h g⟩
end
theorem Sat.data {P:Program}{k:Nat}{args:List W}{Q g:Res ->Prop}(h:Sat P k args Q)(j: ∀r,Q r ->r.v.plain=true /\g r.asData):Sat P k args g:=
 ⟨h.1,λw A vals l o=>(h.2 w A vals l o).mono λ_ _ ⟨v,r,J,i,p,I⟩=>⟨v,r.asData,J,(j r i).2,p.asData (j r i).1,I⟩⟩
theorem zt {b:Bool}{X Y:Prop}(g:b=true ->X)(i:b=false ->Y):cond b X Y:=by grind
structure Tab (P:Program) where
 f:FuncId ->List W ->Option W
 ok: ∀k args w,f k args=some w ->Sat P k args (λr=>r=⟨.w w,[]⟩)
def vO:List Prop ->Prop ->Prop
 | [],K=>K
 |p::r,K=>p /\vO r K
theorem Yl {l:List Prop}{K:Prop}(h:vO l K):vO l True /\K:=by
 induction l with
 |nil=>exact⟨trivial,h⟩
 |cons p r g=>exact⟨⟨h.1,(g h.2).1⟩,(g h.2).2⟩
theorem aoC {l:List Prop}{K:Prop}(h:vO l True)(k:K):vO l K:=by
 grind
theorem gN {l m:List Prop}(h:vO (l++m) True):vO l True /\vO m True:=by
 induction l with
 |nil=>exact⟨trivial,h⟩
 |cons p r g=>exact⟨⟨h.1,(g h.2).1⟩,(g h.2).2⟩
def aly (s:S)(args:List W):Option (List W):=match Js s.pl args with|some (g,_)=>some g|none=>none
def ace (f:FuncId ->List W ->Option W)(op:AOp)(s:S):Option (List Prop×V):=
 match op with
 | .mov x=>some ([],s.o x)
 | .pick c a b=>match yi (s.o c),yi (s.o a),yi (s.o b)with
   |some t,some x,some y=>some ([],zZ (cond t x y))
   |_,_,_=>none
 | .ld g sz x=>match s.oc x with
   | .ptr p off=>match aget s.pl p with
     |some (.box j)=>match W9 g sz (j.drop off)with|some w=>some ([],.w w)|none=>none
     |some (.fbox r)=>match W9 g sz ((r.drop off).map .d)with|some w=>some ([],.w w)|none=>none
     |_=>none
   | .fp cells=>match W9 g sz (cells.map .d)with|some w=>some ([],.w w)|none=>none
   |_=>none
 | .nc x=>match s.oc x with
   | .ptr p k=>some ([],cV (.ptr p k))
   | .eptr p z i k=>some ([],cV (.eptr p z i k))
   | .fp l=>some ([],cV (.fp l))
   |_=>none
 | .slen x=>match s.oc x with
   | .d (.lit (.string b))=>some ([],zg b.size)
   |_=>none
 | .bnot x=>match yi (s.o x)with
   |some b=>some ([],zZ (!b))
   |none=>none
 | .ineg x=>match s.oc x with
   | .d (.lit (.int k n))=>some ([],cV (.d (.lit (.int k (k.wrap (0 - n))))))
   |_=>none
 | .beq neg x y=>match yi (s.o x),yi (s.o y)with
   |some a,some b=>some ([],zZ (bif neg then a !=b else a==b))
   |_,_=>none
 | .conv k x=>match s.oc x with
   | .d (.lit (.int _ n))=>some ([],cV (.d (.lit (.int k (k.wrap n)))))
   |_=>none
 | .eqa neg ks x y=>match s.o x,s.o y with
   | .w (.agg xs),.w (.agg P)=>match jO ks xs P with
     |some b=>some ([],zZ (bif neg then !b else b))
     |none=>none
   |_,_=>none
 | .fa off x=>match s.oc x with
   | .ptr p o=>some ([],cV (.ptr p (o+off)))
   | .eptr p z i k=>some ([],cV (.eptr p z i (k+off)))
   | .fp cells=>some ([],cV (.fp (cells.drop off)))
   |_=>none
 | .fld g sz off x=>match s.o x with
   | .w (.agg j)=>match W9 g sz (j.drop off)with
     |some w=>some ([],.w w)
     |none=>none
   |_=>none
 | .six x i=>match s.oc x,Zn (s.o i)with
   | .d (.lit (.string b)),some n=>some ([0<=n /\n<b.size],cV (.d (.lit (.int .u8 (b.data.toList.getD n.toNat 0).toNat))))
   |_,_=>none
 | .ext x i=>match s.o x with
   | .tup xs=>match xs[i]? with
     |some w=>some ([],.w w)
     |none=>none
   |_=>none
 | .len x=>match s.oc x with
   | .d (.sl l)=>some ([],zg l.length)
   | .nil=>some ([],zg 0)
   | .own _ _ n=>some ([],zg n)
   |_=>none
 | .bin b x y=>match s.oc x,s.oc y with
   | .d (.lit (.int k m)),.d (.lit (.int I n))=>bif ul k I then
    match acg b k m n with
    |some v=>some ([],cV (.d (.lit v)))
    |none=>none
     else none
   | .d (.lit (.string m)),.d (.lit (.string n))=>match ach b m n with
     |some v=>some ([],cV (.d (.lit v)))
     |none=>none
   |_,_=>none
 | .mm J x y=>match s.oc x,s.oc y with
   | .d (.lit (.int k m)),.d (.lit (.int I n))=>bif ul k I then some ([],cV (.d (.lit (.int k (xG J m n)))))else none
   |_,_=>none
 | .call k args=>match aly s (args.map s.ow)with
   |some r=>match f k r with
    |some w=>bif w.scalar then some ([],.w w)else none
    |none=>none
   |none=>none
 |_=>none
theorem QC {v:V}{b:Bool}(h:yi v=some b):v=zZ b:=by
 unfold yi at h;split at h
 ·cases h;rfl
 ·cases h
theorem VX {P:Program}{T:Tab P}{op:AOp}{s:S}{I:List Prop}{v:V}{dst:Option Nat}{K:S ->Prop}(h:ace T.f op s=some (I,v))(p:vO I True)(hk:K (s.put dst v))(R:isSome dst=true):
 zF P dst op s K:=by
 unfold ace at h;split at h
 ·cases h;exact hk
 ·simp only[zF]
  grind[QC]
 ·simp only[zF,aLd]
  grind
 ·simp only[zF];grind
 ·simp only[zF];grind
 ·simp only[zF];grind
 ·simp only[zF];grind
 ·simp only[zF];grind
 ·simp only[zF];grind
 ·simp only[zF]
  grind
 ·simp only[zF];grind
 ·simp only[zF]
  grind
 ·simp only[zF];split at h
  ·cases h;rename_i i g;rw[i,g];exact⟨p.1.1,p.1.2,hk⟩
  ·cases h
 ·simp only[zF]
  grind
 ·simp only[zF];grind
 ·simp only[zF,ajb];split at h
  ·rename_i k m l n i g;rw[i,g];cases j:ul k l<;>rw[j]at h
   ·cases h
   ·simp only[cond_true]at h⊢;rw[j];split at h<;>simp_all
  ·grind
  ·cases h
 ·simp only[zF,aMm];split at h
  ·rename_i k m l n i g;rw[i,g];cases j:ul k l<;>simp_all
  ·cases h
 ·rename_i k args;simp only[zF,WL];unfold aly at h;cases i:Js s.pl (args.map s.ow)with
  |none=>grind
  |some x=>
   obtain⟨o,U⟩:=x;simp only[i]at h;cases g:T.f k o with
   |none=>grind
   |some w=>
    simp only[g]at h;cases J:w.scalar<;>rw[J]at h
    ·cases h
    ·cases h;refine Sat.mono (T.ok k o w g) ?_;rintro r rfl;cases dst with
     |none=>cases R
     |some d=>simp_all[ajY,V.scalar]
 ·cases h
end Go.AM
